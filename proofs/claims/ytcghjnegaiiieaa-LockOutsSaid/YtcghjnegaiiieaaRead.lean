/- What is read is what was written (layers 1 and 7): without the program. -/
import Derived.Test.YtcghjnegaiiieaaGet2
namespace Go.Proofs.Ytcghjnegaiiieaa
open Go.RowKit
def BytesOk (xs : List Int) : Prop := ∀ x ∈ xs, (Lit.int .u8 x).wf = true
theorem BytesOk.right {xs ys : List Int} (h : BytesOk (xs ++ ys)) : BytesOk ys := fun x hx => h x (List.mem_append_right _ hx)
/-- What is read without an error begins with these bytes. -/
def Reads {α : Type} (f : ES → α × ES) (enc : α → List Int) : Prop := ∀ s : ES, (f s).2.2 = 0 → s.2 = 0 ∧ (BytesOk s.1 → s.1 = enc (f s).1 ++ (f s).2.1)
/-- What was written is read. -/
def Wrote {α : Type} (f : ES → α × ES) (enc : α → List Int) (ok : α → Prop) : Prop := ∀ (a : α) (r : List Int), ok a → f (enc a ++ r, 0) = (a, (r, 0))
theorem Reads.rest {α : Type} {f : ES → α × ES} {enc : α → List Int} (h : Reads f enc) (s : ES) (hw : BytesOk s.1) (h0 : (f s).2.2 = 0) : BytesOk (f s).2.1 := by
  have := (h s h0).2 hw
  rw [this] at hw
  exact hw.right
theorem Reads.bind {α β γ : Type} {f : ES → α × ES} {enc : α → List Int} {g : α → ES → β × ES} {enc2 : α → β → List Int} (hf : Reads f enc) (hg : ∀ a, Reads (g a) (enc2 a)) (k : α → β → γ) (e : γ → List Int) (he : ∀ a b, e (k a b) = enc a ++ enc2 a b) :
    Reads (fun s => (k (f s).1 (g (f s).1 (f s).2).1, (g (f s).1 (f s).2).2)) e := fun s h0 => by
  have h1 := hg (f s).1 (f s).2 h0
  have h2 := hf s h1.1
  refine ⟨h2.1, fun hw => ?_⟩
  dsimp only
  rw [he]
  conv => lhs; rw [h2.2 hw, h1.2 (hf.rest s hw h1.1)]
  rw [List.append_assoc]
theorem numR_err : ∀ (xs : List Int) (i v : Nat) (c : Int), numR xs i v = .error c → c ≠ 0
  | [], i, v, c, h => by simp only [numR, Except.error.injEq] at h; subst h; split <;> decide
  | x :: xs, i, v, c, h => by
    unfold numR at h
    split at h
    · simp only [Except.error.injEq] at h; subst h; decide
    · split at h
      · split at h
        · simp only [Except.error.injEq] at h; subst h; decide
        · cases h
      · exact numR_err xs _ _ _ h
theorem numS_reads : Reads numS numB := fun s h0 => by
  unfold numS at h0 ⊢
  split at h0
  · rename_i h
    rw [if_pos h]
    cases hn : numR s.1 0 0 with
    | error c =>
      rw [hn] at h0
      exact absurd h0 (numR_err _ _ _ _ hn)
    | ok p => exact ⟨h, fun hw => (numR_ok hw (r := p.2) hn).1⟩
  · rename_i h; exact absurd h0 h
theorem uptoS_reads (m : Nat) : Reads (uptoS m) numB := fun s h0 => by
  unfold uptoS at h0 ⊢
  split at h0
  · rename_i h
    rw [if_pos h]
    split at h0
    · exact absurd h0 (by simp)
    · rename_i h2
      rw [if_neg h2]
      exact numS_reads s h
  · rename_i h; exact absurd h0 h
theorem uptoI_reads (m : Nat) : Reads (uptoI m) (fun n => numB n.toNat) := fun s h0 => uptoS_reads m s h0
theorem uptoI_wrote (m : Nat) (hm : m < 9223372036854775808) : Wrote (uptoI m) (fun n => numB n.toNat) (fun n => 0 ≤ n ∧ n ≤ m) := fun n r ⟨h1, h2⟩ => by
  have e : numS (numB n.toNat ++ r, 0) = (n.toNat, (r, 0)) := by
    unfold numS
    simp only [if_true]
    rw [numR_numB n.toNat r (by omega)]
  unfold uptoI uptoS
  rw [e]
  simp only [if_true]
  rw [if_neg (by omega)]
  simp only [Prod.mk.injEq, and_true]
  omega
theorem uptoS_wrote (m : Nat) (hm : m < 9223372036854775808) : Wrote (uptoS m) numB (fun n => n ≤ m) := fun n r h => by
  have := uptoI_wrote m hm n r ⟨by omega, by omega⟩
  unfold uptoI at this
  simp only [Int.toNat_natCast, Prod.mk.injEq] at this
  exact Prod.ext (by omega) this.2
theorem rawS_reads (n : Nat) : Reads (rawS n) id := fun s h0 => by
  unfold rawS at h0 ⊢
  split at h0
  · rename_i h
    rw [if_pos h]
    split at h0
    · rename_i h2
      rw [if_pos h2]
      exact ⟨h, fun _ => (List.take_append_drop n s.1).symm⟩
    · exact absurd h0 (by simp)
  · rename_i h; exact absurd h0 h
theorem rawS_len_eq (n : Nat) (s : ES) (h0 : (rawS n s).2.2 = 0) : (rawS n s).1.length = n := by
  unfold rawS at h0 ⊢
  split at h0
  · rename_i h
    rw [if_pos h]
    split at h0
    · rename_i h2
      rw [if_pos h2, List.length_take]; omega
    · exact absurd h0 (by simp)
  · rename_i h; exact absurd h0 h
theorem rawS_wrote (n : Nat) : Wrote (rawS n) id (fun xs => xs.length = n) := fun xs r h => by
  have hl : n ≤ (xs ++ r).length := by rw [List.length_append]; omega
  unfold rawS id
  simp only [if_true]
  rw [if_pos hl, ← h, List.take_left, List.drop_left]
theorem textS_reads (m : Nat) : Reads (textS m) textB := fun s h0 => by
  unfold textS at h0 ⊢
  have h3 := rawS_reads _ _ h0
  have h2 := uptoS_reads m s h3.1
  refine ⟨h2.1, fun hw => ?_⟩
  conv => lhs; rw [h2.2 hw, h3.2 ((uptoS_reads m).rest s hw h3.1)]
  unfold textB
  rw [rawS_len_eq _ _ h0, List.append_assoc]
  rfl
theorem textS_wrote (m : Nat) (hm : m < 9223372036854775808) : Wrote (textS m) textB (fun xs => xs.length ≤ m) := fun xs r h => by
  unfold textS textB
  have := uptoS_wrote m hm xs.length (xs ++ r) h
  rw [List.append_assoc, this]
  exact rawS_wrote _ xs r rfl
theorem sumS_reads : Reads sumS id := fun s h0 => by
  have h1 : (rawS 32 s).2.2 = 0 := h0
  have h2 := rawS_reads 32 s h1
  have h3 := rawS_len_eq 32 s h1
  refine ⟨h2.1, fun hw => ?_⟩
  have h4 : 32 ≤ s.1.length := by
    have e := congrArg List.length (h2.2 hw)
    rw [List.length_append] at e
    simp only [id] at e
    omega
  unfold sumS
  dsimp only
  rw [if_pos ⟨h2.1, h4⟩]
  exact h2.2 hw
theorem sumS_len_eq (s : ES) : (sumS s).1.length = 32 := by
  unfold sumS
  dsimp only
  split
  · rename_i h
    unfold rawS
    rw [if_pos h.1, if_pos h.2, List.length_take]; omega
  · rfl
theorem sumS_wrote : Wrote sumS id (fun xs => xs.length = 32) := fun xs r h => by
  have := rawS_wrote 32 xs r h
  unfold id at this ⊢
  unfold sumS
  rw [this]
  dsimp only
  rw [if_pos ⟨rfl, by rw [List.length_append]; omega⟩]
theorem loopS_reads {α : Type} {f : ES → α × ES} {enc : α → List Int} (hf : Reads f enc) : ∀ n, Reads (loopS f n) (fun l => l.flatMap enc)
  | 0 => fun s h0 => ⟨h0, fun _ => by simp [loopS]⟩
  | n + 1 => fun s h0 => by
    have ih := loopS_reads hf n
    have h4 := hf _ h0
    have h3 := ih s h4.1
    refine ⟨h3.1, fun hw => ?_⟩
    unfold loopS
    dsimp only
    rw [List.flatMap_append, List.append_assoc]
    conv => lhs; rw [h3.2 hw, h4.2 (ih.rest s hw h4.1)]
    simp
theorem loopS_wrote {α : Type} {f : ES → α × ES} {enc : α → List Int} {ok : α → Prop} (hf : Wrote f enc ok) : ∀ (n : Nat), Wrote (loopS f n) (fun l => l.flatMap enc) (fun l => l.length = n ∧ ∀ a ∈ l, ok a)
  | 0 => fun l r ⟨h1, _⟩ => by
    have : l = [] := List.eq_nil_of_length_eq_zero h1
    subst this
    simp [loopS]
  | n + 1 => fun l r ⟨h1, h2⟩ => by
    obtain ⟨l', a, rfl⟩ : ∃ l' a, l = l' ++ [a] := ⟨l.dropLast, l.getLast (by intro h; rw [h] at h1; simp at h1), (List.dropLast_concat_getLast _).symm⟩
    have ih := loopS_wrote hf n l' (enc a ++ r) ⟨by simpa using h1, fun b hb => h2 b (by simp [hb])⟩
    unfold loopS
    have e : ((l' ++ [a]).flatMap enc ++ r) = l'.flatMap enc ++ (enc a ++ r) := by simp
    rw [e, ih]
    dsimp only
    rw [hf a r (h2 a (by simp))]
theorem wayS_reads : Reads wayS wayBy := fun s h0 => by
  unfold wayS at h0 ⊢
  dsimp only at h0 ⊢
  have h5 := uptoI_reads 1073741824 _ h0
  have h4 := uptoI_reads 1073741824 _ h5.1
  have h3 := sumS_reads _ h4.1
  have h2 := loopS_reads (uptoI_reads 255) _ _ h3.1
  have h1 := uptoS_reads 16 s h2.1
  refine ⟨h1.1, fun hw => ?_⟩
  have w1 := (uptoS_reads 16).rest s hw h2.1
  have w2 := (loopS_reads (uptoI_reads 255) _).rest _ w1 h3.1
  have w3 := sumS_reads.rest _ w2 h4.1
  have w4 := (uptoI_reads 1073741824).rest _ w3 h5.1
  conv => lhs; rw [h1.2 hw, h2.2 w1, h3.2 w2, h4.2 w3, h5.2 w4]
  unfold wayBy numsI
  rw [loopS_len]
  simp
theorem outS_reads : Reads outS outBy := fun s h0 => by
  unfold outS at h0 ⊢
  dsimp only at h0 ⊢
  have h0' : (loopS wayS (uptoS 16 (uptoI 1125899906842624 s).2).1 (uptoS 16 (uptoI 1125899906842624 s).2).2).2.2 = 0 ∧ outB ⟨(uptoI 1125899906842624 s).1, (loopS wayS (uptoS 16 (uptoI 1125899906842624 s).2).1 (uptoS 16 (uptoI 1125899906842624 s).2).2).1⟩ = true := by
    split at h0
    · rename_i h; exact ⟨h0, h⟩
    · unfold failS at h0
      dsimp only at h0
      split at h0
      · exact absurd h0 (by decide)
      · rename_i h; exact absurd h0 h
  rw [if_pos h0'.2]
  have h3 := loopS_reads wayS_reads _ _ h0'.1
  have h2 := uptoS_reads 16 _ h3.1
  have h1 := uptoI_reads 1125899906842624 s h2.1
  refine ⟨h1.1, fun hw => ?_⟩
  have w1 := (uptoI_reads 1125899906842624).rest s hw h2.1
  have w2 := (uptoS_reads 16).rest _ w1 h3.1
  conv => lhs; rw [h1.2 hw, h2.2 w1, h3.2 w2]
  unfold outBy numsI
  rw [loopS_len]
  simp
theorem outS_right (s : ES) (h0 : (outS s).2.2 = 0) : outB (outS s).1 = true := by
  unfold outS at h0 ⊢
  dsimp only at h0 ⊢
  split at h0
  · rename_i h; exact h
  · unfold failS at h0
    dsimp only at h0
    split at h0
    · exact absurd h0 (by decide)
    · rename_i h; exact absurd h0 h
theorem keys_of {ks : List Int} (h : keysUpto ks ks.length = true) : ∀ k ∈ ks, 0 ≤ k ∧ k ≤ (255 : Nat) := fun k hk => by
  obtain ⟨i, hi, rfl⟩ := List.getElem_of_mem hk
  unfold keysUpto at h
  have := List.all_eq_true.1 h i (by simp [hi])
  unfold keyB at this
  simp only [Bool.and_eq_true, decide_eq_true_eq, List.getD_eq_getElem?_getD, List.getElem?_eq_getElem hi, Option.getD_some] at this
  omega
theorem wayS_wrote : Wrote wayS wayBy (fun x => wayB x = true ∧ x.hash.length = 32) := fun x r ⟨h, hl⟩ => by
  unfold wayB headB at h
  simp only [Bool.and_eq_true, decide_eq_true_eq] at h
  obtain ⟨⟨⟨⟨⟨k1, k2⟩, k3⟩, k4⟩, k5⟩, k6⟩ := h
  have e : wayBy x ++ r = numB x.keys.length ++ (x.keys.flatMap (fun n => numB n.toNat) ++ (x.hash ++ (numB x.after.toNat ++ (numB x.wait.toNat ++ r)))) := by
    unfold wayBy numsI
    simp
  unfold wayS
  dsimp only
  rw [e, uptoS_wrote 16 (by omega) x.keys.length _ k1]
  dsimp only
  rw [loopS_wrote (uptoI_wrote 255 (by omega)) x.keys.length x.keys _ ⟨rfl, keys_of k6⟩]
  dsimp only
  have e2 := sumS_wrote x.hash (numB x.after.toNat ++ (numB x.wait.toNat ++ r)) hl
  unfold id at e2
  rw [e2]
  dsimp only
  rw [uptoI_wrote 1073741824 (by omega) x.after _ ⟨k2, by omega⟩]
  dsimp only
  rw [uptoI_wrote 1073741824 (by omega) x.wait _ ⟨k4, by omega⟩]
theorem outS_wrote : Wrote outS outBy (fun o => outB o = true ∧ ∀ x ∈ o.ways, x.hash.length = 32) := fun o r ⟨h, hl⟩ => by
  have h0 := h
  unfold outB outHeadB waysB at h
  simp only [Bool.and_eq_true, decide_eq_true_eq, List.all_eq_true] at h
  obtain ⟨⟨⟨⟨k1, k2⟩, k3⟩, k4⟩, k5⟩ := h
  have e : outBy o ++ r = numB o.amount.toNat ++ (numB o.ways.length ++ (o.ways.flatMap wayBy ++ r)) := by
    unfold outBy numsI
    simp
  unfold outS
  dsimp only
  rw [e, uptoI_wrote 1125899906842624 (by omega) o.amount _ ⟨k1, by omega⟩]
  dsimp only
  rw [uptoS_wrote 16 (by omega) o.ways.length _ k4]
  dsimp only
  rw [loopS_wrote wayS_wrote o.ways.length o.ways r ⟨rfl, fun x hx => ⟨k5 x hx, hl x hx⟩⟩]
  dsimp only
  rw [if_pos h0]
end Go.Proofs.Ytcghjnegaiiieaa

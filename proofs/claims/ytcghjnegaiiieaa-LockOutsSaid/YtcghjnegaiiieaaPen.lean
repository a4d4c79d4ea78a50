/- Rows of any things that a call makes and lets grow, with the blocks they may lie in; a pen in such terms (layer 1). -/
import Derived.Test.YtcghjnegaiiieaaWire11
namespace Go.Proofs.Ytcghjnegaiiieaa
set_option linter.unusedSimpArgs false
open Go.RowKit
/-- A row of the call's own (or nil): its block is one of R's. -/
def OwnV (w : World) (R : Nat → Prop) (e : TypeId) (size : Nat) (v : Value) (n : Nat) (xs : List Value) : Prop := w.ownsRow 0 e size v n xs ∧ ∀ b, v.ownBlock = some b → R b
/-- The blocks of R, and all new ones. -/
def Gw (w : World) (R : Nat → Prop) : Nat → Prop := fun b => R b ∨ w.heap.size ≤ b
theorem Gw.sub {w W : World} {R : Nat → Prop} (h : w.heap.size ≤ W.heap.size) : ∀ b, Gw W (Gw w R) b → Gw w R b := fun b hb => hb.elim id (fun h' => .inr (Nat.le_trans h h'))
theorem Gw.old {w : World} {R : Nat → Prop} {b : Nat} (hb : b < w.heap.size) (h : Gw w R b) : R b := h.elim id (fun h' => absurd h' (by omega))
theorem Gw.of {w : World} {R : Nat → Prop} : ∀ b, R b → Gw w R b := fun _ h => .inl h
def PS (g : Nat) (R : Nat → Prop) : Nat → Prop := fun b => b = g ∨ R b
theorem OwnV.nil (w : World) (R : Nat → Prop) (e : TypeId) (size : Nat) : OwnV w R e size (.slice none 0 0) 0 [] := ⟨⟨by simp, .inl ⟨rfl, rfl⟩⟩, fun b h => by simp [Value.ownBlock] at h⟩
theorem OwnV.keep {S : Nat → Prop} {w w' : World} {R : Nat → Prop} {e : TypeId} {size : Nat} {v : Value} {n : Nat} {xs : List Value} (h : OwnV w R e size v n xs) (hk : Kept S w w') (hn : ∀ b, R b → ¬ S b) : OwnV w' R e size v n xs :=
  ⟨own_keep h.1 hk (fun b hb => hn b (h.2 b hb)), h.2⟩
theorem OwnV.mono {w : World} {R R' : Nat → Prop} {e : TypeId} {size : Nat} {v : Value} {n : Nat} {xs : List Value} (h : OwnV w R e size v n xs) (hn : ∀ b, R b → R' b) : OwnV w R' e size v n xs := ⟨h.1, fun b hb => hn b (h.2 b hb)⟩
theorem OwnV.slice {w : World} {R : Nat → Prop} {e : TypeId} {size : Nat} {v : Value} {n : Nat} {xs : List Value} (h : OwnV w R e size v n xs) : ∃ A c, v = .slice A n c ∧ n ≤ c ∧ c ≤ maxLen ∧ (A = none → n = 0 ∧ c = 0) ∧ (∀ ad, A = some ad → R ad.block) ∧ ∀ j u, xs[j]? = some u → ∃ ad, A = some ad ∧ w.cell? (ad.add j) = some u := by
  obtain ⟨⟨hl, h1⟩, hr⟩ := h
  rcases h1 with ⟨rfl, rfl⟩ | ⟨r, c, cur, rfl, _, hh, h4, h5, _, h6⟩
  · refine ⟨none, 0, rfl, Nat.le_refl _, by decide, fun _ => ⟨rfl, rfl⟩, (fun _ e => by cases e), fun j u hj => ?_⟩
    have : xs = [] := List.eq_nil_of_length_eq_zero (by omega)
    subst this
    simp at hj
  · refine ⟨some ⟨r, 0, none⟩, c, rfl, h4, h5, (fun e => by cases e), (fun ad e => by cases e; exact hr r rfl), fun j u hj => ⟨_, rfl, ?_⟩⟩
    have ea : (⟨r, 0, none⟩ : Addr).add j = ⟨r, j, none⟩ := by unfold Addr.add; split <;> simp_all
    have hjl : j < xs.length := (List.getElem?_eq_some_iff.1 hj).1
    rw [ea, blk_cell hh, ← hj, ← h6, List.getElem?_take_of_lt (by omega)]
    simp
theorem OwnV.app {w : World} {ops : Array Oper} {rest : List Oper} {o : Oper} {a : Act} {Q : Exit → Act → World → Prop} {t e : TypeId} {size bytes : Nat} (E : ElemT Try.prog t e size bytes) (hgd : o.guard = none) (s x : Operand)
    (ho : o.op = .call { callee := .builtin .append, args := #[s, x], argTypes := #[t, t] })
    (R : Nat → Prop) (v : Value) (n : Nat) (xs : List Value) (hs : a.eval s = v) (hown : OwnV w R e size v n xs)
    (A : Option Addr) (m c : Nat) (news : List Value) (hx : a.eval x = .slice A m c) (hl : news.length = m * size) (hr : Src w A news) (h0 : A = none → m = 0) (h1 : ∀ u ∈ news, u.oneCell' = true)
    (h63 : n + m ≤ maxLen) (hbytes : (n + m) * bytes ≤ 140737488355328)
    (h : ∀ v' w', OwnV w' (Gw w R) e size v' (n + m) (xs ++ news) → Kept R w w' → wpList Try.prog ops Q rest (a.put o.dst v') w') : wpList Try.prog ops Q (o :: rest) a w := by
  refine Go.Proofs.Ytcghjnegaiiieaa.app E hgd s x ho 0 v n xs hs hown.1 A m c news hx hl hr h0 h1 h63 hbytes (Nat.zero_le _) ?_
  intro v' w' h1 h2 h3
  refine h v' w' ⟨h1, fun b hb => ?_⟩ (Kept.grown (Kept.refl _ _) h2 (fun k e _ => hown.2 k e))
  rcases h3 with h3 | h3
  · rw [h3] at hb; exact .inl (hown.2 b hb)
  · rw [h3] at hb
    have : w.heap.size = b := by simpa using hb
    exact .inr (by omega)
/-- The same for bytes. -/
def OwnR (w : World) (R : Nat → Prop) (v : Value) (xs : List Int) : Prop := OwnV w R 5 1 v xs.length (nums .u8 xs)
theorem OwnR.nil (w : World) (R : Nat → Prop) : OwnR w R (.slice none 0 0) [] := OwnV.nil w R _ _
theorem OwnR.keep {S : Nat → Prop} {w w' : World} {R : Nat → Prop} {v : Value} {xs : List Int} (h : OwnR w R v xs) (hk : Kept S w w') (hn : ∀ b, R b → ¬ S b) : OwnR w' R v xs := OwnV.keep h hk hn
theorem OwnR.mono {w : World} {R R' : Nat → Prop} {v : Value} {xs : List Int} (h : OwnR w R v xs) (hn : ∀ b, R b → R' b) : OwnR w R' v xs := OwnV.mono h hn
theorem OwnR.ints {w : World} {R : Nat → Prop} {v : Value} {xs : List Int} (h : OwnR w R v xs) (hw : ∀ x ∈ xs, (Lit.int .u8 x).wf = true) : ∃ A c, v = .slice A xs.length c ∧ Ints w R .u8 A c xs := by
  obtain ⟨A, c, hv, h1, h2, h3, h4, h5⟩ := OwnV.slice h
  refine ⟨A, c, hv, ⟨fun i hi => ?_, fun ad e _ => h4 ad e, h1, h2, fun e => ⟨List.eq_nil_of_length_eq_zero (h3 e).1, (h3 e).2⟩, hw⟩⟩
  obtain ⟨ad, e, hc⟩ := h5 i (.int .u8 (xs.getD i 0)) (by simp [nums, hi, List.getD_eq_getElem?_getD])
  exact ⟨ad, e, hc⟩
theorem OwnR.sl {w : World} {R : Nat → Prop} {v : Value} {xs : List Int} (h : OwnR w R v xs) : ∃ A c, v = .slice A xs.length c ∧ xs.length ≤ c ∧ RdInts w .u8 A xs ∧ (A = none → xs = []) := by
  obtain ⟨A, c, hv, h1, h2, h3, h4, h5⟩ := OwnV.slice h
  refine ⟨A, c, hv, h1, fun i hi => ?_, fun e => List.eq_nil_of_length_eq_zero (h3 e).1⟩
  obtain ⟨ad, e, hc⟩ := h5 i (.int .u8 (xs.getD i 0)) (by simp [nums, hi, List.getD_eq_getElem?_getD])
  exact ⟨ad, e, hc⟩
theorem OwnR.app {w : World} {ops : Array Oper} {rest : List Oper} {o : Oper} {a : Act} {Q : Exit → Act → World → Prop} (hgd : o.guard = none) (s x : Operand)
    (ho : o.op = .call { callee := .builtin .append, args := #[s, x], argTypes := #[27, 27] })
    (R : Nat → Prop) (v : Value) (xs : List Int) (hs : a.eval s = v) (hown : OwnR w R v xs)
    (A : Option Addr) (c : Nat) (news : List Int) (hx : a.eval x = .slice A news.length c) (hr : RdInts w .u8 A news) (h0 : A = none → news = [])
    (h63 : xs.length + news.length ≤ 140737488355328)
    (h : ∀ v' w', OwnR w' (Gw w R) v' (xs ++ news) → Kept R w w' → wpList Try.prog ops Q rest (a.put o.dst v') w') : wpList Try.prog ops Q (o :: rest) a w := by
  refine OwnV.app e8 hgd s x ho R v xs.length (nums .u8 xs) hs hown A news.length c (nums .u8 news) hx (by rw [nums_length, Nat.mul_one]) hr.src' (fun e => by rw [h0 e]; rfl) (nums_oneC .u8 news) (by unfold maxLen; omega) (by omega) ?_
  intro v' w' h1 h2
  refine h v' w' ?_ h2
  unfold OwnR
  rw [List.length_append, nums_append]
  exact h1

/-- A pen at a block, with what it has written in a row of its own. -/
def PenR (w : World) (R : Nat → Prop) (g : Nat) (xs : List Int) : Prop := ¬ R g ∧ ∃ v, w.heap[g]? = some (.cells #[v] 50 (0, 0)) ∧ OwnR w R v xs
theorem PenR.keep {S : Nat → Prop} {w w' : World} {R : Nat → Prop} {g : Nat} {xs : List Int} (h : PenR w R g xs) (hk : Kept S w w') (hg : ¬ S g) (hn : ∀ b, R b → ¬ S b) : PenR w' R g xs := by
  obtain ⟨h1, v, h2, h3⟩ := h
  exact ⟨h1, v, hk.blk h2 hg, h3.keep hk hn⟩
theorem PenR.mono {w : World} {R R' : Nat → Prop} {g : Nat} {xs : List Int} (h : PenR w R g xs) (hn : ∀ b, R b → R' b) (hg : ¬ R' g) : PenR w R' g xs := by
  obtain ⟨h1, v, h2, h3⟩ := h
  exact ⟨hg, v, h2, h3.mono hn⟩
theorem PenR.lt {w : World} {R : Nat → Prop} {g : Nat} {xs : List Int} (h : PenR w R g xs) : g < w.heap.size := by
  obtain ⟨_, _, h2, _⟩ := h
  exact blk_lt h2
theorem PenR.grown {w : World} {R : Nat → Prop} {g : Nat} {xs : List Int} (h : PenR w R g xs) : PenR w (Gw w R) g xs := h.mono Gw.of (fun h' => h.1 (Gw.old h.lt h'))
/-- A pen writes more. -/
structure PenDoes (w w' : World) (R : Nat → Prop) (g : Nat) (xs ys : List Int) : Prop where
  pen : PenR w' (Gw w R) g (xs ++ ys)
  kept : Kept (PS g R) w w'
theorem PenDoes.refl {w : World} {R : Nat → Prop} {g : Nat} {xs : List Int} (h : PenR w R g xs) : PenDoes w w R g xs [] := ⟨by rw [List.append_nil]; exact h.grown, Kept.refl _ _⟩
theorem PenDoes.trans {w w1 w2 : World} {R : Nat → Prop} {g : Nat} {xs ys zs : List Int} (h : PenDoes w w1 R g xs ys) (k : PenDoes w1 w2 (Gw w R) g (xs ++ ys) zs) : PenDoes w w2 R g xs (ys ++ zs) :=
  ⟨by rw [← List.append_assoc]; exact k.pen.mono (Gw.sub h.kept.size) h.pen.1, Kept.then h.kept k.kept (fun b hb h' => h'.elim .inl (fun h2 => .inr (Gw.old hb h2)))⟩
/-- Something besides happened first. -/
theorem PenDoes.after {w w1 w2 : World} {R : Nat → Prop} {g : Nat} {xs ys : List Int} (h : Kept Nob w w1) (k : PenDoes w1 w2 R g xs ys) (hg : ¬ Gw w R g) : PenDoes w w2 R g xs ys :=
  ⟨k.pen.mono (fun b hb => hb.elim .inl (fun h' => .inr (Nat.le_trans h.size h'))) hg, Kept.then (h.mono (fun _ _ h => h.elim)) k.kept (fun _ _ h => h)⟩
set_option maxRecDepth 100000 in
set_option maxHeartbeats 8000000 in
theorem penr_num (v0 : Nat) (R : Nat → Prop) (g : Nat) (xs : List Int) (w : World) (h : PenR w R g xs) (hv : v0 < 9223372036854775808) (hx : xs.length ≤ 100000000) :
    Calls Try.prog 35 #[.pointer (some ⟨g, 0, none⟩), .int .i64 v0] w fun e w' => e = .returned (.pointer (some ⟨g, 0, none⟩)) ∧ PenDoes w w' R g xs (numB v0) := by
  have HP := hidden h
  have HKR := hidden (Kept.refl (PS g R) w)
  have hmx : max (v0 : Int) 0 = v0 := by omega
  clear h
  go_enter Try.func35, Try.ntmps35
  go_wp2
  go_loopw [5] (fun i wr => ∃ (v j : Nat) (ys : List Int), i = .int .u64 v ∧ v < 9223372036854775808 ∧ ys.length ≤ 100000000 + j ∧ j ≤ 10 ∧ v < 128 ^ (10 - j) ∧ ys ++ numB v = xs ++ numB v0 ∧ PenR wr (Gw w R) g ys ∧ Kept (PS g R) w wr) (fun i _ => (intOf i).toNat)
  case atStart => exact ⟨v0, 0, xs, rfl, hv, hx, by omega, by omega, rfl, HP.out.grown, HKR.out⟩
  case round =>
    obtain ⟨v, j, ys, rfl, hv', hy, hj, hvj, he, hp, hk⟩ := hrel
    obtain ⟨hg, v9, hb9, ho9⟩ := hp
    obtain ⟨A, c, hv9, hlc, _, _⟩ := ho9.sl
    subst hv9
    have q0 : wr.cell? ⟨g, 0, none⟩ = some (.slice A ys.length c) := blk_cell hb9 0
    have HG := hidden hg
    have HO := hidden ho9
    have HB := hidden hb9
    have HK := hidden hk
    have HE := hidden he
    have HY : Hid (ys.length ≤ 100000010) := hidden (by omega)
    clear ho9 hb9 hk he hg
    by_cases h128 : 128 ≤ v
    · have hor := or128 v
      have hj10 : j < 10 := by
        rcases Nat.lt_or_ge j 10 with h | h
        · exact h
        · rw [show 10 - j = 0 from by omega] at hvj; omega
      have HVJ : Hid (v / 128 < 128 ^ (10 - (j + 1))) := hidden (by rw [show 10 - j = 10 - (j + 1) + 1 from by omega, Nat.pow_succ] at hvj; omega)
      have HN : Hid (numB v = ((v : Int) % 128 + 128) :: numB (v / 128)) := hidden (by rw [numB]; rw [dif_neg (by omega)])
      clear hvj
      go_wp2_with (at_builtin; refine OwnR.app rfl (.tmp 18) (.tmp 22) rfl (Gw w R) _ ys rfl (OwnR.keep HO.out (by repeat (first | exact Kept.refl _ _ | apply Kept.alloc | apply Kept.drewN | apply Kept.drew)) (fun _ _ h => h)) _ 1 [(v : Int) % 128 + 128] rfl (rd_byte _ _) (fun e => by cases e) (by have := HY.out; simp; omega) ?_; intro v3 w3 ho3 hk3; obtain ⟨A3, c3, hv3, _, _, _⟩ := ho3.sl; subst hv3; simp only [List.length_append, List.length_cons, List.length_nil, Nat.zero_add] at ho3; have b3 := hk3.blk (blk_alloc HB.out _) HG.out; have q3 : w3.cell? ⟨g, 0, none⟩ = some (.slice A ys.length c) := blk_cell b3 0; have f3 : w3.frozen? ⟨g, 0, none⟩ = false := blk_frozen b3 0; have HO3 := hidden ho3; have HK3 := hidden hk3; have HB3 := hidden b3; clear ho3 hk3 b3; dsimp only)
      go_roundw
      case rel => exact ⟨v / 128, j + 1, ys ++ [(v : Int) % 128 + 128], by go_num, by omega, by simp; omega, by omega, HVJ.out, by rw [← HE.out, HN.out, List.append_assoc]; rfl, ⟨HG.out, _, blk_set HB3.out 0 _, (HO3.out.mono (Gw.sub (by have := HK.out.size; simp; omega))).keep (Kept.setCell (S := fun b => b = g) (Kept.refl _ _) (p := ⟨g, 0, none⟩) (fun _ => rfl) _) (fun b hb h => by subst h; exact HG.out hb)⟩, Kept.setCell (Kept.then (Kept.alloc HK.out _) HK3.out (fun b hb h => .inr (Gw.old hb h))) (p := ⟨g, 0, none⟩) (fun _ => .inl rfl) _⟩
      case measure => simp [intOf]; omega
    · have HN : Hid (numB v = [(v : Int)]) := hidden (by rw [numB]; rw [dif_pos (by omega)])
      have hm : (v : Int) % 256 = v := by omega
      go_wp2_with (at_builtin; refine OwnR.app rfl (.tmp 32) (.tmp 35) rfl (Gw w R) _ ys rfl (OwnR.keep HO.out (by repeat (first | exact Kept.refl _ _ | apply Kept.alloc | apply Kept.drewN | apply Kept.drew)) (fun _ _ h => h)) _ 1 [(v : Int)] rfl (rd_byte _ _) (fun e => by cases e) (by have := HY.out; simp; omega) ?_; intro v3 w3 ho3 hk3; obtain ⟨A3, c3, hv3, _, _, _⟩ := ho3.sl; subst hv3; simp only [List.length_append, List.length_cons, List.length_nil, Nat.zero_add] at ho3; have b3 := hk3.blk (blk_alloc HB.out _) HG.out; have q3 : w3.cell? ⟨g, 0, none⟩ = some (.slice A ys.length c) := blk_cell b3 0; have f3 : w3.frozen? ⟨g, 0, none⟩ = false := blk_frozen b3 0; have HO3 := hidden ho3; have HK3 := hidden hk3; have HB3 := hidden b3; clear ho3 hk3 b3; dsimp only)
      go_ret
      exact ⟨rfl, ⟨⟨HG.out, _, blk_set HB3.out 0 _, by rw [← HE.out, HN.out]; exact (HO3.out.mono (Gw.sub (by have := HK.out.size; simp; omega))).keep (Kept.setCell (S := fun b => b = g) (Kept.refl _ _) (p := ⟨g, 0, none⟩) (fun _ => rfl) _) (fun b hb h => by subst h; exact HG.out hb)⟩, Kept.setCell (Kept.then (Kept.alloc HK.out _) HK3.out (fun b hb h => .inr (Gw.old hb h))) (p := ⟨g, 0, none⟩) (fun _ => .inl rfl) _⟩⟩
set_option maxRecDepth 100000 in
set_option maxHeartbeats 8000000 in
theorem penr_neg (n : Int) (hn : n < 0) (R : Nat → Prop) (g : Nat) (xs : List Int) (w : World) (h : PenR w R g xs) (hx : xs.length ≤ 100000000) :
    Calls Try.prog 35 #[.pointer (some ⟨g, 0, none⟩), .int .i64 n] w fun e w' => e = .returned (.pointer (some ⟨g, 0, none⟩)) ∧ PenDoes w w' R g xs (numB 0) := by
  obtain ⟨hg, v9, hb9, ho9⟩ := h.grown
  obtain ⟨A, c, hv9, hlc, _, _⟩ := ho9.sl
  subst hv9
  have q0 : w.cell? ⟨g, 0, none⟩ = some (.slice A xs.length c) := blk_cell hb9 0
  have HG := hidden hg
  have HO := hidden ho9
  have HB := hidden hb9
  clear ho9 hb9 hg h
  have hmx : max n 0 = 0 := by omega
  go_enter Try.func35, Try.ntmps35
  go_wp2
  go_loopw [5] (fun i wr => i = .int .u64 0 ∧ wr = w) (fun _ _ => 0)
  case atStart => exact ⟨rfl, rfl⟩
  case round =>
    obtain ⟨rfl, rfl⟩ := hrel
    go_wp2_with (at_builtin; refine OwnR.app rfl (.tmp 32) (.tmp 35) rfl (Gw wr R) _ xs rfl (OwnR.keep HO.out (by repeat (first | exact Kept.refl _ _ | apply Kept.alloc | apply Kept.drewN | apply Kept.drew)) (fun _ _ h => h)) _ 1 [0] rfl (rd_byte _ _) (fun e => by cases e) (by simp; omega) ?_; intro v3 w3 ho3 hk3; obtain ⟨A3, c3, hv3, _, _, _⟩ := ho3.sl; subst hv3; simp only [List.length_append, List.length_cons, List.length_nil, Nat.zero_add] at ho3; have b3 := hk3.blk (blk_alloc HB.out _) HG.out; have q3 : w3.cell? ⟨g, 0, none⟩ = some (.slice A xs.length c) := blk_cell b3 0; have f3 : w3.frozen? ⟨g, 0, none⟩ = false := blk_frozen b3 0; have HO3 := hidden ho3; have HK3 := hidden hk3; have HB3 := hidden b3; clear ho3 hk3 b3; dsimp only)
    go_ret
    exact ⟨rfl, ⟨⟨HG.out, _, blk_set HB3.out 0 _, by rw [show numB 0 = [0] from by rw [numB]; rfl]; exact (HO3.out.mono (Gw.sub (by simp))).keep (Kept.setCell (S := fun b => b = g) (Kept.refl _ _) (p := ⟨g, 0, none⟩) (fun _ => rfl) _) (fun b hb h => by subst h; exact HG.out hb)⟩, Kept.setCell (Kept.then (Kept.alloc (Kept.refl _ _) _) HK3.out (fun b hb h => .inr (Gw.old hb h))) (p := ⟨g, 0, none⟩) (fun _ => .inl rfl) _⟩⟩
theorem penr_numI (n : Int) (R : Nat → Prop) (g : Nat) (xs : List Int) (w : World) (h : PenR w R g xs) (hv : n < 9223372036854775808) (hx : xs.length ≤ 100000000) :
    Calls Try.prog 35 #[.pointer (some ⟨g, 0, none⟩), .int .i64 n] w fun e w' => e = .returned (.pointer (some ⟨g, 0, none⟩)) ∧ PenDoes w w' R g xs (numB n.toNat) := by
  by_cases hn : n < 0
  · rw [show n.toNat = 0 from by omega]
    exact penr_neg n hn R g xs w h hx
  · obtain ⟨v, rfl⟩ : ∃ v : Nat, n = v := ⟨n.toNat, by omega⟩
    exact penr_num v R g xs w h (by omega) hx
theorem numsI_len : ∀ (m : List Int), (∀ v ∈ m, v < 9223372036854775808) → (numsI m).length ≤ 10 * m.length
  | [], _ => by simp [numsI]
  | a :: m, hm => by
    have h1 := numB_len a.toNat (by have := hm a (by simp); omega)
    have h2 := numsI_len m (fun v hv => hm v (by simp [hv]))
    simp only [numsI, List.flatMap_cons, List.length_append, List.length_cons] at *
    omega
set_option maxRecDepth 100000 in
set_option maxHeartbeats 8000000 in
theorem penr_nums (l : List Int) (LA : Option Addr) (lc : Nat) (F R : Nat → Prop) (g : Nat) (xs : List Int) (w : World) (h : PenR w R g xs) (hl : Ints w F .i64 LA lc l) (hF : ∀ b, F b → ¬ PS g R b ∧ b < w.heap.size) (hx : xs.length + 10 * l.length ≤ 100000000) :
    Calls Try.prog 34 #[.pointer (some ⟨g, 0, none⟩), .slice LA l.length lc] w fun e w' => e = .returned (.pointer (some ⟨g, 0, none⟩)) ∧ PenDoes w w' R g xs (numsI l) := by
  have HV : Hid (∀ v ∈ l, v < 9223372036854775808) := hidden (fun v hv => by have := wf_int (hl.wf v hv); omega)
  have HP := hidden h
  have HL := hidden hl
  have HF := hidden hF
  have hle := hl.le
  have hmx := hl.max
  unfold maxLen at hmx
  clear h hl hF
  go_enter Try.func34, Try.ntmps34
  go_wp2
  go_loopw [6, 9] (fun _ i wr => ∃ k : Nat, k ≤ l.length ∧ i = .int .i64 k ∧ PenDoes w wr R g xs (numsI (l.take k))) (fun _ i _ => l.length - (intOf i).toNat)
  case atStart => exact ⟨0, Nat.zero_le _, rfl, PenDoes.refl HP.out⟩
  case round =>
    obtain ⟨k, hk, rfl, hp⟩ := hrel
    have HP2 := hidden hp
    clear hp
    by_cases hlt : k < l.length
    · obtain ⟨ad, hA, hc⟩ := (HL.out.keep HP2.out.kept (fun b hb h => (HF.out b hb).1 h)).rd k hlt
      subst hA
      have HTK : Hid (numsI (l.take (k + 1)) = numsI (l.take k) ++ numB l[k].toNat) := hidden (by unfold numsI; rw [List.take_succ_eq_append_getElem hlt, List.flatMap_append]; simp)
      have HLN : Hid ((xs ++ numsI (l.take k)).length ≤ 100000000) := hidden (by
        have h3 := numsI_len (l.take k) (fun v hv => HV.out v (List.mem_of_mem_take hv))
        rw [List.length_append]
        rw [List.length_take] at h3
        omega)
      have HVK : Hid (l[k] < 9223372036854775808) := hidden (HV.out _ (List.getElem_mem hlt))
      have hc2 : wr.cell? (ad.add k) = some (.int .i64 l[k]) := by rw [hc]; simp [List.getD_eq_getElem?_getD, hlt]
      clear hc
      generalize l[k] = z at hc2 HTK HVK
      have HNUM := hidden (penr_numI z (Gw w R) g (xs ++ numsI (l.take k)) wr HP2.out.pen HVK.out HLN.out)
      go_wp2_with (go_at_call 35; refine HNUM.out.mono ?_; rintro e w3 ⟨rfl, hp3⟩; have HP3 := hidden hp3; clear hp3; dsimp only)
      go_roundw
      case rel => exact ⟨k + 1, by omega, by go_num, by rw [HTK.out]; exact HP2.out.trans HP3.out⟩
      case measure => simp [intOf]; omega
    · obtain rfl : k = l.length := by omega
      go_wp2
      go_ret
      exact ⟨rfl, by have := HP2.out; rwa [List.take_length] at this⟩
set_option maxRecDepth 100000 in
set_option maxHeartbeats 8000000 in
theorem penr_text (s : List Int) (TA : Option Addr) (tc : Nat) (F R : Nat → Prop) (g : Nat) (xs : List Int) (w : World) (h : PenR w R g xs) (hs : Ints w F .u8 TA tc s) (hF : ∀ b, F b → ¬ PS g R b ∧ b < w.heap.size) (hx : xs.length + s.length ≤ 90000000) :
    Calls Try.prog 72 #[.pointer (some ⟨g, 0, none⟩), .slice TA s.length tc] w fun e w' => e = .returned (.pointer (some ⟨g, 0, none⟩)) ∧ PenDoes w w' R g xs (textB s) := by
  have HNUM := hidden (penr_num s.length R g xs w h (by omega) (by omega))
  have HSI := hidden hs
  have HF := hidden hF
  have hle := hs.le
  have hmx := hs.max
  unfold maxLen at hmx
  have HNL := hidden (numB_len s.length (by omega))
  clear h hs hF
  go_enter Try.func72, Try.ntmps72
  go_wp2_with (first
    | (go_at_call 35; refine HNUM.out.mono ?_; rintro e w2 ⟨rfl, hp2⟩; obtain ⟨hg, v9, hb9, ho9⟩ := hp2.pen; obtain ⟨ys, hys⟩ : ∃ ys, xs ++ numB s.length = ys := ⟨_, rfl⟩; have HYL : Hid (ys.length ≤ 90000010) := hidden (by rw [← hys, List.length_append]; have := HNL.out; omega); have HYS := hidden hys; rw [hys] at ho9; clear hys; obtain ⟨A, c, hv9, hlc, _, _⟩ := ho9.sl; subst hv9; have q0 : w2.cell? ⟨g, 0, none⟩ = some (.slice A ys.length c) := blk_cell hb9 0; have HO := hidden ho9; have HB := hidden hb9; have HK2 := hidden hp2.kept; have HG := hidden hg; clear ho9 hb9 hp2 hg; dsimp only)
    | (at_builtin; refine OwnR.app rfl (.tmp 16) (.tmp 17) rfl (Gw w R) _ ys rfl HO.out TA tc s rfl (HSI.out.keep HK2.out (fun b hb h => (HF.out b hb).1 h)).rd (fun e => by have := (HSI.out.nil e).1; exact this) (by have := HYL.out; omega) ?_; intro v3 w3 ho3 hk3; obtain ⟨A3, c3, hv3, _, _, _⟩ := ho3.sl; subst hv3; rw [List.length_append] at ho3; have b3 := hk3.blk HB.out HG.out; have q3 : w3.cell? ⟨g, 0, none⟩ = some (.slice A ys.length c) := blk_cell b3 0; have f3 : w3.frozen? ⟨g, 0, none⟩ = false := blk_frozen b3 0; have HO3 := hidden ho3; have HK3 := hidden hk3; have HB3 := hidden b3; clear ho3 hk3 b3; dsimp only))
  go_ret
  have e : xs ++ textB s = ys ++ s := by rw [← HYS.out]; unfold textB; rw [List.append_assoc]
  refine ⟨rfl, ⟨⟨HG.out, _, blk_set HB3.out 0 _, ?_⟩, Kept.setCell (Kept.then HK2.out HK3.out (fun b hb h => .inr (Gw.old hb h))) (p := ⟨g, 0, none⟩) (fun _ => .inl rfl) _⟩⟩
  rw [e]
  refine (OwnR.mono ?_ (Gw.sub HK2.out.size)).keep (Kept.setCell (S := fun b => b = g) (Kept.refl _ _) (p := ⟨g, 0, none⟩) (fun _ => rfl) _) (fun b hb h => by subst h; exact HG.out hb)
  have ho := HO3.out
  first | exact ho | simpa using ho
set_option maxRecDepth 100000 in
set_option maxHeartbeats 8000000 in
theorem penr_sum (s : List Int) (R : Nat → Prop) (g : Nat) (xs : List Int) (w : World) (h : PenR w R g xs) (hs : s.length = 32) (hw : ∀ x ∈ s, (Lit.int .u8 x).wf = true) (hx : xs.length ≤ 100000000) :
    Calls Try.prog 36 #[.pointer (some ⟨g, 0, none⟩), .agg (nums .u8 s).toArray] w fun e w' => e = .returned (.pointer (some ⟨g, 0, none⟩)) ∧ PenDoes w w' R g xs s := by
  obtain ⟨hg, v9, hb9, ho9⟩ := h
  obtain ⟨A, c, hv9, hlc, _, _⟩ := ho9.sl
  subst hv9
  have HG := hidden hg
  have HGW := hidden (PenR.grown ⟨hg, _, hb9, ho9⟩).1
  have HB : Hid ((w.alloc (.cells (nums .u8 s).toArray 24)).heap[g]? = some (.cells #[.slice A xs.length c] 50 (0, 0))) := hidden (blk_alloc hb9 _)
  have q0 : (w.alloc (.cells (nums .u8 s).toArray 24)).cell? ⟨g, 0, none⟩ = some (.slice A xs.length c) := blk_cell HB.out 0
  have HO := hidden (ho9.keep (Kept.alloc (Kept.refl Nob w) (.cells (nums .u8 s).toArray 24)) (fun _ _ h => h))
  have HRD : Hid (RdInts (w.alloc (.cells (nums .u8 s).toArray 24)) .u8 (some ⟨w.heap.size, 0, none⟩) s) := hidden (Ints.blk (F := fun _ => True) (heap_alloc_new _ _) trivial (by rw [hs]; decide) hw).rd
  have HS := hidden hs
  clear ho9 hb9 hw hg
  go_enter Try.func36, Try.ntmps36
  go_wp2
  refine region_plan (.seg [0] (.seg [1] (.seg [2] (.seg [3] (.seg [4] (.seg [5] (.eff 6 false (.seg [7] (.seg [8] (.eff 9 false .nil)))))))))) (by kernel_rfl) ?_
  all_goals (refine plan_one (o := ?_) ?_ ?_ ?_; rotate_left; (simp only [List.getElem?_toArray, List.getElem?_cons_zero]; exact rfl); rfl; intro NX; (repeat' (first | go_step | go_upon)); all_goals (refine seg_end (by kernel_rfl) ?_; clear NX))
  all_goals (refine plan_one (o := ?_) ?_ ?_ ?_; rotate_left; (simp only [List.getElem?_toArray, List.getElem?_cons_succ, List.getElem?_cons_zero]; exact rfl); rfl; intro NX; (repeat' (first | go_step | go_upon)); all_goals (refine seg_end (by kernel_rfl) ?_; clear NX))
  all_goals (refine plan_one (o := ?_) ?_ ?_ ?_; rotate_left; (simp only [List.getElem?_toArray, List.getElem?_cons_succ, List.getElem?_cons_zero]; exact rfl); rfl; intro NX; (repeat' (first | go_step | go_upon)); all_goals (refine seg_end (by kernel_rfl) ?_; clear NX))
  all_goals (refine plan_one (o := ?_) ?_ ?_ ?_; rotate_left; (simp only [List.getElem?_toArray, List.getElem?_cons_succ, List.getElem?_cons_zero]; exact rfl); rfl; intro NX; (repeat' (first | go_step | go_upon)); all_goals (refine seg_end (by kernel_rfl) ?_; clear NX))
  all_goals (refine plan_one (o := ?_) ?_ ?_ ?_; rotate_left; (simp only [List.getElem?_toArray, List.getElem?_cons_succ, List.getElem?_cons_zero]; exact rfl); rfl; intro NX; (repeat' (first | go_step | go_upon)); all_goals (refine seg_end (by kernel_rfl) ?_; clear NX))
  all_goals (refine plan_one (o := ?_) ?_ ?_ ?_; rotate_left; (simp only [List.getElem?_toArray, List.getElem?_cons_succ, List.getElem?_cons_zero]; exact rfl); rfl; intro NX; (repeat' (first | go_step | go_upon)); all_goals (refine seg_end (by kernel_rfl) ?_; clear NX))
  all_goals (refine plan_eff (o := ?_) ?_ ?_; rotate_left; (simp only [List.getElem?_toArray, List.getElem?_cons_succ, List.getElem?_cons_zero]; exact rfl); intro NX)
  all_goals ((refine OwnR.app rfl (.tmp 11) (.tmp 12) rfl R _ xs rfl (OwnR.keep HO.out (Kept.drew (Kept.refl Nob _)) (fun _ _ h => h)) _ 32 s (by rw [HS.out]; rfl) (HRD.out.kept (Kept.drew (Kept.refl Nob _)) (fun _ _ h => h)) (fun e => by cases e) (by rw [HS.out]; omega) ?_; intro v3 w3 ho3 hk3; obtain ⟨A3, c3, hv3, _, _, _⟩ := ho3.sl; subst hv3; rw [List.length_append, HS.out] at ho3; have b3 := hk3.blk HB.out HG.out; have q3 : w3.cell? ⟨g, 0, none⟩ = some (.slice A xs.length c) := blk_cell b3 0; have f3 : w3.frozen? ⟨g, 0, none⟩ = false := blk_frozen b3 0; have HO3 := hidden ho3; have HK3 := hidden hk3; have HB3 := hidden b3; clear ho3 hk3 b3; go_wp2))
  all_goals refine eff_free ?_
  all_goals (refine plan_one (o := ?_) ?_ ?_ ?_; rotate_left; (simp only [List.getElem?_toArray, List.getElem?_cons_succ, List.getElem?_cons_zero]; exact rfl); rfl; intro NX; (repeat' (first | go_step | go_upon)); all_goals (refine seg_end (by kernel_rfl) ?_; clear NX))
  all_goals (refine plan_one (o := ?_) ?_ ?_ ?_; rotate_left; (simp only [List.getElem?_toArray, List.getElem?_cons_succ, List.getElem?_cons_zero]; exact rfl); rfl; intro NX; (repeat' (first | go_step | go_upon)); all_goals (refine seg_end (by kernel_rfl) ?_; clear NX))
  all_goals (refine plan_eff (o := ?_) ?_ ?_; rotate_left; (simp only [List.getElem?_toArray, List.getElem?_cons_succ, List.getElem?_cons_zero]; exact rfl); intro NX)
  all_goals go_wp2_with (fail)
  all_goals refine eff_free ?_
  all_goals refine plan_nil ?_
  go_wp2
  go_ret
  have ho : OwnR w3 (Gw w R) (.slice A3 (xs ++ s).length c3) (xs ++ s) := by
    have h1 := HO3.out
    rw [List.length_append, HS.out]
    exact h1.mono (fun b hb => hb.elim .inl (fun h => .inr (by simp at h; omega)))
  refine ⟨rfl, ⟨⟨HGW.out, _, blk_set HB3.out 0 _, ?_⟩, Kept.setCell (Kept.then (Kept.drew (Kept.alloc (Kept.refl (PS g R) w) _)) HK3.out (fun b hb h => .inr h)) (p := ⟨g, 0, none⟩) (fun _ => .inl rfl) _⟩⟩
  rw [List.length_append, HS.out] at ho
  exact ho.keep (Kept.setCell (S := fun b => b = g) (Kept.refl _ _) (p := ⟨g, 0, none⟩) (fun _ => rfl) _) (fun b hb h => by subst h; exact HGW.out hb)
set_option maxRecDepth 100000 in
set_option maxHeartbeats 8000000 in
theorem penr_bytes (R : Nat → Prop) (g : Nat) (xs : List Int) (w : World) (h : PenR w R g xs) (hx : xs.length ≤ 100000000) :
    Calls Try.prog 30 #[.pointer (some ⟨g, 0, none⟩)] w fun e w' => ∃ v, e = .returned v ∧ OwnR w' (fun b => w.heap.size ≤ b) v xs ∧ Kept Nob w w' := by
  obtain ⟨hg, v9, hb9, ho9⟩ := h
  obtain ⟨A, c, hv9, hlc, hr, h0⟩ := ho9.sl
  subst hv9
  have q0 : w.cell? ⟨g, 0, none⟩ = some (.slice A xs.length c) := blk_cell hb9 0
  have HR := hidden hr
  have H0 := hidden h0
  clear hr h0 ho9 hb9
  go_enter Try.func30, Try.ntmps30
  go_wp2_with (at_builtin; refine OwnR.app rfl (.const (.slice none 0 0)) (.tmp 8) rfl Nob _ [] rfl (OwnR.nil _ _) A c xs rfl HR.out H0.out (by simp; omega) ?_; intro v1 w1 ho1 hk1; have HO1 := hidden ho1; have HK1 := hidden hk1; clear ho1 hk1; dsimp only)
  go_ret
  exact ⟨_, rfl, by have := HO1.out; rw [List.nil_append] at this; exact this.mono (fun b hb => hb.elim (fun h => h.elim) id), HK1.out⟩
end Go.Proofs.Ytcghjnegaiiieaa

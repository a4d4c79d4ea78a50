/- A pen in the midst of its work: with blocks besides that stay. -/
import Derived.Test.YtcghjnegaiiieaaPut
namespace Go.Proofs.Ytcghjnegaiiieaa
open Go.RowKit
structure PenMid (W0 W : World) (R : Nat → Prop) (g : Nat) (xs ys : List Int) (N : Nat → Obj → Prop) : Prop where
  ex : ∃ Rk : Nat → Prop, PenR W Rk g (xs ++ ys) ∧ (∀ b, Rk b → Gw W0 R b) ∧ (∀ b o, N b o → ¬ Rk b)
  prot : ∀ b o, N b o → W.heap[b]? = some o ∧ b ≠ g
  kept : Kept (PS g R) W0 W
  gg : ¬ Gw W0 R g
theorem PenMid.start {W : World} {R : Nat → Prop} {g : Nat} {xs : List Int} {N : Nat → Obj → Prop} (h : PenR W R g xs) (hN : ∀ b o, N b o → W.heap[b]? = some o ∧ b ≠ g ∧ ¬ R b) : PenMid W W R g xs [] N :=
  ⟨⟨R, by rw [List.append_nil]; exact h, Gw.of, fun b o hb => (hN b o hb).2.2⟩, fun b o hb => ⟨(hN b o hb).1, (hN b o hb).2.1⟩, Kept.refl _ _, h.grown.1⟩
theorem PenMid.keep {W0 W W' : World} {R : Nat → Prop} {g : Nat} {xs ys : List Int} {N : Nat → Obj → Prop} (h : PenMid W0 W R g xs ys N) (hk : Kept Nob W W') : PenMid W0 W' R g xs ys N := by
  obtain ⟨⟨Rk, h1, h2, h3⟩, h4, h5, h6⟩ := h
  exact ⟨⟨Rk, h1.keep hk (fun h => h) (fun _ _ h => h), h2, h3⟩, fun b o hb => ⟨hk.blk (h4 b o hb).1 (fun h => h), (h4 b o hb).2⟩, Kept.then h5 hk (fun _ _ h => h.elim), h6⟩
theorem PenMid.alloc {W0 W : World} {R : Nat → Prop} {g : Nat} {xs ys : List Int} {N : Nat → Obj → Prop} (h : PenMid W0 W R g xs ys N) (c : Array Value) (t : TypeId) : PenMid W0 (W.alloc (.cells c t)) R g xs ys (fun b o => N b o ∨ (b = W.heap.size ∧ o = .cells c t (0, 0))) := by
  obtain ⟨⟨Rk, h1, h2, h3⟩, h4, h5, h6⟩ := h
  have hk : Kept Nob W (W.alloc (.cells c t)) := Kept.alloc (Kept.refl _ _) _
  refine ⟨⟨Tw W Rk, h1.tight.keep hk (fun h => h) (fun _ _ h => h), fun b hb => h2 b hb.1, fun b o hb hr => hb.elim (fun h => h3 b o h hr.1) (fun h => by have := hr.2; omega)⟩, fun b o hb => ?_, Kept.then h5 hk (fun _ _ h => h.elim), h6⟩
  rcases hb with h | ⟨h, h'⟩
  · exact ⟨hk.blk (h4 b o h).1 (fun h => h), (h4 b o h).2⟩
  · subst h h'
    exact ⟨heap_alloc_new _ _, fun e => by have := h1.lt; omega⟩
theorem PenMid.new {W0 W W' : World} {R : Nat → Prop} {g : Nat} {xs ys : List Int} {N : Nat → Obj → Prop} (h : PenMid W0 W R g xs ys N) (hk : Kept Nob W W') (b0 : Nat) (o0 : Obj) (hb : W'.heap[b0]? = some o0) (hn : W.heap.size ≤ b0) : PenMid W0 W' R g xs ys (fun b o => N b o ∨ (b = b0 ∧ o = o0)) := by
  obtain ⟨⟨Rk, h1, h2, h3⟩, h4, h5, h6⟩ := h
  refine ⟨⟨Tw W Rk, h1.tight.keep hk (fun h => h) (fun _ _ h => h), fun b hb => h2 b hb.1, fun b o hb hr => hb.elim (fun h => h3 b o h hr.1) (fun h => by have := hr.2; omega)⟩, fun b o hb' => ?_, Kept.then h5 hk (fun _ _ h => h.elim), h6⟩
  rcases hb' with h | ⟨h, h'⟩
  · exact ⟨hk.blk (h4 b o h).1 (fun h => h), (h4 b o h).2⟩
  · subst h h'
    exact ⟨hb, fun e => by have := h1.lt; omega⟩
theorem PenMid.less {W0 W : World} {R : Nat → Prop} {g : Nat} {xs ys : List Int} {N N' : Nat → Obj → Prop} (h : PenMid W0 W R g xs ys N) (hN : ∀ b o, N' b o → N b o) : PenMid W0 W R g xs ys N' := by
  obtain ⟨⟨Rk, h1, h2, h3⟩, h4, h5, h6⟩ := h
  exact ⟨⟨Rk, h1, h2, fun b o hb => h3 b o (hN b o hb)⟩, fun b o hb => h4 b o (hN b o hb), h5, h6⟩
def NoN : Nat → Obj → Prop := fun _ _ => False
theorem PenMid.call {W0 W : World} {R : Nat → Prop} {g : Nat} {xs ys zs : List Int} {N : Nat → Obj → Prop} (h : PenMid W0 W R g xs ys N) {f : FuncId} {args : Array Value} {r : Value}
    (hc : ∀ Rk : Nat → Prop, PenR W Rk g (xs ++ ys) → (∀ b, Rk b → Gw W0 R b ∧ b < W.heap.size) → (∀ b o, N b o → ¬ PS g Rk b ∧ b < W.heap.size) → Calls Try.prog f args W fun e w' => e = .returned r ∧ PenDoes W w' Rk g (xs ++ ys) zs) :
    Calls Try.prog f args W fun e w' => e = .returned r ∧ PenMid W0 w' R g xs (ys ++ zs) N := by
  obtain ⟨⟨Rk, h1, h2, h3⟩, h4, h5, h6⟩ := h
  refine (hc (Tw W Rk) h1.tight (fun b hb => ⟨h2 b hb.1, hb.2⟩) (fun b o hb => ⟨fun h => h.elim (h4 b o hb).2 (fun h' => h3 b o hb h'.1), blk_lt (h4 b o hb).1⟩)).mono ?_
  rintro e w' ⟨he, hd⟩
  refine ⟨he, ⟨⟨Gw W (Tw W Rk), by rw [← List.append_assoc]; exact hd.pen, fun b hb => hb.elim (fun h => h2 b h.1) (fun h => .inr (Nat.le_trans h5.size h)), fun b o hb hr => hr.elim (fun h => h3 b o hb h.1) (fun h => by have := blk_lt (h4 b o hb).1; omega)⟩, fun b o hb => ⟨hd.kept.blk (h4 b o hb).1 (fun h => h.elim (h4 b o hb).2 (fun h' => h3 b o hb h'.1)), (h4 b o hb).2⟩, ?_, h6⟩⟩
  exact Kept.then h5 hd.kept (fun b hb h => h.elim .inl (fun h' => .inr (Gw.old hb (h2 b h'.1))))
theorem PenMid.does {W0 W : World} {R : Nat → Prop} {g : Nat} {xs ys : List Int} {N : Nat → Obj → Prop} (h : PenMid W0 W R g xs ys N) : PenDoes W0 W R g xs ys := by
  obtain ⟨⟨Rk, h1, h2, _⟩, _, h5, h6⟩ := h
  exact ⟨h1.mono h2 h6, h5⟩
/-- The pen's calls, in such terms. -/
theorem PenMid.num {W0 W : World} {R : Nat → Prop} {g : Nat} {xs ys : List Int} {N : Nat → Obj → Prop} (h : PenMid W0 W R g xs ys N) (n : Int) (hv : n < 9223372036854775808) (hx : (xs ++ ys).length ≤ 100000000) :
    Calls Try.prog 35 #[.pointer (some ⟨g, 0, none⟩), .int .i64 n] W fun e w' => e = .returned (.pointer (some ⟨g, 0, none⟩)) ∧ PenMid W0 w' R g xs (ys ++ numB n.toNat) N :=
  h.call fun Rk h1 _ _ => penr_numI n Rk g _ W h1 hv hx
theorem PenMid.sum {W0 W : World} {R : Nat → Prop} {g : Nat} {xs ys : List Int} {N : Nat → Obj → Prop} (h : PenMid W0 W R g xs ys N) (s : List Int) (hs : s.length = 32) (hw : ∀ x ∈ s, (Lit.int .u8 x).wf = true) (hx : (xs ++ ys).length ≤ 100000000) :
    Calls Try.prog 36 #[.pointer (some ⟨g, 0, none⟩), .agg (nums .u8 s).toArray] W fun e w' => e = .returned (.pointer (some ⟨g, 0, none⟩)) ∧ PenMid W0 w' R g xs (ys ++ s) N :=
  h.call fun Rk h1 _ _ => penr_sum s Rk g _ W h1 hs hw hx
/-- Numbers in a block that stays. -/
theorem PenMid.nums {W0 W : World} {R : Nat → Prop} {g : Nat} {xs ys : List Int} {N : Nat → Obj → Prop} (h : PenMid W0 W R g xs ys N) (b : Nat) (l : List Int) (c : Array Value) (t : TypeId) (hN : N b (.cells c t (0, 0))) (hc : c = (nums .i64 l).toArray) (hl : l.length ≤ 1000) (hw : ∀ x ∈ l, (Lit.int .i64 x).wf = true) (hx : (xs ++ ys).length + 10 * l.length ≤ 100000000) :
    Calls Try.prog 34 #[.pointer (some ⟨g, 0, none⟩), .slice (some ⟨b, 0, none⟩) l.length l.length] W fun e w' => e = .returned (.pointer (some ⟨g, 0, none⟩)) ∧ PenMid W0 w' R g xs (ys ++ numsI l) N := by
  subst hc
  exact h.call fun Rk h1 _ h3 => penr_nums l _ _ (fun k => k = b) Rk g _ W h1 (Ints.blk (h.prot b _ hN).1 rfl (by unfold maxLen; omega) hw) (fun k hk => by subst hk; exact h3 k _ hN) hx
/-- Numbers that lie where nothing is written. -/
theorem PenMid.numsOld {W0 W : World} {R : Nat → Prop} {g : Nat} {xs ys : List Int} {N : Nat → Obj → Prop} (h : PenMid W0 W R g xs ys N) {F : Nat → Prop} {A : Option Addr} {c : Nat} {l : List Int} (hi : Ints W0 F .i64 A c l) (hF : ∀ b, F b → ¬ PS g R b ∧ b < W0.heap.size) (hx : (xs ++ ys).length + 10 * l.length ≤ 100000000) :
    Calls Try.prog 34 #[.pointer (some ⟨g, 0, none⟩), .slice A l.length c] W fun e w' => e = .returned (.pointer (some ⟨g, 0, none⟩)) ∧ PenMid W0 w' R g xs (ys ++ numsI l) N :=
  h.call fun Rk h1 h2 _ => penr_nums l A c F Rk g _ W h1 (hi.keep h.kept (fun b hb => (hF b hb).1)) (fun b hb => ⟨fun hp => hp.elim (fun h' => (hF b hb).1 (.inl h')) (fun h' => (hF b hb).1 (.inr (Gw.old (hF b hb).2 (h2 b h').1))), Nat.lt_of_lt_of_le (hF b hb).2 h.kept.size⟩) hx
theorem PenMid.textOld {W0 W : World} {R : Nat → Prop} {g : Nat} {xs ys : List Int} {N : Nat → Obj → Prop} (h : PenMid W0 W R g xs ys N) {F : Nat → Prop} {A : Option Addr} {c : Nat} {l : List Int} (hi : Ints W0 F .u8 A c l) (hF : ∀ b, F b → ¬ PS g R b ∧ b < W0.heap.size) (hx : (xs ++ ys).length + l.length ≤ 90000000) :
    Calls Try.prog 72 #[.pointer (some ⟨g, 0, none⟩), .slice A l.length c] W fun e w' => e = .returned (.pointer (some ⟨g, 0, none⟩)) ∧ PenMid W0 w' R g xs (ys ++ textB l) N :=
  h.call fun Rk h1 h2 _ => penr_text l A c F Rk g _ W h1 (hi.keep h.kept (fun b hb => (hF b hb).1)) (fun b hb => ⟨fun hp => hp.elim (fun h' => (hF b hb).1 (.inl h')) (fun h' => (hF b hb).1 (.inr (Gw.old (hF b hb).2 (h2 b h').1))), Nat.lt_of_lt_of_le (hF b hb).2 h.kept.size⟩) hx
theorem PenMid.putOld {W0 W : World} {R : Nat → Prop} {g : Nat} {xs ys : List Int} {N : Nat → Obj → Prop} (h : PenMid W0 W R g xs ys N) (o : Out) {F : Nat → Prop} {A : Option Addr} {c : Nat} (hi : Ways W0 F A c o.ways) (ha : (Lit.int .i64 o.amount).wf = true) (hF : ∀ b, F b → ¬ PS g R b ∧ b < W0.heap.size) (hx : (xs ++ ys).length + 10 * (outBy o).length ≤ 90000000) :
    Calls Try.prog 29 #[.pointer (some ⟨g, 0, none⟩), .agg #[.int .i64 o.amount, .slice A o.ways.length c]] W fun e w' => e = .returned (.tuple #[]) ∧ PenMid W0 w' R g xs (ys ++ outBy o) N :=
  h.call fun Rk h1 h2 _ => put_any o A c F Rk g _ W h1 (hi.keep h.kept (fun b hb => (hF b hb).1)) ha (fun b hb => ⟨fun hp => hp.elim (fun h' => (hF b hb).1 (.inl h')) (fun h' => (hF b hb).1 (.inr (Gw.old (hF b hb).2 (h2 b h').1))), Nat.lt_of_lt_of_le (hF b hb).2 h.kept.size⟩) hx
end Go.Proofs.Ytcghjnegaiiieaa

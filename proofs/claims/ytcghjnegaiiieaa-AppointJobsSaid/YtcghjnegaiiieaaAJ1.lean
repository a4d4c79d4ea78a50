/- Part 1 of the texts that LawAppointJobs needs, pruned and joined. -/
import Derived.WalkKit
import Derived.WalkSpells
import Derived.WalkLawsBesides
import Derived.Deep.QuietTactic
import Derived.BigQuiet
import Derived.Deep.RegionHeld3
import Derived.Maps.AppendAt
import Derived.Deep.Light
import Derived.WalkArith
import Derived.Deep.AppendLies
import Derived.RegionTactic
import Derived.OwnWalk
import Derived.ProofKit
import Derived.OpenShut
import Derived.ShutString
import Derived.ChangeOld
import Derived.Below
import Derived.SizedLaws
import Derived.Lib.SmallJoins
import Derived.OrdersHeld
import Derived.StillTail
import Derived.Deep.Slices
import Derived.Laws.Rows
import Derived.Laws.StructEq
import Derived.Deep.LoopGhost
import Derived.Deep.DeepAppendWide
import Derived.Test.YtcghjnegaiiieaaRows
import Derived.Outline
set_option linter.unusedSimpArgs false
namespace Go.Proofs.Ytcghjnegaiiieaa
open Go.RowKit
theorem hidden {p : Prop} (h : p) : Hid p := h
structure Kept (S : Nat → Prop) (w w' : World) : Prop where
  os : w'.os = w.os
  tape : w'.tape = w.tape
  output : w'.output = w.output
  size : w.heap.size ≤ w'.heap.size
  block : ∀ k, k < w.heap.size → ¬ S k → w'.heap[k]? = w.heap[k]?
def Nob : Nat → Prop := fun _ => False
theorem Kept.refl (S : Nat → Prop) (w : World) : Kept S w w := ⟨rfl, rfl, rfl, Nat.le_refl _, fun _ _ _ => rfl⟩
theorem Kept.trans {S : Nat → Prop} {a b c : World} (h : Kept S a b) (k : Kept S b c) : Kept S a c :=
  ⟨k.os.trans h.os, k.tape.trans h.tape, k.output.trans h.output, Nat.le_trans h.size k.size, fun i hi hs => (k.block i (Nat.lt_of_lt_of_le hi h.size) hs).trans (h.block i hi hs)⟩
theorem Kept.mono {S S' : Nat → Prop} {a b : World} (h : Kept S a b) (hs : ∀ k, k < a.heap.size → S k → S' k) : Kept S' a b :=
  ⟨h.os, h.tape, h.output, h.size, fun i hi hn => h.block i hi (fun hS => hn (hs i hi hS))⟩
theorem Kept.then {S S' : Nat → Prop} {a b c : World} (h : Kept S a b) (k : Kept S' b c) (hs : ∀ k, k < a.heap.size → S' k → S k) : Kept S a c :=
  ⟨k.os.trans h.os, k.tape.trans h.tape, k.output.trans h.output, Nat.le_trans h.size k.size, fun i hi hn => (k.block i (Nat.lt_of_lt_of_le hi h.size) (fun hS => hn (hs i hi hS))).trans (h.block i hi hn)⟩
theorem Kept.drew {S : Nat → Prop} {a w : World} (h : Kept S a w) : Kept S a w.drew := ⟨h.os, h.tape, h.output, h.size, h.block⟩
theorem Kept.drewN {S : Nat → Prop} {a w : World} (h : Kept S a w) (n : Nat) : Kept S a (w.drewN n) := ⟨h.os, h.tape, h.output, h.size, h.block⟩
structure Still (w w' : World) : Prop where
  heap : w'.heap = w.heap
  os : w'.os = w.os
  tape : w'.tape = w.tape
  output : w'.output = w.output
theorem Still.refl (w : World) : Still w w := ⟨rfl, rfl, rfl, rfl⟩
theorem Still.cell {w w' : World} (h : Still w w') (a : Addr) : w'.cell? a = w.cell? a := by simp only [World.cell?, h.heap]
theorem Still.frozen {w w' : World} (h : Still w w') (a : Addr) : w'.frozen? a = w.frozen? a := by simp only [World.frozen?, h.heap]
theorem Still.trans {a b c : World} (h : Still a b) (k : Still b c) : Still a c := ⟨k.heap.trans h.heap, k.os.trans h.os, k.tape.trans h.tape, k.output.trans h.output⟩
theorem Still.drewN {a w : World} (h : Still a w) (n : Nat) : Still a (w.drewN n) := ⟨h.heap, h.os, h.tape, h.output⟩
theorem Kept.still {S : Nat → Prop} {w w' : World} (h : Still w w') : Kept S w w' := ⟨h.os, h.tape, h.output, by rw [h.heap]; exact Nat.le_refl _, fun _ _ _ => by rw [h.heap]⟩
theorem Kept.alloc {S : Nat → Prop} {a w : World} (h : Kept S a w) (o : Obj) : Kept S a (w.alloc o) :=
  h.trans ⟨rfl, rfl, rfl, by simp, fun k hk _ => Below.heap_alloc _ _ _ hk⟩
theorem Kept.setCell {S : Nat → Prop} {a w : World} (h : Kept S a w) {p : Addr} (hp : p.block < a.heap.size → S p.block) (u : Value) : Kept S a (w.setCell p u) :=
  ⟨h.os, h.tape, h.output, by simpa [World.setCell] using h.size, fun k hk hn => (Below.heap_setCell _ _ _ _ (by rintro rfl; exact hn (hp hk))).trans (h.block k hk hn)⟩
theorem Kept.grown {S : Nat → Prop} {a w w' : World} {row : Option Nat} (h : Kept S a w) (hg : w.grownBy w' row) (hr : ∀ k, row = some k → k < a.heap.size → S k) : Kept S a w' :=
  ⟨hg.os.trans h.os, hg.tape.trans h.tape, hg.output.trans h.output, Nat.le_trans h.size hg.size,
    fun k hk hn => (hg.block k (Nat.lt_of_lt_of_le hk h.size) (fun e => hn (hr k e.symm hk))).trans (h.block k hk hn)⟩
theorem Kept.below {B : Nat} {w w' : World} {S : Nat → Prop} (h : Kept S w w') (hB : B ≤ w.heap.size) (hS : ∀ k, S k → B ≤ k) : Below B w w' :=
  ⟨h.os, h.tape, h.output, h.size, fun k hk => h.block k (by omega) (fun hs => by have := hS k hs; omega)⟩
theorem blk_lt {w : World} {g : Nat} {o : Obj} (h : w.heap[g]? = some o) : g < w.heap.size := (Array.getElem?_eq_some_iff.1 h).1
theorem Kept.blk {S : Nat → Prop} {w w' : World} {g : Nat} {o : Obj} (k : Kept S w w') (h : w.heap[g]? = some o) (hn : ¬ S g) : w'.heap[g]? = some o := (k.block g (blk_lt h) hn).trans h
theorem blk_cell {w : World} {g : Nat} {t : TypeId} {cs : Array Value} {fr : Nat × Nat} (h : w.heap[g]? = some (.cells cs t fr)) (i : Nat) : w.cell? ⟨g, i, none⟩ = cs[i]? := cell_of_row w g i cs t fr h
theorem blk_frozen {w : World} {g : Nat} {t : TypeId} {cs : Array Value} (h : w.heap[g]? = some (.cells cs t (0, 0))) (i : Nat) : w.frozen? ⟨g, i, none⟩ = false := by simp [World.frozen?, h]
theorem blk_set {w : World} {g : Nat} {t : TypeId} {cs : Array Value} (h : w.heap[g]? = some (.cells cs t (0, 0))) (i : Nat) (u : Value) : (w.setCell ⟨g, i, none⟩ u).heap[g]? = some (.cells (cs.setIfInBounds i u) t (0, 0)) :=
  heap_setCell_same w g i cs t u h
theorem blk_alloc {w : World} {g : Nat} {o : Obj} (h : w.heap[g]? = some o) (o' : Obj) : (w.alloc o').heap[g]? = some o := (Below.heap_alloc w o' g (blk_lt h)).trans h
theorem blk_new_at {W : World} {o : Obj} {n : Nat} (h : W.heap.size = n) : (W.alloc o).heap[n]? = some o := by subst h; exact heap_alloc_new _ _
def nums (k : IntKind) (xs : List Int) : List Value := xs.map fun x => .int k x
theorem nums_length (k : IntKind) (xs : List Int) : (nums k xs).length = xs.length := by simp [nums]
def rd (xs : List Int) (i : Int) : Int := xs.getD i.toNat 0
def RdInts (w : World) (k : IntKind) (A : Option Addr) (xs : List Int) : Prop := ∀ i : Nat, i < xs.length → ∃ ad, A = some ad ∧ w.cell? (ad.add i) = some (.int k (xs.getD i 0))
theorem RdInts.heap {w w' : World} {k : IntKind} {A : Option Addr} {xs : List Int} (h : RdInts w k A xs) (hh : w'.heap = w.heap) : RdInts w' k A xs := fun i hi => by
  obtain ⟨ad, e, hc⟩ := h i hi
  exact ⟨ad, e, by rw [← hc]; simp only [World.cell?, hh]⟩
theorem RdInts.kept {S : Nat → Prop} {w w' : World} {k : IntKind} {A : Option Addr} {xs : List Int} (h : RdInts w k A xs) (hk : Kept S w w') (hn : ∀ ad, A = some ad → ¬ S ad.block) : RdInts w' k A xs := fun i hi => by
  obtain ⟨ad, e, hc⟩ := h i hi
  have hb : (ad.add i).block = ad.block := by unfold Addr.add; split <;> rfl
  refine ⟨ad, e, ?_⟩
  rw [World.cell?_of_block (w := w) (hk.block _ (World.block_lt_of_cell? w _ hc) (by rw [hb]; exact hn ad e))]
  exact hc
theorem Kept.at {S : Nat → Prop} {w w' : World} {a : Addr} {u : Value} (hk : Kept S w w') (hc : w.cell? a = some u) (hn : ¬ S a.block) : w'.cell? a = some u := by
  rw [World.cell?_of_block (w := w) (hk.block _ (World.block_lt_of_cell? w _ hc) hn)]
  exact hc
theorem RdInts.keptP {S : Nat → Prop} {w w' : World} {k : IntKind} {A : Option Addr} {xs : List Int} (h : RdInts w k A xs) (hk : Kept S w w') (hn : ∀ ad, A = some ad → 0 < xs.length → ¬ S ad.block) : RdInts w' k A xs := fun i hi =>
  (h.kept hk (fun ad e => hn ad e (by omega))) i hi
theorem drop_cons (xs : List Int) (i : Nat) (h : i < xs.length) : xs.drop i = xs.getD i 0 :: xs.drop (i + 1) := by
  rw [List.drop_eq_getElem_cons h]
  simp [List.getD_eq_getElem?_getD, h]
theorem nums_set (k : IntKind) (xs : List Int) (j : Nat) (x : Int) : (nums k xs).set j (.int k x) = nums k (xs.set j x) := by simp [nums, List.map_set]
theorem nums_append (k : IntKind) (xs ys : List Int) : nums k (xs ++ ys) = nums k xs ++ nums k ys := by simp [nums]
theorem RdInts.take {w : World} {k : IntKind} {A : Option Addr} {xs : List Int} (h : RdInts w k A xs) (n : Nat) : RdInts w k A (xs.take n) := fun i hi => by
  have hl : i < n ∧ i < xs.length := by simp at hi; omega
  obtain ⟨ad, e, hc⟩ := h i hl.2
  exact ⟨ad, e, by rw [hc]; simp [List.getD_eq_getElem?_getD, List.getElem?_take_of_lt hl.1]⟩
theorem ret_bool {a b : Bool} (h : a = b) : Ending.returned (.bool a) = .returned (.bool b) := by rw [h]
theorem wf_int {n : Int} (h : (Lit.int .i64 n).wf = true) : -9223372036854775808 ≤ n ∧ n ≤ 9223372036854775807 := by
  simp [Lit.wf, IntKind.min, IntKind.max, IntKind.signed, IntKind.bits] at h
  omega
theorem wf_byte {n : Int} (h : (Lit.int .u8 n).wf = true) : 0 ≤ n ∧ n ≤ 255 := by
  simp [Lit.wf, IntKind.min, IntKind.max, IntKind.signed, IntKind.bits] at h
  omega
structure ElemT (P : Program) (t e : TypeId) (size bytes : Nat) : Prop where
  ht : P.underlying t = some (.slice e)
  hi : ∃ i z, P.info? e = some i ∧ i.zero = some z ∧ i.size = size ∧ i.bytes = bytes ∧ z.cells.size = size
  hsz : 0 < size
def Src (w : World) (A : Option Addr) (news : List Value) : Prop := ∀ j u, news[j]? = some u → ∃ ad, A = some ad ∧ w.cell? (ad.add j) = some u
section
variable {P : Program} {t e : TypeId} {size bytes : Nat}
theorem ElemT.mk' {z : Value} (ht : P.underlying t = some (.slice e)) (hi : (P.info? e).map (fun i => (i.zero, i.size, i.bytes)) = some (some z, size, bytes)) (hz : z.cells.size = size) (hs : 0 < size) : ElemT P t e size bytes := by
  refine ⟨ht, ?_, hs⟩
  cases h : P.info? e with
  | none => rw [h] at hi; simp at hi
  | some i =>
    rw [h] at hi
    simp at hi
    exact ⟨i, z, rfl, hi.1, hi.2.1, hi.2.2, hz⟩
theorem run_append_nil' (w : World) (E : ElemT P t e size bytes) (base : Nat) (ty : TypeId) (v : Value) (n : Nat) (xs : List Value) (hown : w.ownsRow base e size v n xs) (c : Nat) :
    (Builtin.append_ #[t, t] ty #[v, .slice none 0 c]).run P w = .ok v w := by
  obtain ⟨i, z, hi, _⟩ := E.hi
  rcases hown.2 with ⟨rfl, rfl⟩ | ⟨g, cap, cur, rfl, _, _, hnc, _⟩
  · simp [Builtin.append_, run_underlying E.ht, sizeOf, typeInfo, hi, Builtin.lenOf, Builtin.firstCells]
  · simp [Builtin.append_, run_underlying E.ht, sizeOf, typeInfo, hi, Builtin.lenOf, Builtin.firstCells, hnc, storeCells]
theorem run_app (w : World) (E : ElemT P t e size bytes) (base : Nat) (ty : TypeId) (v : Value) (n : Nat) (xs : List Value) (hown : w.ownsRow base e size v n xs)
    (A : Option Addr) (m c : Nat) (news : List Value) (hl : news.length = m * size) (hr : Src w A news) (h0 : A = none → m = 0) (h1 : ∀ u ∈ news, u.oneCell' = true)
    (h63 : n + m ≤ maxLen) (hbytes : (n + m) * bytes ≤ 140737488355328) (hbase : base ≤ w.heap.size) :
    ∃ v' w', (Builtin.append_ #[t, t] ty #[v, .slice A m c]).run P w = .ok v' w' ∧ w'.ownsRow base e size v' (n + m) (xs ++ news) ∧ w.grownBy w' v.ownBlock ∧ (v'.ownBlock = v.ownBlock ∨ v'.ownBlock = some w.heap.size) := by
  obtain ⟨i, z, hi, hz, hs, hb, hzs⟩ := E.hi
  rcases A with _ | ad
  · have hm : m = 0 := h0 rfl
    subst hm
    have hn : news = [] := List.eq_nil_of_length_eq_zero (by simpa using hl)
    subst hn
    exact ⟨v, w, run_append_nil' w E base ty v n xs hown c, by simpa using hown, World.grownBy.refl w _, .inl rfl⟩
  · obtain ⟨v', w', hrun, h2, h3, _, h5⟩ := run_append_own_at (P := P) w base t ty e i z size bytes E.ht hi hz hs hb hzs E.hsz v n xs hown ad m c news hl (fun j u hu => by
      obtain ⟨ad', e', hc⟩ := hr j u hu
      injection e' with e'
      subst e'
      exact hc) h1 h63 hbytes hbase
    exact ⟨v', w', hrun, h2, h3, h5⟩
theorem wp_app {w : World} {o : Oper} {a : Act} {K : Act → World → Prop} {Q : Exit → Act → World → Prop} (E : ElemT P t e size bytes) (s x : Operand)
    (ho : o.op = .call { callee := .builtin .append, args := #[s, x], argTypes := #[t, t] })
    (base : Nat) (v : Value) (n : Nat) (xs : List Value) (hs : a.eval s = v) (hown : w.ownsRow base e size v n xs)
    (A : Option Addr) (m c : Nat) (news : List Value) (hx : a.eval x = .slice A m c) (hl : news.length = m * size) (hr : Src w A news) (h0 : A = none → m = 0) (h1 : ∀ u ∈ news, u.oneCell' = true)
    (h63 : n + m ≤ maxLen) (hbytes : (n + m) * bytes ≤ 140737488355328) (hbase : base ≤ w.heap.size)
    (h : ∀ v' w', w'.ownsRow base e size v' (n + m) (xs ++ news) → w.grownBy w' v.ownBlock → (v'.ownBlock = v.ownBlock ∨ v'.ownBlock = some w.heap.size) → K (a.put o.dst v') w') : o.wp P a w K Q := by
  obtain ⟨v', w', hrun, h2, h3, h4⟩ := run_app w E base o.type v n xs hown A m c news hl hr h0 h1 h63 hbytes hbase
  unfold Oper.wp execOp
  simp only [ho, resolve, invoke, builtin, Sem.run_bind, Sem.run_pure, Result.andThen_ok, List.map_toArray, List.map_cons, List.map_nil, hs, hx, hrun]
  exact h v' w' h2 h3 h4
theorem app {w : World} {ops : Array Oper} {rest : List Oper} {o : Oper} {a : Act} {Q : Exit → Act → World → Prop} (E : ElemT P t e size bytes) (hgd : o.guard = none) (s x : Operand)
    (ho : o.op = .call { callee := .builtin .append, args := #[s, x], argTypes := #[t, t] })
    (base : Nat) (v : Value) (n : Nat) (xs : List Value) (hs : a.eval s = v) (hown : w.ownsRow base e size v n xs)
    (A : Option Addr) (m c : Nat) (news : List Value) (hx : a.eval x = .slice A m c) (hl : news.length = m * size) (hr : Src w A news) (h0 : A = none → m = 0) (h1 : ∀ u ∈ news, u.oneCell' = true)
    (h63 : n + m ≤ maxLen) (hbytes : (n + m) * bytes ≤ 140737488355328) (hbase : base ≤ w.heap.size)
    (h : ∀ v' w', w'.ownsRow base e size v' (n + m) (xs ++ news) → w.grownBy w' v.ownBlock → (v'.ownBlock = v.ownBlock ∨ v'.ownBlock = some w.heap.size) → wpList P ops Q rest (a.put o.dst v') w') : wpList P ops Q (o :: rest) a w :=
  wpList_plain hgd fun _ hK => wp_app E s x ho base v n xs hs hown A m c news hx hl hr h0 h1 h63 hbytes hbase fun v' w' h2 h3 h4 => hK _ _ (h v' w' h2 h3 h4)
end
theorem own_ge {w : World} {base n k : Nat} {e : TypeId} {size : Nat} {v : Value} {xs : List Value} (h : w.ownsRow base e size v n xs) (hk : v.ownBlock = some k) : base ≤ k := by
  obtain ⟨_, ⟨rfl, _⟩ | ⟨r, c, cur, rfl, hb, _⟩⟩ := h
  · simp [Value.ownBlock] at hk
  · simp [Value.ownBlock] at hk
    omega
theorem own_cells {w : World} {base n b : Nat} {e : TypeId} {size : Nat} {v : Value} {xs : List Value} (h : w.ownsRow base e size v n xs) (hb : v.ownBlock = some b) : ∃ (cs : Array Value) (fr : Nat × Nat), w.heap[b]? = some (.cells cs e fr) := by
  obtain ⟨_, ⟨rfl, _⟩ | ⟨r, c, cur, rfl, _, hh, _⟩⟩ := h
  · simp [Value.ownBlock] at hb
  · simp [Value.ownBlock] at hb
    subst hb
    exact ⟨_, _, hh⟩
theorem own_keep {S : Nat → Prop} {w w' : World} {base n : Nat} {e : TypeId} {size : Nat} {v : Value} {xs : List Value} (h : w.ownsRow base e size v n xs) (hk : Kept S w w') (hn : ∀ b, v.ownBlock = some b → ¬ S b) : w'.ownsRow base e size v n xs := by
  obtain ⟨h1, h2 | ⟨r, c, cur, rfl, hb, hh, h3⟩⟩ := h
  · exact ⟨h1, .inl h2⟩
  · exact ⟨h1, .inr ⟨r, c, cur, rfl, hb, hk.blk hh (hn r rfl), h3⟩⟩
theorem RdInts.src' {w : World} {k : IntKind} {A : Option Addr} {xs : List Int} (h : RdInts w k A xs) : Src w A (nums k xs) := fun j u hj => by
  have hl : j < xs.length := by
    have := (List.getElem?_eq_some_iff.1 hj).1
    rwa [nums_length] at this
  obtain ⟨ad, e, hc⟩ := h j hl
  refine ⟨ad, e, ?_⟩
  rw [hc]
  simp [nums, hl] at hj
  simp [List.getD_eq_getElem?_getD, hl, hj]
theorem nums_oneC (k : IntKind) (xs : List Int) : ∀ u ∈ nums k xs, u.oneCell' = true := by simp [nums, Value.oneCell']
theorem own_rd {w : World} {base : Nat} {e : TypeId} {k : IntKind} {v : Value} {xs : List Int} (h : w.ownsRow base e 1 v xs.length (nums k xs)) : ∃ A c, v = .slice A xs.length c ∧ xs.length ≤ c ∧ RdInts w k A xs ∧ (A = none → xs = []) := by
  obtain ⟨_, ⟨rfl, h0⟩ | ⟨r, c, cur, rfl, _, hh, h4, _, _, h6⟩⟩ := h
  · have : xs = [] := List.eq_nil_of_length_eq_zero h0
    subst this
    exact ⟨none, 0, rfl, Nat.le_refl _, fun i hi => by simp at hi, fun _ => rfl⟩
  · refine ⟨some ⟨r, 0, none⟩, c, rfl, h4, fun i hi => ⟨_, rfl, ?_⟩, fun e => by cases e⟩
    have ea : (⟨r, 0, none⟩ : Addr).add i = ⟨r, i, none⟩ := by
      unfold Addr.add
      split <;> simp_all
    rw [ea, blk_cell hh]
    have h7 : (cur.toList.take (xs.length * 1))[i]? = (nums k xs)[i]? := by rw [h6]
    rw [List.getElem?_take, if_pos (by omega)] at h7
    rw [← Array.getElem?_toList, h7]
    simp [nums, List.getD_eq_getElem?_getD, hi]
theorem dB : type_of% (And.intro @decide_eq_true_eq (And.intro @decide_eq_false_iff_not (And.intro @Bool.and_eq_true (And.intro @Bool.or_eq_true (And.intro @Bool.and_eq_false_iff (And.intro @Bool.or_eq_false_iff (And.intro @Bool.not_eq_true' (And.intro @Bool.not_eq_false' (And.intro @Bool.not_true (And.intro @Bool.not_false (And.intro @Int.not_lt (And.intro @Int.not_le (And.intro @Nat.not_lt @Nat.not_le))))))))))))) := (And.intro @decide_eq_true_eq (And.intro @decide_eq_false_iff_not (And.intro @Bool.and_eq_true (And.intro @Bool.or_eq_true (And.intro @Bool.and_eq_false_iff (And.intro @Bool.or_eq_false_iff (And.intro @Bool.not_eq_true' (And.intro @Bool.not_eq_false' (And.intro @Bool.not_true (And.intro @Bool.not_false (And.intro @Int.not_lt (And.intro @Int.not_le (And.intro @Nat.not_lt @Nat.not_le)))))))))))))
end Go.Proofs.Ytcghjnegaiiieaa
namespace Go.Proofs.Ytcghjnegaiiieaa
open Go.ChangeShapes Go.WideShapes Go.ChangeAt Go.RowKit
theorem trodAll_stays {H : Type} {enc : TypeId × Value → H} {P : Program} (hl : laidOutB P = true) {W W' : World} (hb : Below W.heap.size W W') :
    ∀ (ts : List TypeId) (vs : List Value) (ds : List (DataW H)) (ps : List MemPlace), (∀ t ∈ ts, P.readableRec t = true ∧ t < P.types.size) →
      DataW.TrodAll enc P W 0 (fun _ => true) true ts vs ds ps → DataW.TrodAll enc P W' 0 (fun b => decide (b < W.heap.size)) true ts vs ds ps
  | [], [], [], _, _, h => h
  | t :: ts, v :: vs, d :: ds, _, hr, ⟨p, q, h, hs, e⟩ => by
    refine ⟨p, q, ?_, trodAll_stays hl hb ts vs ds q (fun t ht => hr t (List.mem_cons_of_mem _ ht)) hs, e⟩
    have hlt : ∀ x ∈ p, x.block < W.heap.size := by obtain ⟨m, hm⟩ := h; exact DataW.trod_lt m _ _ _ hm
    exact Below.trod hl (hr t (List.mem_cons_self ..)).1 (hr t (List.mem_cons_self ..)).2 h hb hlt
theorem lawLift {C : Checked} {os : Os} {f : FuncId} {fn : Func} {s : ChangeSpec} {H : Type} {enc : TypeId × Value → H} {tb : TypeId}
    (own : ownKnob C.prog.godebug = none) (started : os.Started) (noInit : C.prog.inits.idxOf? f = none) (hfn : C.prog.funcs[f]? = some fn)
    (witness : ∃ (w : World) (tape : Tape) (i : Input), w.os = os ∧ (w.forCall tape i).Shaped C.prog ∧ i.vars = [] ∧ Input.okWide C.prog (w.forCall tape i) .any w.heap.size f i ∧
      s.pre6 enc C.prog fn [] false (w.forCall tape i).memory i.args ∧ ({} : Assume).holds C.prog (lone (Frame.enter C.prog f i.args .normal) [] (w.forCall tape i)))
    (hvars : s.vars = []) (hl : laidOutB C.prog = true) (hread0 : (fn.params.toList.all fun t => C.prog.readableRec t && decide (t < C.prog.types.size)) = true)
    (hres : fn.resultTypes = #[tb]) (hb : C.prog.underlying tb = some .bool)
    (hspec : ∀ ds : List (DataW H), ds.length = fn.params.size → (s.fn H ds).results = [.lit (.bool true)] ∧ (s.fn H ds).args = ds ∧ (s.fn H ds).vars = [])
    (walk : ∀ (W : World) (base : Nat) (args : Array Value) (ds : List (DataW H)) (ps : List MemPlace),
      (∀ (j : Nat) t v, fn.params[j]? = some t → args[j]? = some v → Value.okWide C.prog W .any base t v) →
      DataW.TrodAll enc C.prog W 0 (fun _ => true) true fn.params.toList args.toList ds ps →
      (DataW.weightsEach C.prog fn.params.toList ds).all (· ≤ reachBytes) = true →
      Calls C.prog f args W fun e W' => e = .returned (.bool true) ∧ Below W.heap.size W W') :
    ReturnsInHanded {} C os f .any (s.pre6 enc C.prog fn [] false) (s.post enc C.prog fn false true false false) := by
  have hread : ∀ t ∈ fn.params.toList, C.prog.readableRec t = true ∧ t < C.prog.types.size := fun t ht => by
    have := List.all_eq_true.1 hread0 t ht
    simpa using this
  refine returnsInHanded_of_change_sized (C := C) own started noInit hfn witness ?_
  intro W base args ds gs before hval hW _ hsz _
  have hW' := hW
  obtain ⟨p, q, hA, hV, rfl, hfz, hnd⟩ := hW
  rw [hvars] at hV
  obtain ⟨rfl, rfl⟩ := trodVars_none hV
  have hvt : s.plain.varTypes C.prog = [] := by simp [ChangeSpec.plain, hvars, DataSpec.varTypes]
  rw [hvt, List.append_nil, List.append_nil] at hsz
  refine (walk W base args ds p hval hA hsz).mono fun e W' ⟨he, bel⟩ => ?_
  subst he
  have hlen : ∀ (ts : List TypeId) (vs : List Value) (ds : List (DataW H)) (ps : List MemPlace), DataW.TrodAll enc C.prog W 0 (fun _ => true) true ts vs ds ps → ds.length = ts.length := by
    intro ts
    induction ts with
    | nil => intro vs ds ps h; cases vs <;> cases ds <;> simp_all [DataW.TrodAll]
    | cons t ts ih =>
      intro vs ds ps h
      cases vs <;> cases ds <;> simp only [DataW.TrodAll] at h
      obtain ⟨_, _, _, h2, _⟩ := h
      simp [ih _ _ _ h2]
  obtain ⟨h1, h2, h3⟩ := hspec ds (by simpa using hlen _ _ _ _ hA)
  refine ⟨_, rfl, ds, [], _, [], p, [], hW', ?_, ?_, ?_, bel.frame _, fun h => by cases h⟩
  · rw [List.append_nil, h1, hres]
    exact trodAll_mk1 (shut_bool hb _)
  · rw [List.append_nil, h2]
    exact trodAll_stays hl bel _ _ _ _ hread hA
  · rw [List.append_nil, h3, hvars]
    rfl
end Go.Proofs.Ytcghjnegaiiieaa
namespace Go.Proofs.Ytcghjnegaiiieaa
open Go Go.RowKit
section
variable {P : Program} {ops : Array Oper} {Q : Exit → Act → World → Prop} {md : Region.Mode}
def ancB (md : Region.Mode) (ops : Array Oper) : Nat → Nat → Nat → Bool
  | 0, _, _ => false
  | f + 1, j, i => match ops[j]? with
    | some oj => oj.after.any fun e => Region.binds md e && (e.on == i || ancB md ops f e.on i)
    | none => false
def ClosedL (md : Region.Mode) (ops : Array Oper) (listed : Array Bool) : Prop :=
  ∀ j oj, ops[j]? = some oj → listed.getD j false = true → ∀ e ∈ oj.after, Region.binds md e = true → listed.getD e.on false = true
theorem closed_start : ClosedL md ops (Array.replicate ops.size false) := fun j oj hj hl => by
  rw [getD_replicate_false] at hl; cases hl
theorem ClosedL.set {listed : Array Bool} {i : Nat} (h : ClosedL md ops listed) (hi : i ∈ Region.ready md ops listed) : ClosedL md ops (listed.setIfInBounds i true) := fun j oj hj hl e he hb => by
  obtain ⟨_, oi, hoi, hall⟩ := mem_ready.1 hi
  by_cases hij : i = j
  · subst hij
    have : oj = oi := Option.some.inj (hj.symm.trans hoi)
    subst this
    exact getD_set_true (hall e he hb)
  · rw [getD_set_ne false hij] at hl
    exact getD_set_true (h j oj hj hl e he hb)
theorem anc_listed {listed : Array Bool} (h : ClosedL md ops listed) {i : Nat} : ∀ (f j : Nat), ancB md ops f j i = true → listed.getD j false = true → listed.getD i false = true
  | 0, _, ha, _ => by simp [ancB] at ha
  | f + 1, j, ha, hl => by
    unfold ancB at ha
    split at ha
    · rename_i oj hoj
      obtain ⟨e, he, hb⟩ := Array.any_eq_true'.1 ha
      simp only [Bool.and_eq_true, Bool.or_eq_true, beq_iff_eq] at hb
      have h1 := h j oj hoj hl e he hb.1
      rcases hb.2 with h2 | h2
      · rw [← h2]; exact h1
      · exact anc_listed h f e.on h2 h1
    · cases ha
theorem anc_ready {listed : Array Bool} (h : ClosedL md ops listed) {i j : Nat} (f : Nat) (hj : j ∈ Region.ready md ops listed) (hi : listed.getD i true = false) : ancB md ops f j i = false := by
  cases f with
  | zero => rfl
  | succ f =>
    cases ha : ancB md ops (f + 1) j i with
    | false => rfl
    | true =>
      exfalso
      obtain ⟨_, oj, hoj, hall⟩ := mem_ready.1 hj
      unfold ancB at ha
      simp only [hoj] at ha
      obtain ⟨e, he, hb⟩ := Array.any_eq_true'.1 ha
      simp only [Bool.and_eq_true, Bool.or_eq_true, beq_iff_eq] at hb
      have h1 := hall e he hb.1
      have h2 := getD_both hi
      rcases hb.2 with h3 | h3
      · rw [h3, h2] at h1; cases h1
      · have := anc_listed h f e.on h3 h1
        rw [h2] at this; cases this
def wpE (P : Program) (md : Region.Mode) (ops : Array Oper) (Q : Exit → Act → World → Prop) : Nat → (World → Prop) → List Nat → Array Bool → Act → World → Prop
  | 0, _, _, listed, a, w => Region.ready md ops listed = [] ∧ Q .normal a w
  | fuel + 1, S, R, listed, a, w =>
    (Region.ready md ops listed = [] → Q .normal a w) ∧
    ∀ i ∈ Region.ready md ops listed, wpOp P ops Q i (fun a' w' => ∃ S' : World → Prop, (R.any (fun r => !ancB md ops ops.size i r) = true → ∀ x, S' x → S x) ∧ S' w' ∧
      wpE P md ops Q fuel S' (R.filter fun r => !ancB md ops ops.size i r) (listed.setIfInBounds i true) a' w') a w
theorem wpAny_of_E : ∀ (fuel : Nat) (S : World → Prop) (R : List Nat) (listed : Array Bool) (a : Act) (w : World), wpE P md ops Q fuel S R listed a w → wpAny P md ops Q fuel listed a w
  | 0, _, _, _, _, _, h => h
  | fuel + 1, _, _, _, _, _, h => ⟨h.1, fun i hi => wpOp_mono (fun a' w' ⟨_, _, _, h'⟩ => wpAny_of_E fuel _ _ _ a' w' h') (h.2 i hi)⟩
theorem any_filter_sub {R R' : List Nat} (hs : ∀ r ∈ R, r ∈ R') {p : Nat → Bool} (h : R.any p = true) : R'.any p = true := by
  obtain ⟨r, hr, hp⟩ := List.any_eq_true.1 h
  exact List.any_eq_true.2 ⟨r, hs r hr, hp⟩
theorem wpE_sub : ∀ (fuel : Nat) (S : World → Prop) (R R' : List Nat) (listed : Array Bool) (a : Act) (w : World), (∀ r ∈ R, r ∈ R') → wpE P md ops Q fuel S R' listed a w → wpE P md ops Q fuel S R listed a w
  | 0, _, _, _, _, _, _, _, h => h
  | fuel + 1, S, R, R', listed, a, w, hs, h => ⟨h.1, fun i hi => wpOp_mono (fun a' w' ⟨S', h1, h2, h3⟩ =>
      ⟨S', fun hany => h1 (any_filter_sub hs hany), h2, wpE_sub fuel S' _ _ _ a' w' (fun r hr => by
        simp only [List.mem_filter] at hr ⊢; exact ⟨hs r hr.1, hr.2⟩) h3⟩) (h.2 i hi)⟩
theorem wpE_first {i : Nat} {oi : Oper} {v : Value} (hi : ops[i]? = some oi) (hsel : ∀ (j : Nat) (o : Oper) cs b, ops[j]? = some o → o.op ≠ .select cs b)
    (hQ : ∀ c a w, Q (.panic c) (a.put oi.dst v) w → Q (.panic c) a w) :
    ∀ (fuel : Nat) (S : World → Prop) (R : List Nat) (listed : Array Bool) (a : Act) (w : World), ClosedL md ops listed →
      (∀ j oj, ops[j]? = some oj → j ≠ i → listed.getD j true = false → (∀ e ∈ oj.after, Region.binds md e = true → e.on ≠ i) → oi.apart ops oj = true) →
      i ∈ Region.ready md ops listed → YieldsIf P ops S oi v a → S w →
      wpE P md ops Q fuel S (i :: R) (listed.setIfInBounds i true) (a.put oi.dst v) w → wpE P md ops Q (fuel + 1) S R listed a w := by
  intro fuel
  induction fuel with
  | zero =>
    intro S R listed a w _ _ hr hy hS H
    refine ⟨fun h => (by rw [h] at hr; cases hr), fun j hj => ?_⟩
    by_cases hji : j = i
    · subst hji; exact hy.wpOp hi hS ⟨S, fun _ x hx => hx, hS, H⟩
    · have := ready_mono hj hji
      rw [H.1] at this
      cases this
  | succ fuel ih =>
    intro S R listed a w hcl hfree hr hy hS H
    refine ⟨fun h => (by rw [h] at hr; cases hr), fun j hj => ?_⟩
    by_cases hji : j = i
    · subst hji
      refine hy.wpOp hi hS ⟨S, fun _ x hx => hx, hS, wpE_sub _ _ _ _ _ _ _ (fun r hr => ?_) H⟩
      simp only [List.mem_filter] at hr
      exact List.mem_cons_of_mem _ hr.1
    · have h1 := H.2 j (ready_mono hj hji)
      obtain ⟨hjun, oj, hoj, hall⟩ := mem_ready.1 hj
      have hun := (mem_ready.1 hr).1
      have hanc : ancB md ops ops.size j i = false := anc_ready hcl ops.size hj hun
      have hnot : ∀ e ∈ oj.after, Region.binds md e = true → e.on ≠ i := fun e he hb heq => by
        have h1 := hall e he hb
        rw [heq, getD_both hun] at h1
        cases h1
      have h2 := wpOp_putIf hoj (hfree j oj hoj hji hjun hnot) (fun cs b => hsel i oi cs b hi) (fun cs b => hsel j oj cs b hoj) hQ hy h1
      have hfree' : ∀ k ok, ops[k]? = some ok → k ≠ i → (listed.setIfInBounds j true).getD k true = false →
          (∀ e ∈ ok.after, Region.binds md e = true → e.on ≠ i) → oi.apart ops ok = true := fun k ok hk hki hun' hno => by
        refine hfree k ok hk hki ?_ hno
        by_cases hjk : j = k
        · subst hjk; exact hjun
        · rw [getD_set_ne true hjk] at hun'; exact hun'
      refine wpOp_mono (fun a' w' h3 => ?_) h2
      obtain ⟨hy', S', h4, h5, h6⟩ := h3
      have hSS : ∀ x, S' x → S x := h4 (by simp [hanc])
      refine ⟨S', fun _ => hSS, h5, ?_⟩
      refine ih S' _ (listed.setIfInBounds j true) a' w' (hcl.set hj) hfree' (ready_mono hr (Ne.symm hji)) ?_ h5 ?_
      · rcases hy' with ⟨hw, hv⟩ | h
        · exact .inl ⟨hw, fun x hx => hv x (hSS x hx)⟩
        · exact .inr h
      · rw [Array.setIfInBounds_comm _ _ hji]
        have e : ((i :: R).filter fun r => !ancB md ops ops.size j r) = i :: (R.filter fun r => !ancB md ops ops.size j r) := by simp [hanc]
        rw [e] at h6
        exact h6
theorem wpE_firstU {i : Nat} {oi : Oper} {v : Value} (hi : ops[i]? = some oi) (hsel : ∀ (j : Nat) (o : Oper) cs b, ops[j]? = some o → o.op ≠ .select cs b)
    (hQ : ∀ c a w, Q (.panic c) (a.put oi.dst v) w → Q (.panic c) a w) :
    ∀ (fuel : Nat) (S : World → Prop) (R : List Nat) (listed : Array Bool) (a : Act) (w : World), ClosedL md ops listed →
      (∀ j oj, ops[j]? = some oj → j ≠ i → listed.getD j true = false → (∀ e ∈ oj.after, Region.binds md e = true → e.on ≠ i) → oi.apart ops oj = true) →
      i ∈ Region.ready md ops listed → YieldsIf P ops (fun _ => True) oi v a → S w →
      wpE P md ops Q fuel S R (listed.setIfInBounds i true) (a.put oi.dst v) w → wpE P md ops Q (fuel + 1) S R listed a w := by
  intro fuel
  induction fuel with
  | zero =>
    intro S R listed a w _ _ hr hy hS H
    refine ⟨fun h => (by rw [h] at hr; cases hr), fun j hj => ?_⟩
    by_cases hji : j = i
    · subst hji; exact hy.wpOp hi trivial ⟨S, fun _ x hx => hx, hS, H⟩
    · have := ready_mono hj hji
      rw [H.1] at this
      cases this
  | succ fuel ih =>
    intro S R listed a w hcl hfree hr hy hS H
    refine ⟨fun h => (by rw [h] at hr; cases hr), fun j hj => ?_⟩
    by_cases hji : j = i
    · subst hji
      refine hy.wpOp hi trivial ⟨S, fun _ x hx => hx, hS, wpE_sub _ _ _ _ _ _ _ (fun r hr => ?_) H⟩
      simp only [List.mem_filter] at hr
      exact hr.1
    · have h1 := H.2 j (ready_mono hj hji)
      obtain ⟨hjun, oj, hoj, hall⟩ := mem_ready.1 hj
      have hun := (mem_ready.1 hr).1
      have hnot : ∀ e ∈ oj.after, Region.binds md e = true → e.on ≠ i := fun e he hb heq => by
        have h1 := hall e he hb
        rw [heq, getD_both hun] at h1
        cases h1
      have h2 := wpOp_putIf hoj (hfree j oj hoj hji hjun hnot) (fun cs b => hsel i oi cs b hi) (fun cs b => hsel j oj cs b hoj) hQ hy h1
      have hfree' : ∀ k ok, ops[k]? = some ok → k ≠ i → (listed.setIfInBounds j true).getD k true = false →
          (∀ e ∈ ok.after, Region.binds md e = true → e.on ≠ i) → oi.apart ops ok = true := fun k ok hk hki hun' hno => by
        refine hfree k ok hk hki ?_ hno
        by_cases hjk : j = k
        · subst hjk; exact hjun
        · rw [getD_set_ne true hjk] at hun'; exact hun'
      refine wpOp_mono (fun a' w' h3 => ?_) h2
      obtain ⟨hy', S', h4, h5, h6⟩ := h3
      refine ⟨S', h4, h5, ?_⟩
      refine ih S' _ (listed.setIfInBounds j true) a' w' (hcl.set hj) hfree' (ready_mono hr (Ne.symm hji)) hy' h5 ?_
      rw [Array.setIfInBounds_comm _ _ hji]
      exact h6
def takeB (md : Region.Mode) (ops : Array Oper) (listed : Array Bool) (i : Nat) : Bool := Region.noSelect ops && Region.free md ops listed i && (Region.ready md ops listed).contains i
def GE (P : Program) (md : Region.Mode) (ops : Array Oper) (Q : Exit → Act → World → Prop) (fuel : Nat) (S : World → Prop) (R : List Nat) (listed : Array Bool) (a : Act) (w : World) : Prop :=
  ClosedL md ops listed → wpE P md ops Q fuel S R listed a w
theorem GE.take {i : Nat} {oi : Oper} {v : Value} {fuel : Nat} {S : World → Prop} {R : List Nat} {listed : Array Bool} {a : Act} {w : World} (hi : ops[i]? = some oi) (hB : takeB md ops listed i = true)
    (hQ : ∀ c a w, Q (.panic c) (a.put oi.dst v) w → Q (.panic c) a w) (hS : S w) (hy : YieldsIf P ops S oi v a)
    (h : GE P md ops Q fuel S (i :: R) (listed.setIfInBounds i true) (a.put oi.dst v) w) : GE P md ops Q (fuel + 1) S R listed a w := fun hcl => by
  simp only [takeB, Bool.and_eq_true] at hB
  have hr : i ∈ Region.ready md ops listed := by simpa using hB.2
  exact wpE_first hi (Region.noSelect_spec hB.1.1) hQ fuel S R listed a w hcl (Region.free_spec hi hB.1.2) hr hy hS (h (hcl.set hr))
theorem GE.univ {i : Nat} {oi : Oper} {v : Value} {fuel : Nat} {S : World → Prop} {R : List Nat} {listed : Array Bool} {a : Act} {w : World} (hi : ops[i]? = some oi) (hB : takeB md ops listed i = true)
    (hQ : ∀ c a w, Q (.panic c) (a.put oi.dst v) w → Q (.panic c) a w) (hS : S w) (hy : YieldsIf P ops (fun _ => True) oi v a)
    (h : GE P md ops Q fuel S R (listed.setIfInBounds i true) (a.put oi.dst v) w) : GE P md ops Q (fuel + 1) S R listed a w := fun hcl => by
  simp only [takeB, Bool.and_eq_true] at hB
  have hr : i ∈ Region.ready md ops listed := by simpa using hB.2
  exact wpE_firstU hi (Region.noSelect_spec hB.1.1) hQ fuel S R listed a w hcl (Region.free_spec hi hB.1.2) hr hy hS (h (hcl.set hr))
theorem GE.takeR {i : Nat} {oi : Oper} {v : Value} {fuel : Nat} {S : World → Prop} {R : List Nat} {listed : Array Bool} {a : Act} {w : World} (hi : ops[i]? = some oi) (hB : takeB md ops listed i = true)
    (hw : Region.wanted oi (yielded ops a.tmps) = true) (hQ : ∀ c a w, Q (.panic c) (a.put oi.dst v) w → Q (.panic c) a w) (hS : S w) (hy : ∀ x, S x → (execOp a.eval oi).run P x = .ok (.value v) x)
    (h : GE P md ops Q fuel S (i :: R) (listed.setIfInBounds i true) (a.put oi.dst v) w) : GE P md ops Q (fuel + 1) S R listed a w := GE.take hi hB hQ hS (.inl ⟨hw, hy⟩) h
theorem GE.univR {i : Nat} {oi : Oper} {v : Value} {fuel : Nat} {S : World → Prop} {R : List Nat} {listed : Array Bool} {a : Act} {w : World} (hi : ops[i]? = some oi) (hB : takeB md ops listed i = true)
    (hw : Region.wanted oi (yielded ops a.tmps) = true) (hQ : ∀ c a w, Q (.panic c) (a.put oi.dst v) w → Q (.panic c) a w) (hS : S w) (hy : ∀ x, (execOp a.eval oi).run P x = .ok (.value v) x)
    (h : GE P md ops Q fuel S R (listed.setIfInBounds i true) (a.put oi.dst v) w) : GE P md ops Q (fuel + 1) S R listed a w := GE.univ hi hB hQ hS (.inl ⟨hw, fun x _ => hy x⟩) h
theorem GE.skip {i : Nat} {oi : Oper} {fuel : Nat} {S : World → Prop} {R : List Nat} {listed : Array Bool} {a : Act} {w : World} (hi : ops[i]? = some oi) (hB : takeB md ops listed i = true)
    (hw : Region.wanted oi (yielded ops a.tmps) = false) (hQ : ∀ c a w, Q (.panic c) (a.put oi.dst undef) w → Q (.panic c) a w) (hS : S w)
    (h : GE P md ops Q fuel S R (listed.setIfInBounds i true) (a.put oi.dst undef) w) : GE P md ops Q (fuel + 1) S R listed a w := GE.univ hi hB hQ hS (.inr ⟨hw, rfl⟩) h
def QE (P : Program) (md : Region.Mode) (ops : Array Oper) (Q : Exit → Act → World → Prop) (fuel : Nat) (S : World → Prop) (R : List Nat) (listed : Array Bool) (i : Nat) : Exit → Act → World → Prop
  | .normal, a, w => ∃ S' : World → Prop, (R.any (fun r => !ancB md ops ops.size i r) = true → ∀ x, S' x → S x) ∧ S' w ∧ GE P md ops Q fuel S' (R.filter fun r => !ancB md ops ops.size i r) (listed.setIfInBounds i true) a w
  | e, a, w => Q e a w
theorem QE.keep {fuel : Nat} {S : World → Prop} {R : List Nat} {listed : Array Bool} {i : Nat} {a : Act} {w : World} (hS : S w)
    (h : Hid (S w) → GE P md ops Q fuel S (R.filter fun r => !ancB md ops ops.size i r) (listed.setIfInBounds i true) a w) : QE P md ops Q fuel S R listed i .normal a w := ⟨S, fun _ _ h => h, hS, h hS⟩
theorem QE.more {fuel : Nat} {S : World → Prop} {R : List Nat} {listed : Array Bool} {i : Nat} {a : Act} {w : World} (S' : World → Prop) (hSS : ∀ x, S' x → S x) (hS : S' w)
    (h : Hid (S' w) → GE P md ops Q fuel S' (R.filter fun r => !ancB md ops ops.size i r) (listed.setIfInBounds i true) a w) : QE P md ops Q fuel S R listed i .normal a w := ⟨S', fun _ => hSS, hS, h hS⟩
theorem QE.drop {fuel : Nat} {S : World → Prop} {R : List Nat} {listed : Array Bool} {i : Nat} {a : Act} {w : World} (S' : World → Prop) (hR : R.any (fun r => !ancB md ops ops.size i r) = false) (hS : S' w)
    (h : Hid (S' w) → GE P md ops Q fuel S' (R.filter fun r => !ancB md ops ops.size i r) (listed.setIfInBounds i true) a w) : QE P md ops Q fuel S R listed i .normal a w := ⟨S', fun e => absurd (hR.symm.trans e) (by decide), hS, h hS⟩
theorem Oper.wp_post {o : Oper} {a : Act} {w : World} {K : Act → World → Prop} {Q' : Exit → Act → World → Prop} (hp : ∀ c a w, Q (.panic c) a w → Q' (.panic c) a w) (hl : LetsOut Q → LetsOut Q')
    (hh : o.wp P a w K Q) : o.wp P a w K Q' := by
  unfold Oper.wp at *
  generalize (execOp a.eval o).run P w = r at *
  cases r with
  | ok n w' =>
    cases n <;> simp only [Oper.upon] at hh ⊢ <;>
      first
        | exact hh
        | exact Calls.mono hh (fun e w'' he => by cases e <;> first | exact he | exact hp _ _ _ he | exact hl he)
        | exact Rows.mono hh (fun _ _ he => he)
  | halt x w' => cases x <;> simp only [Oper.upon] at hh ⊢ <;> first | exact hp _ _ _ hh | exact hh
theorem GE.step {i : Nat} {o : Oper} {fuel : Nat} {S : World → Prop} {R : List Nat} {listed : Array Bool} {a : Act} {w : World} (hi : ops[i]? = some o) (hr : Region.ready md ops listed = [i])
    (h : wpList P ops (QE P md ops Q fuel S R listed i) [o] a w) : GE P md ops Q (fuel + 1) S R listed a w := fun hcl => by
  have hm : i ∈ Region.ready md ops listed := by rw [hr]; simp
  have hcl' := hcl.set hm
  have hlo : LetsOut (QE P md ops Q fuel S R listed i) → LetsOut Q := fun ⟨a, w, h⟩ => ⟨a, w, h⟩
  have hq : ∀ a' w', QE P md ops Q fuel S R listed i .normal a' w' → ∃ S' : World → Prop, (R.any (fun r => !ancB md ops ops.size i r) = true → ∀ x, S' x → S x) ∧ S' w' ∧
      wpE P md ops Q fuel S' (R.filter fun r => !ancB md ops ops.size i r) (listed.setIfInBounds i true) a' w' := fun a' w' ⟨S', h1, h2, h3⟩ => ⟨S', h1, h2, h3 hcl'⟩
  refine ⟨fun h0 => (by rw [h0] at hr; cases hr), fun j hj => ?_⟩
  rw [hr] at hj
  have hji : j = i := by simpa using hj
  subst hji
  unfold wpOp
  simp only [hi]
  unfold wpList at h
  split
  · rename_i hw
    simp only [hw, if_true] at h
    rcases h with h | ⟨h1, h2⟩
    · refine .inl (Oper.wp_mono (fun a' w' h' => hq a' w' h') (Oper.wp_post (fun _ _ _ h => h) hlo h))
    · exact .inr ⟨h1, hlo h2⟩
  · rename_i hw
    simp only [hw] at h
    exact hq _ _ h
theorem GE.stepL {l : List Nat} {fuel : Nat} {S : World → Prop} {R : List Nat} {listed : Array Bool} {a : Act} {w : World} (hr : Region.ready md ops listed = l) (h0 : l ≠ [])
    (h : ∀ i ∈ l, ∃ o, ops[i]? = some o ∧ wpList P ops (QE P md ops Q fuel S R listed i) [o] a w) : GE P md ops Q (fuel + 1) S R listed a w := fun hcl => by
  refine ⟨fun e => absurd (hr.symm.trans e) h0, fun i hj => ?_⟩
  have hm := hj
  rw [hr] at hj
  obtain ⟨o, hi, h⟩ := h i hj
  have hcl' := hcl.set hm
  have hlo : LetsOut (QE P md ops Q fuel S R listed i) → LetsOut Q := fun ⟨a, w, h⟩ => ⟨a, w, h⟩
  have hq : ∀ a' w', QE P md ops Q fuel S R listed i .normal a' w' → ∃ S' : World → Prop, (R.any (fun r => !ancB md ops ops.size i r) = true → ∀ x, S' x → S x) ∧ S' w' ∧
      wpE P md ops Q fuel S' (R.filter fun r => !ancB md ops ops.size i r) (listed.setIfInBounds i true) a' w' := fun a' w' ⟨S', h1, h2, h3⟩ => ⟨S', h1, h2, h3 hcl'⟩
  unfold wpOp
  simp only [hi]
  unfold wpList at h
  split
  · rename_i hw
    simp only [hw, if_true] at h
    rcases h with h | ⟨h1, h2⟩
    · refine .inl (Oper.wp_mono (fun a' w' h' => hq a' w' h') (Oper.wp_post (fun _ _ _ h => h) hlo h))
    · exact .inr ⟨h1, hlo h2⟩
  · rename_i hw
    simp only [hw] at h
    exact hq _ _ h
theorem GE.fork {i j : Nat} {oi oj : Oper} {fuel : Nat} {S : World → Prop} {R : List Nat} {listed : Array Bool} {a : Act} {w : World} (hi : ops[i]? = some oi) (hj : ops[j]? = some oj) (hr : Region.ready md ops listed = [i, j])
    (h1 : wpList P ops (QE P md ops Q fuel S R listed i) [oi] a w) (h2 : wpList P ops (QE P md ops Q fuel S R listed j) [oj] a w) : GE P md ops Q (fuel + 1) S R listed a w :=
  GE.stepL hr (by simp) (fun k hk => by
    simp only [List.mem_cons, List.not_mem_nil, or_false] at hk
    rcases hk with rfl | rfl
    · exact ⟨oi, hi, h1⟩
    · exact ⟨oj, hj, h2⟩)
theorem GE.done {fuel : Nat} {S : World → Prop} {R : List Nat} {listed : Array Bool} {a : Act} {w : World} (hr : Region.ready md ops listed = []) (h : Q .normal a w) : GE P md ops Q fuel S R listed a w := fun _ => by
  cases fuel with
  | zero => exact ⟨hr, h⟩
  | succ f => exact ⟨fun _ => h, by rw [hr]; simp⟩
theorem region_E {id : Nat} {a : Act} {w : World} (n : Nat) (S : World → Prop) (hm : P.follows .mixedOrders = true) (hn : ops.size = n) (hS : S w.drew)
    (h : Hid (S w.drew) → GE P .any ops Q n S [] (Array.replicate n false) a w.drew) : (Code.region id ops true).wp P Q a w := by
  subst hn
  exact wp_region_any hm (wpAny_of_E _ _ _ _ _ _ (h hS closed_start))
end
end Go.Proofs.Ytcghjnegaiiieaa
namespace Go.Proofs.Ytcghjnegaiiieaa
open Go Go.RowKit
def Steady {α : Type} (P : Program) (s : Sem α) : Prop := (∃ v, ∀ x, s.run P x = .ok v x) ∨ (∀ x, ∃ h x', s.run P x = .halt h x')
section
variable {P : Program} {α β : Type}
theorem Steady.pure (v : α) : Steady P (Pure.pure v : Sem α) := .inl ⟨v, fun _ => rfl⟩
theorem Steady.halt (h : Halt) : Steady P (.halt h : Sem α) := .inr fun x => ⟨h, x, rfl⟩
theorem Steady.stuck (s : String) : Steady P (stuck s : Sem α) := Steady.halt _
theorem Steady.unsup (s : Unsupported) : Steady P (unsupported s : Sem α) := Steady.halt _
theorem Steady.bind {s : Sem α} {f : α → Sem β} (h : Steady P s) (hf : ∀ v, Steady P (f v)) : Steady P (s >>= f) := by
  rcases h with ⟨v, h⟩ | h
  · rcases hf v with ⟨u, hu⟩ | hu
    · exact .inl ⟨u, fun x => by rw [Sem.run_bind, h x]; exact hu x⟩
    · exact .inr fun x => by rw [Sem.run_bind, h x]; exact hu x
  · refine .inr fun x => ?_
    obtain ⟨e, x', hx⟩ := h x
    exact ⟨e, x', by rw [Sem.run_bind, hx]; rfl⟩
theorem Steady.program : Steady P program := .inl ⟨P, fun _ => rfl⟩
theorem Steady.typeInfo (t : TypeId) : Steady P (typeInfo t) := by
  unfold Go.typeInfo
  exact Steady.program.bind fun p => by split <;> first | exact Steady.pure _ | exact Steady.stuck _
theorem Steady.underlying (t : TypeId) : Steady P (underlying t) := by
  unfold Go.underlying
  exact Steady.program.bind fun p => by split <;> first | exact Steady.pure _ | exact Steady.stuck _
theorem Steady.sizeOf (t : TypeId) : Steady P (sizeOf t) := (Steady.typeInfo t).bind fun _ => Steady.pure _
theorem Steady.zeroValue (t : TypeId) : Steady P (zeroValue t) := by
  unfold Go.zeroValue
  exact (Steady.typeInfo t).bind fun p => by split <;> first | exact Steady.pure _ | exact Steady.unsup _
theorem Steady.isAgg (t : TypeId) : Steady P (isAgg t) := by
  unfold Go.isAgg
  exact (Steady.underlying t).bind fun p => by split <;> exact Steady.pure _
def Dead (P : Program) (s : Sem α) : Prop := ∀ x, ∃ h x', s.run P x = .halt h x'
theorem Dead.steady {s : Sem α} (h : Dead P s) : Steady P s := .inr h
theorem Dead.after {s : Sem α} {f : α → Sem β} (hf : ∀ v, Dead P (f v)) : Dead P (s >>= f) := fun x => by
  rw [Sem.run_bind]
  cases h : s.run P x with
  | ok v w => exact hf v w
  | halt e w => exact ⟨e, w, rfl⟩
theorem dead_panic (v : Value) : Dead P (goPanic v : Sem α) := fun x => ⟨_, x, rfl⟩
theorem dead_runtimePanic (e : RuntimeError) : Dead P (runtimePanic e : Sem α) := by
  unfold runtimePanic
  refine Dead.after fun p => ?_
  cases e <;> dsimp only <;> first
    | exact dead_panic _
    | exact Dead.after fun _ => Dead.after fun _ => dead_panic _
theorem dead_bounds (k : IntKind) (x y : Int) (c : BoundsCode) : Dead P (boundsPanic k x y c : Sem α) := by
  unfold boundsPanic
  dsimp only
  split
  · exact Dead.after fun _ => dead_runtimePanic _
  · exact Dead.after fun _ => dead_runtimePanic _
theorem Steady.rp (e : RuntimeError) : Steady P (runtimePanic e : Sem α) := (dead_runtimePanic e).steady
theorem Steady.bp (k : IntKind) (x y : Int) (c : BoundsCode) : Steady P (boundsPanic k x y c : Sem α) := (dead_bounds k x y c).steady
theorem Steady.ite {c : Prop} [Decidable c] {s t : Sem α} (h : Steady P s) (h' : Steady P t) : Steady P (if c then s else t) := by split <;> assumption
theorem Steady.asIntOf (v : Value) : Steady P (Go.asIntOf v) := by
  unfold Go.asIntOf
  repeat' (first | assumption | exact Steady.pure _ | exact Steady.stuck _ | exact Steady.unsup _ | exact Steady.rp _ | exact Steady.bp _ _ _ _ | exact Steady.typeInfo _ | exact Steady.underlying _ | exact Steady.sizeOf _ | exact Steady.zeroValue _ | exact Steady.isAgg _ | refine Steady.bind ?_ (fun _ => ?_) | refine Steady.ite ?_ ?_ | split | (dsimp only))
theorem Steady.asBool (v : Value) : Steady P (Go.asBool v) := by
  unfold Go.asBool
  repeat' (first | assumption | exact Steady.pure _ | exact Steady.stuck _ | exact Steady.unsup _ | exact Steady.rp _ | exact Steady.bp _ _ _ _ | exact Steady.typeInfo _ | exact Steady.underlying _ | exact Steady.sizeOf _ | exact Steady.zeroValue _ | exact Steady.isAgg _ | exact Steady.asIntOf _ | refine Steady.bind ?_ (fun _ => ?_) | refine Steady.ite ?_ ?_ | split | (dsimp only))
theorem Steady.asAgg (v : Value) : Steady P (Go.asAgg v) := by
  unfold Go.asAgg
  repeat' (first | assumption | exact Steady.pure _ | exact Steady.stuck _ | exact Steady.unsup _ | exact Steady.rp _ | exact Steady.bp _ _ _ _ | exact Steady.typeInfo _ | exact Steady.underlying _ | exact Steady.sizeOf _ | exact Steady.zeroValue _ | exact Steady.isAgg _ | exact Steady.asIntOf _ | exact Steady.asBool _ | refine Steady.bind ?_ (fun _ => ?_) | refine Steady.ite ?_ ?_ | split | (dsimp only))
theorem Steady.asAddr (v : Value) : Steady P (Go.asAddr v) := by
  unfold Go.asAddr
  repeat' (first | assumption | exact Steady.pure _ | exact Steady.stuck _ | exact Steady.unsup _ | exact Steady.rp _ | exact Steady.bp _ _ _ _ | exact Steady.typeInfo _ | exact Steady.underlying _ | exact Steady.sizeOf _ | exact Steady.zeroValue _ | exact Steady.isAgg _ | exact Steady.asIntOf _ | exact Steady.asBool _ | exact Steady.asAgg _ | refine Steady.bind ?_ (fun _ => ?_) | refine Steady.ite ?_ ?_ | split | (dsimp only))
theorem Steady.sureAddr (v : Value) : Steady P (Instr.sureAddr v) := by
  unfold Instr.sureAddr
  repeat' (first | assumption | exact Steady.pure _ | exact Steady.stuck _ | exact Steady.unsup _ | exact Steady.rp _ | exact Steady.bp _ _ _ _ | exact Steady.typeInfo _ | exact Steady.underlying _ | exact Steady.sizeOf _ | exact Steady.zeroValue _ | exact Steady.isAgg _ | exact Steady.asIntOf _ | exact Steady.asBool _ | exact Steady.asAgg _ | exact Steady.asAddr _ | refine Steady.bind ?_ (fun _ => ?_) | refine Steady.ite ?_ ?_ | split | (dsimp only))
theorem Steady.part (t : TypeId) (cs : Array Value) (off : Nat) : Steady P (Go.part t cs off) := by
  unfold Go.part
  repeat' (first | assumption | exact Steady.pure _ | exact Steady.stuck _ | exact Steady.unsup _ | exact Steady.rp _ | exact Steady.bp _ _ _ _ | exact Steady.typeInfo _ | exact Steady.underlying _ | exact Steady.sizeOf _ | exact Steady.zeroValue _ | exact Steady.isAgg _ | exact Steady.asIntOf _ | exact Steady.asBool _ | exact Steady.asAgg _ | exact Steady.asAddr _ | exact Steady.sureAddr _ | refine Steady.bind ?_ (fun _ => ?_) | refine Steady.ite ?_ ?_ | split | (dsimp only))
theorem Steady.index (t : TypeId) (x i : Value) : Steady P (Instr.index t x i) := by
  unfold Instr.index
  repeat' (first | assumption | exact Steady.pure _ | exact Steady.stuck _ | exact Steady.unsup _ | exact Steady.rp _ | exact Steady.bp _ _ _ _ | exact Steady.typeInfo _ | exact Steady.underlying _ | exact Steady.sizeOf _ | exact Steady.zeroValue _ | exact Steady.isAgg _ | exact Steady.asIntOf _ | exact Steady.asBool _ | exact Steady.asAgg _ | exact Steady.asAddr _ | exact Steady.sureAddr _ | exact Steady.part _ _ _ | refine Steady.bind ?_ (fun _ => ?_) | refine Steady.ite ?_ ?_ | split | (dsimp only))
theorem Steady.field (t : TypeId) (x : Value) (f : Nat) : Steady P (Instr.field t x f) := by
  unfold Instr.field
  repeat' (first | assumption | exact Steady.pure _ | exact Steady.stuck _ | exact Steady.unsup _ | exact Steady.rp _ | exact Steady.bp _ _ _ _ | exact Steady.typeInfo _ | exact Steady.underlying _ | exact Steady.sizeOf _ | exact Steady.zeroValue _ | exact Steady.isAgg _ | exact Steady.asIntOf _ | exact Steady.asBool _ | exact Steady.asAgg _ | exact Steady.asAddr _ | exact Steady.sureAddr _ | exact Steady.part _ _ _ | refine Steady.bind ?_ (fun _ => ?_) | refine Steady.ite ?_ ?_ | split | (dsimp only))
theorem Steady.indexAt (t : TypeId) (x i : Value) : Steady P (Instr.indexAt t x i) := by
  unfold Instr.indexAt
  repeat' (first | assumption | exact Steady.pure _ | exact Steady.stuck _ | exact Steady.unsup _ | exact Steady.rp _ | exact Steady.bp _ _ _ _ | exact Steady.typeInfo _ | exact Steady.underlying _ | exact Steady.sizeOf _ | exact Steady.zeroValue _ | exact Steady.isAgg _ | exact Steady.asIntOf _ | exact Steady.asBool _ | exact Steady.asAgg _ | exact Steady.asAddr _ | exact Steady.sureAddr _ | refine Steady.bind ?_ (fun _ => ?_) | refine Steady.ite ?_ ?_ | split | (dsimp only))
theorem Steady.sliceBound (x : Value) (y : Nat) (c : BoundsCode) : Steady P (Instr.sliceBound x y c) := by
  unfold Instr.sliceBound
  repeat' (first | assumption | exact Steady.pure _ | exact Steady.stuck _ | exact Steady.unsup _ | exact Steady.rp _ | exact Steady.bp _ _ _ _ | exact Steady.typeInfo _ | exact Steady.underlying _ | exact Steady.sizeOf _ | exact Steady.zeroValue _ | exact Steady.isAgg _ | exact Steady.asIntOf _ | exact Steady.asBool _ | exact Steady.asAgg _ | exact Steady.asAddr _ | exact Steady.sureAddr _ | refine Steady.bind ?_ (fun _ => ?_) | refine Steady.ite ?_ ?_ | split | (dsimp only))
theorem Steady.sliceBounds (b : Bool) (l c : Nat) (x y z : Option Value) : Steady P (Instr.sliceBounds b l c x y z) := by
  unfold Instr.sliceBounds
  repeat' (first | assumption | exact Steady.pure _ | exact Steady.stuck _ | exact Steady.unsup _ | exact Steady.rp _ | exact Steady.bp _ _ _ _ | exact Steady.typeInfo _ | exact Steady.underlying _ | exact Steady.sizeOf _ | exact Steady.zeroValue _ | exact Steady.isAgg _ | exact Steady.asIntOf _ | exact Steady.asBool _ | exact Steady.asAgg _ | exact Steady.asAddr _ | exact Steady.sureAddr _ | exact Steady.sliceBound _ _ _ | refine Steady.bind ?_ (fun _ => ?_) | refine Steady.ite ?_ ?_ | split | (dsimp only))
theorem Steady.slice (t : TypeId) (x : Value) (l h m : Option Value) : Steady P (Instr.slice t x l h m) := by
  unfold Instr.slice
  repeat' (first | assumption | exact Steady.pure _ | exact Steady.stuck _ | exact Steady.unsup _ | exact Steady.rp _ | exact Steady.bp _ _ _ _ | exact Steady.typeInfo _ | exact Steady.underlying _ | exact Steady.sizeOf _ | exact Steady.zeroValue _ | exact Steady.isAgg _ | exact Steady.asIntOf _ | exact Steady.asBool _ | exact Steady.asAgg _ | exact Steady.asAddr _ | exact Steady.sureAddr _ | exact Steady.sliceBounds _ _ _ _ _ _ | refine Steady.bind ?_ (fun _ => ?_) | refine Steady.ite ?_ ?_ | split | (dsimp only))
theorem Steady.sliceAt (t : TypeId) (x : Value) (l h m : Option Value) : Steady P (Instr.sliceAt t x l h m) := by
  unfold Instr.sliceAt
  repeat' (first | assumption | exact Steady.pure _ | exact Steady.stuck _ | exact Steady.unsup _ | exact Steady.rp _ | exact Steady.bp _ _ _ _ | exact Steady.typeInfo _ | exact Steady.underlying _ | exact Steady.sizeOf _ | exact Steady.zeroValue _ | exact Steady.isAgg _ | exact Steady.asIntOf _ | exact Steady.asBool _ | exact Steady.asAgg _ | exact Steady.asAddr _ | exact Steady.sureAddr _ | exact Steady.sliceBounds _ _ _ _ _ _ | exact Steady.slice _ _ _ _ _ | refine Steady.bind ?_ (fun _ => ?_) | refine Steady.ite ?_ ?_ | split | (dsimp only))
theorem Steady.extract (x : Value) (i : Nat) : Steady P (Instr.extract x i) := by
  unfold Instr.extract
  repeat' (first | assumption | exact Steady.pure _ | exact Steady.stuck _ | exact Steady.unsup _ | exact Steady.rp _ | exact Steady.bp _ _ _ _ | exact Steady.typeInfo _ | exact Steady.underlying _ | exact Steady.sizeOf _ | exact Steady.zeroValue _ | exact Steady.isAgg _ | exact Steady.asIntOf _ | exact Steady.asBool _ | exact Steady.asAgg _ | exact Steady.asAddr _ | exact Steady.sureAddr _ | refine Steady.bind ?_ (fun _ => ?_) | refine Steady.ite ?_ ?_ | split | (dsimp only))
theorem Steady.makeInterface (t : TypeId) (x : Value) : Steady P (Instr.makeInterface t x) := by
  unfold Instr.makeInterface
  repeat' (first | assumption | exact Steady.pure _ | exact Steady.stuck _ | exact Steady.unsup _ | exact Steady.rp _ | exact Steady.bp _ _ _ _ | exact Steady.typeInfo _ | exact Steady.underlying _ | exact Steady.sizeOf _ | exact Steady.zeroValue _ | exact Steady.isAgg _ | exact Steady.asIntOf _ | exact Steady.asBool _ | exact Steady.asAgg _ | exact Steady.asAddr _ | exact Steady.sureAddr _ | refine Steady.bind ?_ (fun _ => ?_) | refine Steady.ite ?_ ?_ | split | (dsimp only))
theorem Steady.mapM {f : α → Sem β} (hf : ∀ a, Steady P (f a)) (xs : Array α) : Steady P (xs.mapM f) := by
  rw [Array.mapM_eq_mapM_toList]
  refine Steady.bind ?_ fun _ => Steady.pure _
  generalize xs.toList = l
  induction l with
  | nil => rw [List.mapM_nil]; exact Steady.pure _
  | cons a l ih => rw [List.mapM_cons]; exact (hf a).bind fun _ => ih.bind fun _ => Steady.pure _
theorem Steady.places (fs : Array Field) : Steady P (fs.mapM (fun f => Go.sizeOf f.type >>= fun n => (Pure.pure (f.offset, n) : Sem (Nat × Nat)))) := Steady.mapM (fun f => (Steady.sizeOf _).bind fun _ => Steady.pure _) _
theorem Steady.build (t : TypeId) (ps : Array (Nat × Value)) : Steady P (Instr.build t ps) := by
  unfold Instr.build
  repeat' (first | assumption | exact Steady.pure _ | exact Steady.stuck _ | exact Steady.unsup _ | exact Steady.rp _ | exact Steady.bp _ _ _ _ | exact Steady.typeInfo _ | exact Steady.underlying _ | exact Steady.sizeOf _ | exact Steady.zeroValue _ | exact Steady.isAgg _ | exact Steady.asIntOf _ | exact Steady.asBool _ | exact Steady.asAgg _ | exact Steady.asAddr _ | exact Steady.sureAddr _ | exact Steady.places _ | refine Steady.bind ?_ (fun _ => ?_) | refine Steady.ite ?_ ?_ | split | (dsimp only))
def okV : Value → Bool
  | .int .. | .bool _ | .string _ | .slice .. | .pointer none | .map none | .tuple _ | .nilFunc => true
  | _ => false
theorem Steady.unary (op : UnOp) (x : Value) : Steady P (Op.unary op x) := by
  unfold Op.unary
  split <;> first
    | exact Steady.pure _
    | exact Steady.stuck _
    | exact Steady.unsup _
    | (unfold Op.intArith; exact Steady.pure _)
    | (unfold Op.intBits; exact Steady.pure _)
theorem Steady.equalIn (d : Nat) (t : TypeId) (x y : Value) (hx : okV x = true) (hy : okV y = true) : Steady P (Op.equalIn d t x y) := by
  cases d with
  | zero => unfold Op.equalIn; exact Steady.unsup _
  | succ d =>
    unfold Op.equalIn
    refine (Steady.underlying t).bind fun u => ?_
    split <;> first
      | exact Steady.pure _
      | exact Steady.stuck _
      | exact Steady.unsup _
      | exact Steady.ite (Steady.pure _) (Steady.stuck _)
      | (simp [okV] at hx; done)
      | (simp [okV] at hy; done)
      | (rename_i a b; cases a <;> cases b <;> first | (simp [okV] at hx; done) | (simp [okV] at hy; done) | (unfold samePointer; exact Steady.pure _))
theorem Steady.equal (t : TypeId) (x y : Value) (hx : okV x = true) (hy : okV y = true) : Steady P (Op.equal t x y) := Steady.equalIn _ _ _ _ hx hy
theorem Steady.intOps (op : BinOp) (k : IntKind) (a b : Int) : Steady P (Op.intArith op k a b) ∧ Steady P (Op.intDiv op k a b) ∧ Steady P (Op.intBits op k a b) ∧ Steady P (Op.intCmp op a b) := by
  refine ⟨?_, ?_, ?_, ?_⟩
  · unfold Op.intArith; split <;> first | exact Steady.pure _ | exact Steady.stuck _
  · unfold Op.intDiv; refine Steady.ite (Steady.rp _) ?_; split <;> first | exact Steady.pure _ | exact Steady.stuck _
  · unfold Op.intBits; dsimp only; split <;> first | exact Steady.pure _ | exact Steady.stuck _
  · unfold Op.intCmp; split <;> first | exact Steady.pure _ | exact Steady.stuck _
theorem Steady.shift (op : BinOp) (k yk : IntKind) (a b : Int) : Steady P (Op.shift op k a yk b) := by
  unfold Op.shift
  refine Steady.ite (Steady.rp _) ?_
  dsimp only
  split <;> first | exact Steady.pure _ | exact Steady.stuck _
theorem Steady.stringOp (op : BinOp) (a b : ByteArray) : Steady P (Op.stringOp op a b) := by
  unfold Op.stringOp
  dsimp only
  split <;> first | exact Steady.pure _ | exact Steady.stuck _ | exact Steady.ite (Steady.unsup _) (Steady.pure _)
theorem Steady.ints (op : BinOp) (t : TypeId) (k k' : IntKind) (a b : Int) : Steady P (Go.binOp op t (.int k a) (.int k' b)) := by
  by_cases h : k = k'
  · subst h
    cases op <;> simp only [Go.binOp, ne_eq, not_true_eq_false, if_false] <;> first
      | exact Steady.shift _ _ _ _ _
      | exact (Steady.intOps _ _ _ _).1
      | exact (Steady.intOps _ _ _ _).2.1
      | exact (Steady.intOps _ _ _ _).2.2.1
      | exact (Steady.intOps _ .i64 _ _).2.2.2
  · cases op <;> simp only [Go.binOp, ne_eq, h, not_false_eq_true, if_true] <;> first
      | exact Steady.shift _ _ _ _ _
      | exact Steady.stuck _
def okB (op : BinOp) (x y : Value) : Bool := okV x && okV y && (match op with | .eql | .neq => true | _ => (match x with | .pointer _ => false | _ => true) && (match y with | .pointer _ => false | _ => true))
theorem Steady.binOp (op : BinOp) (t : TypeId) (x y : Value) (h : okB op x y = true) : Steady P (Go.binOp op t x y) := by
  simp only [okB, Bool.and_eq_true] at h
  obtain ⟨⟨hx, hy⟩, hp⟩ := h
  by_cases hi : ∃ k a k' b, x = .int k a ∧ y = .int k' b
  · obtain ⟨k, a, k', b, rfl, rfl⟩ := hi
    exact Steady.ints _ _ _ _ _ _
  unfold Go.binOp
  split <;> first
    | exact absurd ⟨_, _, _, _, rfl, rfl⟩ hi
    | exact Steady.stringOp _ _ _
    | exact (Steady.equal _ _ _ hx hy).bind fun _ => Steady.pure _
    | exact Steady.stuck _
    | exact Steady.unsup _
    | (simp [okV] at hx; done)
    | (simp [okV] at hy; done)
    | (simp at hp; done)
theorem Steady.eqGuard (op : BinOp) (t : TypeId) (x y : Operand) (a b : Value) (ha : okV a = true) : Steady P (eqGuard op t x y a b) := by
  unfold Go.eqGuard
  refine Steady.ite (Steady.pure _) ?_
  split <;> first
    | exact Steady.pure _
    | (simp [okV] at ha; done)
theorem Steady.known {s : Sem α} {f : α → Sem β} {v : α} (h : ∀ x, s.run P x = .ok v x) (hf : Steady P (f v)) : Steady P (s >>= f) := by
  rcases hf with ⟨u, hu⟩ | hu
  · exact .inl ⟨u, fun x => by rw [Sem.run_bind, h x]; exact hu x⟩
  · exact .inr fun x => by rw [Sem.run_bind, h x]; exact hu x
theorem Steady.convert (s t : TypeId) (k k' : IntKind) (n : Int) (ht : P.underlying t = some (.int k')) : Steady P (Go.convert s t (.int k n)) := by
  unfold Go.convert
  refine (Steady.underlying s).bind fun a => Steady.known (fun x => run_underlying ht x) ?_
  split <;> first
    | (unfold Conv.intToInt; exact Steady.pure _)
    | (rename_i h; cases h; done)
    | exact Steady.unsup _
    | (rename_i h _; cases h; done)
    | (rename_i h _ _; cases h; done)
theorem Steady.fieldAt (s : TypeId) (x : Value) (f : Nat) (fs : Array Field) (fd : Field) (i : TypeInfo) (hs : P.underlying s = some (.struct fs)) (hf : fs[f]? = some fd) (hi : P.info? fd.type = some i) (h0 : i.size ≠ 0) : Steady P (Instr.fieldAt s x f) := by
  unfold Instr.fieldAt
  refine Steady.known (fun x => run_underlying hs x) ?_
  dsimp only
  rw [hf]
  refine (Steady.sureAddr x).bind fun a => Steady.bind ?_ fun _ => Steady.pure _
  unfold fieldPlace
  refine Steady.known (v := i.size) (fun x => by rw [Go.sizeOf, Sem.run_bind, Go.typeInfo, Sem.run_bind]; show Result.andThen (Result.andThen (Result.ok P x) _) _ = _; simp only [Result.andThen_ok, hi]; rfl) ?_
  rw [if_neg h0]
  exact Steady.pure _
theorem Steady.lenOf (t : TypeId) (ty : TypeId) (x : Value) (h : okV x = true) : Steady P (Builtin.len_ #[t] ty #[x]) := by
  have hm : ∀ r, x ≠ .map (some r) := by rintro r rfl; simp [okV] at h
  have hc : ∀ r, x ≠ .chan r := by rintro r rfl; simp [okV] at h
  unfold Builtin.len_
  refine (Steady.underlying t).bind fun d => ?_
  split <;> first
    | exact Steady.pure _
    | exact Steady.stuck _
    | (exfalso; simp_all [okV]; done)
    | (refine (Steady.underlying _).bind fun _ => ?_; split <;> first | exact Steady.pure _ | exact Steady.stuck _)
theorem Steady.max2 (x y : Value) (hx : okV x = true) : Steady P (Builtin.max2 x y) := by
  unfold Builtin.max2
  split <;> first
    | exact Steady.pure _
    | exact Steady.stuck _
    | exact Steady.unsup _
    | (simp [okV] at hx; done)
    | (refine ((Steady.stringOp _ _ _).bind fun _ => Steady.asBool _).bind fun _ => Steady.pure _)
theorem Steady.min2 (x y : Value) (hx : okV x = true) : Steady P (Builtin.min2 x y) := by
  unfold Builtin.min2
  split <;> first
    | exact Steady.pure _
    | exact Steady.stuck _
    | exact Steady.unsup _
    | (simp [okV] at hx; done)
    | (refine ((Steady.stringOp _ _ _).bind fun _ => Steady.asBool _).bind fun _ => Steady.pure _)
def chk (o : Oper) (ρ : Operand → Value) : Bool :=
  match o.op with
  | .binOp op _ x y _ => okB op (ρ x) (ρ y)
  | .convert _ _ x => match ρ x with | .int .. => true | _ => false
  | .call { callee := .builtin _, args, .. } => args.all fun x => okV (ρ x)
  | .nilCheck x => match ρ x with | .func .. => false | _ => true
  | _ => true
def chkTmps (o : Oper) : List Tmp :=
  match o.op with
  | .binOp .. | .convert .. | .call _ | .nilCheck _ => o.op.operands.toList.filterMap fun | .tmp t => some t | _ => none
  | _ => []
def kindV (P : Program) (o : Oper) : Bool :=
  match o.op with
  | .move _ | .assign _ | .pick .. | .unOp .. | .binOp .. | .build .. | .field .. | .extract .. | .index .. | .indexAddr .. | .slice .. | .makeInterface .. | .makeFunc .. => true
  | .convert _ t _ => match P.underlying t with | some (.int _) => true | _ => false
  | .fieldAddr s _ f => match P.underlying s with
    | some (.struct fs) => match fs[f]? with
      | some fd => match P.info? fd.type with
        | some i => i.size != 0
        | none => false
      | none => false
    | _ => false
  | .nilCheck x => true
  | .call { callee := .builtin .len, args, argTypes } => args.size == 1 && argTypes.size == 1
  | .call { callee := .builtin .max, args, .. } | .call { callee := .builtin .min, args, .. } => args.size == 2
  | _ => false
def SteadyV (P : Program) (n : Sem Next) : Prop := (∃ v, ∀ x, n.run P x = .ok (.value v) x) ∨ (∀ x, ∃ h x', n.run P x = .halt h x')
theorem Steady.v {s : Sem Value} (h : Steady P s) : SteadyV P (do Pure.pure (Next.value (← s))) := by
  rcases h with ⟨v, h⟩ | h
  · exact .inl ⟨v, fun x => by rw [Sem.run_bind, h x]; rfl⟩
  · refine .inr fun x => ?_
    obtain ⟨e, x', hx⟩ := h x
    exact ⟨e, x', by rw [Sem.run_bind, hx]; rfl⟩
theorem Steady.consider {s : Sem Unit} {f : Sem Value} (h : Steady P s) (hf : Steady P f) : Steady P (do s; f) := h.bind fun _ => hf
theorem SteadyV.congr {s t : Sem Next} (h : SteadyV P t) (e : ∀ w, s.run P w = t.run P w) : SteadyV P s := by
  rcases h with ⟨v, h⟩ | h
  · exact .inl ⟨v, fun x => (e x).trans (h x)⟩
  · refine .inr fun x => ?_
    obtain ⟨a, x', hx⟩ := h x
    exact ⟨a, x', (e x).trans hx⟩
theorem kindV_steady {o : Oper} {ρ : Operand → Value} (hk : kindV P o = true) (hc : chk o ρ = true) : SteadyV P (execOp ρ o) := by
  obtain ⟨dst, op, ty, pos, aft, gd⟩ := o
  cases op <;> dsimp only [kindV, chk] at hk hc <;> first
    | (cases hk; done)
    | skip
  case move => exact (Steady.pure _).v
  case assign => exact (Steady.pure _).v
  case pick c x y =>
    rcases Steady.asBool (P := P) (ρ c) with ⟨b, h⟩ | h
    · exact .inl ⟨_, fun w => by show Sem.run P (asBool (ρ c) >>= fun b => Pure.pure (Next.value (if b = true then ρ x else ρ y))) w = _; rw [Sem.run_bind, h w]; rfl⟩
    · refine .inr fun w => ?_
      obtain ⟨e, w', hw⟩ := h w
      exact ⟨e, w', by show Sem.run P (asBool (ρ c) >>= fun b => Pure.pure (Next.value (if b = true then ρ x else ρ y))) w = _; rw [Sem.run_bind, hw]; rfl⟩
  case build => exact (Steady.build _ _).v
  case nilCheck x =>
    have hd : SteadyV P (runtimePanic .nilDeref : Sem Next) := .inr (dead_runtimePanic (P := P) (α := Next) .nilDeref)
    unfold execOp
    dsimp only
    generalize ρ x = v at hc ⊢
    split at hc
    · cases hc
    · split <;> first
        | exact hd
        | exact (Steady.pure _).v
        | (rename_i h; exact absurd rfl (h _ _ _))
  case binOp => exact (Steady.consider (Steady.eqGuard _ _ _ _ _ _ (by simp only [okB, Bool.and_eq_true] at hc; exact hc.1.1)) (Steady.binOp _ _ _ _ hc)).v
  case unOp => exact (Steady.unary _ _).v
  case convert =>
    split at hk
    · rename_i h
      split at hc
      · rename_i h2
        unfold execOp
        dsimp only
        rw [h2]
        exact (Steady.convert _ _ _ _ _ h).v
      · cases hc
    · cases hk
  case makeInterface => exact (Steady.makeInterface _ _).v
  case makeFunc => exact (Steady.pure _).v
  case slice => exact (Steady.sliceAt _ _ _ _ _).v
  case fieldAddr =>
    split at hk
    · rename_i h1
      split at hk
      · rename_i h2
        split at hk
        · rename_i h3
          exact (Steady.fieldAt _ _ _ _ _ _ h1 h2 h3 (by simpa using hk)).v
        · cases hk
      · cases hk
    · cases hk
  case field => exact (Steady.field _ _ _).v
  case indexAddr => exact (Steady.indexAt _ _ _).v
  case index => exact (Steady.index _ _ _).v
  case extract => exact (Steady.extract _ _).v
  case call c =>
    obtain ⟨callee, args, ats⟩ := c
    cases callee with
    | value f => cases hk
    | invoke r m => cases hk
    | builtin b =>
      cases b <;> dsimp only at hk hc <;> first
        | (cases hk; done)
        | skip
      case len =>
        simp only [Bool.and_eq_true, beq_iff_eq] at hk
        obtain ⟨x, rfl⟩ : ∃ x, args = #[x] := Array.size_eq_one_iff.1 hk.1
        obtain ⟨t, rfl⟩ : ∃ x, ats = #[x] := Array.size_eq_one_iff.1 hk.2
        exact (Steady.lenOf t ty (ρ x) (by simpa using hc)).v.congr (fun w => by simp only [execOp, resolve, invoke, builtin, Sem.run_bind, Sem.run_pure, Result.andThen_ok, List.map_toArray, List.map_cons, List.map_nil])
      case max =>
        obtain ⟨x, y, rfl⟩ : ∃ x y, args = #[x, y] := by
          have h2 : args.size = 2 := by simpa using hk
          match args, h2 with
          | ⟨[x, y]⟩, _ => exact ⟨x, y, rfl⟩
        simp at hc
        refine (Steady.v (s := Builtin.max_ ats ty #[ρ x, ρ y]) ?_).congr (fun w => by simp only [execOp, resolve, invoke, builtin, Sem.run_bind, Sem.run_pure, Result.andThen_ok, List.map_toArray, List.map_cons, List.map_nil])
        show Steady P ([ρ y].foldlM Builtin.max2 (ρ x))
        rw [List.foldlM_cons]
        exact (Steady.max2 _ _ hc.1).bind fun _ => Steady.pure _
      case min =>
        obtain ⟨x, y, rfl⟩ : ∃ x y, args = #[x, y] := by
          have h2 : args.size = 2 := by simpa using hk
          match args, h2 with
          | ⟨[x, y]⟩, _ => exact ⟨x, y, rfl⟩
        simp at hc
        refine (Steady.v (s := Builtin.min_ ats ty #[ρ x, ρ y]) ?_).congr (fun w => by simp only [execOp, resolve, invoke, builtin, Sem.run_bind, Sem.run_pure, Result.andThen_ok, List.map_toArray, List.map_cons, List.map_nil])
        show Steady P ([ρ y].foldlM Builtin.min2 (ρ x))
        rw [List.foldlM_cons]
        exact (Steady.min2 _ _ hc.1).bind fun _ => Steady.pure _
end
end Go.Proofs.Ytcghjnegaiiieaa
namespace Go.Proofs.Ytcghjnegaiiieaa
open Go Go.RowKit
section
variable {P : Program}
theorem Kept.cell_old {w x : World} (h : Kept Nob w x) {a : Addr} {v : Value} (hc : w.cell? a = some v) : x.cell? a = some v := h.at hc (fun h => h)
theorem seen_old {w x : World} (h : Kept Nob w x) (p : Program) (at_ : Addr) (u : TypeId) (k : Addr) (b : Bool) (r) (hr : w.seen p at_ u k b = .ok r) : x.seen p at_ u k b = .ok r := by
  by_cases hlt : at_.block < w.heap.size
  · unfold World.seen at hr ⊢
    rw [h.block _ hlt (fun h => h)]
    exact hr
  · exfalso
    unfold World.seen at hr
    rw [Array.getElem?_eq_none (by omega)] at hr
    revert hr
    simp only [bind, Except.bind, pure, Except.pure, throw, throwThe, MonadExceptOf.throw]
    intro hr
    split at hr <;> (try cases hr)
    all_goals (repeat' (split at hr <;> (try cases hr)))
theorem far_old {w x : World} (h : Kept Nob w x) (p : Program) (a : Addr) (b : Bool) (r) (hr : w.farLoad p a b = .ok r) : x.farLoad p a b = .ok r := by
  unfold World.farLoad at hr ⊢
  by_cases hlt : a.block < w.heap.size
  · rw [h.block _ hlt (fun h => h)]
    generalize w.heap[a.block]? = o at hr ⊢
    cases o with
    | none => cases hr
    | some o =>
      cases o <;> first
        | (cases hr; done)
        | skip
      case view at_ u =>
        dsimp only at hr ⊢
        have key : ∀ q, w.viewLoad p at_ u a b = .ok q → x.viewLoad p at_ u a b = .ok q := fun q hq => by
          unfold World.viewLoad at hq ⊢
          cases hs : w.seen p at_ u a b with
          | error s => rw [hs] at hq; cases hq
          | ok q => rw [hs] at hq; rw [seen_old h p at_ u a b q hs]; exact hq
        cases hv : w.viewLoad p at_ u a b with
        | error e => rw [hv] at hr; cases hr
        | ok q => rw [hv] at hr; rw [key q hv]; exact hr
  · rw [Array.getElem?_eq_none (by omega)] at hr
    cases hr
def ReadsAt {α : Type} (P : Program) (w : World) (s : Sem α) : Prop := ∀ v w', s.run P w = .ok v w' → w' = w ∧ ∀ x, Kept Nob w x → s.run P x = .ok v x
theorem ReadsAt.of_steady {α : Type} {w : World} {s : Sem α} (h : Steady P s) : ReadsAt P w s := fun v w' hr => by
  rcases h with ⟨u, h⟩ | h
  · rw [h w] at hr; cases hr; exact ⟨rfl, fun x _ => h x⟩
  · obtain ⟨e, x, hx⟩ := h w
    rw [hx] at hr; cases hr
theorem ReadsAt.bind {α β : Type} {w : World} {s : Sem α} {f : α → Sem β} (h : ReadsAt P w s) (hf : ∀ v, ReadsAt P w (f v)) : ReadsAt P w (s >>= f) := fun v w' hr => by
  rw [Sem.run_bind] at hr
  cases hs : s.run P w with
  | halt e x => rw [hs] at hr; cases hr
  | ok u w1 =>
    rw [hs] at hr
    obtain ⟨rfl, h2⟩ := h u w1 hs
    obtain ⟨rfl, h3⟩ := hf u v w' hr
    exact ⟨rfl, fun x hx => by rw [Sem.run_bind, h2 x hx]; exact h3 x hx⟩
theorem reads_load (w : World) (a : Addr) : ReadsAt P w (load a) := fun v w' hr => by
  unfold load at hr ⊢
  simp only [Sem.run] at hr ⊢
  cases hc : w.cell? a with
  | some u =>
    rw [hc] at hr
    cases hr
    exact ⟨rfl, fun x hx => by rw [hx.cell_old hc]⟩
  | none =>
    rw [hc] at hr
    dsimp only at hr
    cases hf : w.farLoad P a (Mode.plain == .atomic) with
    | error e => rw [hf] at hr; cases hr
    | ok q =>
      rw [hf] at hr
      obtain ⟨q1, q2⟩ := q
      cases hr
      refine ⟨rfl, fun x hx => ?_⟩
      have hb : a.block < w.heap.size := by
        rcases Nat.lt_or_ge a.block w.heap.size with h | h
        · exact h
        · exfalso
          unfold World.farLoad at hf
          rw [Array.getElem?_eq_none h] at hf
          cases hf
      have hn : x.cell? a = none := by
        have e : x.heap[a.block]? = w.heap[a.block]? := hx.block _ hb (fun h => h)
        unfold World.cell? at hc ⊢
        rw [e]
        exact hc
      rw [hn]
      dsimp only
      rw [far_old hx P a _ _ hf]
theorem reads_cells (w : World) (a : Addr) : ∀ (n i : Nat) (acc : Array Value), ReadsAt P w (loadCellsFrom a i n acc)
  | 0, _, _ => ReadsAt.of_steady (Steady.pure _)
  | n + 1, i, acc => (reads_load w _).bind fun _ => reads_cells w a n _ _
theorem reads_loadAt (w : World) (t : TypeId) (v : Value) : ReadsAt P w (Instr.loadAt t v) := by
  unfold Instr.loadAt
  refine (ReadsAt.of_steady (Steady.sureAddr v)).bind fun a => ?_
  unfold loadVar
  refine (ReadsAt.of_steady (Steady.isAgg t)).bind fun b => ?_
  split
  · exact (ReadsAt.of_steady (Steady.sizeOf t)).bind fun n => ReadsAt.bind (reads_cells w a n 0 #[]) fun _ => ReadsAt.of_steady (Steady.pure _)
  · exact reads_load w a
def isLoad (o : Oper) : Bool := match o.op with | .load .. => true | _ => false
theorem load_reads {o : Oper} {ρ : Operand → Value} {w : World} (hl : isLoad o = true) :
    (∃ v, ∀ x, Kept Nob w x → (execOp ρ o).run P x = .ok (.value v) x) ∨ (∃ h x', (execOp ρ o).run P w = .halt h x') := by
  obtain ⟨dst, op, ty, pos, aft, gd⟩ := o
  cases op <;> first | (cases hl; done) | skip
  case load t y =>
    show (∃ v, ∀ x, Kept Nob w x → Sem.run P (Instr.loadAt t (ρ y) >>= fun v => Pure.pure (Next.value v)) x = .ok (.value v) x) ∨ (∃ h x', Sem.run P (Instr.loadAt t (ρ y) >>= fun v => Pure.pure (Next.value v)) w = .halt h x')
    cases hr : (Instr.loadAt t (ρ y)).run P w with
    | ok v w' => exact .inl ⟨v, fun x hx => by rw [Sem.run_bind, (reads_loadAt w t (ρ y) v w' hr).2 x hx]; rfl⟩
    | halt e w' => exact .inr ⟨e, w', by rw [Sem.run_bind, hr]; rfl⟩
end
section
variable {P : Program} {ops : Array Oper}
def noExit : Exit → Act → World → Prop := fun _ _ _ => False
def pick (ops : Array Oper) (is : List Nat) : List Oper := is.filterMap fun i => ops[i]?
def SegEnd (l : List Oper) (next : Act → World → Prop) : Act → World → Prop := fun a w => (l.all fun o => chk o a.eval) = true ∧ next a w
def EffEnd (keep : Bool) (w : World) (next : Act → World → Prop) : Act → World → Prop := fun a' w' => (keep = true → Kept Nob w w') ∧ next a' w'
inductive Plan where
  | nil
  | seg (is : List Nat) (next : Plan)
  | y (i : Nat) (next : Plan)
  | eff (i : Nat) (keep : Bool) (next : Plan)
  | fork (i j : Nat) (k1 k2 : Bool) (p q : Plan)
def wpPlan (P : Program) (ops : Array Oper) (K : Act → World → Prop) : Plan → Act → World → Prop
  | .nil, a, w => K a w
  | .seg is p, a, w => wpList P ops (Exit.then (SegEnd (pick ops is) (wpPlan P ops K p)) noExit) (pick ops is) a w
  | .y i p, a, w => ∃ o v, ops[i]? = some o ∧ YieldsIf P ops (Kept Nob w) o v a ∧ wpPlan P ops K p (a.put o.dst v) w
  | .eff i keep p, a, w => ∃ o, ops[i]? = some o ∧ wpList P ops (Exit.then (EffEnd keep w (wpPlan P ops K p)) noExit) [o] a w
  | .fork i j k1 k2 p q, a, w => (∃ o, ops[i]? = some o ∧ wpList P ops (Exit.then (EffEnd k1 w (wpPlan P ops K p)) noExit) [o] a w) ∧ (∃ o, ops[j]? = some o ∧ wpList P ops (Exit.then (EffEnd k2 w (wpPlan P ops K q)) noExit) [o] a w)
def Plan.len : Plan → Nat
  | .nil => 0
  | .seg is p => is.length + p.len
  | .y _ p => p.len + 1
  | .eff _ _ p => p.len + 1
  | .fork _ _ _ _ p _ => p.len + 1
def stab : List Oper → Bool
  | [] => true
  | o :: l => (match chkTmps o with | [] => true | ts => (o :: l).all fun x => match x.dst with | some d => !ts.contains d | none => true) && stab l
def segOk (P : Program) (ops : Array Oper) : List Nat → Array Bool → List Nat → Option (Array Bool × List Nat)
  | [], listed, R => some (listed, R)
  | i :: is, listed, R => match ops[i]? with
    | none => none
    | some o =>
      if takeB .any ops listed i then
        if kindV P o then segOk P ops is (listed.setIfInBounds i true) R
        else if isLoad o then segOk P ops is (listed.setIfInBounds i true) (i :: R)
        else none
      else none
def planOk (P : Program) (ops : Array Oper) : Plan → Array Bool → List Nat → Bool
  | .nil, listed, _ => (Region.ready .any ops listed).isEmpty
  | .seg is p, listed, R => stab (pick ops is) && match segOk P ops is listed R with
    | some (l, r) => planOk P ops p l r
    | none => false
  | .y i p, listed, R => takeB .any ops listed i && planOk P ops p (listed.setIfInBounds i true) (i :: R)
  | .eff i keep p, listed, R => (Region.ready .any ops listed == [i]) && (keep || !(R.any fun r => !ancB .any ops ops.size i r)) && planOk P ops p (listed.setIfInBounds i true) (R.filter fun r => !ancB .any ops ops.size i r)
  | .fork i j k1 k2 p q, listed, R => (Region.ready .any ops listed == [i, j]) && (k1 || !(R.any fun r => !ancB .any ops ops.size i r)) && (k2 || !(R.any fun r => !ancB .any ops ops.size j r)) && (p.len == q.len)
    && planOk P ops p (listed.setIfInBounds i true) (R.filter fun r => !ancB .any ops ops.size i r) && planOk P ops q (listed.setIfInBounds j true) (R.filter fun r => !ancB .any ops ops.size j r)
variable {K : Act → World → Prop}
theorem letsOut_no {K : Act → World → Prop} : ¬ LetsOut (Exit.then K noExit) := fun ⟨_, _, h⟩ => h
theorem wp_reach {o : Oper} {a : Act} {w : World} {K K' : Act → World → Prop} (h : o.wp P a w K' (Exit.then K noExit)) : ∃ a' w', K' a' w' ∧ ∃ d v, a' = ({ a with defers := d } : Act).put o.dst v := by
  unfold Oper.wp at h
  generalize (execOp a.eval o).run P w = r at h
  cases r with
  | halt x w' => cases x <;> simp only [Oper.upon] at h <;> exact h.elim
  | ok n w' =>
    cases n <;> simp only [Oper.upon] at h
    case value v => exact ⟨_, _, h, a.defers, v, rfl⟩
    case skip => exact ⟨_, _, h, a.defers, undef, rfl⟩
    case defer d => exact ⟨_, _, h, d :: a.defers, undef, rfl⟩
    case enter f args =>
      obtain ⟨e, w'', fr, he, _⟩ := h []
      cases e with
      | returned v => exact ⟨_, _, he, a.defers, v, rfl⟩
      | panicked c => exact he.elim
      | outgrown => exact (letsOut_no he).elim
    case row r args =>
      obtain ⟨v, w'', he, _⟩ := h default []
      exact ⟨_, _, he, a.defers, v, rfl⟩
theorem eval_put_ne (a : Act) (dst : Option Tmp) (v : Value) (d : List Deferred) (x : Operand) (hx : ∀ t, x = .tmp t → dst ≠ some t) : (({ a with defers := d } : Act).put dst v).eval x = a.eval x := by
  cases dst with
  | none => cases x <;> rfl
  | some t =>
    cases x with
    | tmp u =>
      have hne : t ≠ u := fun e => hx u rfl (by rw [e])
      simp [Act.put, Act.eval, Array.getD_eq_getD_getElem?, Array.getElem?_setIfInBounds_ne hne]
    | const c => rfl
    | global g => rfl
    | func f => rfl
end
end Go.Proofs.Ytcghjnegaiiieaa
namespace Go.Proofs.Ytcghjnegaiiieaa
open Go Go.RowKit
section
variable {P : Program} {ops : Array Oper} {K : Act → World → Prop}
theorem reach_list : ∀ (l : List Oper) (a : Act) (w : World), wpList P ops (Exit.then K noExit) l a w →
    ∃ a' w', K a' w' ∧ ∀ x : Operand, (∀ o ∈ l, ∀ t, x = .tmp t → o.dst ≠ some t) → a'.eval x = a.eval x
  | [], a, w, h => ⟨a, w, h, fun _ _ => rfl⟩
  | o :: l, a, w, h => by
    have key : ∃ a1 w1, wpList P ops (Exit.then K noExit) l a1 w1 ∧ ∃ d v, a1 = ({ a with defers := d } : Act).put o.dst v := by
      unfold wpList at h
      split at h
      · rcases h with h | ⟨_, h⟩
        · exact wp_reach h
        · exact (letsOut_no h).elim
      · exact ⟨_, _, h, a.defers, undef, rfl⟩
    obtain ⟨a1, w1, h1, d, v, rfl⟩ := key
    obtain ⟨a2, w2, h2, h3⟩ := reach_list l _ _ h1
    exact ⟨a2, w2, h2, fun x hx => (h3 x fun o' ho => hx o' (List.mem_cons_of_mem _ ho)).trans (eval_put_ne a o.dst v d x (hx o List.mem_cons_self))⟩
theorem chk_congr (o : Oper) (ρ ρ' : Operand → Value) (h : ∀ x, (∀ t, x = .tmp t → t ∈ chkTmps o) → ρ x = ρ' x) : chk o ρ = chk o ρ' := by
  have hop : (match o.op with | .binOp .. | .convert .. | .call _ | .nilCheck _ => true | _ => false) = true → ∀ x ∈ o.op.operands.toList, ρ x = ρ' x := fun hk x hx => by
    refine h x fun t ht => ?_
    subst ht
    unfold chkTmps
    split at hk <;> first
      | (cases hk; done)
      | (rename_i e; rw [e] at hx ⊢; exact List.mem_filterMap.2 ⟨_, hx, rfl⟩)
  unfold chk
  split
  · rename_i e
    have := hop (by rw [e])
    rw [e] at this
    rw [this _ (by simp [Op.operands]), this _ (by simp [Op.operands])]
  · rename_i e
    have := hop (by rw [e])
    rw [e] at this
    rw [this _ (by simp [Op.operands])]
  · rename_i b args ats e
    have := hop (by rw [e])
    rw [e] at this
    have h2 : ∀ x ∈ args.toList, ρ x = ρ' x := fun x hx => this x (by simp [Op.operands, Call.operands]; simpa using hx)
    rw [← Array.all_toList, ← Array.all_toList]
    generalize args.toList = l at h2 ⊢
    induction l with
    | nil => rfl
    | cons x l ih => rw [List.all_cons, List.all_cons, h2 x List.mem_cons_self, ih fun y hy => h2 y (List.mem_cons_of_mem _ hy)]
  · rename_i e
    have := hop (by rw [e])
    rw [e] at this
    rw [this _ (by simp [Op.operands])]
  · rfl
theorem stab_head {o : Oper} {l : List Oper} (h : stab (o :: l) = true) : ∀ t ∈ chkTmps o, ∀ x ∈ o :: l, x.dst ≠ some t := by
  intro t ht x hx hd
  simp only [stab, Bool.and_eq_true] at h
  have h1 := h.1
  split at h1
  · rename_i e
    rw [e] at ht
    cases ht
  · have h2 := List.all_eq_true.1 h1 x hx
    rw [hd] at h2
    simp only [Bool.not_eq_true', List.contains_eq_mem, decide_eq_false_iff_not] at h2
    exact h2 ht
theorem seg_chk {L : List Oper} {next : Act → World → Prop} {o : Oper} {l : List Oper} {a : Act} {w : World} (h : wpList P ops (Exit.then (SegEnd L next) noExit) (o :: l) a w) (hs : stab (o :: l) = true) (ho : o ∈ L) : chk o a.eval = true := by
  obtain ⟨a', w', ⟨hc, _⟩, he⟩ := reach_list _ _ _ h
  have h1 := List.all_eq_true.1 hc o ho
  rw [← h1]
  refine (chk_congr o _ _ fun x hx => he x fun o' ho' t ht => ?_).symm
  exact stab_head hs t (hx t ht) o' ho'
theorem seg_v {o : Oper} {l : List Oper} {a : Act} {w : World} (hV : SteadyV P (execOp a.eval o)) (h : wpList P ops (Exit.then K noExit) (o :: l) a w) :
    ∃ v, YieldsIf P ops (fun _ => True) o v a ∧ wpList P ops (Exit.then K noExit) l (a.put o.dst v) w := by
  unfold wpList at h
  split at h
  · rename_i hw
    rcases h with h | ⟨_, h⟩
    · rcases hV with ⟨v, hv⟩ | hv
      · refine ⟨v, .inl ⟨hw, fun x _ => hv x⟩, ?_⟩
        unfold Oper.wp at h
        rw [hv w] at h
        exact h
      · obtain ⟨e, x', hx⟩ := hv w
        unfold Oper.wp at h
        rw [hx] at h
        cases e <;> simp only [Oper.upon] at h <;> exact h.elim
    · exact (letsOut_no h).elim
  · rename_i hw
    exact ⟨undef, .inr ⟨by simpa using hw, rfl⟩, h⟩
theorem seg_r {o : Oper} {l : List Oper} {a : Act} {w : World} (hl : isLoad o = true) (h : wpList P ops (Exit.then K noExit) (o :: l) a w) :
    ∃ v, YieldsIf P ops (Kept Nob w) o v a ∧ wpList P ops (Exit.then K noExit) l (a.put o.dst v) w := by
  unfold wpList at h
  split at h
  · rename_i hw
    rcases h with h | ⟨_, h⟩
    · rcases load_reads (P := P) (ρ := a.eval) (w := w) hl with ⟨v, hv⟩ | hv
      · refine ⟨v, .inl ⟨hw, fun x hx => hv x hx⟩, ?_⟩
        unfold Oper.wp at h
        rw [hv w (Kept.refl _ _)] at h
        exact h
      · obtain ⟨e, x', hx⟩ := hv
        unfold Oper.wp at h
        rw [hx] at h
        cases e <;> simp only [Oper.upon] at h <;> exact h.elim
    · exact (letsOut_no h).elim
  · rename_i hw
    exact ⟨undef, .inr ⟨by simpa using hw, rfl⟩, h⟩
theorem seg_sound {Kf : Act → World → Prop} {L : List Oper} {next : Act → World → Prop} {w : World} {fuel : Nat} {l' : Array Bool} {r' : List Nat}
    (hn : ∀ a, next a w → GE P .any ops (Exit.then Kf noExit) fuel (Kept Nob w) r' l' a w) :
    ∀ (is : List Nat) (listed : Array Bool) (R : List Nat) (a : Act), segOk P ops is listed R = some (l', r') → stab (pick ops is) = true → (∀ o ∈ pick ops is, o ∈ L) →
      wpList P ops (Exit.then (SegEnd L next) noExit) (pick ops is) a w → GE P .any ops (Exit.then Kf noExit) (fuel + is.length) (Kept Nob w) R listed a w
  | [], listed, R, a, hk, _, _, h => by
    simp only [segOk, Option.some.injEq, Prod.mk.injEq] at hk
    obtain ⟨rfl, rfl⟩ := hk
    exact hn a h.2
  | i :: is, listed, R, a, hk, hs, hL, h => by
    unfold segOk at hk
    cases hi : ops[i]? with
    | none => rw [hi] at hk; cases hk
    | some o =>
      rw [hi] at hk
      dsimp only at hk
      have hp : pick ops (i :: is) = o :: pick ops is := by simp [pick, List.filterMap_cons, hi]
      rw [hp] at hs hL h
      have hs' : stab (pick ops is) = true := by simp only [stab, Bool.and_eq_true] at hs; exact hs.2
      have hL' : ∀ x ∈ pick ops is, x ∈ L := fun x hx => hL x (List.mem_cons_of_mem _ hx)
      split at hk
      · rename_i hB
        split at hk
        · rename_i hV
          obtain ⟨v, hy, h2⟩ := seg_v (kindV_steady hV (seg_chk h hs (hL o List.mem_cons_self))) h
          exact GE.univ hi hB (fun _ _ _ h => h.elim) (Kept.refl _ _) hy (seg_sound hn is _ _ _ hk hs' hL' h2)
        · split at hk
          · rename_i hR
            obtain ⟨v, hy, h2⟩ := seg_r hR h
            exact GE.take hi hB (fun _ _ _ h => h.elim) (Kept.refl _ _) hy (seg_sound hn is _ _ _ hk hs' hL' h2)
          · cases hk
      · cases hk
theorem one_mono {K : Act → World → Prop} {Q : Exit → Act → World → Prop} {o : Oper} {a : Act} {w : World} (hq : ∀ a w, K a w → Q .normal a w) (h : wpList P ops (Exit.then K noExit) [o] a w) : wpList P ops Q [o] a w := by
  unfold wpList at h ⊢
  split
  · rename_i hw
    rw [if_pos hw] at h
    rcases h with h | ⟨_, h⟩
    · exact .inl (Oper.wp_mono (fun a w h => hq a w h) (Oper.wp_post (fun _ _ _ h => h.elim) (fun h => (letsOut_no h).elim) h))
    · exact (letsOut_no h).elim
  · rename_i hw
    rw [if_neg hw] at h
    exact hq _ _ h
theorem eff_sound {Kf : Act → World → Prop} {next : Act → World → Prop} {o : Oper} {i : Nat} {keep : Bool} {fuel : Nat} {R : List Nat} {listed : Array Bool} {a : Act} {w : World}
    (hk : (keep || !(R.any fun r => !ancB .any ops ops.size i r)) = true)
    (hn : ∀ a w, next a w → GE P .any ops (Exit.then Kf noExit) fuel (Kept Nob w) (R.filter fun r => !ancB .any ops ops.size i r) (listed.setIfInBounds i true) a w)
    (h : wpList P ops (Exit.then (EffEnd keep w next) noExit) [o] a w) : wpList P ops (QE P .any ops (Exit.then Kf noExit) fuel (Kept Nob w) R listed i) [o] a w :=
  one_mono (fun a' w' ⟨h1, h2⟩ => ⟨Kept Nob w', fun hany x hx => (h1 (by
    cases keep with
    | true => rfl
    | false => rw [hany] at hk; cases hk)).trans hx, Kept.refl _ _, hn a' w' h2⟩) h
theorem plan_sound : ∀ (p : Plan) (listed : Array Bool) (R : List Nat) (a : Act) (w : World), planOk P ops p listed R = true → wpPlan P ops K p a w →
    GE P .any ops (Exit.then K noExit) p.len (Kept Nob w) R listed a w
  | .nil, listed, R, a, w, hp, h => GE.done (by simpa [planOk] using hp) h
  | .seg is p, listed, R, a, w, hp, h => by
    simp only [planOk, Bool.and_eq_true] at hp
    obtain ⟨hs, hp⟩ := hp
    cases hk : segOk P ops is listed R with
    | none => rw [hk] at hp; cases hp
    | some lr =>
      obtain ⟨l', r'⟩ := lr
      rw [hk] at hp
      have := seg_sound (fuel := p.len) (fun a ha => plan_sound p l' r' a w hp ha) is listed R a hk hs (fun _ h => h) h
      rw [Nat.add_comm] at this
      exact this
  | .y i p, listed, R, a, w, hp, h => by
    simp only [planOk, Bool.and_eq_true] at hp
    obtain ⟨o, v, hi, hy, h⟩ := h
    exact GE.take hi hp.1 (fun _ _ _ h => h.elim) (Kept.refl _ _) hy (plan_sound p _ _ _ w hp.2 h)
  | .eff i keep p, listed, R, a, w, hp, h => by
    simp only [planOk, Bool.and_eq_true, beq_iff_eq] at hp
    obtain ⟨o, hi, h⟩ := h
    exact GE.step hi hp.1.1 (eff_sound hp.1.2 (fun a w h => plan_sound p _ _ a w hp.2 h) h)
  | .fork i j k1 k2 p q, listed, R, a, w, hp, h => by
    simp only [planOk, Bool.and_eq_true, beq_iff_eq] at hp
    obtain ⟨⟨⟨⟨⟨hr, h1⟩, h2⟩, hl⟩, hp⟩, hq⟩ := hp
    obtain ⟨⟨o, hi, g1⟩, o', hj, g2⟩ := h
    refine GE.fork hi hj hr (eff_sound h1 (fun a w h => plan_sound p _ _ a w hp h) g1) (eff_sound h2 (fun a w h => ?_) g2)
    have := plan_sound q _ _ a w hq h
    rw [← hl] at this
    exact this
def planTop (P : Program) (ops : Array Oper) (p : Plan) : Bool := P.follows .mixedOrders && (p.len == ops.size) && planOk P ops p (Array.replicate ops.size false) []
theorem region_plan {id : Nat} {a : Act} {w : World} {Q : Exit → Act → World → Prop} (p : Plan) (hp : planTop P ops p = true)
    (h : wpPlan P ops (Q .normal) p a w.drew) : (Code.region id ops true).wp P Q a w := by
  simp only [planTop, Bool.and_eq_true, beq_iff_eq] at hp
  obtain ⟨⟨hm, hl⟩, hp⟩ := hp
  have h1 := plan_sound p _ [] a w.drew hp h
  rw [hl] at h1
  refine Code.wp_mono (Q := Exit.then (Q .normal) noExit) (fun e a w he => ?_) (region_E ops.size (Kept Nob w.drew) hm rfl (Kept.refl _ _) fun _ => h1)
  cases e <;> first | exact he | exact he.elim
theorem plan_nil {a : Act} {w : World} (h : K a w) : wpPlan P ops K .nil a w := h
theorem plan_seg {is : List Nat} {p : Plan} {l : List Oper} {a : Act} {w : World} (hl : pick ops is = l)
    (h : let NX := SegEnd l (wpPlan P ops K p); wpList P ops (Exit.then NX noExit) l a w) : wpPlan P ops K (.seg is p) a w := by
  subst hl
  exact h
theorem plan_one {i : Nat} {p : Plan} {o : Oper} {a : Act} {w : World} (hi : ops[i]? = some o) (hg : o.guard = none)
    (h : let NX := SegEnd [o] (wpPlan P ops K p); o.wp P a w NX noExit) : wpPlan P ops K (.seg [i] p) a w := by
  refine plan_seg (l := [o]) (by simp [pick, hi]) ?_
  intro NX
  unfold wpList
  rw [if_pos (by simp [Region.wanted, hg])]
  exact .inl (Oper.wp_post (fun _ _ _ h => h.elim) (fun ⟨_, _, h⟩ => h.elim) h)
theorem plan_guard {i j d : Nat} {want b : Bool} {p : Plan} {o : Oper} {a a' : Act} {w : World} (hi : ops[i]? = some o) (hg : o.guard = some (j, want)) (hj : (ops[j]?).bind (·.dst) = some d) (hb : a.tmps.getD d undef = .bool b)
    (h1 : b = want → let NX := SegEnd [o] (wpPlan P ops K p); o.wp P a w NX noExit) (ha : a.put o.dst undef = a') (h2 : b = !want → SegEnd [o] (wpPlan P ops K p) a' w) : wpPlan P ops K (.seg [i] p) a w := by
  subst ha
  refine plan_seg (l := [o]) (by simp [pick, hi]) ?_
  intro NX
  have hy : yielded ops a.tmps j = some b := by
    unfold yielded
    rw [hj]
    simp only [Option.bind_some]
    have : a.tmps[d]? = some (.bool b) := by
      rw [Array.getD_eq_getD_getElem?] at hb
      cases h : a.tmps[d]? with
      | none => rw [h] at hb; cases hb
      | some v => rw [h] at hb; simpa using hb
    rw [this]
  unfold wpList
  split
  · rename_i hw
    refine .inl (Oper.wp_post (fun _ _ _ h => h.elim) (fun ⟨_, _, h⟩ => h.elim) (h1 ?_))
    unfold Region.wanted at hw
    rw [hg] at hw
    dsimp only at hw
    rw [hy] at hw
    simpa using hw
  · rename_i hw
    refine h2 ?_
    unfold Region.wanted at hw
    rw [hg] at hw
    dsimp only at hw
    rw [hy] at hw
    revert hw
    cases b <;> cases want <;> simp
theorem plan_over {i j d : Nat} {want : Bool} {p : Plan} {o : Oper} {a a' : Act} {w : World} (hi : ops[i]? = some o) (hg : o.guard = some (j, want)) (hj : (ops[j]?).bind (·.dst) = some d) (hb : a.tmps.getD d undef = undef)
    (ha : a.put o.dst undef = a') (h2 : SegEnd [o] (wpPlan P ops K p) a' w) : wpPlan P ops K (.seg [i] p) a w := by
  subst ha
  refine plan_seg (l := [o]) (by simp [pick, hi]) ?_
  intro NX
  have hy : yielded ops a.tmps j = none := by
    unfold yielded
    rw [hj]
    simp only [Option.bind_some]
    rw [Array.getD_eq_getD_getElem?] at hb
    cases h : a.tmps[d]? with
    | none => rfl
    | some v => rw [h] at hb; simp at hb; rw [hb]; rfl
  unfold wpList
  rw [if_neg (by simp [Region.wanted, hg, hy])]
  exact h2
theorem seg_end {l : List Oper} {next : Act → World → Prop} {a : Act} {w : World} (hc : (l.all fun o => chk o a.eval) = true) (h : next a w) : SegEnd l next a w := ⟨hc, h⟩
theorem plan_eff {i : Nat} {keep : Bool} {p : Plan} {o : Oper} {a : Act} {w : World} (hi : ops[i]? = some o)
    (h : let NX := EffEnd keep w (wpPlan P ops K p); wpList P ops (Exit.then NX noExit) [o] a w) : wpPlan P ops K (.eff i keep p) a w :=
  ⟨o, hi, h⟩
theorem eff_free {w w' : World} {next : Act → World → Prop} {a : Act} (h : next a w') : EffEnd false w next a w' := ⟨(fun h => by cases h), h⟩
end
end Go.Proofs.Ytcghjnegaiiieaa
namespace Go.Proofs.Ytcghjnegaiiieaa
open Go.ChangeShapes Go.WideShapes Go.ChangeAt Go.RowKit
abbrev Rl (α : Type) := World → (Nat → Prop) → List Value → α → Prop
structure Good {α : Type} (R : Rl α) (n : Nat) : Prop where
  len : ∀ {w F cs a}, R w F cs a → cs.length = n
  keep : ∀ {w w' F S cs a}, R w F cs a → Kept S w w' → (∀ b, F b → ¬ S b) → R w' F cs a
  mono : ∀ {w F F' cs a}, R w F cs a → (∀ b, F b → F' b) → R w F' cs a
  one : ∀ {w F cs a}, R w F cs a → ∀ u ∈ cs, u.oneCell' = true
def RInt (k : IntKind) : Rl Int := fun _ _ cs n => cs = [.int k n] ∧ (Lit.int k n).wf = true
def RBool : Rl Bool := fun _ _ cs b => cs = [.bool b]
def RArr (k : IntKind) (n : Nat) : Rl (List Int) := fun _ _ cs s => cs = nums k s ∧ s.length = n ∧ ∀ x ∈ s, (Lit.int k x).wf = true
def Elems {α : Type} (R : Rl α) (size : Nat) (w : World) (F : Nat → Prop) (A : Option Addr) (xs : List α) : Prop :=
  ∀ i (h : i < xs.length), ∃ ad, A = some ad ∧ F ad.block ∧ ∃ es, es.length = size ∧ (∀ j u, es[j]? = some u → w.cell? ((ad.add (i * size)).add j) = some u) ∧ R w F es (xs[i]'h)
def RSl {α : Type} (R : Rl α) (size : Nat) : Rl (List α) := fun w F cs xs => ∃ A c, cs = [.slice A xs.length c] ∧ xs.length ≤ c ∧ c ≤ maxLen ∧ (A = none → xs = [] ∧ c = 0) ∧ Elems R size w F A xs
def RNil : Rl Unit := fun _ _ cs _ => cs = []
def RCons {α β : Type} (R : Rl α) (n : Nat) (S : Rl β) : Rl (α × β) := fun w F cs p => ∃ c d, cs = c ++ d ∧ c.length = n ∧ R w F c p.1 ∧ S w F d p.2
def RBy {α β : Type} (R : Rl α) (g : β → α) : Rl β := fun w F cs b => R w F cs (g b)
theorem RInt.good (k : IntKind) : Good (RInt k) 1 := ⟨fun h => by rw [h.1]; rfl, fun h _ _ => h, fun h _ => h, fun h u hu => by rw [h.1] at hu; simp at hu; subst hu; rfl⟩
theorem RBool.good : Good RBool 1 := ⟨fun h => by cases h; rfl, fun h _ _ => h, fun h _ => h, fun h u hu => by cases h; simp at hu; subst hu; rfl⟩
theorem RArr.good (k : IntKind) (n : Nat) : Good (RArr k n) n := ⟨fun h => by rw [h.1, nums_length, h.2.1], fun h _ _ => h, fun h _ => h, fun h u hu => by rw [h.1] at hu; exact nums_oneC _ _ u hu⟩
theorem RNil.good : Good RNil 0 := ⟨fun h => by cases h; rfl, fun h _ _ => h, fun h _ => h, fun h u hu => by cases h; simp at hu⟩
theorem RCons.good {α β : Type} {R : Rl α} {n m : Nat} {S : Rl β} (hR : Good R n) (hS : Good S m) : Good (RCons R n S) (n + m) :=
  ⟨fun ⟨c, d, e, hl, _, h2⟩ => by rw [e, List.length_append, hl, hS.len h2], fun ⟨c, d, e, hl, h1, h2⟩ hk hf => ⟨c, d, e, hl, hR.keep h1 hk hf, hS.keep h2 hk hf⟩,
   fun ⟨c, d, e, hl, h1, h2⟩ hf => ⟨c, d, e, hl, hR.mono h1 hf, hS.mono h2 hf⟩, fun ⟨c, d, e, _, h1, h2⟩ u hu => by
    rw [e, List.mem_append] at hu
    exact hu.elim (hR.one h1 u) (hS.one h2 u)⟩
theorem RBy.good {α β : Type} {R : Rl α} {n : Nat} (hR : Good R n) (g : β → α) : Good (RBy R g) n := ⟨hR.len, hR.keep, hR.mono, hR.one⟩
theorem cell_block {w : World} {ad : Addr} {j : Nat} {u : Value} (h : w.cell? (ad.add j) = some u) : ad.block < w.heap.size := by
  have := World.block_lt_of_cell? w _ h
  rwa [show (ad.add j).block = ad.block from by unfold Addr.add; split <;> rfl] at this
theorem add_block (a : Addr) (n : Nat) : (a.add n).block = a.block := by unfold Addr.add; split <;> rfl
theorem Elems.keep {α : Type} {R : Rl α} {size : Nat} (hR : Good R size) {w w' : World} {F S : Nat → Prop} {A : Option Addr} {xs : List α} (h : Elems R size w F A xs) (hk : Kept S w w') (hf : ∀ b, F b → ¬ S b) : Elems R size w' F A xs := fun i hi => by
  obtain ⟨ad, e, hb, es, hl, hc, hr⟩ := h i hi
  exact ⟨ad, e, hb, es, hl, fun j u hj => hk.at (hc j u hj) (by rw [add_block, add_block]; exact hf _ hb), hR.keep hr hk hf⟩
theorem Elems.mono {α : Type} {R : Rl α} {size : Nat} (hR : Good R size) {w : World} {F F' : Nat → Prop} {A : Option Addr} {xs : List α} (h : Elems R size w F A xs) (hf : ∀ b, F b → F' b) : Elems R size w F' A xs := fun i hi => by
  obtain ⟨ad, e, hb, es, hl, hc, hr⟩ := h i hi
  exact ⟨ad, e, hf _ hb, es, hl, hc, hR.mono hr hf⟩
theorem RSl.good {α : Type} {R : Rl α} {size : Nat} (hR : Good R size) : Good (RSl R size) 1 :=
  ⟨fun ⟨_, _, e, _⟩ => by rw [e]; rfl, fun ⟨A, c, e, h1, h2, h3, h4⟩ hk hf => ⟨A, c, e, h1, h2, h3, h4.keep hR hk hf⟩, fun ⟨A, c, e, h1, h2, h3, h4⟩ hf => ⟨A, c, e, h1, h2, h3, h4.mono hR hf⟩,
   fun ⟨_, _, e, _⟩ u hu => by rw [e] at hu; simp at hu; subst hu; rfl⟩
structure Ints (w : World) (F : Nat → Prop) (k : IntKind) (A : Option Addr) (c : Nat) (xs : List Int) : Prop where
  rd : RdInts w k A xs
  inF : ∀ ad, A = some ad → 0 < xs.length → F ad.block
  le : xs.length ≤ c
  max : c ≤ maxLen
  nil : A = none → xs = [] ∧ c = 0
  wf : ∀ x ∈ xs, (Lit.int k x).wf = true
theorem RSl.ints {w : World} {F : Nat → Prop} {k : IntKind} {cs : List Value} {xs : List Int} (h : RSl (RInt k) 1 w F cs xs) : ∃ A c, cs = [.slice A xs.length c] ∧ Ints w F k A c xs := by
  obtain ⟨A, c, e, h1, h2, h3, h4⟩ := h
  refine ⟨A, c, e, fun i hi => ?_, fun ad ea hp => ?_, h1, h2, h3, fun x hx => ?_⟩
  · obtain ⟨ad, ea, _, es, _, hc, he, _⟩ := h4 i hi
    refine ⟨ad, ea, ?_⟩
    have := hc 0 (.int k xs[i]) (by rw [he]; rfl)
    rw [Nat.mul_one, show ((ad.add i).add 0) = ad.add i from rfl] at this
    rw [this]; simp [List.getD_eq_getElem?_getD, hi]
  · obtain ⟨ad', ea', hb, _⟩ := h4 0 hp
    rw [ea] at ea'
    obtain rfl := Option.some.inj ea'
    exact hb
  · obtain ⟨i, hi, rfl⟩ := List.getElem_of_mem hx
    obtain ⟨_, _, _, _, _, _, _, hw⟩ := h4 i hi
    exact hw
theorem Ints.sl {w : World} {F : Nat → Prop} {k : IntKind} {A : Option Addr} {c : Nat} {xs : List Int} (h : Ints w F k A c xs) : RSl (RInt k) 1 w F [.slice A xs.length c] xs := by
  refine ⟨A, c, rfl, h.le, h.max, h.nil, fun i hi => ?_⟩
  obtain ⟨ad, e, hc⟩ := h.rd i hi
  refine ⟨ad, e, h.inF ad e (by omega), [.int k xs[i]], rfl, fun j u hj => ?_, rfl, h.wf _ (List.getElem_mem hi)⟩
  cases j with
  | zero =>
    simp at hj
    subst hj
    rw [Nat.mul_one, show ((ad.add i).add 0) = ad.add i from rfl, hc]
    simp [List.getD_eq_getElem?_getD, hi]
  | succ j => simp at hj
theorem Ints.keep {w w' : World} {F S : Nat → Prop} {k : IntKind} {A : Option Addr} {c : Nat} {xs : List Int} (h : Ints w F k A c xs) (hk : Kept S w w') (hf : ∀ b, F b → ¬ S b) : Ints w' F k A c xs :=
  { h with rd := h.rd.keptP hk (fun ad e hp => hf _ (h.inF ad e hp)) }
theorem Ints.mono {w : World} {F F' : Nat → Prop} {k : IntKind} {A : Option Addr} {c : Nat} {xs : List Int} (h : Ints w F k A c xs) (hf : ∀ b, F b → F' b) : Ints w F' k A c xs :=
  { h with inF := fun ad e hp => hf _ (h.inF ad e hp) }
def Old (W : World) : Nat → Prop := fun b => b < W.heap.size
def Got (P : Program) (T : TypeId) {α : Type} (R : Rl α) : Prop :=
  ∀ (H : Type) (enc : TypeId × Value → H) (W : World) (m : Nat) (cs : List Value) (x : DataW H × List MemPlace), DataW.trod enc P W 0 (fun _ => true) true m T cs = some x → ∃ a, R W (Old W) cs a
theorem list_of {α : Type} {p : Nat → α → Prop} : ∀ (n : Nat), (∀ i, i < n → ∃ a, p i a) → ∃ xs : List α, xs.length = n ∧ ∀ i (h : i < xs.length), p i (xs[i]'h)
  | 0, _ => ⟨[], rfl, fun i h => by simp at h⟩
  | n + 1, h => by
    obtain ⟨xs, hl, hx⟩ := list_of n (fun i hi => h i (by omega))
    obtain ⟨a, ha⟩ := h n (by omega)
    refine ⟨xs ++ [a], by simp [hl], fun i hi => ?_⟩
    rw [List.getElem_append]
    split
    · exact hx i _
    · rename_i h1
      simp at hi
      have : i = n := by omega
      subst this
      simpa using ha
theorem got_int {P : Program} {T : TypeId} {k : IntKind} (h : P.underlying T = some (.int k)) : Got P T (RInt k) := fun _ _ _ _ _ _ hx => by
  obtain ⟨n, e, _, hw⟩ := DataW.trod_int h hx
  exact ⟨n, e, hw⟩
theorem got_sl {P : Program} {T E : TypeId} {α : Type} {R : Rl α} {size : Nat} (h : P.underlying T = some (.slice E)) (hs : P.cellsOf E = size) (h0 : 0 < size) (hR : Got P E R) : Got P T (RSl R size) := fun H enc W m cs x hx => by
  rcases Go.Deep.open_slice h hx with ⟨e, _⟩ | ⟨a, len, cap, m', n, D, Pl, e, _, hl, hm, hm', _, hel⟩
  · exact ⟨[], none, 0, by simpa using e, by simp, by simp, fun _ => ⟨rfl, rfl⟩, fun i hi => by simp at hi⟩
  · simp only [if_true] at hm'
    subst hm'
    rw [hs] at hel
    obtain ⟨xs, hxl, hxs⟩ := list_of (p := fun i a' => ∃ es, W.cells? 0 (a.add (i * size)) size = some es ∧ R W (Old W) es a') len (fun i hi => by
      obtain ⟨es, h1, h2⟩ := hel i (by omega)
      obtain ⟨a', ha⟩ := hR H enc W _ _ _ h2
      exact ⟨a', es, h1, ha⟩)
    subst hxl
    refine ⟨xs, some a, m', e, hl, hm, (fun e => by cases e), fun i hi => ?_⟩
    obtain ⟨es, h1, h2⟩ := hxs i hi
    obtain ⟨_, h3, h4⟩ := World.cells?_some h1
    have hcell : ∀ j u, es[j]? = some u → W.cell? ((a.add (i * size)).add j) = some u := fun j u hj => by
      have hjl : j < es.length := (List.getElem?_eq_some_iff.1 hj).1
      rw [h4 j (by omega), hj]
    refine ⟨a, rfl, ?_, es, h3, hcell, h2⟩
    have h5 := cell_block (hcell 0 _ (List.getElem?_eq_getElem (by omega)))
    rw [add_block] at h5
    exact h5
def GotF (P : Program) (fs : List Field) (off : Nat) {α : Type} (R : Rl α) : Prop :=
  ∀ (H : Type) (enc : TypeId × Value → H) (W : World) (m : Nat) (cs : List Value),
    (∀ f ∈ fs, ∃ x, DataW.trod enc P W 0 (fun _ => true) true m f.type ((cs.drop f.offset).take (P.cellsOf f.type)) = some x) →
    cs.length = off + (fs.map fun f => P.cellsOf f.type).sum → ∃ a, R W (Old W) (cs.drop off) a
theorem gotF_nil {P : Program} (off : Nat) : GotF P [] off RNil := fun _ _ _ _ cs _ hl => ⟨(), by simp at hl; simp [RNil]; omega⟩
theorem gotF_cons {P : Program} {f : Field} {fs : List Field} {off n : Nat} {α β : Type} {R : Rl α} {S : Rl β} (ho : f.offset = off) (hn : P.cellsOf f.type = n) (hR : Got P f.type R) (hS : GotF P fs (off + n) S) :
    GotF P (f :: fs) off (RCons R n S) := fun H enc W m cs h hl => by
  obtain ⟨x, hx⟩ := h f (List.mem_cons_self ..)
  rw [ho, hn] at hx
  obtain ⟨a, ha⟩ := hR H enc W m _ _ hx
  simp only [List.map_cons, List.sum_cons, hn] at hl
  obtain ⟨b, hb⟩ := hS H enc W m cs (fun g hg => h g (List.mem_cons_of_mem _ hg)) (by omega)
  refine ⟨(a, b), (cs.drop off).take n, cs.drop (off + n), ?_, ?_, ha, hb⟩
  · rw [← List.drop_drop, List.take_append_drop]
  · rw [List.length_take, List.length_drop]; omega
theorem got_st {P : Program} {T : TypeId} {fs : List Field} {α : Type} {R : Rl α} (h : P.underlying T = some (.struct fs.toArray)) (hc : P.cellsOf T = (fs.map fun f => P.cellsOf f.type).sum) (hF : GotF P fs 0 R) : Got P T R := fun H enc W m cs x hx => by
  obtain ⟨xs, n, _, _, hl, hlen, hf⟩ := DataW.trod_struct h hx
  have := hF H enc W n cs (fun f hfm => by
    obtain ⟨i, hi, rfl⟩ := List.getElem_of_mem hfm
    have h1 := hf i fs[i] (by simp [hi])
    have h2 : i < xs.length := by rw [hlen]; simpa using hi
    exact ⟨xs[i], by rw [h1]; simp [h2]⟩) (by rw [hl, hc]; omega)
  simpa using this
theorem got_by {P : Program} {T : TypeId} {α β : Type} {R : Rl α} (h : Got P T R) (g : β → α) (f : α → β) (hf : ∀ a, g (f a) = a) : Got P T (RBy R g) := fun H enc W m cs x hx => by
  obtain ⟨a, ha⟩ := h H enc W m cs x hx
  exact ⟨f a, by unfold RBy; rw [hf]; exact ha⟩
theorem got_arr {P : Program} {T E : TypeId} {k : IntKind} {n : Nat} (h : P.underlying T = some (.array n E)) (hE : P.underlying E = some (.int k)) (hs : P.cellsOf E = 1) (hT : P.cellsOf T = n) : Got P T (RArr k n) := fun H enc W m cs x hx => by
  obtain ⟨xs, m', _, _, hl, hlen, hf⟩ := DataW.trod_array h hx
  have key : ∀ i, i < n → ∃ v : Int, cs[i]? = some (.int k v) ∧ (Lit.int k v).wf = true := fun i hi => by
    have h1 := hf i hi
    have h2 : i < xs.length := by omega
    rw [hs, List.getElem?_eq_getElem h2] at h1
    obtain ⟨v, e, _, hw⟩ := DataW.trod_int hE h1
    refine ⟨v, ?_, hw⟩
    have h3 : ((cs.drop (i * 1)).take 1)[0]? = some (.int k v) := by rw [e]; rfl
    simpa using h3
  obtain ⟨s, hsl, hs⟩ := list_of (p := fun i v => cs[i]? = some (.int k v) ∧ (Lit.int k v).wf = true) n key
  refine ⟨s, ?_, hsl, ?_⟩
  · apply List.ext_getElem
    · rw [hl, hT, nums_length, hsl]
    · intro i h1 h2
      have h3 : i < s.length := by rw [nums_length] at h2; exact h2
      have h4 := (hs i h3).1
      rw [List.getElem?_eq_getElem h1] at h4
      simp only [Option.some.injEq] at h4
      rw [h4]; simp [nums]
  · intro x hx
    obtain ⟨i, hi, rfl⟩ := List.getElem_of_mem hx
    exact (hs i hi).2
theorem got_arg {H : Type} {enc : TypeId × Value → H} {P : Program} {W : World} {T : TypeId} {α : Type} {R : Rl α} {v : Value} {d : DataW H} {p : List MemPlace} (hR : Got P T R)
    (h : DataW.Trod enc P W 0 (fun _ => true) true T v d p) : ∃ a, R W (Old W) v.cells.toList a := by
  obtain ⟨m, hm⟩ := h
  exact hR H enc W m _ _ hm
theorem agg_arg {P : Program} {W : World} {r : Reach} {b : Nat} {T : TypeId} {fs : Array Field} {v : Value} (h : P.underlying T = some (.struct fs)) (hv : Value.okWide P W r b T v) : v = .agg v.cells.toList.toArray := by
  obtain ⟨cs, rfl, _⟩ := okWide_struct h hv
  simp [Value.cells]
def AggT (P : Program) (ty : TypeId) (n : Nat) : Prop := (∃ d, P.underlying ty = some d ∧ (match d with | .struct _ | .array _ _ => true | _ => false) = true) ∧ (P.info? ty).map (·.size) = some n
section
variable {P : Program}
theorem run_loadVar_at {w : World} {ty : TypeId} {n : Nat} (hT : AggT P ty n) (ad : Addr) (es : List Value) (hn : es.length = n) (hes : ∀ j u, es[j]? = some u → w.cell? (ad.add j) = some u) :
    (loadVar ty ad).run P w = .ok (.agg es.toArray) w := by
  obtain ⟨⟨d, hu, hd⟩, hi⟩ := hT
  subst hn
  have hl := run_loadCells_list (P := P) w ad es hes
  cases hq : P.info? ty with
  | none => simp [hq] at hi
  | some i =>
    have hs : i.size = es.length := by simpa [hq] using hi
    have hagg : (isAgg ty).run P w = .ok true w := by
      unfold isAgg
      rw [Sem.run_bind, run_underlying hu w]
      cases d <;> simp_all
    simp [loadVar, Sem.run_bind, hagg, sizeOf, typeInfo, hq, hs, hl]
theorem wpList_now {ops : Array Oper} {rest : List Oper} {o : Oper} {a : Act} {w : World} {Q : Exit → Act → World → Prop} (hw : Region.wanted o (yielded ops a.tmps) = true)
    (h : ∀ K : Act → World → Prop, (∀ a w, wpList P ops Q rest a w → K a w) → o.wp P a w K Q) : wpList P ops Q (o :: rest) a w :=
  wpList_step fun K hK => by simp only [hw, if_true]; exact h K hK
theorem load_at {w : World} {ops : Array Oper} {rest : List Oper} {o : Oper} {a : Act} {Q : Exit → Act → World → Prop} {n : Nat} {ty : TypeId} (hT : AggT P ty n) (x : Operand) (ho : o.op = .load ty x) (hgd : Region.wanted o (yielded ops a.tmps) = true)
    (ad : Addr) (hx : a.eval x = .pointer (some ad)) (es : List Value) (hn : es.length = n) (hes : ∀ j u, es[j]? = some u → w.cell? (ad.add j) = some u)
    (h : wpList P ops Q rest (a.put o.dst (.agg es.toArray)) w) : wpList P ops Q (o :: rest) a w :=
  wpList_now hgd fun _ hK => by
    unfold Oper.wp execOp
    simp only [ho, hx, Instr.loadAt, Instr.sureAddr, Sem.run_bind, Sem.run_pure, Result.andThen_ok, run_loadVar_at hT ad es hn hes]
    exact hK _ _ h
theorem load_lit {w : World} {ops : Array Oper} {rest : List Oper} {dst : Option Tmp} {tyy : TypeId} {pos : String} {aft : Array Edge} {gd : Option (Nat × Bool)} {a : Act} {Q : Exit → Act → World → Prop} {n : Nat} {ty : TypeId} (hT : AggT P ty n) (x : Operand)
    (ad : Addr) (es : List Value) (hgd : Region.wanted ⟨dst, .load ty x, tyy, pos, aft, gd⟩ (yielded ops a.tmps) = true) (hx : a.eval x = .pointer (some ad)) (hn : es.length = n) (hes : ∀ j u, es[j]? = some u → w.cell? (ad.add j) = some u)
    (h : wpList P ops Q rest (a.put dst (.agg es.toArray)) w) : wpList P ops Q (⟨dst, .load ty x, tyy, pos, aft, gd⟩ :: rest) a w :=
  load_at hT x rfl hgd ad hx es hn hes h
theorem run_storeCells_row (g : Nat) (t : TypeId) : ∀ (es : List Value) (i : Nat) (w : World) (cs : Array Value), w.heap[g]? = some (.cells cs t (0, 0)) → i + es.length ≤ cs.size → (∀ u ∈ es, u.oneCell' = true) →
    ∃ w', (storeCells ⟨g, 0, none⟩ es i).run P w = .ok () w' ∧ w'.heap[g]? = some (.cells (cs.toList.take i ++ es ++ cs.toList.drop (i + es.length)).toArray t (0, 0)) ∧ Kept (fun b => b = g) w w'
  | [], i, w, cs, hg, _, _ => ⟨w, rfl, by simpa using hg, Kept.refl _ _⟩
  | u :: es, i, w, cs, hg, hl, h1 => by
    have hi : i < cs.size := by simp at hl; omega
    have hadd : (⟨g, 0, none⟩ : Addr).add i = ⟨g, i, none⟩ := by unfold Addr.add; split <;> simp_all
    have hc : w.cell? ⟨g, i, none⟩ = some cs[i] := by rw [blk_cell hg]; simp [hi]
    have hst : (store ⟨g, i, none⟩ u).run P w = .ok () (w.setCell ⟨g, i, none⟩ u) := by
      rw [run_store P w _ u _ (h1 u (by simp))]
      simp [stored, hc, blk_frozen hg i]
    obtain ⟨w', hr, hb, hk⟩ := run_storeCells_row g t es (i + 1) (w.setCell ⟨g, i, none⟩ u) (cs.setIfInBounds i u) (blk_set hg i u) (by simp at hl ⊢; omega) (fun v hv => h1 v (by simp [hv]))
    refine ⟨w', ?_, ?_, Kept.trans (Kept.setCell (Kept.refl (fun b => b = g) w) (p := ⟨g, i, none⟩) (fun _ => rfl) u) hk⟩
    · rw [storeCells, hadd, Sem.run_bind, hst]
      exact hr
    · rw [hb]
      have hl2 : i < cs.toList.length := by simpa using hi
      have e1 : cs.toList.set i u = cs.toList.take i ++ (u :: cs.toList.drop (i + 1)) := by rw [List.set_eq_take_append_cons_drop, if_pos hl2]
      have e2 : (cs.toList.take i).length = i := by rw [List.length_take]; omega
      have e3 : (cs.setIfInBounds i u).toList = cs.toList.take i ++ (u :: cs.toList.drop (i + 1)) := by rw [Array.toList_setIfInBounds, e1]
      have e4 : (cs.toList.take i ++ (u :: cs.toList.drop (i + 1))).take (i + 1) = cs.toList.take i ++ [u] := by
        rw [List.take_append, e2, List.take_of_length_le (by omega), show i + 1 - i = 1 from by omega]; rfl
      have e5 : (cs.toList.take i ++ (u :: cs.toList.drop (i + 1))).drop (i + 1 + es.length) = cs.toList.drop (i + (u :: es).length) := by
        rw [List.drop_append, e2, List.drop_eq_nil_of_le (by omega), show i + 1 + es.length - i = es.length + 1 from by omega, List.drop_succ_cons, List.drop_drop, List.nil_append]
        congr 1; simp only [List.length_cons]; omega
      rw [e3, e4, e5]
      simp
theorem store_row {w : World} {ops : Array Oper} {rest : List Oper} {o : Oper} {a : Act} {Q : Exit → Act → World → Prop} {n : Nat} {ty : TypeId} (hT : AggT P ty n) (x y : Operand) (ho : o.op = .store ty x y) (hgd : Region.wanted o (yielded ops a.tmps) = true)
    (g : Nat) (hx : a.eval x = .pointer (some ⟨g, 0, none⟩)) (es : Array Value) (hy : a.eval y = .agg es) (hn : es.size = n) (h1 : ∀ u ∈ es.toList, u.oneCell' = true) (cs : Array Value) (t : TypeId) (hg : w.heap[g]? = some (.cells cs t (0, 0))) (hc : cs.size = n)
    (h : ∀ w', w'.heap[g]? = some (.cells es t (0, 0)) → Kept (fun b => b = g) w w' → wpList P ops Q rest (a.put o.dst undef) w') : wpList P ops Q (o :: rest) a w :=
  wpList_now hgd fun _ hK => by
    obtain ⟨⟨d, hu, hd⟩, hi⟩ := hT
    obtain ⟨w', hr, hb, hk⟩ := run_storeCells_row (P := P) g t es.toList 0 w cs hg (by simp; omega) h1
    have hb' : w'.heap[g]? = some (.cells es t (0, 0)) := by
      rw [hb, List.drop_eq_nil_of_le (by simp; omega)]
      simp
    cases hq : P.info? ty with
    | none => simp [hq] at hi
    | some i =>
      have hs : i.size = n := by simpa [hq] using hi
      have hst : (storeVar ty ⟨g, 0, none⟩ (.agg es)).run P w = .ok () w' := by
        simp [storeVar, Sem.run_bind, sizeOf, typeInfo, hq, hs, Value.cells, hn, hr]
      unfold Oper.wp execOp
      simp only [ho, hx, hy, Instr.storeAt, Instr.sureAddr, Sem.run_bind, Sem.run_pure, Result.andThen_ok, hst]
      exact hK _ _ (h w' hb' hk)
theorem store_lit {w : World} {ops : Array Oper} {rest : List Oper} {dst : Option Tmp} {tyy : TypeId} {pos : String} {aft : Array Edge} {gd : Option (Nat × Bool)} {a : Act} {Q : Exit → Act → World → Prop} {n : Nat} {ty : TypeId} (hT : AggT P ty n) (x y : Operand)
    (g : Nat) (es : List Value) (hgd : Region.wanted ⟨dst, .store ty x y, tyy, pos, aft, gd⟩ (yielded ops a.tmps) = true) (hx : a.eval x = .pointer (some ⟨g, 0, none⟩)) (hy : a.eval y = .agg es.toArray) (hn : es.length = n) (h1 : ∀ u ∈ es, u.oneCell' = true)
    (hg : ∃ cs t, w.heap[g]? = some (.cells cs t (0, 0)) ∧ cs.size = n)
    (h : ∀ w', (∃ t, w'.heap[g]? = some (.cells es.toArray t (0, 0))) → Kept (fun b => b = g) w w' → wpList P ops Q rest (a.put dst undef) w') : wpList P ops Q (⟨dst, .store ty x y, tyy, pos, aft, gd⟩ :: rest) a w := by
  obtain ⟨cs, t, hg, hc⟩ := hg
  exact store_row hT x y rfl hgd g hx es.toArray hy (by simpa using hn) (by simpa using h1) cs t hg hc (fun w' hb hk => h w' ⟨t, hb⟩ hk)
theorem all_range_eqI : ∀ (xs ys : List Int), xs.length = ys.length → ((List.range xs.length).all fun i => xs.getD i 0 == ys.getD i 0) = (xs == ys)
  | [], [], _ => rfl
  | x :: xs, y :: ys, h => by
    have ih := all_range_eqI xs ys (by simpa using h)
    rw [List.length_cons, List.range_succ_eq_map, List.all_cons, List.all_map]
    simp only [List.getD_cons_zero, Function.comp_def, List.getD_cons_succ, ih]
    simp [List.cons_beq_cons]
  | [], _ :: _, h => by simp at h
  | _ :: _, [], h => by simp at h
theorem run_equalIn_nums (w : World) (d : Nat) (t e : TypeId) (n : Nat) (k : IntKind) (ht : P.underlying t = some (.array n e)) (he : P.underlying e = some (.int k)) (hsz : ∀ w, (sizeOf e).run P w = .ok 1 w)
    (xs ys : List Int) (hx : xs.length = n) (hy : ys.length = n) :
    (Op.equalIn (d + 2) t (.agg (nums k xs).toArray) (.agg (nums k ys).toArray)).run P w = .ok (xs == ys) w := by
  rw [← all_range_eqI xs ys (hx.trans hy.symm), hx, List.range_eq_range', Op.equalIn]
  simp only [Sem.run_bind, run_underlying ht, Result.andThen_ok, hsz, Std.Legacy.Range.forIn_eq_forIn_range', Std.Legacy.Range.size, Nat.sub_zero, Nat.add_sub_cancel, Nat.div_one]
  have hl : ∀ i ∈ List.range' 0 n 1, i < n := fun i hi => by simpa using (List.mem_range'_1.1 hi).2
  generalize List.range' 0 n 1 = l at hl ⊢
  induction l with
  | nil => simp
  | cons i l ih =>
    have hi : i < n := hl i (by simp)
    have px : (part e (nums k xs).toArray (i * 1)).run P w = .ok (.int k (xs.getD i 0)) w := by
      simp [part, isAgg, run_underlying he, List.getD, nums, List.getElem?_eq_getElem (show i < xs.length by omega)]
    have py : (part e (nums k ys).toArray (i * 1)).run P w = .ok (.int k (ys.getD i 0)) w := by
      simp [part, isAgg, run_underlying he, List.getD, nums, List.getElem?_eq_getElem (show i < ys.length by omega)]
    have pe : (Op.equalIn (d + 1) e (.int k (xs.getD i 0)) (.int k (ys.getD i 0))).run P w = .ok (xs.getD i 0 == ys.getD i 0) w := run_equalIn_int w d e k k _ _ he
    simp only [List.forIn_cons, Sem.run_bind, px, py, pe, Result.andThen_ok, List.all_cons]
    cases hb : (xs.getD i 0 == ys.getD i 0)
    · simp
    · simp only [Bool.not_true, Bool.false_eq_true, if_false, Sem.run_pure, Result.andThen_ok, Bool.true_and]
      exact ih fun j hj => hl j (by simp [hj])
theorem run_eql_nums (w : World) (t e : TypeId) (n : Nat) (k : IntKind) (ht : P.underlying t = some (.array n e)) (he : P.underlying e = some (.int k)) (hsz : ∀ w, (sizeOf e).run P w = .ok 1 w)
    (xs ys : List Int) (hx : xs.length = n) (hy : ys.length = n) : (binOp .eql t (.agg (nums k xs).toArray) (.agg (nums k ys).toArray)).run P w = .ok (.bool (xs == ys)) w := by
  rw [run_eql_struct, run_equalIn_nums w 9998 t e n k ht he hsz xs ys hx hy]
  rfl
theorem Ints.blk {w : World} {F : Nat → Prop} {k : IntKind} {g : Nat} {t : TypeId} {fr : Nat × Nat} {xs : List Int} (h : w.heap[g]? = some (.cells (nums k xs).toArray t fr)) (hF : F g) (hm : xs.length ≤ maxLen) (hw : ∀ x ∈ xs, (Lit.int k x).wf = true) :
    Ints w F k (some ⟨g, 0, none⟩) xs.length xs := by
  refine ⟨fun i hi => ⟨_, rfl, ?_⟩, fun ad e _ => by cases e; exact hF, Nat.le_refl _, hm, (fun e => by cases e), hw⟩
  have ea : (⟨g, 0, none⟩ : Addr).add i = ⟨g, i, none⟩ := by unfold Addr.add; split <;> simp_all
  rw [ea, blk_cell h]
  simp [nums, hi, List.getD_eq_getElem?_getD]
theorem row_cells {w : World} {g : Nat} {t : TypeId} {fr : Nat × Nat} {es : List Value} (h : w.heap[g]? = some (.cells es.toArray t fr)) (j : Nat) (u : Value) (hj : es[j]? = some u) : w.cell? ((⟨g, 0, none⟩ : Addr).add j) = some u := by
  have ea : (⟨g, 0, none⟩ : Addr).add j = ⟨g, j, none⟩ := by unfold Addr.add; split <;> simp_all
  rw [ea, blk_cell h]
  simpa using hj
theorem box_cells (w : World) (es : List Value) (t : TypeId) : ∀ j u, es[j]? = some u → (w.alloc (.cells es.toArray t)).cell? ((⟨w.heap.size, 0, none⟩ : Addr).add j) = some u := row_cells (heap_alloc_new w _)
theorem exec_load {ty : TypeId} {n : Nat} (hT : AggT P ty n) {o : Oper} {ev : Operand → Value} {x : Operand} {y : World} {ad : Addr} {es : List Value} (ho : o.op = .load ty x) (hx : ev x = .pointer (some ad)) (hn : es.length = n)
    (hes : ∀ j u, es[j]? = some u → y.cell? (ad.add j) = some u) : (execOp ev o).run P y = .ok (.value (.agg es.toArray)) y := by
  unfold execOp
  simp only [ho, hx, Instr.loadAt, Instr.sureAddr, Sem.run_bind, Sem.run_pure, Result.andThen_ok, run_loadVar_at hT ad es hn hes]
end
end Go.Proofs.Ytcghjnegaiiieaa
namespace Go.Proofs.Ytcghjnegaiiieaa
open Go Go.RowKit
inductive CV where
  | pv (v : Value)
  | ar (k : IntKind) (n : Nat) (xs : List Int)
  | st (fs : List CV)
  | sl (sz : Nat) (es : List CV)
instance : Inhabited CV := ⟨.st []⟩
mutual
def CV.size : CV → Nat
  | .pv _ => 1
  | .ar _ n _ => n
  | .st fs => CV.sizes fs
  | .sl _ _ => 1
def CV.sizes : List CV → Nat
  | [] => 0
  | a :: l => a.size + CV.sizes l
end
def CV.agg : CV → Bool
  | .ar .. | .st _ => true
  | _ => false
mutual
def CV.rep (w : World) (F : Nat → Prop) : CV → List Value → Prop
  | .pv v, cs => cs = [v] ∧ v.oneCell' = true
  | .ar k n xs, cs => cs = nums k xs ∧ xs.length = n
  | .st fs, cs => CV.reps w F fs cs
  | .sl sz es, cs => ∃ A c, cs = [.slice A es.length c] ∧ es.length ≤ c ∧ c ≤ maxLen ∧ (A = none → es = [] ∧ c = 0) ∧ CV.repE w F A sz es 0
def CV.reps (w : World) (F : Nat → Prop) : List CV → List Value → Prop
  | [], cs => cs = []
  | a :: l, cs => ∃ c d, cs = c ++ d ∧ CV.rep w F a c ∧ CV.reps w F l d
def CV.repE (w : World) (F : Nat → Prop) (A : Option Addr) (sz : Nat) : List CV → Nat → Prop
  | [], _ => True
  | a :: l, i => (∃ ad, A = some ad ∧ F ad.block ∧ a.size = sz ∧ ∃ cs, (∀ j u, cs[j]? = some u → w.cell? ((ad.add (i * sz)).add j) = some u) ∧ CV.rep w F a cs) ∧ CV.repE w F A sz l (i + 1)
end
def mkv (agg : Bool) (cs : List Value) : Value := if agg then .agg cs.toArray else cs.headD undef
def CV.repV (w : World) (F : Nat → Prop) (x : CV) (v : Value) : Prop := ∃ cs, x.rep w F cs ∧ v = mkv x.agg cs
def CV.at_ (w : World) (F : Nat → Prop) (x : CV) (ad : Addr) : Prop := F ad.block ∧ ∃ cs, (∀ j u, cs[j]? = some u → w.cell? (ad.add j) = some u) ∧ x.rep w F cs
section
variable {w w' : World} {F F' S : Nat → Prop}
mutual
theorem CV.rep_len : ∀ (x : CV) (cs : List Value), x.rep w F cs → cs.length = x.size
  | .pv v, cs, h => by simp only [CV.rep] at h; rw [h.1]; rfl
  | .ar k n xs, cs, h => by simp only [CV.rep] at h; rw [h.1, nums_length, h.2]; rfl
  | .st fs, cs, h => by simp only [CV.rep] at h; rw [CV.size]; exact CV.reps_len fs cs h
  | .sl sz es, cs, h => by simp only [CV.rep] at h; obtain ⟨A, c, rfl, _⟩ := h; rfl
theorem CV.reps_len : ∀ (l : List CV) (cs : List Value), CV.reps w F l cs → cs.length = CV.sizes l
  | [], cs, h => by simp only [CV.reps] at h; rw [h]; rfl
  | a :: l, cs, h => by
    simp only [CV.reps] at h
    obtain ⟨c, d, rfl, h1, h2⟩ := h
    rw [List.length_append, CV.sizes, CV.rep_len a c h1, CV.reps_len l d h2]
end
mutual
theorem CV.rep_one : ∀ (x : CV) (cs : List Value), x.rep w F cs → ∀ u ∈ cs, u.oneCell' = true
  | .pv v, cs, h => by simp only [CV.rep] at h; rw [h.1]; intro u hu; simp at hu; rw [hu]; exact h.2
  | .ar k n xs, cs, h => by simp only [CV.rep] at h; rw [h.1]; exact nums_oneC _ _
  | .st fs, cs, h => by simp only [CV.rep] at h; exact CV.reps_one fs cs h
  | .sl sz es, cs, h => by simp only [CV.rep] at h; obtain ⟨A, c, rfl, _⟩ := h; intro u hu; simp at hu; rw [hu]; rfl
theorem CV.reps_one : ∀ (l : List CV) (cs : List Value), CV.reps w F l cs → ∀ u ∈ cs, u.oneCell' = true
  | [], cs, h => by simp only [CV.reps] at h; rw [h]; intro u hu; cases hu
  | a :: l, cs, h => by
    simp only [CV.reps] at h
    obtain ⟨c, d, rfl, h1, h2⟩ := h
    intro u hu
    rcases List.mem_append.1 hu with hu | hu
    · exact CV.rep_one a c h1 u hu
    · exact CV.reps_one l d h2 u hu
end
mutual
theorem CV.rep_keep (hk : Kept S w w') (hf : ∀ b, F b → ¬ S b) (hF : ∀ b, F b → F' b) : ∀ (x : CV) (cs : List Value), x.rep w F cs → x.rep w' F' cs
  | .pv v, cs, h => by simp only [CV.rep] at h ⊢; exact h
  | .ar k n xs, cs, h => by simp only [CV.rep] at h ⊢; exact h
  | .st fs, cs, h => by simp only [CV.rep] at h ⊢; exact CV.reps_keep hk hf hF fs cs h
  | .sl sz es, cs, h => by
    simp only [CV.rep] at h ⊢
    obtain ⟨A, c, e, h1, h2, h3, h4⟩ := h
    exact ⟨A, c, e, h1, h2, h3, CV.repE_keep hk hf hF A sz es 0 h4⟩
theorem CV.reps_keep (hk : Kept S w w') (hf : ∀ b, F b → ¬ S b) (hF : ∀ b, F b → F' b) : ∀ (l : List CV) (cs : List Value), CV.reps w F l cs → CV.reps w' F' l cs
  | [], cs, h => by simp only [CV.reps] at h ⊢; exact h
  | a :: l, cs, h => by
    simp only [CV.reps] at h ⊢
    obtain ⟨c, d, e, h1, h2⟩ := h
    exact ⟨c, d, e, CV.rep_keep hk hf hF a c h1, CV.reps_keep hk hf hF l d h2⟩
theorem CV.repE_keep (hk : Kept S w w') (hf : ∀ b, F b → ¬ S b) (hF : ∀ b, F b → F' b) (A : Option Addr) (sz : Nat) : ∀ (l : List CV) (i : Nat), CV.repE w F A sz l i → CV.repE w' F' A sz l i
  | [], _, _ => by simp only [CV.repE]
  | a :: l, i, h => by
    simp only [CV.repE] at h ⊢
    obtain ⟨⟨ad, e, hb, hs, cs, hc, hr⟩, h2⟩ := h
    exact ⟨⟨ad, e, hF _ hb, hs, cs, fun j u hj => hk.at (hc j u hj) (by rw [add_block, add_block]; exact hf _ hb), CV.rep_keep hk hf hF a cs hr⟩, CV.repE_keep hk hf hF A sz l (i + 1) h2⟩
end
theorem CV.repV_keep (hk : Kept S w w') (hf : ∀ b, F b → ¬ S b) (hF : ∀ b, F b → F' b) {x : CV} {v : Value} (h : x.repV w F v) : x.repV w' F' v := by
  obtain ⟨cs, h1, h2⟩ := h
  exact ⟨cs, CV.rep_keep hk hf hF x cs h1, h2⟩
theorem CV.at_keep (hk : Kept S w w') (hf : ∀ b, F b → ¬ S b) (hF : ∀ b, F b → F' b) {x : CV} {ad : Addr} (h : x.at_ w F ad) : x.at_ w' F' ad := by
  obtain ⟨hb, cs, h1, h2⟩ := h
  exact ⟨hF _ hb, cs, fun j u hj => hk.at (h1 j u hj) (by rw [add_block]; exact hf _ hb), CV.rep_keep hk hf hF x cs h2⟩
theorem CV.repE_get {A : Option Addr} {sz : Nat} : ∀ (l : List CV) (i : Nat), CV.repE w F A sz l i → ∀ (k : Nat) (hk : k < l.length), ∃ ad, A = some ad ∧ l[k].size = sz ∧ l[k].at_ w F (ad.add ((i + k) * sz))
  | [], _, _, k, hk => by simp at hk
  | a :: l, i, h, 0, _ => by
    simp only [CV.repE] at h
    obtain ⟨⟨ad, e, hb, hs, cs, hc, hr⟩, _⟩ := h
    exact ⟨ad, e, hs, by rw [add_block]; exact hb, cs, hc, hr⟩
  | a :: l, i, h, k + 1, hk => by
    simp only [CV.repE] at h
    obtain ⟨ad, e, hs, h2⟩ := CV.repE_get l (i + 1) h.2 k (by simpa using hk)
    refine ⟨ad, e, hs, ?_⟩
    rw [show i + (k + 1) = i + 1 + k from by omega]
    exact h2
theorem CV.repE_of {A : Option Addr} {sz : Nat} : ∀ (l : List CV) (i : Nat), (∀ (k : Nat) (hk : k < l.length), ∃ ad, A = some ad ∧ l[k].size = sz ∧ l[k].at_ w F (ad.add ((i + k) * sz))) → CV.repE w F A sz l i
  | [], _, _ => by simp only [CV.repE]
  | a :: l, i, h => by
    simp only [CV.repE]
    refine ⟨?_, CV.repE_of l (i + 1) fun k hk => ?_⟩
    · obtain ⟨ad, e, hs, hb, cs, hc, hr⟩ := h 0 (by simp)
      rw [add_block] at hb
      exact ⟨ad, e, hb, hs, cs, hc, hr⟩
    · obtain ⟨ad, e, hs, h2⟩ := h (k + 1) (by simpa using hk)
      refine ⟨ad, e, hs, ?_⟩
      rw [show i + 1 + k = i + (k + 1) from by omega]
      exact h2
theorem CV.reps_append : ∀ (l m : List CV) (cs : List Value), CV.reps w F (l ++ m) cs ↔ ∃ c d, cs = c ++ d ∧ CV.reps w F l c ∧ CV.reps w F m d
  | [], m, cs => by
    simp only [List.nil_append, CV.reps]
    exact ⟨fun h => ⟨[], cs, rfl, rfl, h⟩, fun ⟨c, d, e, h1, h2⟩ => by rw [e, h1]; exact h2⟩
  | a :: l, m, cs => by
    simp only [List.cons_append, CV.reps]
    constructor
    · rintro ⟨c, d, rfl, h1, h2⟩
      obtain ⟨c', d', rfl, h3, h4⟩ := (CV.reps_append l m d).1 h2
      exact ⟨c ++ c', d', by rw [List.append_assoc], ⟨c, c', rfl, h1, h3⟩, h4⟩
    · rintro ⟨c, d, rfl, ⟨c1, c2, rfl, h1, h2⟩, h3⟩
      exact ⟨c1, c2 ++ d, by rw [List.append_assoc], h1, (CV.reps_append l m _).2 ⟨c2, d, rfl, h2, h3⟩⟩
end
def CV.off : CV → List Nat → Nat
  | .st fs, i :: p => CV.sizes (fs.take i) + (match fs[i]? with | some a => CV.off a p | none => 0)
  | .ar _ _ _, i :: _ => i
  | _, _ => 0
def CV.ok : CV → List Nat → Prop
  | _, [] => True
  | .st fs, i :: p => match fs[i]? with | some a => CV.ok a p | none => False
  | .ar _ n _, [i] => i < n
  | _, _ => False
def CV.get : CV → List Nat → CV
  | x, [] => x
  | .st fs, i :: p => match fs[i]? with | some a => CV.get a p | none => .st []
  | .ar k _ xs, [i] => .pv (.int k (xs.getD i 0))
  | _, _ => .st []
def CV.numOf : CV → Int
  | .pv (.int _ n) => n
  | _ => 0
def CV.set : CV → List Nat → CV → CV
  | _, [], y => y
  | .st fs, i :: p, y => match fs[i]? with | some a => .st (fs.set i (CV.set a p y)) | none => .st fs
  | .ar k n xs, [i], y => .ar k n (xs.set i y.numOf)
  | x, _, _ => x
section
variable {w : World} {F : Nat → Prop}
theorem CV.reps_at : ∀ (l : List CV) (cs : List Value) (i : Nat) (a : CV), CV.reps w F l cs → l[i]? = some a → ∃ c d e, cs = c ++ d ++ e ∧ c.length = CV.sizes (l.take i) ∧ a.rep w F d ∧
      (∀ b d', b.rep w F d' → CV.reps w F (l.set i b) (c ++ d' ++ e))
  | [], cs, i, a, _, hi => by simp at hi
  | x :: l, cs, 0, a, h, hi => by
    simp at hi
    subst hi
    simp only [CV.reps] at h
    obtain ⟨c, d, rfl, h1, h2⟩ := h
    refine ⟨[], c, d, by simp, by simp [CV.sizes], h1, fun b d' hb => ?_⟩
    simp only [List.set_cons_zero, CV.reps, List.nil_append]
    exact ⟨d', d, rfl, hb, h2⟩
  | x :: l, cs, i + 1, a, h, hi => by
    simp only [CV.reps] at h
    obtain ⟨c, d, rfl, h1, h2⟩ := h
    obtain ⟨c', d', e', rfl, hl, h3, h4⟩ := CV.reps_at l d i a h2 (by simpa using hi)
    refine ⟨c ++ c', d', e', by simp, ?_, h3, fun b db hb => ?_⟩
    · rw [List.length_append, List.take_succ_cons, CV.sizes, CV.rep_len x c h1, hl]
    · simp only [List.set_cons_succ, CV.reps]
      exact ⟨c, c' ++ db ++ e', by simp, h1, h4 b db hb⟩
theorem nums_at (k : IntKind) (xs : List Int) (i : Nat) (h : i < xs.length) : nums k xs = nums k (xs.take i) ++ [.int k (xs.getD i 0)] ++ nums k (xs.drop (i + 1)) := by
  conv => lhs; rw [← List.take_append_drop i xs, drop_cons xs i h]
  simp [nums]
def CV.fits : CV → List Nat → CV → Prop
  | .st fs, i :: p, y => match fs[i]? with | some a => CV.fits a p y | none => False
  | .ar k _ _, [_], y => match y with | .pv (.int k' _) => k' = k | _ => False
  | _, [], _ => True
  | _, _, _ => False
theorem CV.rep_part : ∀ (p : List Nat) (x : CV) (cs : List Value), x.rep w F cs → x.ok p → ∃ c d e, cs = c ++ d ++ e ∧ c.length = x.off p ∧ (x.get p).rep w F d ∧
    (∀ y d', x.fits p y → y.rep w F d' → (x.set p y).rep w F (c ++ d' ++ e))
  | [], x, cs, h, _ => ⟨[], cs, [], by simp, by cases x <;> simp [CV.off], by rw [show x.get [] = x from by cases x <;> rfl]; exact h, fun y d' _ hy => by
      rw [show x.set [] y = y from by cases x <;> rfl]; simpa using hy⟩
  | i :: p, .st fs, cs, h, ho => by
    simp only [CV.rep] at h
    unfold CV.ok at ho
    cases hi : fs[i]? with
    | none => rw [hi] at ho; exact ho.elim
    | some a =>
      rw [hi] at ho
      dsimp only at ho
      obtain ⟨c, d, e, rfl, hl, h1, h2⟩ := CV.reps_at fs cs i a h hi
      obtain ⟨c', d', e', rfl, hl', h1', h2'⟩ := CV.rep_part p a d h1 ho
      refine ⟨c ++ c', d', e' ++ e, by simp, ?_, ?_, fun y dy hf hy => ?_⟩
      · rw [List.length_append, CV.off, hi, hl, hl']
      · unfold CV.get; rw [hi]; exact h1'
      · unfold CV.fits at hf
        unfold CV.set
        rw [hi] at hf ⊢
        dsimp only at hf ⊢
        simp only [CV.rep]
        have := h2 _ _ (h2' y dy hf hy)
        simpa using this
  | [i], .ar k n xs, cs, h, ho => by
    simp only [CV.rep] at h
    simp only [CV.ok] at ho
    obtain ⟨rfl, rfl⟩ := h
    refine ⟨_, _, _, nums_at k xs i ho, ?_, ?_, fun y dy hf hy => ?_⟩
    · rw [nums_length, List.length_take]; simp only [CV.off]; omega
    · simp only [CV.get, CV.rep, true_and]; rfl
    · unfold CV.fits at hf
      split at hf
      · subst hf
        rename_i n
        simp only [CV.rep] at hy
        obtain ⟨rfl, _⟩ := hy
        simp only [CV.set, CV.rep, CV.numOf, List.length_set, and_true]
        rw [List.set_eq_take_append_cons_drop, if_pos ho]
        simp [nums]
      · exact hf.elim
  | i :: j :: p, .ar k n xs, cs, h, ho => by simp [CV.ok] at ho
  | i :: p, .pv v, cs, h, ho => by simp [CV.ok] at ho
  | i :: p, .sl _ _, cs, h, ho => by simp [CV.ok] at ho
end
end Go.Proofs.Ytcghjnegaiiieaa
namespace Go.Proofs.Ytcghjnegaiiieaa
open Go Go.RowKit
inductive AV where
  | c (x : CV)
  | st (fs : List AV)
  /-- the whole slice of an own row -/
  | os (q : Nat)
  /-- a part of an own row, of things of so many cells -/
  | osl (q lo hi sz : Nat)
  /-- the address of a part of an own object -/
  | ptr (q : Nat) (path : List Nat) (off : Nat)
  /-- the address of something that nobody writes to -/
  | fp (x : CV)
  | fn (f : Fn) (first caps : List AV)
  | tup (vs : List AV)
  /-- anything, of so many cells -/
  | junk (n : Nat)
instance : Inhabited AV := ⟨.junk 1⟩
mutual
def AV.size : AV → Nat
  | .c x => x.size
  | .st fs => AV.sizes fs
  | .junk n => n
  | _ => 1
def AV.sizes : List AV → Nat
  | [] => 0
  | a :: l => a.size + AV.sizes l
end
def AV.agg : AV → Bool
  | .c x => x.agg
  | .st _ => true
  | _ => false
def oslV (v : Value) (lo hi sz : Nat) : Value := match v with
  | .slice a _ c => .slice (if c = lo then a else a.map (·.add (lo * sz))) (hi - lo) (c - lo)
  | v => v
def blkOf : Value → Option Nat
  | .slice (some a) _ _ => some a.block
  | .pointer (some a) => some a.block
  | _ => none
section
variable (w : World) (F : Nat → Prop) (ε : Nat → Value)
mutual
def AV.repV : AV → Value → Prop
  | .c x, v => x.repV w F v
  | .st fs, v => ∃ cs, AV.reps fs cs ∧ v = .agg cs.toArray
  | .os q, v => v = ε q ∧ v.oneCell' = true
  | .osl q lo hi sz, v => lo ≤ hi ∧ ∃ a n c, ε q = .slice a n c ∧ hi ≤ n ∧ v = oslV (.slice a n c) lo hi sz
  | .ptr q _ off, v => ∃ b, blkOf (ε q) = some b ∧ v = .pointer (some ⟨b, off, none⟩)
  | .fp x, v => ∃ ad, v = .pointer (some ad) ∧ x.at_ w F ad
  | .fn f fi ca, v => ∃ vs us, v = .func f vs.toArray us.toArray ∧ AV.repVs fi vs ∧ AV.repVs ca us
  | .tup l, v => ∃ us, v = .tuple us.toArray ∧ AV.repVs l us
  | .junk _, _ => True
def AV.repVs : List AV → List Value → Prop
  | [], vs => vs = []
  | a :: l, vs => ∃ v us, vs = v :: us ∧ AV.repV a v ∧ AV.repVs l us
def AV.rep : AV → List Value → Prop
  | .c x, cs => x.rep w F cs
  | .st fs, cs => AV.reps fs cs
  | .os q, cs => ∃ v, cs = [v] ∧ v = ε q ∧ v.oneCell' = true
  | .osl q lo hi sz, cs => ∃ v, cs = [v] ∧ lo ≤ hi ∧ ∃ a n c, ε q = .slice a n c ∧ hi ≤ n ∧ v = oslV (.slice a n c) lo hi sz
  | .ptr q _ off, cs => ∃ v, cs = [v] ∧ ∃ b, blkOf (ε q) = some b ∧ v = .pointer (some ⟨b, off, none⟩)
  | .fp x, cs => ∃ v, cs = [v] ∧ ∃ ad, v = .pointer (some ad) ∧ x.at_ w F ad
  | .fn f fi ca, cs => ∃ v, cs = [v] ∧ ∃ vs us, v = .func f vs.toArray us.toArray ∧ AV.repVs fi vs ∧ AV.repVs ca us
  | .tup _, _ => False
  | .junk n, cs => cs.length = n ∧ ∀ u ∈ cs, u.oneCell' = true
def AV.reps : List AV → List Value → Prop
  | [], cs => cs = []
  | a :: l, cs => ∃ c d, cs = c ++ d ∧ AV.rep a c ∧ AV.reps l d
end
end
inductive AObj where
  | gone
  | cell (a : AV)
  | row (e : TypeId) (sz : Nat) (es : List CV)
def ObjAt (w : World) (F : Nat → Prop) (ε : Nat → Value) (q : Nat) : AObj → Prop
  | .gone => True
  | .cell a => ∃ b ty cs, ε q = .pointer (some ⟨b, 0, none⟩) ∧ w.heap[b]? = some (.cells cs.toArray ty (0, 0)) ∧ a.rep w F ε cs
  | .row e sz es => ∃ cs, CV.reps w F es cs ∧ (∀ x ∈ es, x.size = sz) ∧ w.ownsRow 0 e sz (ε q) es.length cs
def OB (ε : Nat → Value) (H : List AObj) (q b : Nat) : Prop := ∃ o, H[q]? = some o ∧ o ≠ .gone ∧ blkOf (ε q) = some b
structure Sim (w : World) (F : Nat → Prop) (ε : Nat → Value) (H : List AObj) : Prop where
  obj : ∀ q o, H[q]? = some o → ObjAt w F ε q o
  apart : ∀ q q' b, OB ε H q b → OB ε H q' b → q = q'
  free : ∀ q b, OB ε H q b → ¬ F b ∧ b < w.heap.size
  old : ∀ b, F b → b < w.heap.size
  out : ∀ q, H.length ≤ q → ε q = undef
section
variable {w w' : World} {F F' S : Nat → Prop} {ε ε' : Nat → Value}
mutual
theorem AV.rep_len : ∀ (x : AV) (cs : List Value), x.rep w F ε cs → cs.length = x.size
  | .c x, cs, h => by simp only [AV.rep] at h; rw [AV.size]; exact CV.rep_len x cs h
  | .st fs, cs, h => by simp only [AV.rep] at h; rw [AV.size]; exact AV.reps_len fs cs h
  | .os q, cs, h => by simp only [AV.rep] at h; obtain ⟨v, rfl, _⟩ := h; rfl
  | .osl q lo hi sz, cs, h => by simp only [AV.rep] at h; obtain ⟨v, rfl, _⟩ := h; rfl
  | .ptr q _ off, cs, h => by simp only [AV.rep] at h; obtain ⟨v, rfl, _⟩ := h; rfl
  | .fp x, cs, h => by simp only [AV.rep] at h; obtain ⟨v, rfl, _⟩ := h; rfl
  | .fn f fi ca, cs, h => by simp only [AV.rep] at h; obtain ⟨v, rfl, _⟩ := h; rfl
  | .tup _, cs, h => by simp only [AV.rep] at h
  | .junk n, cs, h => by simp only [AV.rep] at h; exact h.1
theorem AV.reps_len : ∀ (l : List AV) (cs : List Value), AV.reps w F ε l cs → cs.length = AV.sizes l
  | [], cs, h => by simp only [AV.reps] at h; rw [h]; rfl
  | a :: l, cs, h => by
    simp only [AV.reps] at h
    obtain ⟨c, d, rfl, h1, h2⟩ := h
    rw [List.length_append, AV.sizes, AV.rep_len a c h1, AV.reps_len l d h2]
end
mutual
theorem AV.rep_one : ∀ (x : AV) (cs : List Value), x.rep w F ε cs → ∀ u ∈ cs, u.oneCell' = true
  | .c x, cs, h => by simp only [AV.rep] at h; exact CV.rep_one x cs h
  | .st fs, cs, h => by simp only [AV.rep] at h; exact AV.reps_one fs cs h
  | .os q, cs, h => by simp only [AV.rep] at h; obtain ⟨v, rfl, _, h⟩ := h; intro u hu; simp at hu; rw [hu]; exact h
  | .osl q lo hi sz, cs, h => by simp only [AV.rep] at h; obtain ⟨v, rfl, _, a, n, c, _, _, rfl⟩ := h; intro u hu; simp at hu; rw [hu]; rfl
  | .ptr q _ off, cs, h => by simp only [AV.rep] at h; obtain ⟨v, rfl, b, _, rfl⟩ := h; intro u hu; simp at hu; rw [hu]; rfl
  | .fp x, cs, h => by simp only [AV.rep] at h; obtain ⟨v, rfl, ad, rfl, _⟩ := h; intro u hu; simp at hu; rw [hu]; rfl
  | .fn f fi ca, cs, h => by simp only [AV.rep] at h; obtain ⟨v, rfl, vs, us, rfl, _⟩ := h; intro u hu; simp at hu; rw [hu]; rfl
  | .tup _, cs, h => by simp only [AV.rep] at h
  | .junk n, cs, h => by simp only [AV.rep] at h; exact h.2
theorem AV.reps_one : ∀ (l : List AV) (cs : List Value), AV.reps w F ε l cs → ∀ u ∈ cs, u.oneCell' = true
  | [], cs, h => by simp only [AV.reps] at h; rw [h]; intro u hu; cases hu
  | a :: l, cs, h => by
    simp only [AV.reps] at h
    obtain ⟨c, d, rfl, h1, h2⟩ := h
    intro u hu
    rcases List.mem_append.1 hu with hu | hu
    · exact AV.rep_one a c h1 u hu
    · exact AV.reps_one l d h2 u hu
end
mutual
def AV.free (Z : List Nat) : AV → Bool
  | .st fs => AV.frees Z fs
  | .os q => !Z.contains q
  | .osl q _ _ _ => !Z.contains q
  | .ptr q _ _ => !Z.contains q
  | .fn _ fi ca => AV.frees Z fi && AV.frees Z ca
  | .tup l => AV.frees Z l
  | _ => true
def AV.frees (Z : List Nat) : List AV → Bool
  | [] => true
  | a :: l => a.free Z && AV.frees Z l
end
mutual
theorem AV.repV_keep {Z : List Nat} (hk : Kept S w w') (hf : ∀ b, F b → ¬ S b) (hF : ∀ b, F b → F' b) (he : ∀ q, Z.contains q = false → ε q ≠ undef → ε' q = ε q) : ∀ (x : AV) (v : Value), x.free Z = true → x.repV w F ε v → x.repV w' F' ε' v
  | .c x, v, _, h => by simp only [AV.repV] at h ⊢; exact CV.repV_keep hk hf hF h
  | .st fs, v, hz, h => by
    simp only [AV.repV] at h ⊢
    obtain ⟨cs, h1, h2⟩ := h
    exact ⟨cs, AV.reps_keep hk hf hF he fs cs (by simpa only [AV.free] using hz) h1, h2⟩
  | .os q, v, hz, h => by simp only [AV.repV] at h ⊢; rw [he q (by simpa only [AV.free, Bool.not_eq_true'] using hz) (fun e => by rw [h.1, e] at h; cases h.2)]; exact h
  | .osl q lo hi sz, v, hz, h => by simp only [AV.repV] at h ⊢; rw [he q (by simpa only [AV.free, Bool.not_eq_true'] using hz) (fun e => by obtain ⟨_, a, n, c, h1, _⟩ := h; rw [h1] at e; cases e)]; exact h
  | .ptr q _ off, v, hz, h => by simp only [AV.repV] at h ⊢; rw [he q (by simpa only [AV.free, Bool.not_eq_true'] using hz) (fun e => by rw [e] at h; obtain ⟨b, h, _⟩ := h; cases h)]; exact h
  | .fp x, v, _, h => by
    simp only [AV.repV] at h ⊢
    obtain ⟨ad, e, h1⟩ := h
    exact ⟨ad, e, CV.at_keep hk hf hF h1⟩
  | .fn f fi ca, v, hz, h => by
    simp only [AV.repV] at h ⊢
    simp only [AV.free, Bool.and_eq_true] at hz
    obtain ⟨vs, us, e, h1, h2⟩ := h
    exact ⟨vs, us, e, AV.repVs_keep hk hf hF he fi vs hz.1 h1, AV.repVs_keep hk hf hF he ca us hz.2 h2⟩
  | .tup l, v, hz, h => by
    simp only [AV.repV] at h ⊢
    obtain ⟨us, e, h1⟩ := h
    exact ⟨us, e, AV.repVs_keep hk hf hF he l us (by simpa only [AV.free] using hz) h1⟩
  | .junk _, _, _, _ => by simp only [AV.repV]
theorem AV.repVs_keep {Z : List Nat} (hk : Kept S w w') (hf : ∀ b, F b → ¬ S b) (hF : ∀ b, F b → F' b) (he : ∀ q, Z.contains q = false → ε q ≠ undef → ε' q = ε q) : ∀ (l : List AV) (vs : List Value), AV.frees Z l = true → AV.repVs w F ε l vs → AV.repVs w' F' ε' l vs
  | [], vs, _, h => by simp only [AV.repVs] at h ⊢; exact h
  | a :: l, vs, hz, h => by
    simp only [AV.repVs] at h ⊢
    simp only [AV.frees, Bool.and_eq_true] at hz
    obtain ⟨v, us, e, h1, h2⟩ := h
    exact ⟨v, us, e, AV.repV_keep hk hf hF he a v hz.1 h1, AV.repVs_keep hk hf hF he l us hz.2 h2⟩
theorem AV.rep_keep {Z : List Nat} (hk : Kept S w w') (hf : ∀ b, F b → ¬ S b) (hF : ∀ b, F b → F' b) (he : ∀ q, Z.contains q = false → ε q ≠ undef → ε' q = ε q) : ∀ (x : AV) (cs : List Value), x.free Z = true → x.rep w F ε cs → x.rep w' F' ε' cs
  | .c x, cs, _, h => by simp only [AV.rep] at h ⊢; exact CV.rep_keep hk hf hF x cs h
  | .st fs, cs, hz, h => by
    simp only [AV.rep] at h ⊢
    exact AV.reps_keep hk hf hF he fs cs (by simpa only [AV.free] using hz) h
  | .os q, v, hz, h => by simp only [AV.rep] at h ⊢; rw [he q (by simpa only [AV.free, Bool.not_eq_true'] using hz) (fun e => by obtain ⟨v, _, h1, h2⟩ := h; rw [h1, e] at h2; cases h2)]; exact h
  | .osl q lo hi sz, v, hz, h => by simp only [AV.rep] at h ⊢; rw [he q (by simpa only [AV.free, Bool.not_eq_true'] using hz) (fun e => by obtain ⟨_, _, _, a, n, c, h1, _⟩ := h; rw [h1] at e; cases e)]; exact h
  | .ptr q _ off, v, hz, h => by simp only [AV.rep] at h ⊢; rw [he q (by simpa only [AV.free, Bool.not_eq_true'] using hz) (fun e => by rw [e] at h; obtain ⟨_, _, b, h, _⟩ := h; cases h)]; exact h
  | .fp x, cs, _, h => by
    simp only [AV.rep] at h ⊢
    obtain ⟨v, e, ad, e2, h1⟩ := h
    exact ⟨v, e, ad, e2, CV.at_keep hk hf hF h1⟩
  | .fn f fi ca, cs, hz, h => by
    simp only [AV.rep] at h ⊢
    simp only [AV.free, Bool.and_eq_true] at hz
    obtain ⟨v, e0, vs, us, e, h1, h2⟩ := h
    exact ⟨v, e0, vs, us, e, AV.repVs_keep hk hf hF he fi vs hz.1 h1, AV.repVs_keep hk hf hF he ca us hz.2 h2⟩
  | .tup l, cs, _, h => by simp only [AV.rep] at h
  | .junk _, _, _, h => by simp only [AV.rep] at h ⊢; exact h
theorem AV.reps_keep {Z : List Nat} (hk : Kept S w w') (hf : ∀ b, F b → ¬ S b) (hF : ∀ b, F b → F' b) (he : ∀ q, Z.contains q = false → ε q ≠ undef → ε' q = ε q) : ∀ (l : List AV) (cs : List Value), AV.frees Z l = true → AV.reps w F ε l cs → AV.reps w' F' ε' l cs
  | [], vs, _, h => by simp only [AV.reps] at h ⊢; exact h
  | a :: l, cs, hz, h => by
    simp only [AV.reps] at h ⊢
    simp only [AV.frees, Bool.and_eq_true] at hz
    obtain ⟨c, d, e, h1, h2⟩ := h
    exact ⟨c, d, e, AV.rep_keep hk hf hF he a c hz.1 h1, AV.reps_keep hk hf hF he l d hz.2 h2⟩
end
theorem AV.repV_of_rep {x : AV} {cs : List Value} (h : x.rep w F ε cs) : x.repV w F ε (mkv x.agg cs) := by
  cases x with
  | c x => simp only [AV.rep] at h; simp only [AV.repV]; exact ⟨cs, h, rfl⟩
  | st fs => simp only [AV.rep] at h; simp only [AV.repV]; exact ⟨cs, h, rfl⟩
  | os q => simp only [AV.rep] at h; obtain ⟨v, rfl, h⟩ := h; simp only [AV.repV]; exact h
  | osl q lo hi sz => simp only [AV.rep] at h; obtain ⟨v, rfl, h⟩ := h; simp only [AV.repV]; exact h
  | ptr q p off => simp only [AV.rep] at h; obtain ⟨v, rfl, h⟩ := h; simp only [AV.repV]; exact h
  | fp x => simp only [AV.rep] at h; obtain ⟨v, rfl, h⟩ := h; simp only [AV.repV]; exact h
  | fn f fi ca => simp only [AV.rep] at h; obtain ⟨v, rfl, h⟩ := h; simp only [AV.repV]; exact h
  | tup l => simp only [AV.rep] at h
  | junk n => simp only [AV.repV]
theorem cells_of_rep {x : CV} {cs : List Value} (h : x.rep w F cs) : (mkv x.agg cs).cells.toList = cs := by
  unfold mkv
  split
  · simp [Value.cells]
  · rename_i hn
    have h1 := CV.rep_len x cs h
    have ho := CV.rep_one x cs h
    have : x.size = 1 := by cases x <;> first | rfl | exact absurd rfl hn
    rw [this] at h1
    match cs, h1, ho with
    | [u], _, ho =>
      have := ho u (by simp)
      simp only [List.headD_cons]
      cases u <;> first | rfl | simp [Value.oneCell'] at this
theorem AV.rep_of_repV {x : AV} {v : Value} (h : x.repV w F ε v) (hj : ∀ n, x ≠ .junk n) (ht : ∀ l, x ≠ .tup l) : x.rep w F ε v.cells.toList := by
  have one : ∀ u : Value, u.oneCell' = true → u.cells.toList = [u] := fun u hu => by cases u <;> first | rfl | simp [Value.oneCell'] at hu
  cases x with
  | c x => simp only [AV.repV] at h; obtain ⟨cs, h1, rfl⟩ := h; simp only [AV.rep]; rw [cells_of_rep h1]; exact h1
  | st fs => simp only [AV.repV] at h; obtain ⟨cs, h1, rfl⟩ := h; simp only [AV.rep, Value.cells]; exact h1
  | os q => simp only [AV.repV] at h; simp only [AV.rep]; exact ⟨v, one v h.2, h⟩
  | osl q lo hi sz => simp only [AV.repV] at h; simp only [AV.rep]; exact ⟨v, one v (by obtain ⟨_, a, n, c, _, _, rfl⟩ := h; rfl), h⟩
  | ptr q p off => simp only [AV.repV] at h; obtain ⟨b, h1, rfl⟩ := h; simp only [AV.rep]; exact ⟨_, rfl, b, h1, rfl⟩
  | fp x => simp only [AV.repV] at h; obtain ⟨ad, rfl, h1⟩ := h; simp only [AV.rep]; exact ⟨_, rfl, ad, rfl, h1⟩
  | fn f fi ca => simp only [AV.repV] at h; obtain ⟨vs, us, rfl, h1⟩ := h; simp only [AV.rep]; exact ⟨_, rfl, vs, us, rfl, h1⟩
  | tup l => exact absurd rfl (ht l)
  | junk n => exact absurd rfl (hj n)
end
def AV.off : AV → List Nat → Nat
  | .c x, p => x.off p
  | .st fs, i :: p => AV.sizes (fs.take i) + (match fs[i]? with | some a => AV.off a p | none => 0)
  | _, _ => 0
def AV.ok : AV → List Nat → Prop
  | .c x, p => x.ok p
  | .st fs, i :: p => match fs[i]? with | some a => AV.ok a p | none => False
  | _, [] => True
  | _, _ => False
def AV.get : AV → List Nat → AV
  | .c x, p => .c (x.get p)
  | .st fs, i :: p => match fs[i]? with | some a => AV.get a p | none => .junk 0
  | x, [] => x
  | _, _ => .junk 0
def AV.fits : AV → List Nat → AV → Prop
  | .c x, p, .c y => x.fits p y
  | .c (.st fs), i :: p, y => match fs[i]? with | some a => AV.fits (.c a) p y | none => False
  | .st fs, i :: p, y => match fs[i]? with | some a => AV.fits a p y | none => False
  | _, [], _ => True
  | _, _, _ => False
  termination_by _ p _ => p.length
def AV.set : AV → List Nat → AV → AV
  | .c x, p, .c y => .c (x.set p y)
  | .c (.st fs), i :: p, y => match fs[i]? with | some a => .st ((fs.map AV.c).set i (AV.set (.c a) p y)) | none => .c (.st fs)
  | .st fs, i :: p, y => match fs[i]? with | some a => .st (fs.set i (AV.set a p y)) | none => .st fs
  | _, [], y => y
  | x, _, _ => x
  termination_by _ p _ => p.length
section
variable {w : World} {F : Nat → Prop} {ε : Nat → Value}
theorem AV.reps_at : ∀ (l : List AV) (cs : List Value) (i : Nat) (a : AV), AV.reps w F ε l cs → l[i]? = some a → ∃ c d e, cs = c ++ d ++ e ∧ c.length = AV.sizes (l.take i) ∧ a.rep w F ε d ∧
      (∀ b d', AV.rep w F ε b d' → AV.reps w F ε (l.set i b) (c ++ d' ++ e))
  | [], cs, i, a, _, hi => by simp at hi
  | x :: l, cs, 0, a, h, hi => by
    simp at hi
    subst hi
    simp only [AV.reps] at h
    obtain ⟨c, d, rfl, h1, h2⟩ := h
    refine ⟨[], c, d, by simp, by simp [AV.sizes], h1, fun b d' hb => ?_⟩
    simp only [List.set_cons_zero, AV.reps, List.nil_append]
    exact ⟨d', d, rfl, hb, h2⟩
  | x :: l, cs, i + 1, a, h, hi => by
    simp only [AV.reps] at h
    obtain ⟨c, d, rfl, h1, h2⟩ := h
    obtain ⟨c', d', e', rfl, hl, h3, h4⟩ := AV.reps_at l d i a h2 (by simpa using hi)
    refine ⟨c ++ c', d', e', by simp, ?_, h3, fun b db hb => ?_⟩
    · rw [List.length_append, List.take_succ_cons, AV.sizes, AV.rep_len x c h1, hl]
    · simp only [List.set_cons_succ, AV.reps]
      exact ⟨c, c' ++ db ++ e', by simp, h1, h4 b db hb⟩
theorem AV.reps_map_c : ∀ (l : List CV) (cs : List Value), AV.reps w F ε (l.map .c) cs ↔ CV.reps w F l cs
  | [], cs => by simp only [List.map_nil, AV.reps, CV.reps]
  | a :: l, cs => by
    simp only [List.map_cons, AV.reps, CV.reps, AV.rep]
    constructor
    · rintro ⟨c, d, e, h1, h2⟩; exact ⟨c, d, e, h1, (AV.reps_map_c l d).1 h2⟩
    · rintro ⟨c, d, e, h1, h2⟩; exact ⟨c, d, e, h1, (AV.reps_map_c l d).2 h2⟩
theorem AV.sizes_map_c : ∀ (l : List CV), AV.sizes (l.map .c) = CV.sizes l
  | [] => rfl
  | a :: l => by simp only [List.map_cons, AV.sizes, CV.sizes, AV.size, AV.sizes_map_c l]
theorem AV.set_nil (x y : AV) : x.set [] y = y := by
  cases x <;> cases y <;> simp [AV.set, CV.set]
theorem AV.get_nil (x : AV) : x.get [] = x := by
  cases x <;> rfl
theorem AV.rep_part : ∀ (p : List Nat) (x : AV) (cs : List Value), x.rep w F ε cs → x.ok p → ∃ c d e, cs = c ++ d ++ e ∧ c.length = x.off p ∧ (x.get p).rep w F ε d ∧
    (∀ y d', x.fits p y → y.rep w F ε d' → (x.set p y).rep w F ε (c ++ d' ++ e)) := by
  intro p
  induction p with
  | nil =>
    intro x cs h ho
    refine ⟨[], cs, [], by simp, ?_, by rw [AV.get_nil]; exact h, fun y d' _ hy => by rw [AV.set_nil]; simpa using hy⟩
    cases x <;> (try simp [AV.off])
    rename_i x; cases x <;> simp [CV.off]
  | cons i p ih =>
    intro x cs h ho
    cases x with
    | c x =>
      simp only [AV.rep] at h
      simp only [AV.ok] at ho
      cases x with
      | st fs =>
        unfold CV.ok at ho
        cases hi : fs[i]? with
        | none => rw [hi] at ho; exact ho.elim
        | some a =>
          rw [hi] at ho
          dsimp only at ho
          simp only [CV.rep] at h
          obtain ⟨c, d, e, rfl, hl, h1, h2⟩ := AV.reps_at (fs.map .c) cs i (.c a) ((AV.reps_map_c (ε := ε) _ _).2 h) (by simp [hi])
          obtain ⟨c', d', e', rfl, hl', h1', h2'⟩ := ih (.c a) d h1 (by simp only [AV.ok]; exact ho)
          refine ⟨c ++ c', d', e' ++ e, by simp, ?_, ?_, fun y dy hf hy => ?_⟩
          · rw [List.length_append, AV.off, CV.off, hi, hl, hl', ← List.map_take, AV.sizes_map_c]; simp only [AV.off]
          · simp only [AV.get, CV.get, hi]; simpa only [AV.get] using h1'
          · by_cases hc : ∃ y', y = .c y'
            · obtain ⟨y', rfl⟩ := hc
              simp only [AV.fits, CV.fits, hi] at hf
              have := h2 _ _ (h2' (.c y') dy (by simp only [AV.fits]; exact hf) hy)
              simp only [AV.set, CV.set, hi, AV.rep, CV.rep]
              rw [← AV.reps_map_c (ε := ε), List.map_set]
              simpa [AV.set] using this
            · have hne : ∀ y', y = .c y' → False := fun y' e => hc ⟨y', e⟩
              rw [AV.fits] at hf
              · rw [AV.set]
                · rw [hi] at hf ⊢
                  have := h2 _ _ (h2' y dy hf hy)
                  simp only [AV.rep]
                  simpa using this
                · exact hne
              · exact hne
      | pv v => simp [CV.ok] at ho
      | sl sz es => simp [CV.ok] at ho
      | ar k n xs =>
        obtain ⟨c, d, e, rfl, hl, h1, h2⟩ := CV.rep_part (i :: p) _ cs h ho
        refine ⟨c, d, e, rfl, by rw [AV.off]; exact hl, by simp only [AV.get, AV.rep]; exact h1, fun y d' hf hy => ?_⟩
        cases y with
        | c y =>
          simp only [AV.fits] at hf
          simp only [AV.rep] at hy
          simp only [AV.set, AV.rep]
          exact h2 y d' hf hy
        | _ => simp [AV.fits] at hf
    | st fs =>
      simp only [AV.rep] at h
      unfold AV.ok at ho
      cases hi : fs[i]? with
      | none => rw [hi] at ho; exact ho.elim
      | some a =>
        rw [hi] at ho
        dsimp only at ho
        obtain ⟨c, d, e, rfl, hl, h1, h2⟩ := AV.reps_at fs cs i a h hi
        obtain ⟨c', d', e', rfl, hl', h1', h2'⟩ := ih a d h1 ho
        refine ⟨c ++ c', d', e' ++ e, by simp, ?_, ?_, fun y dy hf hy => ?_⟩
        · rw [List.length_append, AV.off, hi, hl, hl']
        · unfold AV.get; rw [hi]; exact h1'
        · rw [AV.fits] at hf
          rw [AV.set]
          rw [hi] at hf ⊢
          dsimp only at hf ⊢
          simp only [AV.rep]
          have := h2 _ _ (h2' y dy hf hy)
          simpa using this
    | os q => simp [AV.ok] at ho
    | osl q lo hi sz => simp [AV.ok] at ho
    | ptr q p off => simp [AV.ok] at ho
    | fp x => simp [AV.ok] at ho
    | fn f fi ca => simp [AV.ok] at ho
    | tup l => simp [AV.ok] at ho
    | junk n => simp [AV.ok] at ho
end
end Go.Proofs.Ytcghjnegaiiieaa
namespace Go.Proofs.Ytcghjnegaiiieaa
open Go Go.RowKit
mutual
def AV.kill (Z : List Nat) : AV → AV
  | .st fs => .st (AV.kills Z fs)
  | .os q => bif Z.contains q then .junk 1 else .os q
  | .osl q lo hi sz => bif Z.contains q then .junk 1 else .osl q lo hi sz
  | .ptr q p o => bif Z.contains q then .junk 1 else .ptr q p o
  | .fn f fi ca => .fn f (AV.kills Z fi) (AV.kills Z ca)
  | .tup l => .tup (AV.kills Z l)
  | .c x => .c x
  | .fp x => .fp x
  | .junk n => .junk n
def AV.kills (Z : List Nat) : List AV → List AV
  | [] => []
  | a :: l => a.kill Z :: AV.kills Z l
end
mutual
def AV.sub (q0 : Nat) (y z : AV) : AV → AV
  | .st fs => .st (AV.subs q0 y z fs)
  | .os q => bif q == q0 then y else .os q
  | .osl q lo hi sz => bif q == q0 then .junk 1 else .osl q lo hi sz
  | .ptr q p o => bif q == q0 then (match p, o with | [], 0 => z | _, _ => .junk 1) else .ptr q p o
  | .fn f fi ca => .fn f (AV.subs q0 y z fi) (AV.subs q0 y z ca)
  | .tup l => .tup (AV.subs q0 y z l)
  | .c x => .c x
  | .fp x => .fp x
  | .junk n => .junk n
def AV.subs (q0 : Nat) (y z : AV) : List AV → List AV
  | [] => []
  | a :: l => AV.sub q0 y z a :: AV.subs q0 y z l
end
section
variable {w w' : World} {F F' S : Nat → Prop} {ε ε' : Nat → Value}
mutual
theorem AV.free_nil : ∀ x : AV, x.free [] = true
  | .st fs => by simp only [AV.free]; exact AV.frees_nil fs
  | .os q => by simp [AV.free]
  | .osl q lo hi sz => by simp [AV.free]
  | .ptr q p o => by simp [AV.free]
  | .fn f fi ca => by simp only [AV.free, AV.frees_nil fi, AV.frees_nil ca, Bool.and_self]
  | .tup l => by simp only [AV.free]; exact AV.frees_nil l
  | .c x => by simp only [AV.free]
  | .fp x => by simp only [AV.free]
  | .junk n => by simp only [AV.free]
theorem AV.frees_nil : ∀ l : List AV, AV.frees [] l = true
  | [] => by simp only [AV.frees]
  | a :: l => by simp only [AV.frees, AV.free_nil a, AV.frees_nil l, Bool.and_self]
end
mutual
theorem AV.kill_free (Z : List Nat) : ∀ x : AV, (x.kill Z).free Z = true
  | .st fs => by simp only [AV.kill, AV.free]; exact AV.kills_free Z fs
  | .os q => by
    simp only [AV.kill]
    cases h : Z.contains q <;> simp only [cond_true, cond_false, AV.free, h, Bool.not_false]
  | .osl q lo hi sz => by
    simp only [AV.kill]
    cases h : Z.contains q <;> simp only [cond_true, cond_false, AV.free, h, Bool.not_false]
  | .ptr q p o => by
    simp only [AV.kill]
    cases h : Z.contains q <;> simp only [cond_true, cond_false, AV.free, h, Bool.not_false]
  | .fn f fi ca => by simp only [AV.kill, AV.free, AV.kills_free Z fi, AV.kills_free Z ca, Bool.and_self]
  | .tup l => by simp only [AV.kill, AV.free]; exact AV.kills_free Z l
  | .c x => by simp only [AV.kill, AV.free]
  | .fp x => by simp only [AV.kill, AV.free]
  | .junk n => by simp only [AV.kill, AV.free]
theorem AV.kills_free (Z : List Nat) : ∀ l : List AV, AV.frees Z (AV.kills Z l) = true
  | [] => by simp only [AV.kills, AV.frees]
  | a :: l => by simp only [AV.kills, AV.frees, AV.kill_free Z a, AV.kills_free Z l, Bool.and_self]
end
mutual
theorem AV.kill_repV (Z : List Nat) : ∀ (x : AV) (v : Value), x.repV w F ε v → (x.kill Z).repV w F ε v
  | .st fs, v, h => by
    simp only [AV.kill, AV.repV] at h ⊢
    obtain ⟨cs, h1, h2⟩ := h
    exact ⟨cs, AV.kills_reps Z fs cs h1, h2⟩
  | .os q, v, h => by
    simp only [AV.kill]
    cases Z.contains q
    · exact h
    · simp only [cond_true, AV.repV]
  | .osl q lo hi sz, v, h => by
    simp only [AV.kill]
    cases Z.contains q
    · exact h
    · simp only [cond_true, AV.repV]
  | .ptr q p o, v, h => by
    simp only [AV.kill]
    cases Z.contains q
    · exact h
    · simp only [cond_true, AV.repV]
  | .fn f fi ca, v, h => by
    simp only [AV.kill, AV.repV] at h ⊢
    obtain ⟨vs, us, e, h1, h2⟩ := h
    exact ⟨vs, us, e, AV.kills_repVs Z fi vs h1, AV.kills_repVs Z ca us h2⟩
  | .tup l, v, h => by
    simp only [AV.kill, AV.repV] at h ⊢
    obtain ⟨us, e, h1⟩ := h
    exact ⟨us, e, AV.kills_repVs Z l us h1⟩
  | .c x, v, h => by simp only [AV.kill]; exact h
  | .fp x, v, h => by simp only [AV.kill]; exact h
  | .junk n, v, h => by simp only [AV.kill]; exact h
theorem AV.kills_repVs (Z : List Nat) : ∀ (l : List AV) (vs : List Value), AV.repVs w F ε l vs → AV.repVs w F ε (AV.kills Z l) vs
  | [], vs, h => by simp only [AV.kills, AV.repVs] at h ⊢; exact h
  | a :: l, vs, h => by
    simp only [AV.kills, AV.repVs] at h ⊢
    obtain ⟨v, us, e, h1, h2⟩ := h
    exact ⟨v, us, e, AV.kill_repV Z a v h1, AV.kills_repVs Z l us h2⟩
theorem AV.kill_rep (Z : List Nat) : ∀ (x : AV) (cs : List Value), x.rep w F ε cs → (x.kill Z).rep w F ε cs
  | .st fs, cs, h => by simp only [AV.kill, AV.rep] at h ⊢; exact AV.kills_reps Z fs cs h
  | .os q, cs, h => by
    simp only [AV.kill]
    cases Z.contains q
    · exact h
    · simp only [cond_true, AV.rep] at h ⊢
      obtain ⟨v, rfl, _, h⟩ := h
      exact ⟨rfl, fun u hu => by simp at hu; rw [hu]; exact h⟩
  | .osl q lo hi sz, cs, h => by
    simp only [AV.kill]
    cases Z.contains q
    · exact h
    · simp only [cond_true, AV.rep] at h ⊢
      obtain ⟨v, rfl, _, a, n, c, _, _, rfl⟩ := h
      exact ⟨rfl, fun u hu => by simp at hu; rw [hu]; rfl⟩
  | .ptr q p o, cs, h => by
    simp only [AV.kill]
    cases Z.contains q
    · exact h
    · simp only [cond_true, AV.rep] at h ⊢
      obtain ⟨v, rfl, b, _, rfl⟩ := h
      exact ⟨rfl, fun u hu => by simp at hu; rw [hu]; rfl⟩
  | .fn f fi ca, cs, h => by
    simp only [AV.kill, AV.rep] at h ⊢
    obtain ⟨v, e0, vs, us, e, h1, h2⟩ := h
    exact ⟨v, e0, vs, us, e, AV.kills_repVs Z fi vs h1, AV.kills_repVs Z ca us h2⟩
  | .tup l, cs, h => by simp only [AV.rep] at h
  | .c x, cs, h => by simp only [AV.kill]; exact h
  | .fp x, cs, h => by simp only [AV.kill]; exact h
  | .junk n, cs, h => by simp only [AV.kill]; exact h
theorem AV.kills_reps (Z : List Nat) : ∀ (l : List AV) (cs : List Value), AV.reps w F ε l cs → AV.reps w F ε (AV.kills Z l) cs
  | [], vs, h => by simp only [AV.kills, AV.reps] at h ⊢; exact h
  | a :: l, vs, h => by
    simp only [AV.kills, AV.reps] at h ⊢
    obtain ⟨c, d, e, h1, h2⟩ := h
    exact ⟨c, d, e, AV.kill_rep Z a c h1, AV.kills_reps Z l d h2⟩
end
end
abbrev Tm := List (Nat × Bool × AV)
def look : Tm → Nat → Bool × AV
  | [], _ => (true, .junk 1)
  | (t, e) :: l, u => if t = u then e else look l u
def Shows (w : World) (F : Nat → Prop) (ε : Nat → Value) (e : Bool × AV) (v : Value) : Prop := (e.1 = true → e.2.repV w F ε v) ∧ (e.1 = false → v = undef)
def TRep (w : World) (F : Nat → Prop) (ε : Nat → Value) (T : Tm) (a : Act) : Prop := ∀ t, Shows w F ε (look T t) (a.tmps.getD t undef)
structure AS where
  T : Tm
  H : List AObj
structure Bs where
  w0 : World
  F0 : Nat → Prop
  S0 : Nat → Prop
  ε0 : Nat → Value
  fx : List Nat
  N : Nat
def AObj.isRow : AObj → Bool
  | .row .. => true
  | _ => false
structure SatX (B : Bs) (s : AS) (a : Act) (w : World) (F : Nat → Prop) (ε : Nat → Value) : Prop where
  sim : Sim w F ε s.H
  tm : TRep w F ε s.T a
  df : a.defers = []
  sz : a.tmps.size = B.N
  kept : Kept B.S0 B.w0 w
  f0 : ∀ b, B.F0 b → F b
  fn : ∀ b, F b → B.F0 b ∨ B.S0 b ∨ B.w0.heap.size ≤ b
  ob : ∀ q b, OB ε s.H q b → B.S0 b ∨ B.w0.heap.size ≤ b
  fix : ∀ q, q ∈ B.fx → ε q = B.ε0 q
  fxl : ∀ q, q ∈ B.fx → ∃ o, s.H[q]? = some o ∧ o.isRow = false
def Sat (B : Bs) (s : AS) (a : Act) (w : World) : Prop := ∃ F ε, SatX B s a w F ε
def AObj.kill (Z : List Nat) : AObj → AObj
  | .cell a => .cell (a.kill Z)
  | o => o
def AObj.free (Z : List Nat) : AObj → Bool
  | .cell a => a.free Z
  | _ => true
def Tm.kill (Z : List Nat) : Tm → Tm
  | [] => []
  | (t, g, x) :: l => (t, g, x.kill Z) :: Tm.kill Z l
section
variable {w w' : World} {F F' S : Nat → Prop} {ε ε' : Nat → Value} {B : Bs} {s : AS} {a : Act}
theorem AObj.kill_free (Z : List Nat) (o : AObj) : (o.kill Z).free Z = true := by cases o <;> simp [AObj.kill, AObj.free, AV.kill_free]
theorem AObj.kill_gone (Z : List Nat) {o : AObj} (h : o.kill Z ≠ .gone) : o ≠ .gone := by rintro rfl; exact h rfl
theorem ObjAt.killed {q : Nat} {o : AObj} (Z : List Nat) (h : ObjAt w F ε q o) : ObjAt w F ε q (o.kill Z) := by
  cases o with
  | cell a => obtain ⟨b, ty, cs, h1, h2, h3⟩ := h; exact ⟨b, ty, cs, h1, h2, AV.kill_rep Z a cs h3⟩
  | _ => exact h
theorem ObjAt.keep {q : Nat} {o : AObj} {Z : List Nat} (h : ObjAt w F ε q o) (hk : Kept S w w') (hf : ∀ b, F b → ¬ S b) (hF : ∀ b, F b → F' b) (he : ∀ q, Z.contains q = false → ε q ≠ undef → ε' q = ε q)
    (hz : o.free Z = true) (hq : o ≠ .gone → ε' q = ε q) (hb : ∀ b, o ≠ .gone → blkOf (ε q) = some b → ¬ S b) : ObjAt w' F' ε' q o := by
  cases o with
  | gone => trivial
  | cell a =>
    obtain ⟨b, ty, cs, h1, h2, h3⟩ := h
    refine ⟨b, ty, cs, by rw [hq (by simp)]; exact h1, hk.blk h2 (hb b (by simp) (by rw [h1]; rfl)), AV.rep_keep hk hf hF he a cs hz h3⟩
  | row e sz es =>
    obtain ⟨cs, h1, h2, h3⟩ := h
    refine ⟨cs, CV.reps_keep hk hf hF es cs h1, h2, ?_⟩
    rw [hq (by simp)]
    exact own_keep h3 hk (fun b hb' => hb b (by simp) (by revert hb'; cases ε q <;> simp [Value.ownBlock, blkOf]; rename_i A _ _; cases A <;> simp [Value.ownBlock]))
theorem look_kill (Z : List Nat) : ∀ (T : Tm) (t : Nat), look (Tm.kill Z T) t = ((look T t).1, (look T t).2.kill Z)
  | [], t => by simp [Tm.kill, look, AV.kill]
  | (u, g, x) :: l, t => by
    simp only [Tm.kill, look]
    split
    · rfl
    · exact look_kill Z l t
theorem TRep.keep {T : Tm} {Z : List Nat} (h : TRep w F ε T a) (hk : Kept S w w') (hf : ∀ b, F b → ¬ S b) (hF : ∀ b, F b → F' b) (he : ∀ q, Z.contains q = false → ε q ≠ undef → ε' q = ε q) : TRep w' F' ε' (Tm.kill Z T) a := fun t => by
  rw [look_kill]
  refine ⟨fun hg => ?_, (h t).2⟩
  exact AV.repV_keep hk hf hF he _ _ (AV.kill_free Z _) (AV.kill_repV Z _ _ ((h t).1 hg))
theorem TRep.keep0 {T : Tm} (h : TRep w F ε T a) (hk : Kept S w w') (hf : ∀ b, F b → ¬ S b) (hF : ∀ b, F b → F' b) (he : ∀ q, ε q ≠ undef → ε' q = ε q) : TRep w' F' ε' T a := fun t => by
  refine ⟨fun hg => ?_, (h t).2⟩
  refine AV.repV_keep (Z := []) hk hf hF (fun q _ => he q) _ _ ?_ ((h t).1 hg)
  exact AV.free_nil _
theorem SatX.put (h : SatX B s a w F ε) (d : Nat) (e : Bool × AV) (v : Value) (hv : Shows w F ε e v) (hd : d < B.N) : SatX B ⟨(d, e) :: s.T, s.H⟩ (a.put (some d) v) w F ε := by
  refine ⟨h.sim, fun t => ?_, h.df, by simp [Act.put, h.sz], h.kept, h.f0, h.fn, h.ob, h.fix, h.fxl⟩
  simp only [look]
  have hs := h.sz
  split
  · rename_i e1
    subst e1
    simp only [Act.put, Array.getD_eq_getD_getElem?]
    rw [Array.getElem?_setIfInBounds_self_of_lt (by omega)]
    exact hv
  · rename_i hne
    simp only [Act.put, Array.getD_eq_getD_getElem?]
    rw [Array.getElem?_setIfInBounds_ne hne, ← Array.getD_eq_getD_getElem?]
    exact h.tm t
def upd (ε : Nat → Value) (q : Nat) (v : Value) : Nat → Value := fun i => if i = q then v else ε i
theorem upd_same (ε : Nat → Value) (q : Nat) (v : Value) : upd ε q v q = v := by simp [upd]
theorem upd_ne {ε : Nat → Value} {q i : Nat} {v : Value} (h : i ≠ q) : upd ε q v i = ε i := by simp [upd, h]
theorem SatX.more (h : SatX B s a w F ε) (hk : Kept Nob w w') (hF : ∀ b, F b → F' b) (hn : ∀ b, F' b → F b ∨ w.heap.size ≤ b) (hlt : ∀ b, F' b → b < w'.heap.size) : SatX B s a w' F' ε := by
  refine ⟨⟨fun q o hq => ?_, h.sim.apart, fun q b hb => ?_, hlt, h.sim.out⟩, h.tm.keep0 hk (fun _ _ h => h) hF (fun _ _ => rfl), h.df, h.sz, Kept.then h.kept hk (fun _ _ h => h.elim), fun b hb => hF b (h.f0 b hb), fun b hb => ?_, h.ob, h.fix, h.fxl⟩
  · refine (h.sim.obj q o hq).keep (Z := []) hk (fun _ _ h => h) hF (fun _ _ _ => rfl) ?_ (fun _ => rfl) (fun _ _ _ h => h)
    cases o <;> simp [AObj.free, AV.free_nil]
  · obtain ⟨h1, h2⟩ := h.sim.free q b hb
    refine ⟨fun hf => (hn b hf).elim h1 (fun h3 => by omega), Nat.lt_of_lt_of_le h2 hk.size⟩
  · rcases hn b hb with h1 | h1
    · exact h.fn b h1
    · exact .inr (.inr (Nat.le_trans h.kept.size h1))
theorem OB.lt {H : List AObj} {q b : Nat} (h : OB ε H q b) : q < H.length := by
  obtain ⟨o, h1, _⟩ := h
  exact (List.getElem?_eq_some_iff.1 h1).1
theorem SatX.add (h : SatX B s a w F ε) (o : AObj) (v : Value) (ho : ObjAt w F (upd ε s.H.length v) s.H.length o) (hb : ∀ b, blkOf v = some b → ¬ F b ∧ b < w.heap.size ∧ (∀ q, ¬ OB ε s.H q b) ∧ (B.S0 b ∨ B.w0.heap.size ≤ b)) :
    SatX B ⟨s.T, s.H ++ [o]⟩ a w F (upd ε s.H.length v) := by
  have he : ∀ q, ε q ≠ undef → upd ε s.H.length v q = ε q := fun q hq => upd_ne (fun e => hq (h.sim.out q (by omega)))
  have hold : ∀ q, q < s.H.length → upd ε s.H.length v q = ε q := fun q hq => upd_ne (by omega)
  have hob : ∀ q b, OB (upd ε s.H.length v) (s.H ++ [o]) q b → (q < s.H.length ∧ OB ε s.H q b) ∨ (q = s.H.length ∧ blkOf v = some b) := fun q b hq => by
    obtain ⟨o', h1, h2, h3⟩ := hq
    by_cases hl : q < s.H.length
    · rw [List.getElem?_append_left hl] at h1
      rw [hold q hl] at h3
      exact .inl ⟨hl, o', h1, h2, h3⟩
    · have : q < (s.H ++ [o]).length := (List.getElem?_eq_some_iff.1 h1).1
      have e : q = s.H.length := by simp at this; omega
      subst e
      rw [upd_same] at h3
      exact .inr ⟨rfl, h3⟩
  refine ⟨⟨fun q o' hq => ?_, fun q q' b h1 h2 => ?_, fun q b h1 => ?_, h.sim.old, fun q hq => ?_⟩, h.tm.keep0 (Kept.refl Nob w) (fun _ _ h => h) (fun _ h => h) he, h.df, h.sz, h.kept, h.f0, h.fn, fun q b h1 => ?_, fun q hq => ?_, fun q hq => ?_⟩
  · by_cases hl : q < s.H.length
    · rw [List.getElem?_append_left hl] at hq
      refine (h.sim.obj q o' hq).keep (Z := []) (Kept.refl Nob w) (fun _ _ h => h) (fun _ h => h) (fun q _ => he q) ?_ (fun _ => hold q hl) (fun _ _ _ h => h)
      cases o' <;> simp [AObj.free, AV.free_nil]
    · have : q < (s.H ++ [o]).length := (List.getElem?_eq_some_iff.1 hq).1
      have e : q = s.H.length := by simp at this; omega
      subst e
      simp at hq
      subst hq
      exact ho
  · rcases hob q b h1 with ⟨_, h3⟩ | ⟨rfl, h3⟩ <;> rcases hob q' b h2 with ⟨_, h4⟩ | ⟨rfl, h4⟩
    · exact h.sim.apart q q' b h3 h4
    · exact absurd h3 ((hb b h4).2.2.1 q)
    · exact absurd h4 ((hb b h3).2.2.1 q')
    · rfl
  · rcases hob q b h1 with ⟨_, h3⟩ | ⟨rfl, h3⟩
    · exact h.sim.free q b h3
    · exact ⟨(hb b h3).1, (hb b h3).2.1⟩
  · simp at hq
    rw [upd_ne (by omega)]
    exact h.sim.out q (by omega)
  · rcases hob q b h1 with ⟨_, h3⟩ | ⟨rfl, h3⟩
    · exact h.ob q b h3
    · exact (hb b h3).2.2.2
  · obtain ⟨o', h1, _⟩ := h.fxl q hq
    rw [hold q (List.getElem?_eq_some_iff.1 h1).1]
    exact h.fix q hq
  · obtain ⟨o', h1, h2⟩ := h.fxl q hq
    exact ⟨o', by rw [List.getElem?_append_left (List.getElem?_eq_some_iff.1 h1).1]; exact h1, h2⟩
theorem SatX.wrote (h : SatX B s a w F ε) {q : Nat} {o o' : AObj} (hq : s.H[q]? = some o) (hg : o ≠ .gone) (hk : Kept S w w') (hS : ∀ b, S b → blkOf (ε q) = some b) (ho : ObjAt w' F ε q o') (hir : o'.isRow = o.isRow) :
    SatX B ⟨s.T, s.H.set q o'⟩ a w' F ε := by
  have hobq : ∀ b, blkOf (ε q) = some b → OB ε s.H q b := fun b hb => ⟨o, hq, hg, hb⟩
  have hFS : ∀ b, F b → ¬ S b := fun b hf hs => (h.sim.free q b (hobq b (hS b hs))).1 hf
  have hob : ∀ i b, OB ε (s.H.set q o') i b → OB ε s.H i b := fun i b hi => by
    obtain ⟨o1, h1, h2, h3⟩ := hi
    by_cases e : i = q
    · subst e; exact hobq b h3
    · rw [List.getElem?_set_ne (fun h => e h.symm)] at h1
      exact ⟨o1, h1, h2, h3⟩
  refine ⟨⟨fun i o1 hi => ?_, fun q q' b h1 h2 => h.sim.apart q q' b (hob q b h1) (hob q' b h2), fun q b h1 => ?_, fun b hb => Nat.lt_of_lt_of_le (h.sim.old b hb) hk.size, fun i hi => h.sim.out i (by simpa using hi)⟩,
    h.tm.keep0 hk hFS (fun _ h => h) (fun _ _ => rfl), h.df, h.sz, ?_, h.f0, h.fn, fun i b h1 => h.ob i b (hob i b h1), h.fix, fun i hi => by
      obtain ⟨o1, h1, h2⟩ := h.fxl i hi
      by_cases e : i = q
      · subst e
        rw [hq] at h1
        cases h1
        exact ⟨o', List.getElem?_set_self (List.getElem?_eq_some_iff.1 hq).1, hir.trans h2⟩
      · exact ⟨o1, by rw [List.getElem?_set_ne (fun h => e h.symm)]; exact h1, h2⟩⟩
  · by_cases e : i = q
    · subst e
      rw [List.getElem?_set_self (List.getElem?_eq_some_iff.1 hq).1] at hi
      cases hi
      exact ho
    · rw [List.getElem?_set_ne (fun h => e h.symm)] at hi
      refine (h.sim.obj i o1 hi).keep (Z := []) hk hFS (fun _ h => h) (fun _ _ _ => rfl) ?_ (fun _ => rfl) (fun b hg1 hb hs => e (h.sim.apart i q b ⟨o1, hi, hg1, hb⟩ (hobq b (hS b hs))))
      cases o1 <;> simp [AObj.free, AV.free_nil]
  · obtain ⟨h2, h3⟩ := h.sim.free q b (hob q b h1)
    exact ⟨h2, Nat.lt_of_lt_of_le h3 hk.size⟩
  · refine ⟨hk.os.trans h.kept.os, hk.tape.trans h.kept.tape, hk.output.trans h.kept.output, Nat.le_trans h.kept.size hk.size, fun i hi hn => ?_⟩
    rw [hk.block i (Nat.lt_of_lt_of_le hi h.kept.size) ?_]
    · exact h.kept.block i hi hn
    · intro hs
      rcases h.ob q i (hobq i (hS i hs)) with h1 | h1
      · exact hn h1
      · omega
theorem SatX.turn (h : SatX B s a w F ε) {q : Nat} {o o' : AObj} {v' : Value} (hq : s.H[q]? = some o) (hg : o ≠ .gone) (hk : Kept S w w') (hS : ∀ b, S b → blkOf (ε q) = some b) (ho : ObjAt w' F (upd ε q v') q o')
    (hv : ∀ b, blkOf v' = some b → blkOf (ε q) = some b ∨ (w.heap.size ≤ b ∧ b < w'.heap.size)) (hfx : q ∉ B.fx) :
    SatX B ⟨Tm.kill [q] s.T, (s.H.map (AObj.kill [q])).set q o'⟩ a w' F (upd ε q v') := by
  have hobq : ∀ b, blkOf (ε q) = some b → OB ε s.H q b := fun b hb => ⟨o, hq, hg, hb⟩
  have hql : q < s.H.length := (List.getElem?_eq_some_iff.1 hq).1
  have hFS : ∀ b, F b → ¬ S b := fun b hf hs => (h.sim.free q b (hobq b (hS b hs))).1 hf
  have he : ∀ i, [q].contains i = false → ε i ≠ undef → upd ε q v' i = ε i := fun i hi _ => upd_ne (fun e => by subst e; simp at hi)
  have hob : ∀ i b, OB (upd ε q v') ((s.H.map (AObj.kill [q])).set q o') i b → OB ε s.H i b ∨ (i = q ∧ w.heap.size ≤ b ∧ b < w'.heap.size) := fun i b hi => by
    obtain ⟨o1, h1, h2, h3⟩ := hi
    by_cases e : i = q
    · subst e
      rw [upd_same] at h3
      rcases hv b h3 with h4 | h4
      · exact .inl (hobq b h4)
      · exact .inr ⟨rfl, h4⟩
    · rw [List.getElem?_set_ne (fun h => e h.symm), List.getElem?_map] at h1
      rw [upd_ne e] at h3
      cases h5 : s.H[i]? with
      | none => rw [h5] at h1; cases h1
      | some o2 =>
        rw [h5] at h1
        simp only [Option.map_some, Option.some.injEq] at h1
        subst h1
        exact .inl ⟨o2, h5, AObj.kill_gone _ h2, h3⟩
  refine ⟨⟨fun i o1 hi => ?_, fun i j b h1 h2 => ?_, fun i b h1 => ?_, fun b hb => Nat.lt_of_lt_of_le (h.sim.old b hb) hk.size, fun i hi => ?_⟩,
    h.tm.keep hk hFS (fun _ h => h) he, h.df, h.sz, ?_, h.f0, h.fn, fun i b h1 => ?_, fun i hi => ?_, fun i hi => by
      obtain ⟨o1, h1, h2⟩ := h.fxl i hi
      have e : i ≠ q := by rintro rfl; exact hfx hi
      exact ⟨o1.kill [q], by rw [List.getElem?_set_ne (fun h => e h.symm), List.getElem?_map, h1]; rfl, by cases o1 <;> exact h2⟩⟩
  · by_cases e : i = q
    · subst e
      rw [List.getElem?_set_self (by simpa using hql)] at hi
      cases hi
      exact ho
    · rw [List.getElem?_set_ne (fun h => e h.symm), List.getElem?_map] at hi
      cases h5 : s.H[i]? with
      | none => rw [h5] at hi; cases hi
      | some o2 =>
        rw [h5] at hi
        simp only [Option.map_some, Option.some.injEq] at hi
        subst hi
        exact ((h.sim.obj i o2 h5).killed [q]).keep (Z := [q]) hk hFS (fun _ h => h) he (AObj.kill_free _ _) (fun _ => upd_ne e) (fun b hg1 hb hs => e (h.sim.apart i q b ⟨o2, h5, AObj.kill_gone _ hg1, hb⟩ (hobq b (hS b hs))))
  · rcases hob i b h1 with h3 | ⟨rfl, h3, _⟩ <;> rcases hob j b h2 with h4 | ⟨rfl, h4, _⟩
    · exact h.sim.apart i j b h3 h4
    · have := (h.sim.free i b h3).2; omega
    · have := (h.sim.free j b h4).2; omega
    · rfl
  · rcases hob i b h1 with h3 | ⟨rfl, h3, h4⟩
    · obtain ⟨h5, h6⟩ := h.sim.free i b h3
      exact ⟨h5, Nat.lt_of_lt_of_le h6 hk.size⟩
    · exact ⟨fun hf => by have := h.sim.old b hf; omega, h4⟩
  · simp at hi
    rw [upd_ne (by omega)]
    exact h.sim.out i hi
  · refine ⟨hk.os.trans h.kept.os, hk.tape.trans h.kept.tape, hk.output.trans h.kept.output, Nat.le_trans h.kept.size hk.size, fun i hi hn => ?_⟩
    rw [hk.block i (Nat.lt_of_lt_of_le hi h.kept.size) ?_]
    · exact h.kept.block i hi hn
    · intro hs
      rcases h.ob q i (hobq i (hS i hs)) with h1 | h1
      · exact hn h1
      · omega
  · rcases hob i b h1 with h3 | ⟨rfl, h3, h4⟩
    · exact h.ob i b h3
    · exact .inr (Nat.le_trans h.kept.size h3)
  · have hne : i ≠ q := by rintro rfl; exact hfx hi
    rw [upd_ne hne]
    exact h.fix i hi
end
end Go.Proofs.Ytcghjnegaiiieaa
namespace Go.Proofs.Ytcghjnegaiiieaa
open Go Go.RowKit
section
variable (P : Program)
def tOff (t : TypeId) (f : Nat) : Option (Nat × TypeId) := match P.underlying t with | some (.struct fs) => (fs[f]?).map fun x => (x.offset, x.type) | _ => none
def tSz (t : TypeId) : Option Nat := (P.info? t).map (·.size)
def tAgg (t : TypeId) : Option Bool := match P.underlying t with | some (.struct _) | some (.array _ _) => some true | some _ => some false | none => none
def tSlice (t : TypeId) : Option (TypeId × Nat) := match P.underlying t with | some (.slice e) => (tSz P e).map fun n => (e, n) | _ => none
def tArray (t : TypeId) : Option (TypeId × Nat × Nat) := match P.underlying t with | some (.array n e) => (tSz P e).map fun k => (e, n, k) | _ => none
def tInt (t : TypeId) : Option IntKind := match P.underlying t with | some (.int k) => some k | _ => none
end
inductive Sh where
  | i | b | s
  | a (k : IntKind) (n : Nat)
  | st (l : List Sh)
  | ar (n : Nat) (e : Sh)
mutual
def Sh.size : Sh → Nat
  | .i => 1 | .b => 1 | .s => 1
  | .a _ n => n
  | .st l => Sh.sizes l
  | .ar n e => n * e.size
def Sh.sizes : List Sh → Nat
  | [] => 0
  | h :: l => h.size + Sh.sizes l
end
mutual
def Sh.depth : Sh → Nat
  | .i => 1 | .b => 1 | .s => 1
  | .a _ _ => 2
  | .st l => Sh.depths l + 1
  | .ar _ e => e.depth + 1
def Sh.depths : List Sh → Nat
  | [] => 0
  | h :: l => max h.depth (Sh.depths l)
end
def Sh.agg : Sh → Bool
  | .a _ _ | .st _ | .ar _ _ => true
  | _ => false
mutual
def Sh.fits : Sh → CV → CV → Prop
  | .i, .pv (.int k _), .pv (.int k' _) => k = k'
  | .b, .pv (.bool _), .pv (.bool _) => True
  | .s, .pv (.string _), .pv (.string _) => True
  | .a kk n, .ar k m _, .ar k' m' _ => m = n ∧ m' = n ∧ k = kk ∧ k' = kk
  | .st l, .st fs, .st gs => Sh.fitsL l fs gs
  | .ar n e, .st fs, .st gs => fs.length = n ∧ gs.length = n ∧ Sh.fitsR e fs gs
  | _, _, _ => False
def Sh.fitsL : List Sh → List CV → List CV → Prop
  | [], [], [] => True
  | h :: l, x :: fs, y :: gs => h.fits x y ∧ Sh.fitsL l fs gs
  | _, _, _ => False
def Sh.fitsR (e : Sh) : List CV → List CV → Prop
  | [], [] => True
  | x :: fs, y :: gs => e.fits x y ∧ Sh.fitsR e fs gs
  | _, _ => False
end
mutual
def CV.eqv : CV → CV → Bool
  | .pv (.int _ a), .pv (.int _ b) => a == b
  | .pv (.bool a), .pv (.bool b) => a == b
  | .pv (.string a), .pv (.string b) => a.toList == b.toList
  | .ar _ _ xs, .ar _ _ ys => xs == ys
  | .st fs, .st gs => CV.eqvs fs gs
  | _, _ => false
def CV.eqvs : List CV → List CV → Bool
  | [], [] => true
  | x :: fs, y :: gs => x.eqv y && CV.eqvs fs gs
  | _, _ => false
end
structure EqTy (P : Program) (t : TypeId) (sh : Sh) : Prop where
  sz : tSz P t = some sh.size
  ag : tAgg P t = some sh.agg
  len : ∀ x y, sh.fits x y → x.size = sh.size ∧ y.size = sh.size ∧ x.agg = sh.agg ∧ y.agg = sh.agg
  one : sh.agg = false → sh.size = 1
  run : ∀ d, sh.depth ≤ d → ∀ (w : World) (F : Nat → Prop) x y cs ds, sh.fits x y → x.rep w F cs → y.rep w F ds → ∀ w', (Op.equalIn d t (mkv sh.agg cs) (mkv sh.agg ds)).run P w' = .ok (x.eqv y) w'
inductive PK where
  | mov (x : Operand)
  | pick (c a b : Operand)
  | fAddr (x : Operand) (f off : Nat)
  | fld (x : Operand) (f off sz : Nat) (agg : Bool)
  | iAddrS (x i : Operand) (sz : Nat)
  | iAddrA (x i : Operand) (n sz : Nat)
  | idxA (x i : Operand) (n sz : Nat) (agg : Bool)
  | load (x : Operand) (sz : Nat) (agg : Bool)
  | bin (op : BinOp) (x y : Operand)
  | not (x : Operand)
  | neg (x : Operand)
  | cvt (k : IntKind) (x : Operand)
  | ext (x : Operand) (i : Nat)
  | len (text : Bool) (x : Operand)
  | mx (x y : Operand)
  | mn (x y : Operand)
  | slc (x : Operand) (lo hi : Option Operand) (sz : Nat)
  | mkf (f : Fn) (fi ca : List Operand)
  | nilc (x : Operand)
  | str (x : Operand)
  | strEq (neg : Bool) (x y : Operand)
  | eqA (neg : Bool) (t : TypeId) (sh : Sh) (x y : Operand)
  | eqNil (kd : Nat) (neg : Bool) (x y : Operand)
  | bld (z : CV) (pl : List (Nat × Nat)) (parts : List (Nat × Operand))
  | slcA (x : Operand) (lo hi : Option Operand) (n sz : Nat)
  | slcT (x : Operand) (lo hi : Option Operand)
  | idxT (x i : Operand)
  | eqB (neg : Bool) (x y : Operand)
def AV.int? : AV → Option (IntKind × Int)
  | .c (.pv (.int k n)) => some (k, n)
  | _ => none
def AV.bool? : AV → Option Bool
  | .c (.pv (.bool b)) => some b
  | _ => none
def AV.boolOf (x : AV) : Bool := x.bool?.getD false
def bi (k : IntKind) (n : Int) : AV := .c (.pv (.int k n))
def bb (b : Bool) : AV := .c (.pv (.bool b))
def binV (op : BinOp) (k : IntKind) (x y : Int) : AV :=
  match op with
  | .add => bi k (k.wrap (x + y))
  | .sub => bi k (k.wrap (x - y))
  | .mul => bi k (k.wrap (x * y))
  | .quo => bi k (k.wrap (x.tdiv y))
  | .rem => bi k (x.tmod y)
  | .and => bi k (k.wrap (BitVec.ofInt k.bits x &&& BitVec.ofInt k.bits y).toNat)
  | .or => bi k (k.wrap (BitVec.ofInt k.bits x ||| BitVec.ofInt k.bits y).toNat)
  | .xor => bi k (k.wrap (BitVec.ofInt k.bits x ^^^ BitVec.ofInt k.bits y).toNat)
  | .andNot => bi k (k.wrap (BitVec.ofInt k.bits x &&& ~~~ BitVec.ofInt k.bits y).toNat)
  | .shl => bi k (k.wrap (x * 2 ^ (min y.toNat k.bits)))
  | .shr => bi k (x.fdiv (2 ^ (min y.toNat k.bits)))
  | .eql => bb (x == y)
  | .neq => bb (x != y)
  | .lss => bb (x < y)
  | .leq => bb (x ≤ y)
  | .gtr => bb (x > y)
  | .geq => bb (x ≥ y)
def binOk (op : BinOp) (k k' : IntKind) (y : Int) : Prop :=
  match op with
  | .shl | .shr => 0 ≤ y
  | .quo | .rem => k = k' ∧ y ≠ 0
  | _ => k = k'
theorem bin_run {P : Program} (op : BinOp) (t : TypeId) (k k' : IntKind) (x y : Int) (h : binOk op k k' y) : ∃ v, binV op k x y = .c (.pv v) ∧ v.oneCell' = true ∧ ∀ w, (binOp op t (.int k x) (.int k' y)).run P w = .ok v w := by
  cases op <;> simp only [binOk] at h <;> first
    | (subst h; refine ⟨_, rfl, rfl, fun w => ?_⟩; simp [binOp, Op.intArith, Op.intBits, Op.intCmp]; done)
    | (obtain ⟨rfl, h0⟩ := h; refine ⟨_, rfl, rfl, fun w => ?_⟩; simp [binOp, Op.intDiv, h0]; done)
    | (refine ⟨_, rfl, rfl, fun w => ?_⟩; simp [binOp, Op.shift, show ¬ y < 0 by omega]; done)
def ic (k : IntKind) (n : Int) : CV := .pv (.int k n)
def AV.els (H : List AObj) : AV → Option (Nat × List CV)
  | .c (.sl sz es) => some (sz, es)
  | .os q => match H[q]? with | some (.row _ sz es) => some (sz, es) | _ => none
  | .osl q lo hi sz => match H[q]? with | some (.row _ k es) => if k = sz then some (sz, (es.take hi).drop lo) else none | _ => none
  | .c (.pv (.slice none 0 0)) => some (0, [])
  | _ => none
def AV.lenV (H : List AObj) (x : AV) : AV := match x.els H with | some (_, es) => bi .i64 es.length | none => .junk 1
def AV.natOf (x : AV) : Nat := match x.int? with | some (_, n) => n.toNat | none => 0
def AV.upTo (x : AV) (m : Nat) : Prop := match x.int? with | some (_, n) => 0 ≤ n ∧ n ≤ m | none => False
def AV.under (x : AV) (m : Nat) : Prop := match x.int? with | some (_, n) => 0 ≤ n ∧ n < m | none => False
def loOf (ev : Operand → AV) : Option Operand → Nat
  | none => 0
  | some x => (ev x).natOf
def hiOf (ev : Operand → AV) (m : Nat) : Option Operand → Nat
  | none => m
  | some x => (ev x).natOf
def cutOk (ev : Operand → AV) (m : Nat) (lo hi : Option Operand) : Prop :=
  (match hi with | none => True | some x => (ev x).upTo m) ∧ (match lo with | none => True | some x => (ev x).upTo (hiOf ev m hi))
def CV.isByte : CV → Prop
  | .pv (.int .u8 _) => True
  | _ => False
def bldV (ev : Operand → AV) : AV → List (Nat × Operand) → AV
  | acc, [] => acc
  | acc, (i, x) :: l => bldV ev (acc.set [i] (ev x)) l
def AV.solid : AV → Bool
  | .junk _ | .tup _ => false
  | _ => true
def bldOk (ev : Operand → AV) (pl : List (Nat × Nat)) : AV → List (Nat × Operand) → Prop
  | _, [] => True
  | acc, (i, x) :: l => (match pl[i]? with
      | some (off, sz) => acc.ok [i] ∧ acc.off [i] = off ∧ (acc.get [i]).size = sz ∧ (ev x).size = sz ∧ acc.fits [i] (ev x) ∧ (ev x).solid = true
      | none => False) ∧ bldOk ev pl (acc.set [i] (ev x)) l
def PK.val (ev : Operand → AV) (H : List AObj) : PK → AV
  | .mov x => ev x
  | .pick c a b => bb (bif (ev c).boolOf then (ev a).boolOf else (ev b).boolOf)
  | .fAddr x f off => match ev x with
    | .ptr q p o => .ptr q (p ++ [f]) (o + off)
    | .fp y => .fp (y.get [f])
    | _ => .junk 1
  | .fld x f _ _ _ => (ev x).get [f]
  | .iAddrS x i sz => match ev x with
    | .c (.sl _ es) => .fp (es.getD (ev i).natOf default)
    | .os q => .ptr q [(ev i).natOf] ((ev i).natOf * sz)
    | _ => .junk 1
  | .iAddrA x i _ sz => match ev x with
    | .ptr q p o => .ptr q (p ++ [(ev i).natOf]) (o + (ev i).natOf * sz)
    | .fp y => .fp (y.get [(ev i).natOf])
    | _ => .junk 1
  | .idxA x i _ _ _ => (ev x).get [(ev i).natOf]
  | .load x _ _ => match ev x with
    | .fp y => .c y
    | .ptr q p _ => match H[q]? with
      | some (.cell a) => a.get p
      | some (.row _ _ es) => match p with
        | i :: p => .c ((es.getD i default).get p)
        | [] => .junk 1
      | _ => .junk 1
    | _ => .junk 1
  | .bin op x y => match (ev x).int?, (ev y).int? with
    | some (k, a), some (_, b) => binV op k a b
    | _, _ => .junk 1
  | .not x => bb (!(ev x).boolOf)
  | .neg x => match (ev x).int? with | some (k, a) => bi k (k.wrap (0 - a)) | none => .junk 1
  | .cvt k x => match (ev x).int? with | some (_, a) => bi k (k.wrap a) | none => .junk 1
  | .ext x i => match ev x with | .tup l => l.getD i default | _ => .junk 1
  | .len text x => match text, ev x with
    | true, .c (.pv (.string s)) => bi .i64 s.size
    | _, _ => (ev x).lenV H
  | .mx x y => match (ev x).int?, (ev y).int? with
    | some (k, a), some (_, b) => bi k (if b > a then b else a)
    | _, _ => .junk 1
  | .mn x y => match (ev x).int?, (ev y).int? with
    | some (k, a), some (_, b) => bi k (if b < a then b else a)
    | _, _ => .junk 1
  | .slc x lo hi _ => match ev x with
    | .c (.sl sz es) => .c (.sl sz ((es.take (hiOf ev es.length hi)).drop (loOf ev lo)))
    | .c (.pv (.slice none 0 0)) => .c (.pv (.slice none 0 0))
    | .os q => match H[q]? with | some (.row _ k es) => .osl q (loOf ev lo) (hiOf ev es.length hi) k | _ => .junk 1
    | _ => .junk 1
  | .mkf f fi ca => .fn f (fi.map ev) (ca.map ev)
  | .nilc x => ev x
  | .str x => match (ev x).els H with | some (_, es) => .c (.pv (.string (strOfNums (es.map CV.numOf)))) | none => .junk 1
  | .strEq ng x y => match ev x, ev y with
    | .c (.pv (.string a)), .c (.pv (.string b)) => bb (xor ng (a.toList == b.toList))
    | _, _ => .junk 1
  | .eqA ng _ _ x y => match ev x, ev y with
    | .c a, .c b => bb (xor ng (a.eqv b))
    | _, _ => .junk 1
  | .eqNil kd ng x y => match kd, ev x, ev y with
    | 0, .c (.pv (.pointer none)), .c (.pv (.pointer none)) => bb (!ng)
    | 1, .c (.pv (.slice none _ _)), .c (.pv (.slice none _ _)) => bb (!ng)
    | 2, .c (.pv (.map none)), .c (.pv (.map none)) => bb (!ng)
    | _, _, _ => bb ng
  | .bld z _ parts => bldV ev (.c z) parts
  | .slcA x lo hi _ _ => match ev x with
    | .fp (.ar k _ xs) => .c (.sl 1 (((xs.take (hiOf ev xs.length hi)).drop (loOf ev lo)).map (ic k)))
    | _ => .junk 1
  | .eqB ng x y => bb (xor ng ((ev x).boolOf == (ev y).boolOf))
  | .slcT x lo hi => match ev x with
    | .c (.pv (.string s)) => .c (.pv (.string (s.extract (loOf ev lo) (hiOf ev s.size hi))))
    | _ => .junk 1
  | .idxT x i => match ev x with
    | .c (.pv (.string s)) => bi .u8 (((s.toList).getD (ev i).natOf 0).toNat)
    | _ => .junk 1
def PK.cond (P : Program) (ev : Operand → AV) (H : List AObj) : PK → Prop
  | .mov _ => True
  | .pick c a b => (∃ t, (ev c).bool? = some t) ∧ ((ev c).boolOf = true → ∃ t, (ev a).bool? = some t) ∧ ((ev c).boolOf = false → ∃ t, (ev b).bool? = some t)
  | .fAddr x f off => match ev x with
    | .ptr _ _ _ => True
    | .fp y => y.ok [f] ∧ y.off [f] = off
    | _ => False
  | .fld x f off sz agg => (ev x).ok [f] ∧ (ev x).off [f] = off ∧ ((ev x).get [f]).size = sz ∧ ((ev x).get [f]).agg = agg
  | .iAddrS x i sz => match ev x with
    | .c (.sl sz' es) => sz' = sz ∧ (ev i).under es.length
    | .os q => match H[q]? with | some (.row _ sz' es) => sz' = sz ∧ (ev i).under es.length | _ => False
    | _ => False
  | .iAddrA x i n sz => match ev x with
    | .ptr _ _ _ => (ev i).under n
    | .fp y => (ev i).under n ∧ y.ok [(ev i).natOf] ∧ y.off [(ev i).natOf] = (ev i).natOf * sz
    | _ => False
  | .idxA x i n sz agg => (ev i).under n ∧ (ev x).ok [(ev i).natOf] ∧ (ev x).off [(ev i).natOf] = (ev i).natOf * sz ∧ ((ev x).get [(ev i).natOf]).size = sz ∧ ((ev x).get [(ev i).natOf]).agg = agg
  | .load x sz agg => match ev x with
    | .fp y => y.size = sz ∧ y.agg = agg
    | .ptr q p o => match H[q]? with
      | some (.cell a) => a.ok p ∧ a.off p = o ∧ (a.get p).size = sz ∧ (a.get p).agg = agg
      | some (.row _ sz' es) => match p with
        | i :: p => i < es.length ∧ (es.getD i default).ok p ∧ i * sz' + (es.getD i default).off p = o ∧ ((es.getD i default).get p).size = sz ∧ ((es.getD i default).get p).agg = agg
        | [] => False
      | _ => False
    | _ => False
  | .bin op x y => match (ev x).int?, (ev y).int? with
    | some (k, _), some (k', b) => binOk op k k' b
    | _, _ => False
  | .not x => ∃ t, (ev x).bool? = some t
  | .neg x | .cvt _ x => ∃ t, (ev x).int? = some t
  | .ext x i => match ev x with | .tup l => i < l.length | _ => False
  | .len text x => match text, ev x with
    | true, .c (.pv (.string _)) => True
    | true, _ => False
    | false, y => ∃ t, y.els H = some t
  | .mx x y | .mn x y => (∃ t, (ev x).int? = some t) ∧ (∃ t, (ev y).int? = some t)
  | .slc x lo hi sz => match ev x with
    | .c (.sl sz' es) => sz' = sz ∧ cutOk ev es.length lo hi
    | .c (.pv (.slice none 0 0)) => cutOk ev 0 lo hi
    | .os q => match H[q]? with | some (.row _ k es) => k = sz ∧ cutOk ev es.length lo hi | _ => False
    | _ => False
  | .mkf _ _ _ => True
  | .nilc x => match ev x with | .ptr .. => True | .fp _ => True | .fn (.func _) _ _ => True | _ => False
  | .str x => match (ev x).els H with | some (_, es) => ∀ e ∈ es, e.isByte | none => False
  | .strEq _ x y => match ev x, ev y with
    | .c (.pv (.string _)), .c (.pv (.string _)) => True
    | _, _ => False
  | .eqA _ t sh x y => sh.agg = true ∧ EqTy P t sh ∧ match ev x, ev y with
    | .c a, .c b => sh.fits a b
    | _, _ => False
  | .eqNil kd _ x y => match kd, ev x, ev y with
    | 0, .c (.pv (.pointer none)), .c (.pv (.pointer none)) => True
    | 1, .c (.pv (.slice none _ _)), .c (.pv (.slice none _ _)) => True
    | 2, .c (.pv (.map none)), .c (.pv (.map none)) => True
    | 0, .ptr .., .c (.pv (.pointer none)) => True
    | 0, .fp _, .c (.pv (.pointer none)) => True
    | _, _, _ => False
  | .bld z pl parts => bldOk ev pl (.c z) parts ∧ (bldV ev (.c z) parts).agg = true
  | .slcA x lo hi n sz => sz = 1 ∧ n ≤ maxLen ∧ match ev x with
    | .fp (.ar _ m xs) => m = n ∧ n = xs.length ∧ cutOk ev xs.length lo hi
    | _ => False
  | .eqB _ x y => (∃ t, (ev x).bool? = some t) ∧ (∃ t, (ev y).bool? = some t)
  | .slcT x lo hi => match ev x with
    | .c (.pv (.string s)) => cutOk ev s.size lo hi
    | _ => False
  | .idxT _ _ => False
def zCV (P : Program) : Nat → TypeId → Option CV
  | 0, _ => none
  | d + 1, t => match P.underlying t with
    | some (.int k) => some (.pv (.int k 0))
    | some .bool => some (.pv (.bool false))
    | some .string => some (.pv (.string ByteArray.empty))
    | some (.pointer _) => some (.pv (.pointer none))
    | some (.slice _) => some (.pv (.slice none 0 0))
    | some (.map _ _) => some (.pv (.map none))
    | some (.func _ _ _) => some (.pv .nilFunc)
    | some (.struct fs) => (fs.toList.mapM fun f => zCV P d f.type).map .st
    | some (.array n e) => match P.underlying e with
      | some (.int k) => some (.ar k n (List.replicate n 0))
      | _ => (zCV P d e).map fun z => .st (List.replicate n z)
    | _ => none
mutual
def CV.flat : CV → Option (List Value)
  | .pv v => some [v]
  | .ar k n xs => if xs.length = n then some (nums k xs) else none
  | .st fs => CV.flats fs
  | .sl _ _ => none
def CV.flats : List CV → Option (List Value)
  | [] => some []
  | a :: l => match a.flat, CV.flats l with | some x, some y => some (x ++ y) | _, _ => none
end
def valEqB : Value → Value → Bool
  | .int k a, .int k' b => decide (k = k') && decide (a = b)
  | .bool a, .bool b => a == b
  | .string a, .string b => a.data.size == 0 && b.data.size == 0
  | .pointer none, .pointer none => true
  | .slice none 0 0, .slice none 0 0 => true
  | .map none, .map none => true
  | .nilFunc, .nilFunc => true
  | _, _ => false
def valsEqB : List Value → List Value → Bool
  | [], [] => true
  | a :: l, b :: m => valEqB a b && valsEqB l m
  | _, _ => false
def tZero (P : Program) (t : TypeId) : Option CV := match zCV P 20 t, (P.info? t).bind (·.zero) with
  | some z, some v => match z.flat with
    | some l => if valsEqB l v.cells.toList then some z else none
    | none => none
  | _, _ => none
def shOf (P : Program) : Nat → TypeId → Option Sh
  | 0, _ => none
  | d + 1, t => match P.underlying t with
    | some (.int _) => some .i
    | some .bool => some .b
    | some .string => some .s
    | some (.struct fs) => (fs.toList.mapM fun f => shOf P d f.type).map .st
    | some (.array n e) => match P.underlying e with
      | some (.int k) => some (.a k n)
      | _ => (shOf P d e).map (.ar n)
    | _ => none
def tPlaces (P : Program) (t : TypeId) : Option (List (Nat × Nat)) := match P.underlying t with
  | some (.struct fs) => fs.toList.mapM fun f => (tSz P f.type).map fun n => (f.offset, n)
  | some (.array n e) => (tSz P e).map fun k => (List.range n).map fun i => (i * k, k)
  | _ => none
def convStr (op : BinOp) (x y : Operand) : Option PK := match op with
  | .eql => some (.strEq false x y)
  | .neq => some (.strEq true x y)
  | _ => none
def convNil (kd : Nat) (op : BinOp) (x y : Operand) : Option PK := match op with
  | .eql => some (.eqNil kd false x y)
  | .neq => some (.eqNil kd true x y)
  | _ => none
def convAgg (P : Program) (op : BinOp) (t : TypeId) (x y : Operand) : Option PK := if P.eqGuardType P.depth t then none else match shOf P 20 t with
  | some sh => if sh.depth ≤ 10000 then match op with
      | .eql => some (.eqA false t sh x y)
      | .neq => some (.eqA true t sh x y)
      | _ => none
    else none
  | none => none
def convB (op : BinOp) (x y : Operand) : Option PK := match op with
  | .eql => some (.eqB false x y)
  | .neq => some (.eqB true x y)
  | _ => none
def convBin (P : Program) (op : BinOp) (t : TypeId) (x y : Operand) : Option PK := match P.underlying t with
  | some (.int _) => some (.bin op x y)
  | some .string => convStr op x y
  | some .bool => convB op x y
  | some (.pointer _) => convNil 0 op x y
  | some (.slice _) => convNil 1 op x y
  | some (.map _ _) => convNil 2 op x y
  | some (.struct _) => convAgg P op t x y
  | some (.array _ _) => convAgg P op t x y
  | _ => none
def convUn (op : UnOp) (x : Operand) : Option PK := match op with
  | .not => some (.not x)
  | .neg => some (.neg x)
  | _ => none
def convLen (P : Program) (args : List Operand) (ats : List TypeId) : Option PK := match args, ats with
  | [x], [t] => match P.underlying t with
    | some (.slice _) => some (.len false x)
    | some .string => some (.len true x)
    | _ => none
  | _, _ => none
def convCall (P : Program) (c : Call) : Option PK := match c.callee with
  | .builtin .len => convLen P c.args.toList c.argTypes.toList
  | .builtin .max => match c.args.toList with | [x, y] => some (.mx x y) | _ => none
  | .builtin .min => match c.args.toList with | [x, y] => some (.mn x y) | _ => none
  | _ => none
def convSlc (P : Program) (t : TypeId) (x : Operand) (lo hi mx : Option Operand) : Option PK := match mx with
  | some _ => none
  | none => match tSlice P t with
    | some (_, n) => some (.slc x lo hi n)
    | none => match tArray P t with
      | some (_, n, k) => some (.slcA x lo hi n k)
      | none => match P.underlying t with | some .string => some (.slcT x lo hi) | _ => none
def conv (P : Program) : Op → Option PK
  | .move x | .assign x => some (.mov x)
  | .pick c a b => some (.pick c a b)
  | .fieldAddr s x f => match tOff P s f with
    | some (off, ty) => match tSz P ty with | some (_ + 1) => some (.fAddr x f off) | _ => none
    | none => none
  | .field s x f => match tOff P s f with
    | some (off, ty) => match tSz P ty, tAgg P ty with | some n, some g => if g || n == 1 then some (.fld x f off n g) else none | _, _ => none
    | none => none
  | .indexAddr t x i => match tSlice P t with
    | some (_, n) => some (.iAddrS x i n)
    | none => match tArray P t with | some (_, n, k) => some (.iAddrA x i n k) | none => none
  | .index t x i => match tArray P t with
    | some (e, n, k) => match tAgg P e with | some g => if g || k == 1 then some (.idxA x i n k g) else none | none => none
    | none => none
  | .load t x => match tSz P t, tAgg P t with | some n, some g => if g || n == 1 then some (.load x n g) else none | _, _ => none
  | .binOp op t x y _ => convBin P op t x y
  | .unOp op _ x => convUn op x
  | .convert s t x => match tInt P s, tInt P t with
    | some _, some k => some (.cvt k x)
    | _, _ => match tSlice P s, P.underlying t with
      | some (e, _), some .string => match tInt P e with | some .u8 => some (.str x) | _ => none
      | _, _ => none
  | .extract x i => some (.ext x i)
  | .call c => convCall P c
  | .slice t x lo hi mx => convSlc P t x lo hi mx
  | .makeFunc f fi ca => some (.mkf f fi.toList ca.toList)
  | .nilCheck x => some (.nilc x)
  | .build t parts => match tZero P t, tPlaces P t with | some z, some pl => if parts.all fun p => p.1 < pl.length then some (.bld z pl parts.toList) else none | _, _ => none
  | _ => none
def PK.uses : PK → List Operand
  | .mov x | .fAddr x _ _ | .fld x _ _ _ _ | .load x _ _ | .not x | .neg x | .cvt _ x | .ext x _ | .len _ x | .nilc x | .str x => [x]
  | .pick c _ _ => [c]
  | .iAddrS x i _ | .iAddrA x i _ _ | .idxA x i _ _ _ | .bin _ x i | .mx x i | .mn x i | .strEq _ x i | .eqA _ _ _ x i | .eqNil _ _ x i | .idxT x i | .eqB _ x i => [x, i]
  | .slc x lo hi _ | .slcA x lo hi _ _ | .slcT x lo hi => x :: (lo.toList ++ hi.toList)
  | .mkf _ fi ca => fi ++ ca
  | .bld _ _ ps => ps.map (·.2)
end Go.Proofs.Ytcghjnegaiiieaa
namespace Go.Proofs.Ytcghjnegaiiieaa
open Go Go.RowKit
section
variable {P : Program} {w : World} {F : Nat → Prop} {ε : Nat → Value} {H : List AObj}
def Same (w : World) (F : Nat → Prop) (ε : Nat → Value) (H : List AObj) (x : World) : Prop := ∀ b, (F b ∨ ∃ q, OB ε H q b) → x.heap[b]? = w.heap[b]?
theorem Same.refl : Same w F ε H w := fun _ _ => rfl
theorem Same.cell {x : World} (h : Same w F ε H x) {ad : Addr} (hb : F ad.block ∨ ∃ q, OB ε H q ad.block) : x.cell? ad = w.cell? ad := by
  unfold World.cell?
  rw [h _ hb]
theorem repV_pv {u v : Value} (h : (AV.c (.pv u)).repV w F ε v) : v = u := by
  simp only [AV.repV, CV.repV, CV.rep, mkv, CV.agg] at h
  obtain ⟨cs, ⟨rfl, _⟩, rfl⟩ := h
  rfl
theorem repV_pv' {u : Value} (h : u.oneCell' = true) : (AV.c (.pv u)).repV w F ε u := by
  simp only [AV.repV, CV.repV, CV.rep, mkv, CV.agg]
  exact ⟨[u], ⟨rfl, h⟩, rfl⟩
theorem int_of {x : AV} {v : Value} {t : IntKind × Int} (h : x.int? = some t) (hr : x.repV w F ε v) : v = .int t.1 t.2 := by
  unfold AV.int? at h
  split at h
  · cases h; exact repV_pv hr
  · cases h
theorem bool_of {x : AV} {v : Value} {t : Bool} (h : x.bool? = some t) (hr : x.repV w F ε v) : v = .bool t := by
  unfold AV.bool? at h
  split at h
  · cases h; exact repV_pv hr
  · cases h
theorem bi_rep (k : IntKind) (n : Int) : (bi k n).repV w F ε (.int k n) := repV_pv' rfl
theorem bb_rep (b : Bool) : (bb b).repV w F ε (.bool b) := repV_pv' rfl
theorem asIntOf_int (k : IntKind) (n : Int) (x : World) : (asIntOf (.int k n)).run P x = .ok (k, n) x := by simp [asIntOf]
theorem tSz_run {t : TypeId} {n : Nat} (h : tSz P t = some n) (x : World) : (sizeOf t).run P x = .ok n x := by
  unfold tSz at h
  cases hi : P.info? t with
  | none => rw [hi] at h; cases h
  | some i => rw [hi] at h; cases h; simp [sizeOf, typeInfo, hi]
theorem tAgg_run {t : TypeId} {g : Bool} (h : tAgg P t = some g) (x : World) : (isAgg t).run P x = .ok g x := by
  unfold tAgg at h
  unfold isAgg
  split at h
  · rename_i hu; cases h; rw [Sem.run_bind, run_underlying hu]; rfl
  · rename_i hu; cases h; rw [Sem.run_bind, run_underlying hu]; rfl
  · rename_i d h1 h2 hu
    cases h
    rw [Sem.run_bind, run_underlying hu]
    cases d <;> first | rfl | (exact (h1 _ rfl).elim) | (exact (h2 _ _ rfl).elim)
  · cases h
theorem tOff_run {t : TypeId} {f off : Nat} {ty : TypeId} (h : tOff P t f = some (off, ty)) : ∃ fs fd, P.underlying t = some (.struct fs) ∧ fs[f]? = some fd ∧ fd.offset = off ∧ fd.type = ty := by
  unfold tOff at h
  split at h
  · rename_i fs hu
    cases hf : fs[f]? with
    | none => rw [hf] at h; cases h
    | some fd => rw [hf] at h; cases h; exact ⟨fs, fd, hu, hf, rfl, rfl⟩
  · cases h
theorem tSlice_run {t e : TypeId} {n : Nat} (h : tSlice P t = some (e, n)) : P.underlying t = some (.slice e) ∧ tSz P e = some n := by
  unfold tSlice at h
  split at h
  · rename_i e' hu
    cases hz : tSz P e' with
    | none => rw [hz] at h; cases h
    | some m => rw [hz] at h; cases h; exact ⟨hu, hz⟩
  · cases h
theorem tArray_run {t e : TypeId} {n k : Nat} (h : tArray P t = some (e, n, k)) : P.underlying t = some (.array n e) ∧ tSz P e = some k := by
  unfold tArray at h
  split at h
  · rename_i m e' hu
    cases hz : tSz P e' with
    | none => rw [hz] at h; cases h
    | some m => rw [hz] at h; cases h; exact ⟨hu, hz⟩
  · cases h
theorem tInt_run {t : TypeId} {k : IntKind} (h : tInt P t = some k) : P.underlying t = some (.int k) := by
  unfold tInt at h
  split at h
  · rename_i hu; cases h; exact hu
  · cases h
theorem load_cells {x : World} {t : TypeId} {n : Nat} {g : Bool} (hz : tSz P t = some n) (hg : tAgg P t = some g) (ad : Addr) (cs : List Value) (hl : cs.length = n) (h1 : g = false → n = 1) (hc : ∀ j u, cs[j]? = some u → x.cell? (ad.add j) = some u) :
    (loadVar t ad).run P x = .ok (mkv g cs) x := by
  unfold loadVar
  rw [Sem.run_bind, tAgg_run hg]
  simp only [Result.andThen_ok]
  cases g with
  | true =>
    simp only [if_true, mkv]
    subst hl
    simp [Sem.run_bind, tSz_run hz, run_loadCells_list (P := P) x ad cs hc]
  | false =>
    have hn : cs.length = 1 := by rw [hl]; exact h1 rfl
    match cs, hn with
    | [u], _ =>
      have := hc 0 u rfl
      have e : ad.add 0 = ad := rfl
      rw [e] at this
      simp [mkv, load, Sem.run, this]
theorem CV.size_agg {y : CV} (h : y.agg = false) : y.size = 1 := by cases y <;> first | rfl | cases h
theorem AV.size_agg {y : AV} {cs : List Value} (h : y.agg = false) (hj : ∀ n, y = .junk n → n = 1) : y.size = 1 := by
  cases y <;> first | rfl | skip
  · rename_i x; simp only [AV.agg] at h; rw [AV.size]; exact CV.size_agg h
  · cases h
  · rename_i n; rw [AV.size]; exact hj n rfl
theorem plain_add' (b o i : Nat) : (⟨b, o, none⟩ : Addr).add i = ⟨b, o + i, none⟩ := by unfold Addr.add; split <;> simp_all
theorem row_at_ {e : TypeId} {sz : Nat} {es : List CV} {q : Nat} (h : ObjAt w F ε q (.row e sz es)) (i : Nat) (hi : i < es.length) :
    ∃ b cs, blkOf (ε q) = some b ∧ (∃ c, ε q = .slice (some ⟨b, 0, none⟩) es.length c) ∧ es[i].rep w F cs ∧ cs.length = sz ∧ ∀ j u, cs[j]? = some u → w.cell? ⟨b, i * sz + j, none⟩ = some u := by
  obtain ⟨cs, h1, h2, h3⟩ := h
  obtain ⟨c, d, e', rfl, hl, hr, _⟩ := CV.reps_at es cs i es[i] h1 (by simp [hi])
  have hsz : ∀ (l : List CV), (∀ x ∈ l, x.size = sz) → CV.sizes l = l.length * sz := fun l => by
    induction l with
    | nil => intro _; simp [CV.sizes]
    | cons a l ih =>
      intro hx
      rw [CV.sizes, ih (fun x hx' => hx x (by simp [hx'])), hx a (by simp), List.length_cons, Nat.add_mul]; omega
  have hlc : c.length = i * sz := by
    rw [hl, hsz _ (fun x hx => h2 x (List.mem_of_mem_take hx)), List.length_take]
    congr 1; omega
  rcases h3.2 with ⟨_, h0⟩ | ⟨g, cap, cur, hv, _, hh, hc, hm, hs, ht⟩
  · omega
  · refine ⟨g, d, by rw [hv]; rfl, ⟨cap, hv⟩, hr, by rw [CV.rep_len _ _ hr]; exact h2 _ (List.getElem_mem hi), fun j u hj => ?_⟩
    rw [blk_cell hh]
    have hjd : j < d.length := (List.getElem?_eq_some_iff.1 hj).1
    have e1 : (c ++ d ++ e')[i * sz + j]? = some u := by
      rw [List.append_assoc, List.getElem?_append_right (by omega), hlc, Nat.add_sub_cancel_left, List.getElem?_append_left hjd]
      exact hj
    rw [← ht] at e1
    rw [← Array.getElem?_toList]
    rw [List.getElem?_take] at e1
    split at e1
    · exact e1
    · cases e1
theorem run_v {s : Sem Value} {v : Value} {x : World} (h : s.run P x = .ok v x) : (do Pure.pure (Next.value (← s)) : Sem Next).run P x = .ok (.value v) x := by rw [Sem.run_bind, h]; rfl
theorem sound_load {ρ : Operand → Value} {ev : Operand → AV} {t : TypeId} {y : Operand} {sz : Nat} {g : Bool} (hs : Sim w F ε H) (hz : tSz P t = some sz) (hg : tAgg P t = some g) (h1' : g = false → sz = 1) (hr : (ev y).repV w F ε (ρ y)) (hk : (PK.load y sz g).cond P ev H) :
    ∃ v, ((PK.load y sz g).val ev H).repV w F ε v ∧ ∀ x, Same w F ε H x → (Instr.loadAt t (ρ y)).run P x = .ok v x := by
  simp only [PK.cond, PK.val] at hk ⊢
  cases he : ev y with
  | fp z =>
    rw [he] at hk hr
    dsimp only at hk ⊢
    simp only [AV.repV] at hr
    obtain ⟨ad, hv, hF, cs, hc, hz'⟩ := hr
    refine ⟨mkv g cs, ?_, fun x hx => ?_⟩
    · simp only [AV.repV]; exact ⟨cs, hz', by rw [hk.2]⟩
    · rw [hv]
      simp only [Instr.loadAt, Instr.sureAddr, Sem.run_bind, Sem.run_pure, Result.andThen_ok]
      refine load_cells hz hg ad cs (by rw [CV.rep_len _ _ hz', hk.1]) (fun e => ?_) (fun j u hj => ?_)
      · rw [← hk.1]; exact CV.size_agg (by rw [hk.2, e])
      · rw [hx.cell (.inl (by rw [add_block]; exact hF))]; exact hc j u hj
  | ptr q p o =>
    rw [he] at hk hr
    dsimp only at hk ⊢
    simp only [AV.repV] at hr
    obtain ⟨b, hb, hv⟩ := hr
    cases hq : H[q]? with
    | none => rw [hq] at hk; exact hk.elim
    | some ob =>
      rw [hq] at hk
      cases ob with
      | gone => exact hk.elim
      | cell a =>
        dsimp only at hk ⊢
        obtain ⟨ho, hf, h1, h2⟩ := hk
        obtain ⟨b', ty, cs, hb', hh, hr⟩ := hs.obj q _ hq
        have e : b' = b := by rw [hb'] at hb; simpa [blkOf] using hb
        subst e
        obtain ⟨c, d, e', rfl, hl, hd, _⟩ := AV.rep_part p a cs hr ho
        refine ⟨mkv g d, by rw [← h2]; exact AV.repV_of_rep hd, fun x hx => ?_⟩
        rw [hv]
        simp only [Instr.loadAt, Instr.sureAddr, Sem.run_bind, Sem.run_pure, Result.andThen_ok]
        have hld := AV.rep_len _ _ hd
        refine load_cells hz hg _ d (by rw [hld, h1]) h1' (fun j u hj => ?_)
        · rw [hx.cell (.inr ⟨q, _, hq, by simp, by rw [add_block]; exact hb⟩), plain_add', blk_cell hh]
          have hjd : j < d.length := (List.getElem?_eq_some_iff.1 hj).1
          rw [List.getElem?_toArray, List.append_assoc, List.getElem?_append_right (by omega), hl, hf, Nat.add_sub_cancel_left, List.getElem?_append_left hjd]
          exact hj
      | row e sz' es =>
        dsimp only at hk ⊢
        cases p with
        | nil => exact hk.elim
        | cons i p =>
          dsimp only at hk ⊢
          obtain ⟨hi, ho, hf, h1, h2⟩ := hk
          have hge : es.getD i default = es[i] := by simp [List.getD_eq_getElem?_getD, hi]
          rw [hge] at ho hf h1 h2 ⊢
          obtain ⟨b', cs, hb', _, hr, hl', hc⟩ := row_at_ (hs.obj q _ hq) i hi
          have e : b' = b := by rw [hb'] at hb; exact Option.some.inj hb
          subst e
          obtain ⟨c, d, e', rfl, hl, hd, _⟩ := CV.rep_part p _ cs hr ho
          refine ⟨mkv g d, by simp only [AV.repV]; exact ⟨d, hd, by rw [h2]⟩, fun x hx => ?_⟩
          rw [hv]
          simp only [Instr.loadAt, Instr.sureAddr, Sem.run_bind, Sem.run_pure, Result.andThen_ok]
          refine load_cells hz hg _ d (by rw [CV.rep_len _ _ hd, h1]) (fun e => ?_) (fun j u hj => ?_)
          · rw [← h1]; exact CV.size_agg (by rw [h2, e])
          · rw [hx.cell (.inr ⟨q, _, hq, by simp, by rw [add_block]; exact hb⟩), plain_add', ← hf, Nat.add_assoc]
            refine hc _ u ?_
            have hjd : j < d.length := (List.getElem?_eq_some_iff.1 hj).1
            rw [List.append_assoc, List.getElem?_append_right (by omega), hl, Nat.add_sub_cancel_left, List.getElem?_append_left hjd]
            exact hj
  | _ => rw [he] at hk; exact hk.elim
theorem CV.at_part {p : List Nat} {y : CV} {ad : Addr} (h : y.at_ w F ad) (ho : y.ok p) : (y.get p).at_ w F (ad.add (y.off p)) := by
  obtain ⟨hF, cs, hc, hr⟩ := h
  obtain ⟨c, d, e, rfl, hl, hd, _⟩ := CV.rep_part p y cs hr ho
  refine ⟨by rw [add_block]; exact hF, d, fun j u hj => ?_, hd⟩
  have hjd : j < d.length := (List.getElem?_eq_some_iff.1 hj).1
  rw [Go.Addr.add_add]
  refine hc _ u ?_
  rw [List.append_assoc, List.getElem?_append_right (by omega), hl, Nat.add_sub_cancel_left, List.getElem?_append_left hjd]
  exact hj
theorem sound_fAddr {ρ : Operand → Value} {ev : Operand → AV} {t ty : TypeId} {y : Operand} {f off n : Nat} (ht : tOff P t f = some (off, ty)) (hz : tSz P ty = some (n + 1)) (hr : (ev y).repV w F ε (ρ y)) (hk : (PK.fAddr y f off).cond P ev H) :
    ∃ v, ((PK.fAddr y f off).val ev H).repV w F ε v ∧ ∀ x, (Instr.fieldAt t (ρ y) f).run P x = .ok v x := by
  obtain ⟨fs, fd, hu, hf, rfl, rfl⟩ := tOff_run ht
  have key : ∀ ad, ρ y = .pointer (some ad) → ∀ x, (Instr.fieldAt t (ρ y) f).run P x = .ok (.pointer (some (ad.add fd.offset))) x := fun ad hv x => by
    rw [hv]
    unfold Instr.fieldAt
    rw [Sem.run_bind, run_underlying hu]
    simp only [Result.andThen_ok, hf]
    simp [Instr.sureAddr, Sem.run_bind, fieldPlace, tSz_run hz]
  simp only [PK.cond, PK.val] at hk ⊢
  cases he : ev y with
  | fp z =>
    rw [he] at hk hr
    dsimp only at hk ⊢
    simp only [AV.repV] at hr
    obtain ⟨ad, hv, h1⟩ := hr
    refine ⟨_, ?_, key ad hv⟩
    simp only [AV.repV]
    refine ⟨_, rfl, ?_⟩
    have := CV.at_part h1 hk.1
    rw [hk.2] at this
    exact this
  | ptr q p o =>
    rw [he] at hk hr
    dsimp only at hk ⊢
    simp only [AV.repV] at hr
    obtain ⟨b, hb, hv⟩ := hr
    refine ⟨_, ?_, key _ hv⟩
    simp only [AV.repV]
    exact ⟨b, hb, by rw [plain_add']⟩
  | _ => rw [he] at hk; exact hk.elim
theorem upTo_of {x : AV} {v : Value} {m : Nat} (h : x.upTo m) (hr : x.repV w F ε v) : ∃ k, v = .int k x.natOf ∧ x.natOf ≤ m := by
  unfold AV.upTo at h
  cases hi : x.int? with
  | none => rw [hi] at h; exact h.elim
  | some t =>
    rw [hi] at h
    have := int_of hi hr
    unfold AV.natOf
    rw [hi]
    dsimp only at h ⊢
    refine ⟨t.1, ?_, by omega⟩
    rw [this]
    congr 1
    omega
theorem below_of {x : AV} {v : Value} {m : Nat} (h : x.under m) (hr : x.repV w F ε v) : ∃ k, v = .int k x.natOf ∧ x.natOf < m := by
  unfold AV.under at h
  cases hi : x.int? with
  | none => rw [hi] at h; exact h.elim
  | some t =>
    rw [hi] at h
    have := int_of hi hr
    unfold AV.natOf
    rw [hi]
    dsimp only at h ⊢
    refine ⟨t.1, ?_, by omega⟩
    rw [this]
    congr 1
    omega
theorem run_indexAt_slice {t e : TypeId} {n k : Nat} (hu : P.underlying t = some (.slice e)) (hz : tSz P e = some k) (ad : Addr) (c i : Nat) (kk : IntKind) (hi : i < n) (x : World) :
    (Instr.indexAt t (.slice (some ad) n c) (.int kk (i : Int))).run P x = .ok (.pointer (some (ad.add (i * k)))) x := by
  simp [Instr.indexAt, asIntOf_int, run_underlying hu, tSz_run hz, hi, Instr.sureAddr]
theorem run_indexAt_array {t e : TypeId} {n k : Nat} (hu : P.underlying t = some (.array n e)) (hz : tSz P e = some k) (ad : Addr) (i : Nat) (kk : IntKind) (hi : i < n) (x : World) :
    (Instr.indexAt t (.pointer (some ad)) (.int kk (i : Int))).run P x = .ok (.pointer (some (ad.add (i * k)))) x := by
  simp [Instr.indexAt, asIntOf_int, run_underlying hu, tSz_run hz, hi, Instr.sureAddr]
theorem sl_rep {sz : Nat} {es : List CV} {v : Value} (h : (AV.c (.sl sz es)).repV w F ε v) : ∃ A c, v = .slice A es.length c ∧ es.length ≤ c ∧ c ≤ maxLen ∧ (A = none → es = [] ∧ c = 0) ∧ CV.repE w F A sz es 0 := by
  simp only [AV.repV, CV.repV, CV.rep, mkv, CV.agg] at h
  obtain ⟨cs, ⟨A, c, rfl, h1, h2, h3, h4⟩, rfl⟩ := h
  exact ⟨A, c, rfl, h1, h2, h3, h4⟩
theorem sl_rep' {sz : Nat} {es : List CV} {A : Option Addr} {c : Nat} (h1 : es.length ≤ c) (h2 : c ≤ maxLen) (h3 : A = none → es = [] ∧ c = 0) (h4 : CV.repE w F A sz es 0) : (AV.c (.sl sz es)).repV w F ε (.slice A es.length c) := by
  simp only [AV.repV, CV.repV, CV.rep, mkv, CV.agg]
  exact ⟨_, ⟨A, c, rfl, h1, h2, h3, h4⟩, rfl⟩
theorem sound_iAddrS {ρ : Operand → Value} {ev : Operand → AV} {t e : TypeId} {y i : Operand} {n : Nat} (hs : Sim w F ε H) (ht : tSlice P t = some (e, n)) (hr : (ev y).repV w F ε (ρ y)) (hi : (ev i).repV w F ε (ρ i)) (hk : (PK.iAddrS y i n).cond P ev H) :
    ∃ v, ((PK.iAddrS y i n).val ev H).repV w F ε v ∧ ∀ x, (Instr.indexAt t (ρ y) (ρ i)).run P x = .ok v x := by
  obtain ⟨hu, hz⟩ := tSlice_run ht
  simp only [PK.cond, PK.val] at hk ⊢
  cases he : ev y with
  | c z =>
    rw [he] at hk hr
    cases z with
    | sl sz' es =>
      dsimp only at hk ⊢
      obtain ⟨rfl, hk⟩ := hk
      obtain ⟨kk, hv, hlt⟩ := below_of hk hi
      obtain ⟨A, c, hv2, h1, h2, h3, h4⟩ := sl_rep hr
      obtain ⟨ad, rfl, hsz, hat⟩ := CV.repE_get es 0 h4 _ hlt
      refine ⟨_, ?_, fun x => by rw [hv2, hv]; exact run_indexAt_slice hu hz ad c _ kk hlt x⟩
      simp only [AV.repV]
      refine ⟨_, rfl, ?_⟩
      have hge : es.getD (ev i).natOf default = es[(ev i).natOf] := by simp [List.getD_eq_getElem?_getD, hlt]
      rw [hge]
      simpa using hat
    | _ => exact hk.elim
  | os q =>
    rw [he] at hk hr
    dsimp only at hk ⊢
    cases hq : H[q]? with
    | none => rw [hq] at hk; exact hk.elim
    | some ob =>
      rw [hq] at hk
      cases ob with
      | row e' sz' es =>
        dsimp only at hk ⊢
        obtain ⟨rfl, hk⟩ := hk
        obtain ⟨kk, hv, hlt⟩ := below_of hk hi
        obtain ⟨b, cs, hb, ⟨c, hεq⟩, _⟩ := row_at_ (hs.obj q _ hq) _ hlt
        simp only [AV.repV] at hr
        refine ⟨_, ?_, fun x => by rw [hr.1, hεq, hv]; exact run_indexAt_slice hu hz _ c _ kk hlt x⟩
        simp only [AV.repV]
        exact ⟨b, hb, by rw [plain_add', Nat.zero_add]⟩
      | _ => exact hk.elim
  | _ => rw [he] at hk; exact hk.elim
theorem sound_iAddrA {ρ : Operand → Value} {ev : Operand → AV} {t e : TypeId} {y i : Operand} {n k : Nat} (ht : tArray P t = some (e, n, k)) (hr : (ev y).repV w F ε (ρ y)) (hi : (ev i).repV w F ε (ρ i)) (hk : (PK.iAddrA y i n k).cond P ev H) :
    ∃ v, ((PK.iAddrA y i n k).val ev H).repV w F ε v ∧ ∀ x, (Instr.indexAt t (ρ y) (ρ i)).run P x = .ok v x := by
  obtain ⟨hu, hz⟩ := tArray_run ht
  simp only [PK.cond, PK.val] at hk ⊢
  cases he : ev y with
  | fp z =>
    rw [he] at hk hr
    dsimp only at hk ⊢
    simp only [AV.repV] at hr
    obtain ⟨ad, hv, h1⟩ := hr
    obtain ⟨kk, hvi, hlt⟩ := below_of hk.1 hi
    refine ⟨_, ?_, fun x => by rw [hv, hvi]; exact run_indexAt_array hu hz ad _ kk hlt x⟩
    simp only [AV.repV]
    refine ⟨_, rfl, ?_⟩
    have := CV.at_part h1 hk.2.1
    rw [hk.2.2] at this
    exact this
  | ptr q p o =>
    rw [he] at hk hr
    dsimp only at hk ⊢
    simp only [AV.repV] at hr
    obtain ⟨b, hb, hv⟩ := hr
    obtain ⟨kk, hvi, hlt⟩ := below_of hk hi
    refine ⟨_, ?_, fun x => by rw [hv, hvi]; exact run_indexAt_array hu hz _ _ kk hlt x⟩
    simp only [AV.repV]
    exact ⟨b, hb, by rw [plain_add']⟩
  | _ => rw [he] at hk; exact hk.elim
theorem agg_of_ok {x : AV} {i : Nat} {v : Value} (h : x.ok [i]) (hr : x.repV w F ε v) : ∃ cs, v = .agg cs.toArray ∧ x.rep w F ε cs := by
  cases x with
  | c x =>
    cases x with
    | pv v => simp [AV.ok, CV.ok] at h
    | sl _ _ => simp [AV.ok, CV.ok] at h
    | ar k n xs =>
      simp only [AV.repV, CV.repV] at hr
      obtain ⟨cs, h1, rfl⟩ := hr
      exact ⟨cs, rfl, by simp only [AV.rep]; exact h1⟩
    | st fs =>
      simp only [AV.repV, CV.repV] at hr
      obtain ⟨cs, h1, rfl⟩ := hr
      exact ⟨cs, rfl, by simp only [AV.rep]; exact h1⟩
  | st fs =>
    simp only [AV.repV] at hr
    obtain ⟨cs, h1, rfl⟩ := hr
    exact ⟨cs, rfl, by simp only [AV.rep]; exact h1⟩
  | _ => simp [AV.ok] at h
theorem run_part {t : TypeId} {n : Nat} {g : Bool} (hz : tSz P t = some n) (hg : tAgg P t = some g) (h1 : g = false → n = 1) (c d e : List Value) (hd : d.length = n) (x : World) :
    (part t (c ++ d ++ e).toArray c.length).run P x = .ok (mkv g d) x := by
  unfold part
  rw [Sem.run_bind, tAgg_run hg]
  simp only [Result.andThen_ok]
  cases g with
  | true =>
    simp only [if_true, Sem.run_bind, tSz_run hz, Result.andThen_ok, Sem.run_pure, mkv]
    subst hd
    congr 2
    simp [List.take_append]
  | false =>
    have hn : d.length = 1 := by rw [hd]; exact h1 rfl
    match d, hn with
    | [u], _ =>
      simp [mkv]
theorem sound_fld {ρ : Operand → Value} {ev : Operand → AV} {t ty : TypeId} {y : Operand} {f off n : Nat} {g : Bool} (ht : tOff P t f = some (off, ty)) (hz : tSz P ty = some n) (hg : tAgg P ty = some g) (h1' : g = false → n = 1) (hr : (ev y).repV w F ε (ρ y)) (hk : (PK.fld y f off n g).cond P ev H) :
    ∃ v, ((PK.fld y f off n g).val ev H).repV w F ε v ∧ ∀ x, (Instr.field t (ρ y) f).run P x = .ok v x := by
  obtain ⟨fs, fd, hu, hf, rfl, rfl⟩ := tOff_run ht
  simp only [PK.cond, PK.val] at hk ⊢
  obtain ⟨ho, hoff, hsz, hag⟩ := hk
  obtain ⟨cs, hv, hrep⟩ := agg_of_ok ho hr
  obtain ⟨c, d, e, rfl, hl, hd, _⟩ := AV.rep_part [f] _ cs hrep ho
  refine ⟨mkv g d, by rw [← hag]; exact AV.repV_of_rep hd, fun x => ?_⟩
  rw [hv]
  unfold Instr.field
  rw [Sem.run_bind, run_underlying hu]
  simp only [Result.andThen_ok, hf, asAgg, Sem.run_bind, Sem.run_pure]
  rw [← hoff, ← hl]
  exact run_part hz hg h1' c d e (by rw [AV.rep_len _ _ hd, hsz]) x
theorem sound_idxA {ρ : Operand → Value} {ev : Operand → AV} {t ty : TypeId} {y i : Operand} {m n : Nat} {g : Bool} (ht : tArray P t = some (ty, m, n)) (hg : tAgg P ty = some g) (h1' : g = false → n = 1) (hr : (ev y).repV w F ε (ρ y)) (hi : (ev i).repV w F ε (ρ i)) (hk : (PK.idxA y i m n g).cond P ev H) :
    ∃ v, ((PK.idxA y i m n g).val ev H).repV w F ε v ∧ ∀ x, (Instr.index t (ρ y) (ρ i)).run P x = .ok v x := by
  obtain ⟨hu, hz⟩ := tArray_run ht
  simp only [PK.cond, PK.val] at hk ⊢
  obtain ⟨hlt, ho, hoff, hsz, hag⟩ := hk
  obtain ⟨kk, hvi, hlt'⟩ := below_of hlt hi
  obtain ⟨cs, hv, hrep⟩ := agg_of_ok ho hr
  obtain ⟨c, d, e, rfl, hl, hd, _⟩ := AV.rep_part [(ev i).natOf] _ cs hrep ho
  refine ⟨mkv g d, by rw [← hag]; exact AV.repV_of_rep hd, fun x => ?_⟩
  rw [hv, hvi]
  unfold Instr.index
  rw [Sem.run_bind, asIntOf_int]
  simp only [Result.andThen_ok]
  rw [Sem.run_bind, run_underlying hu]
  simp only [Result.andThen_ok]
  rw [if_pos ⟨by omega, by omega⟩, Sem.run_bind, tSz_run hz]
  simp only [Result.andThen_ok, Int.toNat_natCast]
  rw [← hoff, ← hl]
  exact run_part hz hg h1' c d e (by rw [AV.rep_len _ _ hd, hsz]) x
end
end Go.Proofs.Ytcghjnegaiiieaa
namespace Go.Proofs.Ytcghjnegaiiieaa
open Go.RowKit
set_option maxRecDepth 100000 in
set_option maxHeartbeats 4000000 in
theorem rot_gen (x k s : Int) (w : World) (h0 : 0 ≤ x) (h1 : x ≤ 4294967295) (hs : bits BinOp.and IntKind.u64 (IntKind.u64.wrap k) 31 = s) (s0 : 0 ≤ s) (s1 : s ≤ 31) :
    Calls Try.prog 140 #[.int .u32 x, .int .i64 k] w fun e w' => e = .returned (.int .u32 (bits BinOp.or IntKind.u32 (x * 2 ^ s.toNat % 4294967296) (x / 2 ^ (32 - s).toNat))) ∧ w = w' := by
  have ns : ¬ (s < 0) := by omega
  have ns' : ¬ (32 - s < 0) := by omega
  go_enter Try.func140, Try.ntmps140
  go_wp2
  go_ret
  exact ⟨rfl, rfl⟩
def rotF (x : Int) (s : Nat) : Int := bits BinOp.or IntKind.u32 (x * 2 ^ s % 4294967296) (x / 2 ^ (32 - s))
theorem rot_any (x k : Int) (s : Nat) (w : World) (h0 : 0 ≤ x) (h1 : x ≤ 4294967295) (hs : bits BinOp.and IntKind.u64 (IntKind.u64.wrap k) 31 = s) (s1 : s ≤ 31) :
    Calls Try.prog 140 #[.int .u32 x, .int .i64 k] w fun e w' => e = .returned (.int .u32 (rotF x s)) ∧ w = w' :=
  (rot_gen x k s w h0 h1 hs (by omega) (by omega)).mono fun e w' ⟨h, hw⟩ => ⟨by
    rw [h]; unfold rotF
    rw [show ((s : Int)).toNat = s from by simp, show ((32 : Int) - s).toNat = 32 - s from by omega], hw⟩
theorem row_at {w : World} {g : Nat} {t : TypeId} {fr : Nat × Nat} {k : IntKind} {xs : List Int} (h : w.heap[g]? = some (.cells (nums k xs).toArray t fr)) {i : Nat} (hi : i < xs.length) : w.cell? ⟨g, i, none⟩ = some (.int k (xs.getD i 0)) := by
  rw [blk_cell h]
  simp [nums, hi, List.getD_eq_getElem?_getD]
theorem row_set {w : World} {g : Nat} {t : TypeId} {k : IntKind} {xs : List Int} (h : w.heap[g]? = some (.cells (nums k xs).toArray t (0, 0))) (i : Nat) (x : Int) : (w.setCell ⟨g, i, none⟩ (.int k x)).heap[g]? = some (.cells (nums k (xs.set i x)).toArray t (0, 0)) := by
  rw [blk_set h, ← nums_set]
  simp
theorem add_off (ad : Addr) (p : Nat) (hp : 0 < p) : ad.add p = ⟨ad.block, ad.off + p, none⟩ := by
  unfold Addr.add
  rw [if_neg (by omega)]
def U32 (x : Int) : Prop := 0 ≤ x ∧ x ≤ 4294967295
theorem u32_bits (op : BinOp) (x y : Int) : U32 (bits op .u32 x y) := by
  have := wf_bits op .u32 x y
  simp [Lit.wf, IntKind.min, IntKind.max, IntKind.signed, IntKind.bits] at this
  unfold U32; omega
theorem u32_mod (x : Int) : U32 (x % 4294967296) := ⟨by omega, by omega⟩
theorem u32_getD {ws : List Int} (h : ∀ x ∈ ws, U32 x) (k : Nat) : 0 ≤ ws.getD k 0 ∧ ws.getD k 0 ≤ 4294967295 := by
  rw [List.getD_eq_getElem?_getD]
  cases hk : ws[k]? with
  | none => simp
  | some x => exact h x (List.mem_of_getElem? hk)
theorem u32_set {ws : List Int} (h : ∀ x ∈ ws, U32 x) (k : Nat) {y : Int} (hy : U32 y) : ∀ x ∈ ws.set k y, U32 x := fun x hx => by
  rcases List.mem_or_eq_of_mem_set hx with h1 | h1
  · exact h x h1
  · rw [h1]; exact hy
theorem byte_getD {xs : List Int} (h : ∀ x ∈ xs, (Lit.int .u8 x).wf = true) (k : Nat) : 0 ≤ xs.getD k 0 ∧ xs.getD k 0 ≤ 255 := by
  rw [List.getD_eq_getElem?_getD]
  cases hk : xs[k]? with
  | none => simp
  | some x => exact wf_byte (h x (List.mem_of_getElem? hk))
def wordF (xs : List Int) (k : Nat) : Int :=
  bits .or .u32 (bits .or .u32 (bits .or .u32 (xs.getD (4 * k) 0 * 16777216) (xs.getD (4 * k + 1) 0 * 65536)) (xs.getD (4 * k + 2) 0 * 256)) (xs.getD (4 * k + 3) 0)
def nxtF (ws : List Int) (i : Nat) : Int :=
  (ws.getD (i - 16) 0 + bits .xor .u32 (bits .xor .u32 (rotF (ws.getD (i - 15) 0) 25) (rotF (ws.getD (i - 15) 0) 14)) (ws.getD (i - 15) 0 / 8) + ws.getD (i - 7) 0
    + bits .xor .u32 (bits .xor .u32 (rotF (ws.getD (i - 2) 0) 15) (rotF (ws.getD (i - 2) 0) 13)) (ws.getD (i - 2) 0 / 1024)) % 4294967296
def spF (xs : List Int) : Nat → List Int
  | 0 => List.replicate 64 0
  | k + 1 => (spF xs k).set k (if k < 16 then wordF xs k else nxtF (spF xs k) k)
theorem spF_ok (xs : List Int) : ∀ k, (spF xs k).length = 64 ∧ ∀ x ∈ spF xs k, U32 x
  | 0 => ⟨by simp [spF], fun x hx => by simp [spF] at hx; rw [hx]; exact ⟨by omega, by omega⟩⟩
  | k + 1 => ⟨by simp [spF, (spF_ok xs k).1], by
      unfold spF
      refine u32_set (spF_ok xs k).2 k ?_
      split
      · exact u32_bits _ _ _
      · exact u32_mod _⟩
theorem agg64 : AggT Try.prog 185 64 := ⟨⟨_, Try.underlying185, rfl⟩, by kernel_rfl⟩
end Go.Proofs.Ytcghjnegaiiieaa

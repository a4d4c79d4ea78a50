/- Outs that are alike (layer 7): the program's word. -/
import Derived.Test.YtcghjnegaiiieaaSame
namespace Go.Proofs.Ytcghjnegaiiieaa
open Go.RowKit
set_option maxRecDepth 100000 in
set_option maxHeartbeats 8000000 in
theorem lockSame_any (a b : Out) (A B : Option Addr) (c d : Nat) (F : Nat → Prop) (w : World) (ha : Ways w F A c a.ways) (hb : Ways w F B d b.ways) :
    Calls Try.prog 33 #[.agg #[.int .i64 a.amount, .slice A a.ways.length c], .agg #[.int .i64 b.amount, .slice B b.ways.length d]] w fun e w' => e = .returned (.bool (sameOut a b)) ∧ Kept Nob w w' := by
  obtain ⟨W, hW⟩ : ∃ W, (w.alloc (.cells #[.int .i64 a.amount, .slice A a.ways.length c] 38)).alloc (.cells #[.int .i64 b.amount, .slice B b.ways.length d] 38) = W := ⟨_, rfl⟩
  have hK : Kept Nob w W := by rw [← hW]; exact (by repeat (first | exact Kept.refl _ _ | apply Kept.alloc | apply Kept.drewN | apply Kept.drew))
  have hb0 : W.heap[w.heap.size]? = some (.cells #[.int .i64 a.amount, .slice A a.ways.length c] 38 (0, 0)) := by rw [← hW]; exact blk_alloc (heap_alloc_new _ _) _
  have hb1 : W.heap[w.heap.size + 1]? = some (.cells #[.int .i64 b.amount, .slice B b.ways.length d] 38 (0, 0)) := by rw [← hW]; exact blk_new_at (by simp)
  have a0 : W.cell? ⟨w.heap.size, 0, none⟩ = some (.int .i64 a.amount) := (blk_cell hb0 0).trans rfl
  have a1 : W.cell? ⟨w.heap.size, 1, none⟩ = some (.slice A a.ways.length c) := (blk_cell hb0 1).trans rfl
  have b0 : W.cell? ⟨w.heap.size + 1, 0, none⟩ = some (.int .i64 b.amount) := (blk_cell hb1 0).trans rfl
  have b1 : W.cell? ⟨w.heap.size + 1, 1, none⟩ = some (.slice B b.ways.length d) := (blk_cell hb1 1).trans rfl
  clear hb0 hb1
  have HEQ := hidden (equalFunc_ways A B c d a.ways b.ways F W (ha.keep hK (fun _ _ h => h)) (hb.keep hK (fun _ _ h => h)))
  have HK := hidden hK
  have HS : Hid (sameOut a b = ((a.amount == b.amount) && sameWays a.ways b.ways)) := hidden rfl
  have l1 := ha.le
  have l2 := ha.max
  have l3 := hb.le
  have l4 := hb.max
  unfold maxLen at l2 l4
  rw [HS.out]
  clear ha hb hK HS
  generalize sameWays a.ways b.ways = s at *
  cases hpq : (a.amount == b.amount)
  all_goals
    go_enter Try.func33, Try.ntmps33
    go_wp2_with (go_at_call 87; (with_reducible refine HEQ.out.mono ?_); rintro e w2 ⟨rfl, hk2⟩; have HK2 := hidden hk2; clear hk2; dsimp only)
  · go_ret
    exact ⟨rfl, HK.out⟩
  · go_ret
    exact ⟨rfl, HK.out.trans HK2.out⟩
theorem sameWay_eq {x y : Way} (h : sameWay x y = true) : x = y := by
  unfold sameWay at h
  obtain ⟨a, b, c, d⟩ := x
  obtain ⟨a', b', c', d'⟩ := y
  simp only [Bool.not_or, Bool.not_not, Bool.and_eq_true, beq_iff_eq] at h
  obtain ⟨⟨⟨h1, h2⟩, h3⟩, h4⟩ := h
  simp only [h1, h2, h3, h4]
theorem sameWay_self (x : Way) : sameWay x x = true := by unfold sameWay; simp
theorem sameWays_eq : ∀ {xs ys : List Way}, sameWays xs ys = true → xs = ys
  | [], [], _ => rfl
  | x :: xs, y :: ys, h => by
    unfold sameWays at h
    rw [Bool.and_eq_true] at h
    rw [sameWay_eq h.1, sameWays_eq h.2]
  | [], _ :: _, h => by simp [sameWays] at h
  | _ :: _, [], h => by simp [sameWays] at h
theorem sameWays_self : ∀ (xs : List Way), sameWays xs xs = true
  | [] => rfl
  | x :: xs => by unfold sameWays; rw [sameWay_self, sameWays_self xs]; rfl
theorem sameOut_eq {a b : Out} (h : sameOut a b = true) : a = b := by
  obtain ⟨p, xs⟩ := a
  obtain ⟨q, ys⟩ := b
  unfold sameOut at h
  rw [Bool.and_eq_true, beq_iff_eq] at h
  have h1 : p = q := h.1
  have h2 : xs = ys := sameWays_eq h.2
  rw [h1, h2]
theorem sameOut_self (a : Out) : sameOut a a = true := by unfold sameOut; rw [sameWays_self]; simp
end Go.Proofs.Ytcghjnegaiiieaa

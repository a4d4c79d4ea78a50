/- A pen writes a sum (layer 1). -/
import Derived.Test.YtcghjnegaiiieaaWire3
import Derived.Test.YtcghjnegaiiieaaCalm3
namespace Go.Proofs.Ytcghjnegaiiieaa
set_option linter.unusedSimpArgs false
open Go.RowKit
set_option maxRecDepth 100000 in
set_option maxHeartbeats 8000000 in
theorem pen_sum (s : List Int) (base g : Nat) (xs : List Int) (w : World) (h : PenAt w base g xs) (hb : base ≤ w.heap.size) (hs : s.length = 32) (hw : ∀ x ∈ s, (Lit.int .u8 x).wf = true) (hx : xs.length ≤ 100000000) :
    Calls Try.prog 36 #[.pointer (some ⟨g, 0, none⟩), .agg (nums .u8 s).toArray] w fun e w' => e = .returned (.pointer (some ⟨g, 0, none⟩)) ∧ PenAt w' base g (xs ++ s) ∧ Kept (PenS base g) w w' := by
  obtain ⟨hg, v9, hb9, ho9⟩ := h
  obtain ⟨A, c, hv9, hlc, _, _⟩ := ho9.slice
  subst hv9
  have hgw : g < w.heap.size := by omega
  have HB : Hid ((w.alloc (.cells (nums .u8 s).toArray 24)).heap[g]? = some (.cells #[.slice A xs.length c] 50 (0, 0))) := hidden (blk_alloc hb9 _)
  have q0 : (w.alloc (.cells (nums .u8 s).toArray 24)).cell? ⟨g, 0, none⟩ = some (.slice A xs.length c) := blk_cell HB.out 0
  have HO := hidden (ho9.keep (Kept.alloc (Kept.refl Nob w) (.cells (nums .u8 s).toArray 24)) (fun _ _ h => h))
  have HRD : Hid (RdInts (w.alloc (.cells (nums .u8 s).toArray 24)) .u8 (some ⟨w.heap.size, 0, none⟩) s) := hidden (Ints.blk (F := fun _ => True) (heap_alloc_new _ _) trivial (by rw [hs]; decide) hw).rd
  have HS := hidden hs
  clear ho9 hb9 hw
  go_enter Try.func36, Try.ntmps36
  go_wp2
  refine region_plan (.seg [0] (.seg [1] (.seg [2] (.seg [3] (.seg [4] (.seg [5] (.eff 6 false (.seg [7] (.seg [8] (.eff 9 false .nil)))))))))) (by kernel_rfl) ?_
  all_goals (refine plan_one (o := ?_) ?_ ?_ ?_; rotate_left; (simp only [List.getElem?_toArray, List.getElem?_cons_zero]; exact rfl); rfl; intro NX; (repeat' (first | go_step | go_upon)); all_goals (refine seg_end (by kernel_rfl) ?_; clear NX))
  all_goals (refine plan_one (o := ?_) ?_ ?_ ?_; rotate_left; (simp only [List.getElem?_toArray, List.getElem?_cons_succ, List.getElem?_cons_zero]; exact rfl); rfl; intro NX; (repeat' (first | go_step | go_upon)); all_goals (refine seg_end (by kernel_rfl) ?_; clear NX))
  all_goals (refine plan_one (o := ?_) ?_ ?_ ?_; rotate_left; (simp only [List.getElem?_toArray, List.getElem?_cons_succ, List.getElem?_cons_zero]; exact rfl); rfl; intro NX; (repeat' (first | go_step | go_upon)); all_goals (refine seg_end (by kernel_rfl) ?_; clear NX))
  all_goals (refine plan_one (o := ?_) ?_ ?_ ?_; rotate_left; (simp only [List.getElem?_toArray, List.getElem?_cons_succ, List.getElem?_cons_zero]; exact rfl); rfl; intro NX; (repeat' (first | go_step | go_upon)); all_goals (refine seg_end (by kernel_rfl) ?_; clear NX))
  all_goals (refine plan_one (o := ?_) ?_ ?_ ?_; rotate_left; (simp only [List.getElem?_toArray, List.getElem?_cons_succ, List.getElem?_cons_zero]; exact rfl); rfl; intro NX; (repeat' (first | go_step | go_upon)); all_goals (refine seg_end (by kernel_rfl) ?_; clear NX))
  all_goals (refine plan_one (o := ?_) ?_ ?_ ?_; rotate_left; (simp only [List.getElem?_toArray, List.getElem?_cons_succ, List.getElem?_cons_zero]; exact rfl); rfl; intro NX; (repeat' (first | go_step | go_upon)); all_goals (refine seg_end (by kernel_rfl) ?_; clear NX))
  all_goals (refine plan_eff (o := ?_) ?_ ?_; rotate_left; (simp only [List.getElem?_toArray, List.getElem?_cons_succ, List.getElem?_cons_zero]; exact rfl); intro NX)
  all_goals ((refine OwnB.app rfl (.tmp 11) (.tmp 12) rfl base _ xs rfl (OwnB.keep HO.out (Kept.drew (Kept.refl Nob _)) (fun _ _ h => h)) _ 32 s (by rw [HS.out]; rfl) (HRD.out.kept (Kept.drew (Kept.refl Nob _)) (fun _ _ h => h)) (fun e => by cases e) (by rw [HS.out]; omega) (by simp; omega) ?_; intro v3 w3 ho3 hk3; obtain ⟨A3, c3, hv3, _, _, _⟩ := ho3.slice; subst hv3; rw [List.length_append, HS.out] at ho3; have b3 := hk3.blk HB.out (fun h => by omega); have q3 : w3.cell? ⟨g, 0, none⟩ = some (.slice A xs.length c) := blk_cell b3 0; have f3 : w3.frozen? ⟨g, 0, none⟩ = false := blk_frozen b3 0; have HO3 := hidden ho3; have HK3 := hidden hk3; have HB3 := hidden b3; clear ho3 hk3 b3; go_wp2))
  all_goals refine eff_free ?_
  all_goals (refine plan_one (o := ?_) ?_ ?_ ?_; rotate_left; (simp only [List.getElem?_toArray, List.getElem?_cons_succ, List.getElem?_cons_zero]; exact rfl); rfl; intro NX; (repeat' (first | go_step | go_upon)); all_goals (refine seg_end (by kernel_rfl) ?_; clear NX))
  all_goals (refine plan_one (o := ?_) ?_ ?_ ?_; rotate_left; (simp only [List.getElem?_toArray, List.getElem?_cons_succ, List.getElem?_cons_zero]; exact rfl); rfl; intro NX; (repeat' (first | go_step | go_upon)); all_goals (refine seg_end (by kernel_rfl) ?_; clear NX))
  all_goals (refine plan_eff (o := ?_) ?_ ?_; rotate_left; (simp only [List.getElem?_toArray, List.getElem?_cons_succ, List.getElem?_cons_zero]; exact rfl); intro NX)
  all_goals go_wp2_with (fail)
  all_goals refine eff_free ?_
  all_goals refine plan_nil ?_
  go_wp2
  go_ret
  exact ⟨rfl, ⟨hg, _, blk_set HB3.out 0 _, HO3.out.keep (Kept.setCell (S := fun b => b = g) (Kept.refl _ _) (p := ⟨g, 0, none⟩) (fun _ => rfl) _) (fun b hb h => by omega)⟩, Kept.setCell (Kept.then (Kept.drew (Kept.alloc (Kept.refl (PenS base g) w) _)) HK3.out (fun b hb h => .inr h)) (p := ⟨g, 0, none⟩) (fun _ => .inl rfl) _⟩
end Go.Proofs.Ytcghjnegaiiieaa

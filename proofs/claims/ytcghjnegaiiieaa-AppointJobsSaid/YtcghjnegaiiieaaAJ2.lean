/- Part 2 of the texts that LawAppointJobs needs, pruned and joined. -/
import Derived.Outline
import Derived.Laws.CopyOwn
import Derived.Test.YtcghjnegaiiieaaRows
import Derived.Deep.CutRange
import Derived.Deep.DeepCutAuto
import Derived.Deep.DeepAppendWide
import Derived.Test.YtcghjnegaiiieaaAJ1
set_option linter.unusedSimpArgs false
namespace Go.Proofs.Ytcghjnegaiiieaa
set_option linter.unusedSimpArgs false
open Go.RowKit
set_option maxRecDepth 100000 in
set_option maxHeartbeats 8000000 in
theorem spread_any (A : Option Addr) (c : Nat) (xs : List Int) (F : Nat → Prop) (w : World) (h : Ints w F .u8 A c xs) (hF : ∀ b, F b → b < w.heap.size) (hl : xs.length = 64) :
    Calls Try.prog 139 #[.slice A 64 c] w fun e w' => e = .returned (.agg (nums .u32 (spF xs 64)).toArray) ∧ Kept Nob w w' := by
  go_enter Try.func139, Try.ntmps139
  go_wp2
  obtain ⟨W, hW⟩ : ∃ W, W = (w.alloc (.cells (nums .u32 (List.replicate 64 0)).toArray 185)).alloc (.cells (nums .u32 (List.replicate 64 0)).toArray 185) := ⟨_, rfl⟩
  have hb1 : W.heap[w.heap.size]? = some (.cells (nums .u32 (List.replicate 64 0)).toArray 185 (0, 0)) := by rw [hW]; exact blk_alloc (heap_alloc_new _ _) _
  have hb2 : W.heap[w.heap.size + 1]? = some (.cells (nums .u32 (List.replicate 64 0)).toArray 185 (0, 0)) := by rw [hW]; exact blk_new_at (by simp)
  have HK : Hid (Kept Nob w W) := hidden (by rw [hW]; exact (by repeat (first | exact Kept.refl _ _ | apply Kept.alloc | apply Kept.drewN | apply Kept.drew)))
  have HX := hidden (h.keep HK.out (fun _ _ h => h))
  have HF := hidden hF
  have HWF := hidden h.wf
  have HB1 := hidden hb1
  have HB2 := hidden hb2
  have HSZ : Hid (W.heap.size = w.heap.size + 1 + 1) := hidden (by rw [hW]; simp)
  have hW' : W = (w.alloc (.cells #[.int .u32 0, .int .u32 0, .int .u32 0, .int .u32 0, .int .u32 0, .int .u32 0, .int .u32 0, .int .u32 0, .int .u32 0, .int .u32 0, .int .u32 0, .int .u32 0, .int .u32 0, .int .u32 0, .int .u32 0, .int .u32 0, .int .u32 0, .int .u32 0, .int .u32 0, .int .u32 0, .int .u32 0, .int .u32 0, .int .u32 0, .int .u32 0, .int .u32 0, .int .u32 0, .int .u32 0, .int .u32 0, .int .u32 0, .int .u32 0, .int .u32 0, .int .u32 0, .int .u32 0, .int .u32 0, .int .u32 0, .int .u32 0, .int .u32 0, .int .u32 0, .int .u32 0, .int .u32 0, .int .u32 0, .int .u32 0, .int .u32 0, .int .u32 0, .int .u32 0, .int .u32 0, .int .u32 0, .int .u32 0, .int .u32 0, .int .u32 0, .int .u32 0, .int .u32 0, .int .u32 0, .int .u32 0, .int .u32 0, .int .u32 0, .int .u32 0, .int .u32 0, .int .u32 0, .int .u32 0, .int .u32 0, .int .u32 0, .int .u32 0, .int .u32 0] 185)).alloc (.cells #[.int .u32 0, .int .u32 0, .int .u32 0, .int .u32 0, .int .u32 0, .int .u32 0, .int .u32 0, .int .u32 0, .int .u32 0, .int .u32 0, .int .u32 0, .int .u32 0, .int .u32 0, .int .u32 0, .int .u32 0, .int .u32 0, .int .u32 0, .int .u32 0, .int .u32 0, .int .u32 0, .int .u32 0, .int .u32 0, .int .u32 0, .int .u32 0, .int .u32 0, .int .u32 0, .int .u32 0, .int .u32 0, .int .u32 0, .int .u32 0, .int .u32 0, .int .u32 0, .int .u32 0, .int .u32 0, .int .u32 0, .int .u32 0, .int .u32 0, .int .u32 0, .int .u32 0, .int .u32 0, .int .u32 0, .int .u32 0, .int .u32 0, .int .u32 0, .int .u32 0, .int .u32 0, .int .u32 0, .int .u32 0, .int .u32 0, .int .u32 0, .int .u32 0, .int .u32 0, .int .u32 0, .int .u32 0, .int .u32 0, .int .u32 0, .int .u32 0, .int .u32 0, .int .u32 0, .int .u32 0, .int .u32 0, .int .u32 0, .int .u32 0, .int .u32 0] 185) := hW
  rw [← hW']
  clear hW hW' h hb1 hb2 hF
  go_loopw [4, 10] (fun _ i wr => ∃ k : Nat, k ≤ 16 ∧ i = .int .i64 k ∧ wr.heap[w.heap.size + 1]? = some (.cells (nums .u32 (spF xs k)).toArray 185 (0, 0)) ∧ Kept (fun b => b = w.heap.size + 1) W wr) (fun _ i _ => 16 - (intOf i).toNat)
  case atStart => exact ⟨0, by omega, rfl, HB2.out, Kept.refl _ _⟩
  case round =>
    obtain ⟨k, hk, rfl, hbk, hst⟩ := hrel
    have HBK := hidden hbk
    have HST := hidden hst
    clear hbk hst
    have HXr := hidden (HX.out.keep HST.out (fun b hb h => by have := HF.out b hb; omega))
    by_cases hlt : k < 16
    · obtain ⟨m0, e0⟩ : ∃ m : Nat, 4 * (k : Int) = (m : Int) := ⟨4 * k, by omega⟩
      have l0 : m0 + 3 < xs.length := by omega
      have HM : Hid (4 * k = m0) := hidden (by omega)
      obtain ⟨ad, rfl, c0⟩ := HXr.out.rd m0 (by omega)
      obtain ⟨_, hh, c1⟩ := HXr.out.rd (m0 + 1) (by omega)
      cases hh
      obtain ⟨_, hh, c2⟩ := HXr.out.rd (m0 + 2) (by omega)
      cases hh
      obtain ⟨_, hh, c3⟩ := HXr.out.rd (m0 + 3) (by omega)
      cases hh
      rw [add_off ad _ (by omega)] at c1 c2 c3
      have cS := row_at HBK.out (i := k) (by have := (spF_ok xs k).1; omega)
      have fS := blk_frozen HBK.out k
      obtain ⟨b00, b01⟩ := byte_getD HWF.out m0
      obtain ⟨b10, b11⟩ := byte_getD HWF.out (m0 + 1)
      obtain ⟨b20, b21⟩ := byte_getD HWF.out (m0 + 2)
      obtain ⟨b30, b31⟩ := byte_getD HWF.out (m0 + 3)
      have HWD : Hid (wordF xs k = bits .or .u32 (bits .or .u32 (bits .or .u32 (xs.getD m0 0 * 16777216) (xs.getD (m0 + 1) 0 * 65536)) (xs.getD (m0 + 2) 0 * 256)) (xs.getD (m0 + 3) 0)) := hidden (by unfold wordF; rw [HM.out])
      generalize xs.getD m0 0 = p0 at c0 HWD b00 b01
      generalize xs.getD (m0 + 1) 0 = p1 at c1 HWD b10 b11
      generalize xs.getD (m0 + 2) 0 = p2 at c2 HWD b20 b21
      generalize xs.getD (m0 + 3) 0 = p3 at c3 HWD b30 b31
      generalize (spF xs k).getD k 0 = old at cS
      rw [hl] at l0
      go_wp2
      refine region_plan (.seg [0] (.seg [1] (.seg [2] (.seg [3] (.seg [4] (.seg [5] (.seg [6] (.seg [7] (.seg [8] (.seg [9] (.seg [10] (.seg [11] (.seg [12] (.seg [13] (.seg [14] (.seg [15] (.seg [16] (.seg [17] (.seg [18] (.seg [19] (.seg [20] (.seg [21] (.seg [22] (.seg [23] (.seg [24] (.seg [25] (.seg [26] (.seg [27] (.seg [28] (.seg [29] (.seg [30] (.seg [31] (.seg [32] (.seg [33] (.seg [34] (.eff 35 false .nil)))))))))))))))))))))))))))))))))))) (by kernel_rfl) ?_
      all_goals (refine plan_one (o := ?_) ?_ ?_ ?_; rotate_left; (simp only [List.getElem?_toArray, List.getElem?_cons_zero]; exact rfl); rfl; intro NX; (repeat' (first | go_step | go_upon)); all_goals (refine seg_end (by kernel_rfl) ?_; clear NX))
      all_goals (refine plan_one (o := ?_) ?_ ?_ ?_; rotate_left; (simp only [List.getElem?_toArray, List.getElem?_cons_succ, List.getElem?_cons_zero]; exact rfl); rfl; intro NX; (repeat' (first | go_step | go_upon)); all_goals (refine seg_end (by kernel_rfl) ?_; clear NX))
      all_goals (refine plan_one (o := ?_) ?_ ?_ ?_; rotate_left; (simp only [List.getElem?_toArray, List.getElem?_cons_succ, List.getElem?_cons_zero]; exact rfl); rfl; intro NX; (repeat' (first | go_step | go_upon)); all_goals (refine seg_end (by kernel_rfl) ?_; clear NX))
      all_goals (refine plan_one (o := ?_) ?_ ?_ ?_; rotate_left; (simp only [List.getElem?_toArray, List.getElem?_cons_succ, List.getElem?_cons_zero]; exact rfl); rfl; intro NX; (repeat' (first | go_step | go_upon)); all_goals (refine seg_end (by kernel_rfl) ?_; clear NX))
      all_goals (refine plan_one (o := ?_) ?_ ?_ ?_; rotate_left; (simp only [List.getElem?_toArray, List.getElem?_cons_succ, List.getElem?_cons_zero]; exact rfl); rfl; intro NX; (repeat' (first | go_step | go_upon)); all_goals (refine seg_end (by kernel_rfl) ?_; clear NX))
      all_goals (refine plan_one (o := ?_) ?_ ?_ ?_; rotate_left; (simp only [List.getElem?_toArray, List.getElem?_cons_succ, List.getElem?_cons_zero]; exact rfl); rfl; intro NX; (repeat' (first | go_step | go_upon)); all_goals (refine seg_end (by kernel_rfl) ?_; clear NX))
      all_goals (refine plan_one (o := ?_) ?_ ?_ ?_; rotate_left; (simp only [List.getElem?_toArray, List.getElem?_cons_succ, List.getElem?_cons_zero]; exact rfl); rfl; intro NX; (repeat' (first | go_step | go_upon)); all_goals (refine seg_end (by kernel_rfl) ?_; clear NX))
      all_goals (refine plan_one (o := ?_) ?_ ?_ ?_; rotate_left; (simp only [List.getElem?_toArray, List.getElem?_cons_succ, List.getElem?_cons_zero]; exact rfl); rfl; intro NX; (repeat' (first | go_step | go_upon)); all_goals (refine seg_end (by kernel_rfl) ?_; clear NX))
      all_goals (refine plan_one (o := ?_) ?_ ?_ ?_; rotate_left; (simp only [List.getElem?_toArray, List.getElem?_cons_succ, List.getElem?_cons_zero]; exact rfl); rfl; intro NX; (repeat' (first | go_step | go_upon)); all_goals (refine seg_end (by kernel_rfl) ?_; clear NX))
      all_goals (refine plan_one (o := ?_) ?_ ?_ ?_; rotate_left; (simp only [List.getElem?_toArray, List.getElem?_cons_succ, List.getElem?_cons_zero]; exact rfl); rfl; intro NX; (repeat' (first | go_step | go_upon)); all_goals (refine seg_end (by kernel_rfl) ?_; clear NX))
      all_goals (refine plan_one (o := ?_) ?_ ?_ ?_; rotate_left; (simp only [List.getElem?_toArray, List.getElem?_cons_succ, List.getElem?_cons_zero]; exact rfl); rfl; intro NX; (repeat' (first | go_step | go_upon)); all_goals (refine seg_end (by kernel_rfl) ?_; clear NX))
      all_goals (refine plan_one (o := ?_) ?_ ?_ ?_; rotate_left; (simp only [List.getElem?_toArray, List.getElem?_cons_succ, List.getElem?_cons_zero]; exact rfl); rfl; intro NX; (repeat' (first | go_step | go_upon)); all_goals (refine seg_end (by kernel_rfl) ?_; clear NX))
      all_goals (refine plan_one (o := ?_) ?_ ?_ ?_; rotate_left; (simp only [List.getElem?_toArray, List.getElem?_cons_succ, List.getElem?_cons_zero]; exact rfl); rfl; intro NX; (repeat' (first | go_step | go_upon)); all_goals (refine seg_end (by kernel_rfl) ?_; clear NX))
      all_goals (refine plan_one (o := ?_) ?_ ?_ ?_; rotate_left; (simp only [List.getElem?_toArray, List.getElem?_cons_succ, List.getElem?_cons_zero]; exact rfl); rfl; intro NX; (repeat' (first | go_step | go_upon)); all_goals (refine seg_end (by kernel_rfl) ?_; clear NX))
      all_goals (refine plan_one (o := ?_) ?_ ?_ ?_; rotate_left; (simp only [List.getElem?_toArray, List.getElem?_cons_succ, List.getElem?_cons_zero]; exact rfl); rfl; intro NX; (repeat' (first | go_step | go_upon)); all_goals (refine seg_end (by kernel_rfl) ?_; clear NX))
      all_goals (refine plan_one (o := ?_) ?_ ?_ ?_; rotate_left; (simp only [List.getElem?_toArray, List.getElem?_cons_succ, List.getElem?_cons_zero]; exact rfl); rfl; intro NX; (repeat' (first | go_step | go_upon)); all_goals (refine seg_end (by kernel_rfl) ?_; clear NX))
      all_goals (refine plan_one (o := ?_) ?_ ?_ ?_; rotate_left; (simp only [List.getElem?_toArray, List.getElem?_cons_succ, List.getElem?_cons_zero]; exact rfl); rfl; intro NX; (repeat' (first | go_step | go_upon)); all_goals (refine seg_end (by kernel_rfl) ?_; clear NX))
      all_goals (refine plan_one (o := ?_) ?_ ?_ ?_; rotate_left; (simp only [List.getElem?_toArray, List.getElem?_cons_succ, List.getElem?_cons_zero]; exact rfl); rfl; intro NX; (repeat' (first | go_step | go_upon)); all_goals (refine seg_end (by kernel_rfl) ?_; clear NX))
      all_goals (refine plan_one (o := ?_) ?_ ?_ ?_; rotate_left; (simp only [List.getElem?_toArray, List.getElem?_cons_succ, List.getElem?_cons_zero]; exact rfl); rfl; intro NX; (repeat' (first | go_step | go_upon)); all_goals (refine seg_end (by kernel_rfl) ?_; clear NX))
      all_goals (refine plan_one (o := ?_) ?_ ?_ ?_; rotate_left; (simp only [List.getElem?_toArray, List.getElem?_cons_succ, List.getElem?_cons_zero]; exact rfl); rfl; intro NX; (repeat' (first | go_step | go_upon)); all_goals (refine seg_end (by kernel_rfl) ?_; clear NX))
      all_goals (refine plan_one (o := ?_) ?_ ?_ ?_; rotate_left; (simp only [List.getElem?_toArray, List.getElem?_cons_succ, List.getElem?_cons_zero]; exact rfl); rfl; intro NX; (repeat' (first | go_step | go_upon)); all_goals (refine seg_end (by kernel_rfl) ?_; clear NX))
      all_goals (refine plan_one (o := ?_) ?_ ?_ ?_; rotate_left; (simp only [List.getElem?_toArray, List.getElem?_cons_succ, List.getElem?_cons_zero]; exact rfl); rfl; intro NX; (repeat' (first | go_step | go_upon)); all_goals (refine seg_end (by kernel_rfl) ?_; clear NX))
      all_goals (refine plan_one (o := ?_) ?_ ?_ ?_; rotate_left; (simp only [List.getElem?_toArray, List.getElem?_cons_succ, List.getElem?_cons_zero]; exact rfl); rfl; intro NX; (repeat' (first | go_step | go_upon)); all_goals (refine seg_end (by kernel_rfl) ?_; clear NX))
      all_goals (refine plan_one (o := ?_) ?_ ?_ ?_; rotate_left; (simp only [List.getElem?_toArray, List.getElem?_cons_succ, List.getElem?_cons_zero]; exact rfl); rfl; intro NX; (repeat' (first | go_step | go_upon)); all_goals (refine seg_end (by kernel_rfl) ?_; clear NX))
      all_goals (refine plan_one (o := ?_) ?_ ?_ ?_; rotate_left; (simp only [List.getElem?_toArray, List.getElem?_cons_succ, List.getElem?_cons_zero]; exact rfl); rfl; intro NX; (repeat' (first | go_step | go_upon)); all_goals (refine seg_end (by kernel_rfl) ?_; clear NX))
      all_goals (refine plan_one (o := ?_) ?_ ?_ ?_; rotate_left; (simp only [List.getElem?_toArray, List.getElem?_cons_succ, List.getElem?_cons_zero]; exact rfl); rfl; intro NX; (repeat' (first | go_step | go_upon)); all_goals (refine seg_end (by kernel_rfl) ?_; clear NX))
      all_goals (refine plan_one (o := ?_) ?_ ?_ ?_; rotate_left; (simp only [List.getElem?_toArray, List.getElem?_cons_succ, List.getElem?_cons_zero]; exact rfl); rfl; intro NX; (repeat' (first | go_step | go_upon)); all_goals (refine seg_end (by kernel_rfl) ?_; clear NX))
      all_goals (refine plan_one (o := ?_) ?_ ?_ ?_; rotate_left; (simp only [List.getElem?_toArray, List.getElem?_cons_succ, List.getElem?_cons_zero]; exact rfl); rfl; intro NX; (repeat' (first | go_step | go_upon)); all_goals (refine seg_end (by kernel_rfl) ?_; clear NX))
      all_goals (refine plan_one (o := ?_) ?_ ?_ ?_; rotate_left; (simp only [List.getElem?_toArray, List.getElem?_cons_succ, List.getElem?_cons_zero]; exact rfl); rfl; intro NX; (repeat' (first | go_step | go_upon)); all_goals (refine seg_end (by kernel_rfl) ?_; clear NX))
      all_goals (refine plan_one (o := ?_) ?_ ?_ ?_; rotate_left; (simp only [List.getElem?_toArray, List.getElem?_cons_succ, List.getElem?_cons_zero]; exact rfl); rfl; intro NX; (repeat' (first | go_step | go_upon)); all_goals (refine seg_end (by kernel_rfl) ?_; clear NX))
      all_goals (refine plan_one (o := ?_) ?_ ?_ ?_; rotate_left; (simp only [List.getElem?_toArray, List.getElem?_cons_succ, List.getElem?_cons_zero]; exact rfl); rfl; intro NX; (repeat' (first | go_step | go_upon)); all_goals (refine seg_end (by kernel_rfl) ?_; clear NX))
      all_goals (refine plan_one (o := ?_) ?_ ?_ ?_; rotate_left; (simp only [List.getElem?_toArray, List.getElem?_cons_succ, List.getElem?_cons_zero]; exact rfl); rfl; intro NX; (repeat' (first | go_step | go_upon)); all_goals (refine seg_end (by kernel_rfl) ?_; clear NX))
      all_goals (refine plan_one (o := ?_) ?_ ?_ ?_; rotate_left; (simp only [List.getElem?_toArray, List.getElem?_cons_succ, List.getElem?_cons_zero]; exact rfl); rfl; intro NX; (repeat' (first | go_step | go_upon)); all_goals (refine seg_end (by kernel_rfl) ?_; clear NX))
      all_goals (refine plan_one (o := ?_) ?_ ?_ ?_; rotate_left; (simp only [List.getElem?_toArray, List.getElem?_cons_succ, List.getElem?_cons_zero]; exact rfl); rfl; intro NX; (repeat' (first | go_step | go_upon)); all_goals (refine seg_end (by kernel_rfl) ?_; clear NX))
      all_goals (refine plan_one (o := ?_) ?_ ?_ ?_; rotate_left; (simp only [List.getElem?_toArray, List.getElem?_cons_succ, List.getElem?_cons_zero]; exact rfl); rfl; intro NX; (repeat' (first | go_step | go_upon)); all_goals (refine seg_end (by kernel_rfl) ?_; clear NX))
      all_goals (refine plan_eff (o := ?_) ?_ ?_; rotate_left; (simp only [List.getElem?_toArray, List.getElem?_cons_succ, List.getElem?_cons_zero]; exact rfl); intro NX)
      all_goals go_wp2_with (fail)
      all_goals refine eff_free ?_
      all_goals refine plan_nil ?_
      go_wp2
      go_roundw
      case rel => exact ⟨k + 1, by omega, by go_num, by have := row_set HBK.out k (wordF xs k); rw [HWD.out] at this; unfold spF; rw [if_pos hlt]; rw [HWD.out]; exact this, (HST.out.setCell (fun _ => rfl) _).drew⟩
      case measure => simp [intOf]; omega
    · have HK16 : Hid (k = 16) := hidden (by omega)
      go_wp2
      go_loopw [5, 6, 7, 8, 9] (fun i _ _ _ _ w2 => ∃ k : Nat, k ≤ 64 ∧ 16 ≤ k ∧ i = .int .i64 k ∧ w2.heap[w.heap.size + 1]? = some (.cells (nums .u32 (spF xs k)).toArray 185 (0, 0)) ∧ Kept (fun b => b = w.heap.size + 1) W w2) (fun i _ _ _ _ _ => 64 - (intOf i).toNat)
      case atStart => exact ⟨16, by omega, by omega, rfl, by have := HBK.out; rw [HK16.out] at this; exact this, HST.out⟩
      case round =>
        obtain ⟨i, hi, hi16, rfl, hbk, hst⟩ := hrel
        rename_i w2 _ _
        have HB := hidden hbk
        have HS := hidden hst
        have HLW := hidden (spF_ok xs i).1
        have HUW := hidden (spF_ok xs i).2
        clear hbk hst HBK HST
        by_cases hlt : i < 64
        · obtain ⟨a15, e15⟩ : ∃ m : Nat, (i : Int) - 15 = (m : Int) := ⟨i - 15, by omega⟩
          obtain ⟨a2, e2⟩ : ∃ m : Nat, (i : Int) - 2 = (m : Int) := ⟨i - 2, by omega⟩
          obtain ⟨a16, e16⟩ : ∃ m : Nat, (i : Int) - 16 = (m : Int) := ⟨i - 16, by omega⟩
          obtain ⟨a7, e7⟩ : ∃ m : Nat, (i : Int) - 7 = (m : Int) := ⟨i - 7, by omega⟩
          have l15 : a15 < 64 := by omega
          have l2 : a2 < 64 := by omega
          have l16 : a16 < 64 := by omega
          have l7 : a7 < 64 := by omega
          have HN : Hid (nxtF (spF xs i) i = ((spF xs i).getD a16 0 + bits .xor .u32 (bits .xor .u32 (rotF ((spF xs i).getD a15 0) 25) (rotF ((spF xs i).getD a15 0) 14)) ((spF xs i).getD a15 0 / 8) + (spF xs i).getD a7 0
    + bits .xor .u32 (bits .xor .u32 (rotF ((spF xs i).getD a2 0) 15) (rotF ((spF xs i).getD a2 0) 13)) ((spF xs i).getD a2 0 / 1024)) % 4294967296) := hidden (by
            unfold nxtF
            rw [show i - 15 = a15 from by omega, show i - 2 = a2 from by omega, show i - 16 = a16 from by omega, show i - 7 = a7 from by omega])
          have c15 := row_at HB.out (i := a15) (by have := HLW.out; omega)
          have c2 := row_at HB.out (i := a2) (by have := HLW.out; omega)
          have c16 := row_at HB.out (i := a16) (by have := HLW.out; omega)
          have c7 := row_at HB.out (i := a7) (by have := HLW.out; omega)
          have cS := row_at HB.out (i := i) (by have := HLW.out; omega)
          have fS := blk_frozen HB.out i
          obtain ⟨b00, b01⟩ := u32_getD HUW.out a15
          obtain ⟨b10, b11⟩ := u32_getD HUW.out a2
          obtain ⟨b20, b21⟩ := u32_getD HUW.out a16
          obtain ⟨b30, b31⟩ := u32_getD HUW.out a7
          generalize (spF xs i).getD a15 0 = p15 at c15 b00 b01 HN
          generalize (spF xs i).getD a2 0 = p2 at c2 b10 b11 HN
          generalize (spF xs i).getD a16 0 = p16 at c16 b20 b21 HN
          generalize (spF xs i).getD a7 0 = p7 at c7 b30 b31 HN
          generalize (spF xs i).getD i 0 = old at cS
          go_wp2
          refine region_plan (.seg [0] (.seg [1] (.seg [2] (.seg [3] (.seg [4] (.seg [5] (.seg [6] (.seg [7] (.seg [8] (.seg [9] .nil)))))))))) (by kernel_rfl) ?_
          all_goals (refine plan_one (o := ?_) ?_ ?_ ?_; rotate_left; (simp only [List.getElem?_toArray, List.getElem?_cons_zero]; exact rfl); rfl; intro NX; (repeat' (first | go_step | go_upon)); all_goals (refine seg_end (by kernel_rfl) ?_; clear NX))
          all_goals (refine plan_one (o := ?_) ?_ ?_ ?_; rotate_left; (simp only [List.getElem?_toArray, List.getElem?_cons_succ, List.getElem?_cons_zero]; exact rfl); rfl; intro NX; (repeat' (first | go_step | go_upon)); all_goals (refine seg_end (by kernel_rfl) ?_; clear NX))
          all_goals (refine plan_one (o := ?_) ?_ ?_ ?_; rotate_left; (simp only [List.getElem?_toArray, List.getElem?_cons_succ, List.getElem?_cons_zero]; exact rfl); rfl; intro NX; (repeat' (first | go_step | go_upon)); all_goals (refine seg_end (by kernel_rfl) ?_; clear NX))
          all_goals (refine plan_one (o := ?_) ?_ ?_ ?_; rotate_left; (simp only [List.getElem?_toArray, List.getElem?_cons_succ, List.getElem?_cons_zero]; exact rfl); rfl; intro NX; (repeat' (first | go_step | go_upon)); all_goals (refine seg_end (by kernel_rfl) ?_; clear NX))
          all_goals (refine plan_one (o := ?_) ?_ ?_ ?_; rotate_left; (simp only [List.getElem?_toArray, List.getElem?_cons_succ, List.getElem?_cons_zero]; exact rfl); rfl; intro NX; (repeat' (first | go_step | go_upon)); all_goals (refine seg_end (by kernel_rfl) ?_; clear NX))
          all_goals (refine plan_one (o := ?_) ?_ ?_ ?_; rotate_left; (simp only [List.getElem?_toArray, List.getElem?_cons_succ, List.getElem?_cons_zero]; exact rfl); rfl; intro NX; (repeat' (first | go_step | go_upon)); all_goals (refine seg_end (by kernel_rfl) ?_; clear NX))
          all_goals (refine plan_one (o := ?_) ?_ ?_ ?_; rotate_left; (simp only [List.getElem?_toArray, List.getElem?_cons_succ, List.getElem?_cons_zero]; exact rfl); rfl; intro NX; (repeat' (first | go_step | go_upon)); all_goals (refine seg_end (by kernel_rfl) ?_; clear NX))
          all_goals (refine plan_one (o := ?_) ?_ ?_ ?_; rotate_left; (simp only [List.getElem?_toArray, List.getElem?_cons_succ, List.getElem?_cons_zero]; exact rfl); rfl; intro NX; (repeat' (first | go_step | go_upon)); all_goals (refine seg_end (by kernel_rfl) ?_; clear NX))
          all_goals (refine plan_one (o := ?_) ?_ ?_ ?_; rotate_left; (simp only [List.getElem?_toArray, List.getElem?_cons_succ, List.getElem?_cons_zero]; exact rfl); rfl; intro NX; (repeat' (first | go_step | go_upon)); all_goals (refine seg_end (by kernel_rfl) ?_; clear NX))
          all_goals (refine plan_one (o := ?_) ?_ ?_ ?_; rotate_left; (simp only [List.getElem?_toArray, List.getElem?_cons_succ, List.getElem?_cons_zero]; exact rfl); rfl; intro NX; (repeat' (first | go_step | go_upon)); all_goals (refine seg_end (by kernel_rfl) ?_; clear NX))
          all_goals refine plan_nil ?_
          go_wp2_with (go_at_call 140; (first | (with_reducible refine (rot_any _ (-7) 25 _ (by omega) (by omega) (by decide) (by decide)).mono ?_) | (with_reducible refine (rot_any _ (-18) 14 _ (by omega) (by omega) (by decide) (by decide)).mono ?_) | (with_reducible refine (rot_any _ (-17) 15 _ (by omega) (by omega) (by decide) (by decide)).mono ?_) | (with_reducible refine (rot_any _ (-19) 13 _ (by omega) (by omega) (by decide) (by decide)).mono ?_)); rintro e w3 ⟨rfl, rfl⟩)
          refine region_plan (.seg [0] (.seg [1] (.seg [2] (.seg [3] (.seg [4] (.seg [5] (.seg [6] (.seg [7] (.seg [8] (.seg [9] (.seg [10] (.seg [11] (.seg [12] (.seg [13] (.seg [14] (.eff 15 false .nil)))))))))))))))) (by kernel_rfl) ?_
          all_goals (refine plan_one (o := ?_) ?_ ?_ ?_; rotate_left; (simp only [List.getElem?_toArray, List.getElem?_cons_zero]; exact rfl); rfl; intro NX; (repeat' (first | go_step | go_upon)); all_goals (refine seg_end (by kernel_rfl) ?_; clear NX))
          all_goals (refine plan_one (o := ?_) ?_ ?_ ?_; rotate_left; (simp only [List.getElem?_toArray, List.getElem?_cons_succ, List.getElem?_cons_zero]; exact rfl); rfl; intro NX; (repeat' (first | go_step | go_upon)); all_goals (refine seg_end (by kernel_rfl) ?_; clear NX))
          all_goals (refine plan_one (o := ?_) ?_ ?_ ?_; rotate_left; (simp only [List.getElem?_toArray, List.getElem?_cons_succ, List.getElem?_cons_zero]; exact rfl); rfl; intro NX; (repeat' (first | go_step | go_upon)); all_goals (refine seg_end (by kernel_rfl) ?_; clear NX))
          all_goals (refine plan_one (o := ?_) ?_ ?_ ?_; rotate_left; (simp only [List.getElem?_toArray, List.getElem?_cons_succ, List.getElem?_cons_zero]; exact rfl); rfl; intro NX; (repeat' (first | go_step | go_upon)); all_goals (refine seg_end (by kernel_rfl) ?_; clear NX))
          all_goals (refine plan_one (o := ?_) ?_ ?_ ?_; rotate_left; (simp only [List.getElem?_toArray, List.getElem?_cons_succ, List.getElem?_cons_zero]; exact rfl); rfl; intro NX; (repeat' (first | go_step | go_upon)); all_goals (refine seg_end (by kernel_rfl) ?_; clear NX))
          all_goals (refine plan_one (o := ?_) ?_ ?_ ?_; rotate_left; (simp only [List.getElem?_toArray, List.getElem?_cons_succ, List.getElem?_cons_zero]; exact rfl); rfl; intro NX; (repeat' (first | go_step | go_upon)); all_goals (refine seg_end (by kernel_rfl) ?_; clear NX))
          all_goals (refine plan_one (o := ?_) ?_ ?_ ?_; rotate_left; (simp only [List.getElem?_toArray, List.getElem?_cons_succ, List.getElem?_cons_zero]; exact rfl); rfl; intro NX; (repeat' (first | go_step | go_upon)); all_goals (refine seg_end (by kernel_rfl) ?_; clear NX))
          all_goals (refine plan_one (o := ?_) ?_ ?_ ?_; rotate_left; (simp only [List.getElem?_toArray, List.getElem?_cons_succ, List.getElem?_cons_zero]; exact rfl); rfl; intro NX; (repeat' (first | go_step | go_upon)); all_goals (refine seg_end (by kernel_rfl) ?_; clear NX))
          all_goals (refine plan_one (o := ?_) ?_ ?_ ?_; rotate_left; (simp only [List.getElem?_toArray, List.getElem?_cons_succ, List.getElem?_cons_zero]; exact rfl); rfl; intro NX; (repeat' (first | go_step | go_upon)); all_goals (refine seg_end (by kernel_rfl) ?_; clear NX))
          all_goals (refine plan_one (o := ?_) ?_ ?_ ?_; rotate_left; (simp only [List.getElem?_toArray, List.getElem?_cons_succ, List.getElem?_cons_zero]; exact rfl); rfl; intro NX; (repeat' (first | go_step | go_upon)); all_goals (refine seg_end (by kernel_rfl) ?_; clear NX))
          all_goals (refine plan_one (o := ?_) ?_ ?_ ?_; rotate_left; (simp only [List.getElem?_toArray, List.getElem?_cons_succ, List.getElem?_cons_zero]; exact rfl); rfl; intro NX; (repeat' (first | go_step | go_upon)); all_goals (refine seg_end (by kernel_rfl) ?_; clear NX))
          all_goals (refine plan_one (o := ?_) ?_ ?_ ?_; rotate_left; (simp only [List.getElem?_toArray, List.getElem?_cons_succ, List.getElem?_cons_zero]; exact rfl); rfl; intro NX; (repeat' (first | go_step | go_upon)); all_goals (refine seg_end (by kernel_rfl) ?_; clear NX))
          all_goals (refine plan_one (o := ?_) ?_ ?_ ?_; rotate_left; (simp only [List.getElem?_toArray, List.getElem?_cons_succ, List.getElem?_cons_zero]; exact rfl); rfl; intro NX; (repeat' (first | go_step | go_upon)); all_goals (refine seg_end (by kernel_rfl) ?_; clear NX))
          all_goals (refine plan_one (o := ?_) ?_ ?_ ?_; rotate_left; (simp only [List.getElem?_toArray, List.getElem?_cons_succ, List.getElem?_cons_zero]; exact rfl); rfl; intro NX; (repeat' (first | go_step | go_upon)); all_goals (refine seg_end (by kernel_rfl) ?_; clear NX))
          all_goals (refine plan_one (o := ?_) ?_ ?_ ?_; rotate_left; (simp only [List.getElem?_toArray, List.getElem?_cons_succ, List.getElem?_cons_zero]; exact rfl); rfl; intro NX; (repeat' (first | go_step | go_upon)); all_goals (refine seg_end (by kernel_rfl) ?_; clear NX))
          all_goals (refine plan_eff (o := ?_) ?_ ?_; rotate_left; (simp only [List.getElem?_toArray, List.getElem?_cons_succ, List.getElem?_cons_zero]; exact rfl); intro NX)
          all_goals go_wp2_with (fail)
          all_goals refine eff_free ?_
          all_goals refine plan_nil ?_
          go_wp2
          go_roundw
          case rel => exact ⟨i + 1, by omega, by omega, by go_num, by have := row_set HB.out i (nxtF (spF xs i) i); rw [HN.out] at this; unfold spF; rw [if_neg (by omega), HN.out]; exact this, (HS.out.setCell (fun _ => rfl) _).drew.drew⟩
          case measure => simp [intOf]; omega
        · have HI64 : Hid (i = 64) := hidden (by omega)
          have HBR := hidden (HS.out.blk HB1.out (by omega))
          go_wp2_with (first
            | ((with_reducible refine load_lit agg64 (.tmp 3) ⟨w.heap.size + 1, 0, none⟩ (nums .u32 (spF xs i)) ?_ ?_ ?_ ?_ ?_); rfl; rfl; exact (nums_length _ _).trans HLW.out; exact row_cells HB.out)
            | ((with_reducible refine store_lit agg64 (.tmp 2) (.tmp 92) w.heap.size (nums .u32 (spF xs i)) ?_ ?_ ?_ ?_ ?_ ?_ ?_); rfl; rfl; rfl; exact (nums_length _ _).trans HLW.out; exact nums_oneC _ _; exact ⟨_, _, HBR.out, by simp [nums_length]⟩; intro w9 hb9 hk9; have HB9 := hidden hb9; have HK9 := hidden hk9; clear hb9 hk9))
          obtain ⟨t9, hb9⟩ := HB9.out
          refine bodyPost_ret (results_cell_row rfl _ _ w.heap.size _ _ _ _ rfl hb9 Try.underlying185 rfl (by rw [show (nums IntKind.u32 (spF xs i)).toArray.size = 64 by simp [nums_length, HLW.out]]; kernel_rfl)) rfl ⟨by rw [HI64.out], ?_⟩
          exact Kept.then (HK.out) (Kept.trans (HS.out.mono (S' := fun b => b = w.heap.size + 1 ∨ b = w.heap.size) (fun _ _ h => .inl h)) (HK9.out.mono (fun _ _ h => .inr h))) (fun b hb h => by rcases h with h | h <;> omega)
end Go.Proofs.Ytcghjnegaiiieaa
namespace Go.Proofs.Ytcghjnegaiiieaa
set_option linter.unusedSimpArgs false
open Go.RowKit
theorem Kept.setRow {S : Nat → Prop} {a w : World} (h : Kept S a w) {g : Nat} (hp : g < a.heap.size → S g) (cs : Array Value) : Kept S a (w.setRow g cs) :=
  ⟨h.os, h.tape, h.output, by simpa [World.setRow] using h.size, fun k hk hn => (setRow_other w g k cs (fun e => hn (e ▸ hp (e ▸ hk)))).trans (h.block k hk hn)⟩
theorem wpList_copy_nums {P : Program} {ops : Array Oper} {rest : List Oper} {o : Oper} {a : Act} {w : World} {Q : Exit → Act → World → Prop} (hgd : o.guard = none) (d s : Operand) (dT sT : TypeId)
    (ho : o.op = .call { callee := .builtin .copy, args := #[d, s], argTypes := #[dT, sT] }) (elem : TypeId) (hu : P.underlying dT = some (.slice elem)) (hsz : (P.info? elem).map (·.size) = some 1) (g lo dLen dCap sLen sCap : Nat) (ad : Addr)
    (hd : a.eval d = .slice (some ⟨g, lo, none⟩) dLen dCap) (hs : a.eval s = .slice (some ad) sLen sCap) (k : IntKind) (cur : List Int) (t : TypeId) (hg : w.heap[g]? = some (.cells (nums k cur).toArray t (0, 0))) (cs : List Int) (hn : cs.length = Nat.min sLen dLen)
    (hsrc : ∀ j v, (nums k cs)[j]? = some v → w.cell? (ad.add j) = some v) (hfit : lo + cs.length ≤ cur.length)
    (hK : ∀ w', w'.heap[g]? = some (.cells (nums k (cur.take lo ++ (cs ++ cur.drop (lo + cs.length)))).toArray t (0, 0)) → Kept (fun b => b = g) w w' → wpList P ops Q rest (a.put o.dst (goInt cs.length)) w') :
    wpList P ops Q (o :: rest) a w := by
  refine wpList_copy_own hgd d s dT sT ho elem hu hsz g lo dLen dCap ad sLen sCap hd hs (nums k cur).toArray t hg (nums k cs) (by rw [nums_length]; exact hn) hsrc
    (by rw [nums_length]; simpa [nums] using hfit) (nums_oneC _ _) ?_
  rw [nums_length]
  refine hK _ ?_ (Kept.setRow (S := fun b => b = g) (Kept.refl _ _) (fun _ => rfl) _)
  rw [setRow_heap w g _ _ t (0, 0) hg]
  simp [nums]
theorem list8 {l : List Int} (h : l.length = 8) : ∃ a b c d e f g i, l = [a, b, c, d, e, f, g, i] := by
  match l, h with
  | [a, b, c, d, e, f, g, i], _ => exact ⟨a, b, c, d, e, f, g, i, rfl⟩
def ttF (v4 v5 v6 v7 kk ww : Int) : Int :=
  (v7 + bits .xor .u32 (bits .xor .u32 (rotF v4 26) (rotF v4 21)) (rotF v4 7) + bits .xor .u32 (bits .and .u32 v4 v5) (bits .and .u32 (bits .xor .u32 IntKind.u32.max v4) v6) + kk + ww) % 4294967296
def uuF (v0 v1 v2 : Int) : Int :=
  (bits .xor .u32 (bits .xor .u32 (rotF v0 30) (rotF v0 19)) (rotF v0 10) + bits .xor .u32 (bits .xor .u32 (bits .and .u32 v0 v1) (bits .and .u32 v0 v2)) (bits .and .u32 v1 v2)) % 4294967296
theorem ttF_u (a b c d e f : Int) : U32 (ttF a b c d e f) := u32_mod _
theorem uuF_u (a b c : Int) : U32 (uuF a b c) := u32_mod _
def rndF : List Int → Int → Int → List Int
  | [v0, v1, v2, v3, v4, v5, v6, v7], kk, ww => [(ttF v4 v5 v6 v7 kk ww + uuF v0 v1 v2) % 4294967296, v0, v1, v2, (v3 + ttF v4 v5 v6 v7 kk ww) % 4294967296, v4, v5, v6]
  | v, _, _ => v
def vF (hs ks ss : List Int) : Nat → List Int
  | 0 => hs
  | k + 1 => rndF (vF hs ks ss k) (ks.getD k 0) (ss.getD k 0)
theorem vF_ok (hs ks ss : List Int) (hl : hs.length = 8) (hu : ∀ x ∈ hs, U32 x) (k : Nat) : (vF hs ks ss k).length = 8 ∧ ∀ x ∈ vF hs ks ss k, U32 x := by
  induction k with
  | zero => exact ⟨hl, hu⟩
  | succ k ih =>
    obtain ⟨a, b, c, d, e, f, g, i, h⟩ := list8 ih.1
    unfold vF
    rw [h] at ih ⊢
    refine ⟨rfl, fun x hx => ?_⟩
    simp only [rndF, List.mem_cons, List.not_mem_nil, or_false] at hx
    rcases hx with rfl | rfl | rfl | rfl | rfl | rfl | rfl | rfl
    · exact u32_mod _
    · exact ih.2 _ (by simp)
    · exact ih.2 _ (by simp)
    · exact ih.2 _ (by simp)
    · exact u32_mod _
    · exact ih.2 _ (by simp)
    · exact ih.2 _ (by simp)
    · exact ih.2 _ (by simp)
def addF (hs vs : List Int) : Nat → List Int
  | 0 => hs
  | k + 1 => (addF hs vs k).set k (((addF hs vs k).getD k 0 + vs.getD k 0) % 4294967296)
theorem addF_ok (hs vs : List Int) (hl : hs.length = 8) (hu : ∀ x ∈ hs, U32 x) (k : Nat) : (addF hs vs k).length = 8 ∧ ∀ x ∈ addF hs vs k, U32 x := by
  induction k with
  | zero => exact ⟨hl, hu⟩
  | succ k ih => exact ⟨by simp [addF, ih.1], u32_set ih.2 k (u32_mod _)⟩
theorem agg8 : AggT Try.prog 183 8 := ⟨⟨_, Try.underlying183, rfl⟩, by kernel_rfl⟩
set_option maxRecDepth 100000 in
set_option maxHeartbeats 16000000 in
theorem block_gen (H Kb : Nat) (A : Option Addr) (c : Nat) (hs ks ss : List Int) (w : World) (hH : w.heap[H]? = some (.cells (nums .u32 hs).toArray 183 (0, 0))) (hKb : w.heap[Kb]? = some (.cells (nums .u32 ks).toArray 185 (0, 0)))
    (HSP : Hid (Calls Try.prog 139 #[.slice A 64 c] w fun e w' => e = .returned (.agg (nums .u32 ss).toArray) ∧ Kept Nob w w')) (HSL : ss.length = 64) (HSU : Hid (∀ x ∈ ss, U32 x))
    (hlh : hs.length = 8) (hlk : ks.length = 64) (hus : ∀ x ∈ hs, U32 x) (hku : ∀ x ∈ ks, U32 x) :
    Calls Try.prog 123 #[.pointer (some ⟨H, 0, none⟩), .slice A 64 c, .pointer (some ⟨Kb, 0, none⟩)] w fun e w' => e = .returned (.tuple #[]) ∧ (∃ n m : Nat, n = 8 ∧ m = 64 ∧ w'.heap[H]? = some (.cells (nums .u32 (addF hs (vF hs ks ss m) n)).toArray 183 (0, 0))) ∧ Kept (fun b => b = H) w w' := by
  have HKB := hidden hKb
  have HH := hidden hH
  have HLH := hidden hlh
  have HUS := hidden hus
  have HKU := hidden hku
  clear hKb hH hlh hus hku
  go_enter Try.func123, Try.ntmps123
  go_wp2_with (first
    | (go_at_call 139; refine HSP.out.mono ?_; rintro e w1 ⟨rfl, hk1⟩; have HK1 := hidden hk1; clear hk1; dsimp only)
    | ((with_reducible refine store_lit agg64 (.tmp 6) (.tmp 16) w1.heap.size (nums .u32 ss) ?_ ?_ ?_ ?_ ?_ ?_ ?_); rfl; rfl; rfl; exact (nums_length _ _).trans HSL; exact nums_oneC _ _; exact ⟨_, _, heap_alloc_new _ _, rfl⟩; intro w2 hb2 hk2; have HB2 := hidden hb2; have HK2 := hidden hk2; clear hb2 hk2)
    | ((with_reducible refine load_lit agg8 (.tmp 18) ⟨H, 0, none⟩ (nums .u32 hs) ?_ ?_ ?_ ?_ ?_); rfl; rfl; exact (nums_length _ _).trans HLH.out; exact row_cells (HK2.out.blk (blk_alloc (HK1.out.blk HH.out (fun h => h)) _) (fun h => by have := blk_lt (HK1.out.blk HH.out (fun h => h)); omega)))
    | ((with_reducible refine store_lit agg8 (.tmp 7) (.tmp 19) w2.heap.size (nums .u32 hs) ?_ ?_ ?_ ?_ ?_ ?_ ?_); rfl; rfl; rfl; exact (nums_length _ _).trans HLH.out; exact nums_oneC _ _; exact ⟨_, _, heap_alloc_new _ _, rfl⟩; intro w3 hb3 hk3; have HB3 := hidden hb3; have HK3 := hidden hk3; clear hb3 hk3))
  obtain ⟨ty2, hb2⟩ := HB2.out
  obtain ⟨ty3, hb3⟩ := HB3.out
  have hw0 := HK3.out.blk (blk_alloc hb2 _) (fun h => by have := blk_lt hb2; omega)
  obtain ⟨gw, hgw⟩ : ∃ g, w1.heap.size = g := ⟨_, rfl⟩
  obtain ⟨gv, hgv⟩ : ∃ g, w2.heap.size = g := ⟨_, rfl⟩
  have HGW : Hid (w.heap.size ≤ gw) := hidden (by have := HK1.out.size; omega)
  have HGV : Hid (gw < gv) := hidden (by have := blk_lt hb2; omega)
  have HKW : Hid (Kept Nob w w3) := hidden (Kept.then (Kept.alloc (Kept.then (Kept.alloc HK1.out _) HK2.out (fun b hb h => by have := HK1.out.size; omega)) _) HK3.out (fun b hb h => by have := HGW.out; have := HGV.out; omega))
  rw [hgw] at hw0
  rw [hgv] at hb3
  have HW := hidden hw0
  have HV := hidden hb3
  rw [hgw, hgv]
  clear hb2 hb3 hgw hgv HB2 HB3 HK1 HK2 HK3 HSP hw0
  have HHs : Hid (H < w.heap.size) := hidden (blk_lt HH.out)
  have HKs : Hid (Kb < w.heap.size) := hidden (blk_lt HKB.out)
  go_loopw [8, 9, 10, 11, 12, 13, 20] (fun _ _ _ _ _ _ i wr => ∃ k : Nat, k ≤ 64 ∧ i = .int .i64 k ∧ wr.heap[gv]? = some (.cells (nums .u32 (vF hs ks ss k)).toArray ty3 (0, 0)) ∧ Kept (fun b => b = gv) w3 wr) (fun _ _ _ _ _ _ i _ => 64 - (intOf i).toNat)
  case atStart => exact ⟨0, by omega, rfl, HV.out, Kept.refl _ _⟩
  case round =>
    obtain ⟨k, hk, rfl, hbk, hst⟩ := hrel
    have HBK := hidden hbk
    have HST := hidden hst
    clear hbk hst
    by_cases hlt : k < 64
    · obtain ⟨v0, v1, v2, v3, v4, v5, v6, v7, hv⟩ := list8 (vF_ok hs ks ss HLH.out HUS.out k).1
      have HUV := (vF_ok hs ks ss HLH.out HUS.out k).2
      have hb := HBK.out
      rw [hv] at hb HUV
      have HB := hidden hb
      have hw := HST.out.blk HW.out (fun h => by have := HGV.out; omega)
      have hkb := HST.out.blk (HKW.out.blk HKB.out (fun h => h)) (fun h => by have := HGV.out; have := HGW.out; have := HKs.out; omega)
      have cw := row_at hw (i := k) (by omega)
      have ck := row_at hkb (i := k) (by omega)
      have c0 : wr.cell? ⟨gv, 0, none⟩ = some (.int .u32 v0) := (blk_cell hb 0).trans rfl
      have c1 : wr.cell? ⟨gv, 1, none⟩ = some (.int .u32 v1) := (blk_cell hb 1).trans rfl
      have c2 : wr.cell? ⟨gv, 2, none⟩ = some (.int .u32 v2) := (blk_cell hb 2).trans rfl
      have c3 : wr.cell? ⟨gv, 3, none⟩ = some (.int .u32 v3) := (blk_cell hb 3).trans rfl
      have c4 : wr.cell? ⟨gv, 4, none⟩ = some (.int .u32 v4) := (blk_cell hb 4).trans rfl
      have c5 : wr.cell? ⟨gv, 5, none⟩ = some (.int .u32 v5) := (blk_cell hb 5).trans rfl
      have c6 : wr.cell? ⟨gv, 6, none⟩ = some (.int .u32 v6) := (blk_cell hb 6).trans rfl
      have c7 : wr.cell? ⟨gv, 7, none⟩ = some (.int .u32 v7) := (blk_cell hb 7).trans rfl
      have HSRC : Hid (∀ j v, (nums .u32 [v0, v1, v2, v3, v4, v5, v6])[j]? = some v → ∀ x, Kept Nob wr x → x.cell? ((⟨gv, 0, none⟩ : Addr).add j) = some v) := hidden (fun j v hj x hx => hx.at ((row_cells (es := nums .u32 [v0, v1, v2, v3, v4, v5, v6, v7]) hb) j v (by match j, hj with | 0, hj => exact hj | 1, hj => exact hj | 2, hj => exact hj | 3, hj => exact hj | 4, hj => exact hj | 5, hj => exact hj | 6, hj => exact hj)) (fun h => h))
      obtain ⟨u00, u01⟩ := HUV v0 (by simp)
      obtain ⟨u10, u11⟩ := HUV v1 (by simp)
      obtain ⟨u20, u21⟩ := HUV v2 (by simp)
      obtain ⟨u30, u31⟩ := HUV v3 (by simp)
      obtain ⟨u40, u41⟩ := HUV v4 (by simp)
      obtain ⟨u50, u51⟩ := HUV v5 (by simp)
      obtain ⟨u60, u61⟩ := HUV v6 (by simp)
      obtain ⟨u70, u71⟩ := HUV v7 (by simp)
      obtain ⟨x00, x01⟩ := u32_getD HKU.out k
      obtain ⟨x10, x11⟩ := u32_getD HSU.out k
      have HV8 := hidden hv
      clear HUV hb hw hkb hv
      generalize hkk : ks.getD k 0 = kk at ck x00 x01
      generalize hww : ss.getD k 0 = ww at cw x10 x11
      have HKK := hidden hkk
      have HWW := hidden hww
      clear hkk hww
      go_wp2_with (go_at_call 140; (first | (with_reducible refine (rot_any _ (-6) 26 _ (by omega) (by omega) (by decide) (by decide)).mono ?_) | (with_reducible refine (rot_any _ (-11) 21 _ (by omega) (by omega) (by decide) (by decide)).mono ?_) | (with_reducible refine (rot_any _ (-25) 7 _ (by omega) (by omega) (by decide) (by decide)).mono ?_) | (with_reducible refine (rot_any _ (-2) 30 _ (by omega) (by omega) (by decide) (by decide)).mono ?_) | (with_reducible refine (rot_any _ (-13) 19 _ (by omega) (by omega) (by decide) (by decide)).mono ?_) | (with_reducible refine (rot_any _ (-22) 10 _ (by omega) (by omega) (by decide) (by decide)).mono ?_)); rintro e w8 ⟨rfl, rfl⟩; dsimp only)
      refine region_plan (.seg [0] (.seg [1] (.seg [2] (.seg [3] (.seg [4] (.seg [5] (.seg [6] (.seg [7] (.seg [8] (.seg [9] (.seg [10] (.seg [11] (.seg [12] (.seg [13] (.seg [14] (.seg [15] (.seg [16] (.seg [17] (.seg [18] (.seg [19] (.seg [20] (.seg [21] (.seg [22] (.seg [23] (.seg [24] (.seg [25] .nil)))))))))))))))))))))))))) (by kernel_rfl) ?_
      all_goals (refine plan_one (o := ?_) ?_ ?_ ?_; rotate_left; (simp only [List.getElem?_toArray, List.getElem?_cons_zero]; exact rfl); rfl; intro NX; (repeat' (first | go_step | go_upon)); all_goals (refine seg_end (by kernel_rfl) ?_; clear NX))
      all_goals (refine plan_one (o := ?_) ?_ ?_ ?_; rotate_left; (simp only [List.getElem?_toArray, List.getElem?_cons_succ, List.getElem?_cons_zero]; exact rfl); rfl; intro NX; (repeat' (first | go_step | go_upon)); all_goals (refine seg_end (by kernel_rfl) ?_; clear NX))
      all_goals (refine plan_one (o := ?_) ?_ ?_ ?_; rotate_left; (simp only [List.getElem?_toArray, List.getElem?_cons_succ, List.getElem?_cons_zero]; exact rfl); rfl; intro NX; (repeat' (first | go_step | go_upon)); all_goals (refine seg_end (by kernel_rfl) ?_; clear NX))
      all_goals (refine plan_one (o := ?_) ?_ ?_ ?_; rotate_left; (simp only [List.getElem?_toArray, List.getElem?_cons_succ, List.getElem?_cons_zero]; exact rfl); rfl; intro NX; (repeat' (first | go_step | go_upon)); all_goals (refine seg_end (by kernel_rfl) ?_; clear NX))
      all_goals (refine plan_one (o := ?_) ?_ ?_ ?_; rotate_left; (simp only [List.getElem?_toArray, List.getElem?_cons_succ, List.getElem?_cons_zero]; exact rfl); rfl; intro NX; (repeat' (first | go_step | go_upon)); all_goals (refine seg_end (by kernel_rfl) ?_; clear NX))
      all_goals (refine plan_one (o := ?_) ?_ ?_ ?_; rotate_left; (simp only [List.getElem?_toArray, List.getElem?_cons_succ, List.getElem?_cons_zero]; exact rfl); rfl; intro NX; (repeat' (first | go_step | go_upon)); all_goals (refine seg_end (by kernel_rfl) ?_; clear NX))
      all_goals (refine plan_one (o := ?_) ?_ ?_ ?_; rotate_left; (simp only [List.getElem?_toArray, List.getElem?_cons_succ, List.getElem?_cons_zero]; exact rfl); rfl; intro NX; (repeat' (first | go_step | go_upon)); all_goals (refine seg_end (by kernel_rfl) ?_; clear NX))
      all_goals (refine plan_one (o := ?_) ?_ ?_ ?_; rotate_left; (simp only [List.getElem?_toArray, List.getElem?_cons_succ, List.getElem?_cons_zero]; exact rfl); rfl; intro NX; (repeat' (first | go_step | go_upon)); all_goals (refine seg_end (by kernel_rfl) ?_; clear NX))
      all_goals (refine plan_one (o := ?_) ?_ ?_ ?_; rotate_left; (simp only [List.getElem?_toArray, List.getElem?_cons_succ, List.getElem?_cons_zero]; exact rfl); rfl; intro NX; (repeat' (first | go_step | go_upon)); all_goals (refine seg_end (by kernel_rfl) ?_; clear NX))
      all_goals (refine plan_one (o := ?_) ?_ ?_ ?_; rotate_left; (simp only [List.getElem?_toArray, List.getElem?_cons_succ, List.getElem?_cons_zero]; exact rfl); rfl; intro NX; (repeat' (first | go_step | go_upon)); all_goals (refine seg_end (by kernel_rfl) ?_; clear NX))
      all_goals (refine plan_one (o := ?_) ?_ ?_ ?_; rotate_left; (simp only [List.getElem?_toArray, List.getElem?_cons_succ, List.getElem?_cons_zero]; exact rfl); rfl; intro NX; (repeat' (first | go_step | go_upon)); all_goals (refine seg_end (by kernel_rfl) ?_; clear NX))
      all_goals (refine plan_one (o := ?_) ?_ ?_ ?_; rotate_left; (simp only [List.getElem?_toArray, List.getElem?_cons_succ, List.getElem?_cons_zero]; exact rfl); rfl; intro NX; (repeat' (first | go_step | go_upon)); all_goals (refine seg_end (by kernel_rfl) ?_; clear NX))
      all_goals (refine plan_one (o := ?_) ?_ ?_ ?_; rotate_left; (simp only [List.getElem?_toArray, List.getElem?_cons_succ, List.getElem?_cons_zero]; exact rfl); rfl; intro NX; (repeat' (first | go_step | go_upon)); all_goals (refine seg_end (by kernel_rfl) ?_; clear NX))
      all_goals (refine plan_one (o := ?_) ?_ ?_ ?_; rotate_left; (simp only [List.getElem?_toArray, List.getElem?_cons_succ, List.getElem?_cons_zero]; exact rfl); rfl; intro NX; (repeat' (first | go_step | go_upon)); all_goals (refine seg_end (by kernel_rfl) ?_; clear NX))
      all_goals (refine plan_one (o := ?_) ?_ ?_ ?_; rotate_left; (simp only [List.getElem?_toArray, List.getElem?_cons_succ, List.getElem?_cons_zero]; exact rfl); rfl; intro NX; (repeat' (first | go_step | go_upon)); all_goals (refine seg_end (by kernel_rfl) ?_; clear NX))
      all_goals (refine plan_one (o := ?_) ?_ ?_ ?_; rotate_left; (simp only [List.getElem?_toArray, List.getElem?_cons_succ, List.getElem?_cons_zero]; exact rfl); rfl; intro NX; (repeat' (first | go_step | go_upon)); all_goals (refine seg_end (by kernel_rfl) ?_; clear NX))
      all_goals (refine plan_one (o := ?_) ?_ ?_ ?_; rotate_left; (simp only [List.getElem?_toArray, List.getElem?_cons_succ, List.getElem?_cons_zero]; exact rfl); rfl; intro NX; (repeat' (first | go_step | go_upon)); all_goals (refine seg_end (by kernel_rfl) ?_; clear NX))
      all_goals (refine plan_one (o := ?_) ?_ ?_ ?_; rotate_left; (simp only [List.getElem?_toArray, List.getElem?_cons_succ, List.getElem?_cons_zero]; exact rfl); rfl; intro NX; (repeat' (first | go_step | go_upon)); all_goals (refine seg_end (by kernel_rfl) ?_; clear NX))
      all_goals (refine plan_one (o := ?_) ?_ ?_ ?_; rotate_left; (simp only [List.getElem?_toArray, List.getElem?_cons_succ, List.getElem?_cons_zero]; exact rfl); rfl; intro NX; (repeat' (first | go_step | go_upon)); all_goals (refine seg_end (by kernel_rfl) ?_; clear NX))
      all_goals (refine plan_one (o := ?_) ?_ ?_ ?_; rotate_left; (simp only [List.getElem?_toArray, List.getElem?_cons_succ, List.getElem?_cons_zero]; exact rfl); rfl; intro NX; (repeat' (first | go_step | go_upon)); all_goals (refine seg_end (by kernel_rfl) ?_; clear NX))
      all_goals (refine plan_one (o := ?_) ?_ ?_ ?_; rotate_left; (simp only [List.getElem?_toArray, List.getElem?_cons_succ, List.getElem?_cons_zero]; exact rfl); rfl; intro NX; (repeat' (first | go_step | go_upon)); all_goals (refine seg_end (by kernel_rfl) ?_; clear NX))
      all_goals (refine plan_one (o := ?_) ?_ ?_ ?_; rotate_left; (simp only [List.getElem?_toArray, List.getElem?_cons_succ, List.getElem?_cons_zero]; exact rfl); rfl; intro NX; (repeat' (first | go_step | go_upon)); all_goals (refine seg_end (by kernel_rfl) ?_; clear NX))
      all_goals (refine plan_one (o := ?_) ?_ ?_ ?_; rotate_left; (simp only [List.getElem?_toArray, List.getElem?_cons_succ, List.getElem?_cons_zero]; exact rfl); rfl; intro NX; (repeat' (first | go_step | go_upon)); all_goals (refine seg_end (by kernel_rfl) ?_; clear NX))
      all_goals (refine plan_one (o := ?_) ?_ ?_ ?_; rotate_left; (simp only [List.getElem?_toArray, List.getElem?_cons_succ, List.getElem?_cons_zero]; exact rfl); rfl; intro NX; (repeat' (first | go_step | go_upon)); all_goals (refine seg_end (by kernel_rfl) ?_; clear NX))
      all_goals (refine plan_one (o := ?_) ?_ ?_ ?_; rotate_left; (simp only [List.getElem?_toArray, List.getElem?_cons_succ, List.getElem?_cons_zero]; exact rfl); rfl; intro NX; (repeat' (first | go_step | go_upon)); all_goals (refine seg_end (by kernel_rfl) ?_; clear NX))
      all_goals (refine plan_one (o := ?_) ?_ ?_ ?_; rotate_left; (simp only [List.getElem?_toArray, List.getElem?_cons_succ, List.getElem?_cons_zero]; exact rfl); rfl; intro NX; (repeat' (first | go_step | go_upon)); all_goals (refine seg_end (by kernel_rfl) ?_; clear NX))
      all_goals refine plan_nil ?_
      go_wp2_with (go_at_call 140; (first | (with_reducible refine (rot_any _ (-6) 26 _ (by omega) (by omega) (by decide) (by decide)).mono ?_) | (with_reducible refine (rot_any _ (-11) 21 _ (by omega) (by omega) (by decide) (by decide)).mono ?_) | (with_reducible refine (rot_any _ (-25) 7 _ (by omega) (by omega) (by decide) (by decide)).mono ?_) | (with_reducible refine (rot_any _ (-2) 30 _ (by omega) (by omega) (by decide) (by decide)).mono ?_) | (with_reducible refine (rot_any _ (-13) 19 _ (by omega) (by omega) (by decide) (by decide)).mono ?_) | (with_reducible refine (rot_any _ (-22) 10 _ (by omega) (by omega) (by decide) (by decide)).mono ?_)); rintro e w8 ⟨rfl, rfl⟩; dsimp only)
      have HTT : Hid (∀ x, x = ttF v4 v5 v6 v7 kk ww → 0 ≤ x ∧ x ≤ 4294967295) := hidden (fun x hx => hx ▸ ttF_u v4 v5 v6 v7 kk ww)
      have HUU : Hid (∀ x, x = uuF v0 v1 v2 → 0 ≤ x ∧ x ≤ 4294967295) := hidden (fun x hx => hx ▸ uuF_u v0 v1 v2)
      generalize hT : (v7 + bits .xor .u32 (bits .xor .u32 (rotF v4 26) (rotF v4 21)) (rotF v4 7) + bits .xor .u32 (bits .and .u32 v4 v5) (bits .and .u32 (bits .xor .u32 IntKind.u32.max v4) v6) + kk + ww) % 4294967296 = tt
      generalize hU : (bits .xor .u32 (bits .xor .u32 (rotF v0 30) (rotF v0 19)) (rotF v0 10) + bits .xor .u32 (bits .xor .u32 (bits .and .u32 v0 v1) (bits .and .u32 v0 v2)) (bits .and .u32 v1 v2)) % 4294967296 = uu
      have HT : Hid (ttF v4 v5 v6 v7 kk ww = tt) := hidden hT
      have HU : Hid (uuF v0 v1 v2 = uu) := hidden hU
      obtain ⟨t0, t1⟩ := HTT.out tt HT.out.symm
      obtain ⟨q0, q1⟩ := HUU.out uu HU.out.symm
      clear hT hU HTT HUU c0 c1 c2 c3 c4 c5 c6 c7 cw ck
      refine region_plan (.seg [0] (.seg [1] (.eff 2 false .nil))) (by kernel_rfl) ?_
      all_goals (refine plan_one (o := ?_) ?_ ?_ ?_; rotate_left; (simp only [List.getElem?_toArray, List.getElem?_cons_zero]; exact rfl); rfl; intro NX; (repeat' (first | go_step | go_upon)); all_goals (refine seg_end (by kernel_rfl) ?_; clear NX))
      all_goals (refine plan_one (o := ?_) ?_ ?_ ?_; rotate_left; (simp only [List.getElem?_toArray, List.getElem?_cons_succ, List.getElem?_cons_zero]; exact rfl); rfl; intro NX; (repeat' (first | go_step | go_upon)); all_goals (refine seg_end (by kernel_rfl) ?_; clear NX))
      all_goals (refine plan_eff (o := ?_) ?_ ?_; rotate_left; (simp only [List.getElem?_toArray, List.getElem?_cons_succ, List.getElem?_cons_zero]; exact rfl); intro NX)
      all_goals go_wp2_with ((refine wpList_copy_nums rfl (.tmp 85) (.tmp 86) 207 207 rfl 181 Try.underlying207 (by kernel_rfl) gv 1 7 7 7 8 ⟨gv, 0, none⟩ rfl rfl .u32 [v0, v1, v2, v3, v4, v5, v6, v7] ty3 HB.out [v0, v1, v2, v3, v4, v5, v6] rfl (fun j v hj => HSRC.out j v hj _ (by repeat (first | exact Kept.refl _ _ | apply Kept.alloc | apply Kept.drewN | apply Kept.drew))) (by simp) ?_; intro w5 hb5 hk5; have HB5 := hidden hb5; have HK5 := hidden hk5; clear hb5 hk5))
      all_goals refine eff_free ?_
      all_goals refine plan_nil ?_
      have hb5 : w5.heap[gv]? = some (.cells #[.int .u32 v0, .int .u32 v0, .int .u32 v1, .int .u32 v2, .int .u32 v3, .int .u32 v4, .int .u32 v5, .int .u32 v6] ty3 (0, 0)) := HB5.out
      have d4 : w5.cell? ⟨gv, 4, none⟩ = some (.int .u32 v3) := blk_cell hb5 4
      have d0 : w5.cell? ⟨gv, 0, none⟩ = some (.int .u32 v0) := blk_cell hb5 0
      have f4 := blk_frozen hb5 4
      have f0 := blk_frozen hb5 0
      have HB5' := hidden hb5
      clear hb5
      go_wp2
      go_roundw
      case rel =>
        refine ⟨k + 1, by omega, by go_num, ?_, ?_⟩
        · have h1 := blk_set (blk_set HB5'.out 4 (.int .u32 ((v3 + tt) % 4294967296))) 0 (.int .u32 ((tt + uu) % 4294967296))
          unfold vF
          rw [HV8.out, HKK.out, HWW.out]
          show _ = some (Obj.cells (nums .u32 [(ttF v4 v5 v6 v7 kk ww + uuF v0 v1 v2) % 4294967296, v0, v1, v2, (v3 + ttF v4 v5 v6 v7 kk ww) % 4294967296, v4, v5, v6]).toArray ty3 (0, 0))
          rw [HT.out, HU.out]
          exact h1
        · exact Kept.setCell (Kept.setCell (HST.out.drew.drew.trans HK5.out) (fun _ => rfl) _) (fun _ => rfl) _
      case measure => simp [intOf]; omega
    · have HK64 : Hid (k = 64) := hidden (by omega)
      have HVO := hidden (vF_ok hs ks ss HLH.out HUS.out k)
      have HRD : Hid (wr.heap[H]? = some (.cells (nums .u32 (addF hs (vF hs ks ss k) 0)).toArray 183 (0, 0))) := hidden (HST.out.blk (HKW.out.blk HH.out (fun h => h)) (fun h => by have := HGV.out; have := HGW.out; have := HHs.out; omega))
      go_wp2
      go_loopw [14, 98] (fun _ i w2 => ∃ j : Nat, j ≤ 8 ∧ i = .int .i64 j ∧ w2.heap[H]? = some (.cells (nums .u32 (addF hs (vF hs ks ss k) j)).toArray 183 (0, 0)) ∧ Kept (fun b => b = H) wr w2) (fun _ i _ => 8 - (intOf i).toNat)
      case atStart => exact ⟨0, by omega, rfl, HRD.out, Kept.refl _ _⟩
      case round =>
        obtain ⟨j, hj, rfl, hbj, hsj⟩ := hrel
        rename_i w2 _ _
        have HBJ := hidden hbj
        have HSJ := hidden hsj
        clear hbj hsj
        have HAO := hidden (addF_ok hs (vF hs ks ss k) HLH.out HUS.out j)
        by_cases hlt2 : j < 8
        · have cH := row_at HBJ.out (i := j) (by have := HAO.out.1; omega)
          have fH := blk_frozen HBJ.out j
          have cV := row_at (HSJ.out.blk HBK.out (fun h => by have := HGV.out; have := HGW.out; have := HHs.out; omega)) (i := j) (by have := HVO.out.1; omega)
          have HAD : Hid (addF hs (vF hs ks ss k) (j + 1) = (addF hs (vF hs ks ss k) j).set j (((addF hs (vF hs ks ss k) j).getD j 0 + (vF hs ks ss k).getD j 0) % 4294967296)) := hidden rfl
          obtain ⟨a0, a1⟩ := u32_getD HAO.out.2 j
          obtain ⟨b0, b1⟩ := u32_getD HVO.out.2 j
          generalize hx : (addF hs (vF hs ks ss k) j).getD j 0 = x at cH a0 a1
          generalize hy : (vF hs ks ss k).getD j 0 = y at cV b0 b1
          have HX := hidden hx
          have HY := hidden hy
          clear hx hy
          go_wp2
          refine region_plan (.seg [0] (.seg [1] (.seg [2] (.seg [3] (.seg [4] (.seg [5] (.seg [6] (.seg [7] (.seg [8] (.seg [9] (.seg [10] (.eff 11 false .nil)))))))))))) (by kernel_rfl) ?_
          all_goals (refine plan_one (o := ?_) ?_ ?_ ?_; rotate_left; (simp only [List.getElem?_toArray, List.getElem?_cons_zero]; exact rfl); rfl; intro NX; (repeat' (first | go_step | go_upon)); all_goals (refine seg_end (by kernel_rfl) ?_; clear NX))
          all_goals (refine plan_one (o := ?_) ?_ ?_ ?_; rotate_left; (simp only [List.getElem?_toArray, List.getElem?_cons_succ, List.getElem?_cons_zero]; exact rfl); rfl; intro NX; (repeat' (first | go_step | go_upon)); all_goals (refine seg_end (by kernel_rfl) ?_; clear NX))
          all_goals (refine plan_one (o := ?_) ?_ ?_ ?_; rotate_left; (simp only [List.getElem?_toArray, List.getElem?_cons_succ, List.getElem?_cons_zero]; exact rfl); rfl; intro NX; (repeat' (first | go_step | go_upon)); all_goals (refine seg_end (by kernel_rfl) ?_; clear NX))
          all_goals (refine plan_one (o := ?_) ?_ ?_ ?_; rotate_left; (simp only [List.getElem?_toArray, List.getElem?_cons_succ, List.getElem?_cons_zero]; exact rfl); rfl; intro NX; (repeat' (first | go_step | go_upon)); all_goals (refine seg_end (by kernel_rfl) ?_; clear NX))
          all_goals (refine plan_one (o := ?_) ?_ ?_ ?_; rotate_left; (simp only [List.getElem?_toArray, List.getElem?_cons_succ, List.getElem?_cons_zero]; exact rfl); rfl; intro NX; (repeat' (first | go_step | go_upon)); all_goals (refine seg_end (by kernel_rfl) ?_; clear NX))
          all_goals (refine plan_one (o := ?_) ?_ ?_ ?_; rotate_left; (simp only [List.getElem?_toArray, List.getElem?_cons_succ, List.getElem?_cons_zero]; exact rfl); rfl; intro NX; (repeat' (first | go_step | go_upon)); all_goals (refine seg_end (by kernel_rfl) ?_; clear NX))
          all_goals (refine plan_one (o := ?_) ?_ ?_ ?_; rotate_left; (simp only [List.getElem?_toArray, List.getElem?_cons_succ, List.getElem?_cons_zero]; exact rfl); rfl; intro NX; (repeat' (first | go_step | go_upon)); all_goals (refine seg_end (by kernel_rfl) ?_; clear NX))
          all_goals (refine plan_one (o := ?_) ?_ ?_ ?_; rotate_left; (simp only [List.getElem?_toArray, List.getElem?_cons_succ, List.getElem?_cons_zero]; exact rfl); rfl; intro NX; (repeat' (first | go_step | go_upon)); all_goals (refine seg_end (by kernel_rfl) ?_; clear NX))
          all_goals (refine plan_one (o := ?_) ?_ ?_ ?_; rotate_left; (simp only [List.getElem?_toArray, List.getElem?_cons_succ, List.getElem?_cons_zero]; exact rfl); rfl; intro NX; (repeat' (first | go_step | go_upon)); all_goals (refine seg_end (by kernel_rfl) ?_; clear NX))
          all_goals (refine plan_one (o := ?_) ?_ ?_ ?_; rotate_left; (simp only [List.getElem?_toArray, List.getElem?_cons_succ, List.getElem?_cons_zero]; exact rfl); rfl; intro NX; (repeat' (first | go_step | go_upon)); all_goals (refine seg_end (by kernel_rfl) ?_; clear NX))
          all_goals (refine plan_one (o := ?_) ?_ ?_ ?_; rotate_left; (simp only [List.getElem?_toArray, List.getElem?_cons_succ, List.getElem?_cons_zero]; exact rfl); rfl; intro NX; (repeat' (first | go_step | go_upon)); all_goals (refine seg_end (by kernel_rfl) ?_; clear NX))
          all_goals (refine plan_eff (o := ?_) ?_ ?_; rotate_left; (simp only [List.getElem?_toArray, List.getElem?_cons_succ, List.getElem?_cons_zero]; exact rfl); intro NX)
          all_goals go_wp2_with (fail)
          all_goals refine eff_free ?_
          all_goals refine plan_nil ?_
          go_wp2
          go_roundw
          case rel => exact ⟨j + 1, by omega, by go_num, by rw [HAD.out, HX.out, HY.out]; exact row_set HBJ.out j _, (HSJ.out.setCell (fun _ => rfl) _).drew⟩
          case measure => simp [intOf]; omega
        · have HJ8 : Hid (j = 8) := hidden (by omega)
          go_wp2
          go_end0
          refine ⟨rfl, ⟨j, k, HJ8.out, HK64.out, HBJ.out⟩, ?_⟩
          exact Kept.then (Kept.mono (Kept.then HKW.out HST.out (fun b hb h => by have := HGV.out; have := HGW.out; omega)) (fun _ _ h => h.elim)) HSJ.out (fun b hb h => h)
end Go.Proofs.Ytcghjnegaiiieaa
namespace Go.Proofs.Ytcghjnegaiiieaa
open Go.RowKit
def firstL : List Int := [1779033703, 3144134277, 1013904242, 2773480762, 1359893119, 2600822924, 528734635, 1541459225]
def roundsL : List Int := [1116352408, 1899447441, 3049323471, 3921009573, 961987163, 1508970993, 2453635748, 2870763221, 3624381080, 310598401, 607225278, 1426881987, 1925078388, 2162078206, 2614888103, 3248222580, 3835390401, 4022224774, 264347078, 604807628, 770255983, 1249150122, 1555081692, 1996064986, 2554220882, 2821834349, 2952996808, 3210313671, 3336571891, 3584528711, 113926993, 338241895, 666307205, 773529912, 1294757372, 1396182291, 1695183700, 1986661051, 2177026350, 2456956037, 2730485921, 2820302411, 3259730800, 3345764771, 3516065817, 3600352804, 4094571909, 275423344, 430227734, 506948616, 659060556, 883997877, 958139571, 1322822218, 1537002063, 1747873779, 1955562222, 2024104815, 2227730452, 2361852424, 2428436474, 2756734187, 3204031479, 3329325298]
set_option maxRecDepth 100000 in
set_option maxHeartbeats 4000000 in
theorem first_any (w : World) : Calls Try.prog 120 #[] w fun e w' => e = .returned (.agg (nums .u32 firstL).toArray) ∧ Kept Nob w w' := by
  go_enter Try.func120, Try.ntmps120
  go_wp2_with ((with_reducible refine store_lit agg8 (.tmp 0) (.tmp 1) w.heap.size (nums .u32 firstL) ?_ ?_ ?_ ?_ ?_ ?_ ?_); rfl; rfl; rfl; rfl; exact nums_oneC _ _; exact ⟨_, _, heap_alloc_new _ _, rfl⟩; intro w2 hb2 hk2; have HB2 := hidden hb2; have HK2 := hidden hk2; clear hb2 hk2)
  obtain ⟨t9, hb9⟩ := HB2.out
  exact bodyPost_ret (results_cell_row rfl _ _ w.heap.size _ _ _ _ rfl hb9 Try.underlying183 rfl (by kernel_rfl)) rfl ⟨rfl, Kept.then (Kept.alloc (Kept.refl Nob w) _) HK2.out (fun b hb h => by omega)⟩
set_option maxRecDepth 100000 in
set_option maxHeartbeats 4000000 in
theorem rounds_any (w : World) : Calls Try.prog 121 #[] w fun e w' => e = .returned (.agg (nums .u32 roundsL).toArray) ∧ Kept Nob w w' := by
  go_enter Try.func121, Try.ntmps121
  go_wp2_with ((with_reducible refine store_lit agg64 (.tmp 0) (.tmp 1) w.heap.size (nums .u32 roundsL) ?_ ?_ ?_ ?_ ?_ ?_ ?_); rfl; rfl; rfl; rfl; exact nums_oneC _ _; exact ⟨_, _, heap_alloc_new _ _, rfl⟩; intro w2 hb2 hk2; have HB2 := hidden hb2; have HK2 := hidden hk2; clear hb2 hk2)
  obtain ⟨t9, hb9⟩ := HB2.out
  exact bodyPost_ret (results_cell_row rfl _ _ w.heap.size _ _ _ _ rfl hb9 Try.underlying185 rfl (by kernel_rfl)) rfl ⟨rfl, Kept.then (Kept.alloc (Kept.refl Nob w) _) HK2.out (fun b hb h => by omega)⟩
theorem u32_all {l : List Int} (h : l.all (fun x => decide (0 ≤ x) && decide (x ≤ 4294967295)) = true) : ∀ x ∈ l, U32 x := fun x hx => by
  have := List.all_eq_true.1 h x hx
  simpa [U32] using this
theorem firstL_u : ∀ x ∈ firstL, U32 x := u32_all (by decide +kernel)
theorem roundsL_u : ∀ x ∈ roundsL, U32 x := u32_all (by decide +kernel)
theorem e8 : ElemT Try.prog 27 5 1 1 := ElemT.mk' Try.underlying27 (z := .int .u8 0) (by kernel_rfl) rfl (by decide)
def OwnB (w : World) (base : Nat) (v : Value) (xs : List Int) : Prop := w.ownsRow base 5 1 v xs.length (nums .u8 xs)
theorem OwnB.nil (w : World) (base : Nat) : OwnB w base (.slice none 0 0) [] := ⟨by simp [nums], .inl ⟨rfl, rfl⟩⟩
theorem OwnB.lit {w : World} {base g : Nat} {xs : List Int} (h : w.heap[g]? = some (.cells (nums .u8 xs).toArray 5 (0, 0))) (hb : base ≤ g) (hm : xs.length ≤ maxLen) : OwnB w base (.slice (some ⟨g, 0, none⟩) xs.length xs.length) xs :=
  ⟨by simp [nums_length], .inr ⟨g, xs.length, _, rfl, hb, h, Nat.le_refl _, hm, by simp [nums_length], by simp [List.take_of_length_le, nums_length]⟩⟩
theorem OwnB.keep {S : Nat → Prop} {w w' : World} {base : Nat} {v : Value} {xs : List Int} (h : OwnB w base v xs) (hk : Kept S w w') (hn : ∀ b, base ≤ b → ¬ S b) : OwnB w' base v xs :=
  own_keep h hk (fun b hb => hn b (own_ge h hb))
theorem OwnB.slice {w : World} {base : Nat} {v : Value} {xs : List Int} (h : OwnB w base v xs) : ∃ A c, v = .slice A xs.length c ∧ xs.length ≤ c ∧ RdInts w .u8 A xs ∧ (A = none → xs = []) := own_rd h
theorem OwnB.ints {w : World} {base : Nat} {v : Value} {xs : List Int} (h : OwnB w base v xs) (hw : ∀ x ∈ xs, (Lit.int .u8 x).wf = true) : ∃ A c, v = .slice A xs.length c ∧ Ints w (fun b => base ≤ b) .u8 A c xs := by
  obtain ⟨hl, ⟨rfl, h0⟩ | ⟨r, c, cur, rfl, hb, hh, hc, hm, hs, ht⟩⟩ := h
  · have : xs = [] := List.eq_nil_of_length_eq_zero h0
    subst this
    exact ⟨none, 0, rfl, ⟨fun i hi => by simp at hi, (fun ad e => by cases e), Nat.le_refl _, by decide, fun _ => ⟨rfl, rfl⟩, hw⟩⟩
  · obtain ⟨A, c', e, h1, h2, h3⟩ := own_rd (k := .u8) (xs := xs) (show w.ownsRow base 5 1 (.slice (some ⟨r, 0, none⟩) xs.length c) xs.length (nums .u8 xs) from ⟨hl, .inr ⟨r, c, cur, rfl, hb, hh, hc, hm, hs, ht⟩⟩)
    cases e
    exact ⟨_, _, rfl, ⟨h2, fun ad e _ => by cases e; exact hb, hc, hm, (fun e => by cases e), hw⟩⟩
theorem OwnB.app {w : World} {ops : Array Oper} {rest : List Oper} {o : Oper} {a : Act} {Q : Exit → Act → World → Prop} (hgd : o.guard = none) (s x : Operand)
    (ho : o.op = .call { callee := .builtin .append, args := #[s, x], argTypes := #[27, 27] })
    (base : Nat) (v : Value) (xs : List Int) (hs : a.eval s = v) (hown : OwnB w base v xs)
    (A : Option Addr) (c : Nat) (news : List Int) (hx : a.eval x = .slice A news.length c) (hr : RdInts w .u8 A news) (h0 : A = none → news = [])
    (h63 : xs.length + news.length ≤ 140737488355328) (hbase : base ≤ w.heap.size)
    (h : ∀ v' w', OwnB w' base v' (xs ++ news) → Kept (fun b => base ≤ b) w w' → wpList Try.prog ops Q rest (a.put o.dst v') w') : wpList Try.prog ops Q (o :: rest) a w := by
  refine Go.Proofs.Ytcghjnegaiiieaa.app e8 hgd s x ho base v xs.length (nums .u8 xs) hs hown A news.length c (nums .u8 news) hx (by rw [nums_length, Nat.mul_one]) hr.src' (fun e => by rw [h0 e]; rfl) (nums_oneC .u8 news) (by unfold maxLen; omega) (by omega) hbase ?_
  intro v' w' h1 h2 h3
  refine h v' w' ?_ ?_
  · unfold OwnB
    rw [List.length_append, nums_append]
    exact h1
  · exact Kept.grown (Kept.refl _ _) h2 (fun k e _ => by
      have := own_ge hown e
      exact this)
end Go.Proofs.Ytcghjnegaiiieaa
namespace Go.Proofs.Ytcghjnegaiiieaa
open Go.RowKit
theorem rd_byte {w : World} (x : Int) (e : TypeId) : RdInts (w.alloc (.cells #[.int .u8 x] e)) .u8 (some ⟨w.heap.size, 0, none⟩) [x] := fun i hi => by
  refine ⟨_, rfl, ?_⟩
  have ea : (⟨w.heap.size, 0, none⟩ : Addr).add i = ⟨w.heap.size, i, none⟩ := by
    unfold Addr.add
    split <;> simp_all
  rw [ea, blk_cell (heap_alloc_new w _)]
  match i, hi with
  | 0, _ => rfl
def lenB (m : Int) (j : Nat) : List Int := (List.range j).map fun t => m / 2 ^ (56 - 8 * t) % 256
def padF (xs : List Int) : List Int := xs ++ [128] ++ List.replicate ((119 - xs.length % 64) % 64) 0 ++ lenB (xs.length * 8) 8
set_option maxRecDepth 100000 in
set_option maxHeartbeats 8000000 in
theorem padded_any (A : Option Addr) (c : Nat) (xs : List Int) (w : World) (h : RdInts w .u8 A xs) (h0 : A = none → xs = []) (hn : xs.length ≤ 100000000) :
    Calls Try.prog 122 #[.slice A xs.length c] w fun e w' => (∃ v, e = .returned v ∧ OwnB w' w.heap.size v (padF xs)) ∧ Kept Nob w w' := by
  have HX := hidden h
  have HN := hidden h0
  obtain ⟨n, hxn⟩ : ∃ n, xs.length = n := ⟨_, rfl⟩
  rw [hxn] at hn ⊢
  have HXN := hidden hxn
  clear h h0 hxn
  go_enter Try.func122, Try.ntmps122
  go_wp2_with (first
    | (at_builtin; refine OwnB.app rfl (.const (.slice none 0 0)) (.tmp 10) rfl w.heap.size _ [] rfl (OwnB.nil _ _) A c xs (by rw [HXN.out]; rfl) HX.out HN.out (by rw [HXN.out]; simp; omega) (Nat.le_refl _) ?_; intro v1 w1 ho1 hk1; have HO1 := hidden ho1; have HK1 := hidden hk1; clear ho1 hk1)
    | (at_builtin; refine OwnB.app rfl (.tmp 11) (.tmp 12) rfl w.heap.size _ xs rfl (OwnB.keep HO1.out (by repeat (first | exact Kept.refl _ _ | apply Kept.alloc | apply Kept.drewN | apply Kept.drew)) (fun _ _ h => h)) _ 1 [128] rfl (rd_byte _ _) (fun e => by cases e) (by rw [HXN.out]; simp; omega) (by have := HK1.out.size; simp; omega) ?_; intro v2 w2 ho2 hk2; have HO2 := hidden ho2; have HK2 := hidden hk2; clear ho2 hk2))
  have HK0 : Hid (Kept Nob w w2) := hidden (Kept.then (Kept.alloc (Kept.then (Kept.refl Nob w) HK1.out (fun b hb h => by omega)) _) HK2.out (fun b hb h => by omega))
  obtain ⟨z, hz⟩ : ∃ z, (119 - n % 64) % 64 = z := ⟨_, rfl⟩
  have HZ := hidden hz
  have hz64 : z < 64 := by omega
  clear hz HK1
  have HO2' : Hid (OwnB w2 w.heap.size v2 (xs ++ [128])) := HO2
  go_loopw [4] (fun v wr => ∃ j : Nat, j ≤ z ∧ OwnB wr w.heap.size v (xs ++ [128] ++ List.replicate j 0) ∧ Kept Nob w wr) (fun v _ => z + n + 1 - (match v with | .slice _ l _ => l | _ => 0))
  case atStart => exact ⟨0, by omega, by simpa using HO2'.out, HK0.out⟩
  case round =>
    obtain ⟨j, hj, ho, hk⟩ := hrel
    have HO := hidden ho
    have HK := hidden hk
    obtain ⟨A', c', hv, hlc, _, _⟩ := ho.slice
    obtain ⟨m, hm⟩ : ∃ m, m = n + 1 + j := ⟨_, rfl⟩
    have hlen : (xs ++ [128] ++ List.replicate j (0 : Int)).length = m := by simp [HXN.out]; omega
    rw [hlen] at hv hlc
    subst hv
    have HM := hidden hm
    have HL := hidden hlen
    have hmb : m ≤ 200000000 := by omega
    clear ho hk hlen
    by_cases hjz : j < z
    · have y0 : ¬ ((m : Int) % 64 = 56) := by have := HZ.out; omega
      have y1 : ((m : Int) % 64 != 56) = true := by simpa using y0
      clear hm
      go_wp2_with (at_builtin; refine OwnB.app rfl (.tmp 18) (.tmp 19) rfl w.heap.size _ (xs ++ [128] ++ List.replicate j 0) (by rw [← HL.out]; rfl) (OwnB.keep HO.out (by repeat (first | exact Kept.refl _ _ | apply Kept.alloc | apply Kept.drewN | apply Kept.drew)) (fun _ _ h => h)) _ 1 [0] rfl (rd_byte _ _) (fun e => by cases e) (by rw [HL.out]; simp; omega) (by have := HK.out.size; simp; omega) ?_; intro v3 w3 ho3 hk3; have HO3 := hidden ho3; have HK3 := hidden hk3; clear ho3 hk3)
      go_roundw
      case rel => exact ⟨j + 1, by omega, by have := HO3.out; rw [List.append_assoc, ← List.replicate_succ'] at this; exact this, Kept.then (Kept.alloc HK.out _) HK3.out (fun b hb h => by omega)⟩
      case measure =>
        obtain ⟨A5, c5, hv5, _⟩ := HO3.out.slice
        rw [hv5]
        have := HL.out
        have := HM.out
        simp only [List.length_append, List.length_cons, List.length_nil] at *
        omega
    · obtain ⟨hjz'⟩ : Nonempty (j = z) := ⟨by omega⟩
      have y0 : (m : Int) % 64 = 56 := by have := HZ.out; omega
      have y1 : ((m : Int) % 64 != 56) = false := by simpa using y0
      have HB : Hid (OwnB wr w.heap.size (.slice A' m c') (xs ++ [128] ++ List.replicate ((119 - xs.length % 64) % 64) 0)) := hidden (by have := HO.out; rw [hjz', ← HZ.out, ← HXN.out] at this; exact this)
      obtain ⟨bs, hbs⟩ : ∃ bs, xs ++ [128] ++ List.replicate ((119 - xs.length % 64) % 64) 0 = bs := ⟨_, rfl⟩
      have HBS := hidden hbs
      have HPF : Hid (padF xs = bs ++ lenB (n * 8) 8) := hidden (by unfold padF; rw [hbs, HXN.out])
      rw [hbs] at HB
      have hbl : bs.length = m := by have := HL.out; rw [← hbs, HXN.out, HZ.out, ← hjz']; exact this
      have HBL := hidden hbl
      clear hbs hbl hm HO hjz' HL
      go_wp2
      clear y0 y1
      go_loopw [4, 5] (fun v i w5 => ∃ (j : Nat) (ii : Int), j ≤ 8 ∧ ii = 56 - 8 * j ∧ i = .int .i64 ii ∧ OwnB w5 w.heap.size v (bs ++ lenB (n * 8) j) ∧ Kept Nob w w5) (fun _ i _ => (intOf i + 8).toNat)
      case atStart => exact ⟨0, 56, by omega, by omega, rfl, by simpa [lenB] using HB.out, HK.out⟩
      case round =>
        obtain ⟨j, ii, hj, hii, rfl, ho, hk⟩ := hrel
        have HO5 := hidden ho
        have HK5 := hidden hk
        obtain ⟨A6, c6, hv, hlc, _, _⟩ := ho.slice
        obtain ⟨l, hl⟩ : ∃ l, (bs ++ lenB (n * 8) j).length = l := ⟨_, rfl⟩
        have hlb : l ≤ 200000008 := by rw [← hl, List.length_append, HBL.out]; simp [lenB]; omega
        rw [hl] at hv hlc
        subst hv
        have HL := hidden hl
        have HII := hidden hii
        clear ho hk hl
        by_cases hj8 : j < 8
        · have i0 : 0 ≤ ii := by omega
          have i1 : ii ≤ 56 := by omega
          clear hii
          go_wp2_with (at_builtin; refine OwnB.app rfl (.tmp 25) (.tmp 30) rfl w.heap.size _ (bs ++ lenB (n * 8) j) (by rw [← HL.out]; rfl) (OwnB.keep HO5.out (by repeat (first | exact Kept.refl _ _ | apply Kept.alloc | apply Kept.drewN | apply Kept.drew)) (fun _ _ h => h)) _ 1 [(n : Int) * 8 / 2 ^ ii.toNat % 256] rfl (rd_byte _ _) (fun e => by cases e) (by rw [HL.out]; simp; omega) (by have := HK5.out.size; simp; omega) ?_; intro v3 w3 ho3 hk3; have HO3 := hidden ho3; have HK3 := hidden hk3; clear ho3 hk3)
          go_roundw
          case rel => exact ⟨j + 1, ii - 8, by omega, by have := HII.out; omega, rfl, by have := HO3.out; rw [List.append_assoc] at this; unfold lenB; rw [List.range_succ, List.map_append]; have e : ii.toNat = 56 - 8 * j := (by have := HII.out; omega); rw [e] at this; exact this, Kept.then (Kept.alloc HK5.out _) HK3.out (fun b hb h => by omega)⟩
          case measure => simp [intOf]; omega
        · obtain ⟨hj8'⟩ : Nonempty (j = 8) := ⟨by omega⟩
          have i0 : ii < 0 := by omega
          clear hii
          go_wp2
          go_ret
          exact ⟨⟨_, rfl, by rw [HPF.out, ← hj8']; exact HO5.out⟩, HK5.out⟩
end Go.Proofs.Ytcghjnegaiiieaa
namespace Go.Proofs.Ytcghjnegaiiieaa
open Go.RowKit
theorem blkF_ex : ∃ f : List Int → List Int → List Int, f = fun hs xs => addF hs (vF hs roundsL (spF xs 64) 64) 8 := ⟨_, rfl⟩
noncomputable def blkF : List Int → List Int → List Int := Classical.choose blkF_ex
theorem blkF_eq (hs xs : List Int) : blkF hs xs = addF hs (vF hs roundsL (spF xs 64) 64) 8 := congrFun (congrFun (Classical.choose_spec blkF_ex) hs) xs
theorem blkF_ok (hs xs : List Int) (hl : hs.length = 8) (hu : ∀ x ∈ hs, U32 x) : (blkF hs xs).length = 8 ∧ ∀ x ∈ blkF hs xs, U32 x := by
  rw [blkF_eq]
  exact addF_ok _ _ hl hu 8
theorem block_any (H Kb : Nat) (A : Option Addr) (c : Nat) (hs xs : List Int) (F : Nat → Prop) (w : World) (hH : w.heap[H]? = some (.cells (nums .u32 hs).toArray 183 (0, 0))) (hKb : w.heap[Kb]? = some (.cells (nums .u32 roundsL).toArray 185 (0, 0)))
    (h : Ints w F .u8 A c xs) (hF : ∀ b, F b → b < w.heap.size) (hl : xs.length = 64) (hlh : hs.length = 8) (hus : ∀ x ∈ hs, U32 x) :
    Calls Try.prog 123 #[.pointer (some ⟨H, 0, none⟩), .slice A 64 c, .pointer (some ⟨Kb, 0, none⟩)] w fun e w' => e = .returned (.tuple #[]) ∧ w'.heap[H]? = some (.cells (nums .u32 (blkF hs xs)).toArray 183 (0, 0)) ∧ Kept (fun b => b = H) w w' := by
  have h1 := spread_any A c xs F w h hF hl
  have h2 := (spF_ok xs 64).1
  have h3 := (spF_ok xs 64).2
  have h4 := blkF_eq hs xs
  generalize spF xs 64 = ss at h1 h2 h3 h4
  refine (block_gen H Kb A c hs roundsL ss w hH hKb (hidden h1) h2 (hidden h3) hlh rfl hus roundsL_u).mono ?_
  rintro e w' ⟨he, ⟨n, m, hn, hm, hb⟩, hk⟩
  refine ⟨he, ?_, hk⟩
  rw [h4, ← hn, ← hm]
  exact hb
theorem padF_len (xs : List Int) : ∃ N, (padF xs).length = 64 * N := by
  refine ⟨(padF xs).length / 64, ?_⟩
  unfold padF lenB
  simp
  omega
theorem padF_wf (xs : List Int) (h : ∀ x ∈ xs, (Lit.int .u8 x).wf = true) : ∀ x ∈ padF xs, (Lit.int .u8 x).wf = true := fun x hx => by
  have key : 0 ≤ x ∧ x ≤ 255 → (Lit.int .u8 x).wf = true := fun h => by simp [Lit.wf, IntKind.min, IntKind.max, IntKind.signed, IntKind.bits]; omega
  unfold padF lenB at hx
  simp only [List.mem_append, List.mem_replicate, List.mem_map, List.mem_cons, List.not_mem_nil, or_false] at hx
  rcases hx with ((hx | rfl) | ⟨_, rfl⟩) | ⟨t, _, rfl⟩
  · exact h x hx
  · exact key (by omega)
  · exact key (by omega)
  · exact key ⟨by omega, by omega⟩
noncomputable def hF (ps : List Int) : Nat → List Int
  | 0 => firstL
  | k + 1 => blkF (hF ps k) ((ps.drop (64 * k)).take 64)
theorem hF_ok (ps : List Int) (k : Nat) : (hF ps k).length = 8 ∧ ∀ x ∈ hF ps k, U32 x := by
  induction k with
  | zero => exact ⟨rfl, firstL_u⟩
  | succ k ih => exact blkF_ok _ _ ih.1 ih.2
theorem rd_drop {w : World} {k : IntKind} {ad : Addr} {xs : List Int} (h : RdInts w k (some ad) xs) (n : Nat) : RdInts w k (some (ad.add n)) (xs.drop n) := fun i hi => by
  simp at hi
  obtain ⟨ad', e, hc⟩ := h (n + i) (by omega)
  cases e
  refine ⟨_, rfl, ?_⟩
  have ea : (ad.add n).add i = ad.add (n + i) := by
    unfold Addr.add
    by_cases h1 : n = 0 <;> by_cases h2 : i = 0 <;> simp_all [Nat.add_assoc]
  rw [ea, hc]
  simp [List.getD_eq_getElem?_getD]
def outF (hs : List Int) : Nat → List Int
  | 0 => List.replicate 32 0
  | k + 1 => ((((outF hs k).set (4 * k) (hs.getD k 0 / 16777216 % 256)).set (4 * k + 1) (hs.getD k 0 / 65536 % 256)).set (4 * k + 2) (hs.getD k 0 / 256 % 256)).set (4 * k + 3) (hs.getD k 0 % 256)
theorem outF_len (hs : List Int) (k : Nat) : (outF hs k).length = 32 := by
  induction k with
  | zero => simp [outF]
  | succ k ih => simp [outF, ih]
theorem outF_wf (hs : List Int) (k : Nat) : ∀ x ∈ outF hs k, (Lit.int .u8 x).wf = true := by
  have key : ∀ x : Int, 0 ≤ x ∧ x ≤ 255 → (Lit.int .u8 x).wf = true := fun x h => by simp [Lit.wf, IntKind.min, IntKind.max, IntKind.signed, IntKind.bits]; omega
  induction k with
  | zero => exact fun x hx => by simp [outF] at hx; exact key x (by omega)
  | succ k ih =>
    intro x hx
    unfold outF at hx
    rcases List.mem_or_eq_of_mem_set hx with hx | rfl
    · rcases List.mem_or_eq_of_mem_set hx with hx | rfl
      · rcases List.mem_or_eq_of_mem_set hx with hx | rfl
        · rcases List.mem_or_eq_of_mem_set hx with hx | rfl
          · exact ih x hx
          · exact key _ ⟨by omega, by omega⟩
        · exact key _ ⟨by omega, by omega⟩
      · exact key _ ⟨by omega, by omega⟩
    · exact key _ ⟨by omega, by omega⟩
theorem ofF_ex : ∃ f : List Int → List Int, f = fun xs => outF (hF (padF xs) ((padF xs).length / 64)) 8 := ⟨_, rfl⟩
noncomputable def ofF : List Int → List Int := Classical.choose ofF_ex
theorem ofF_eq (xs : List Int) : ofF xs = outF (hF (padF xs) ((padF xs).length / 64)) 8 := congrFun (Classical.choose_spec ofF_ex) xs
theorem ofF_len (xs : List Int) : (ofF xs).length = 32 := by rw [ofF_eq]; exact outF_len _ _
theorem ofF_wf (xs : List Int) : ∀ x ∈ ofF xs, (Lit.int .u8 x).wf = true := by rw [ofF_eq]; exact outF_wf _ _
theorem agg32 : AggT Try.prog 24 32 := ⟨⟨_, Try.underlying24, rfl⟩, by kernel_rfl⟩
end Go.Proofs.Ytcghjnegaiiieaa
namespace Go.Proofs.Ytcghjnegaiiieaa
open Go.RowKit
theorem run_index_nums {P : Program} (w : World) (t e : TypeId) (n : Nat) (k : IntKind) (ht : P.underlying t = some (.array n e)) (he : P.underlying e = some (.int k)) (hsz : ∀ w, (sizeOf e).run P w = .ok 1 w)
    (xs : List Int) (hx : xs.length = n) (i : Nat) (hi : i < n) : (Instr.index t (.agg (nums k xs).toArray) (.int .i64 i)).run P w = .ok (.int k (xs.getD i 0)) w := by
  have hp : (part e (nums k xs).toArray (i * 1)).run P w = .ok (.int k (xs.getD i 0)) w := by
    simp [part, isAgg, run_underlying he, List.getD, nums, List.getElem?_eq_getElem (show i < xs.length by omega)]
  unfold Instr.index
  simp only [asIntOf, Sem.run_bind, Sem.run_pure, Result.andThen_ok, run_underlying ht]
  rw [if_pos ⟨by omega, by omega⟩]
  simp only [Sem.run_bind, hsz, Result.andThen_ok, Int.toNat_natCast, hp]
theorem store_litT {P : Program} {w : World} {ops : Array Oper} {rest : List Oper} {dst : Option Tmp} {tyy : TypeId} {pos : String} {aft : Array Edge} {gd : Option (Nat × Bool)} {a : Act} {Q : Exit → Act → World → Prop} {n : Nat} {ty : TypeId} (hT : AggT P ty n) (x y : Operand)
    (g : Nat) (es : List Value) (t : TypeId) (hgd : Region.wanted ⟨dst, .store ty x y, tyy, pos, aft, gd⟩ (yielded ops a.tmps) = true) (hx : a.eval x = .pointer (some ⟨g, 0, none⟩)) (hy : a.eval y = .agg es.toArray) (hn : es.length = n) (h1 : ∀ u ∈ es, u.oneCell' = true)
    (hg : ∃ cs, w.heap[g]? = some (.cells cs t (0, 0)) ∧ cs.size = n)
    (h : ∀ w', w'.heap[g]? = some (.cells es.toArray t (0, 0)) → Kept (fun b => b = g) w w' → wpList P ops Q rest (a.put dst undef) w') : wpList P ops Q (⟨dst, .store ty x y, tyy, pos, aft, gd⟩ :: rest) a w := by
  obtain ⟨cs, hg, hc⟩ := hg
  exact store_row hT x y rfl hgd g hx es.toArray hy (by simpa using hn) (by simpa using h1) cs t hg hc h
set_option maxRecDepth 100000 in
set_option maxHeartbeats 8000000 in
theorem of_any (A : Option Addr) (c : Nat) (xs : List Int) (w : World) (h : RdInts w .u8 A xs) (h0 : A = none → xs = []) (hw : ∀ x ∈ xs, (Lit.int .u8 x).wf = true) (hn : xs.length ≤ 100000000) :
    Calls Try.prog 80 #[.slice A xs.length c] w fun e w' => e = .returned (.agg (nums .u8 (ofF xs)).toArray) ∧ Kept Nob w w' := by
  have HP : Hid (∀ W, Kept Nob w W → Calls Try.prog 122 #[.slice A xs.length c] W fun e w' => (∃ v, e = .returned v ∧ OwnB w' W.heap.size v (padF xs)) ∧ Kept Nob W w') := hidden (fun W hW => padded_any A c xs W (h.kept hW (fun _ _ h => h)) h0 hn)
  have HPW := hidden (padF_wf xs hw)
  have hof := ofF_eq xs
  obtain ⟨N, hN⟩ := padF_len xs
  generalize padF xs = ps at HP HPW hof hN
  have HN := hidden hN
  rw [show ps.length / 64 = N from by omega] at hof
  have HOF := hidden hof
  clear h h0 hw hof hN
  generalize xs.length = n at hn HP
  go_enter Try.func80, Try.ntmps80
  go_wp2_with (first
    | (go_at_call 120; refine (first_any _).mono ?_; rintro e w1 ⟨rfl, hk1⟩; have HK1 := hidden hk1; clear hk1; dsimp only)
    | (go_at_call 121; refine (rounds_any _).mono ?_; rintro e w2 ⟨rfl, hk2⟩; have HK2 := hidden hk2; clear hk2; dsimp only)
    | ((with_reducible refine store_litT agg8 (.tmp 3) (.tmp 9) w2.heap.size (nums .u32 firstL) 183 ?_ ?_ ?_ ?_ ?_ ?_ ?_); rfl; rfl; rfl; rfl; exact nums_oneC _ _; exact ⟨_, blk_alloc (heap_alloc_new _ _) _, rfl⟩; intro w3 hb3 hk3; have HB3 := hidden hb3; have HK3 := hidden hk3; clear hb3 hk3)
    | ((with_reducible refine store_litT agg64 (.tmp 4) (.tmp 10) (w2.heap.size + 1) (nums .u32 roundsL) 185 ?_ ?_ ?_ ?_ ?_ ?_ ?_); rfl; rfl; rfl; rfl; exact nums_oneC _ _; exact ⟨_, HK3.out.blk (blk_new_at (by simp)) (by omega), rfl⟩; intro w4 hb4 hk4; have HB4 := hidden hb4; have HK4 := hidden hk4; clear hb4 hk4; have HK0 : Hid (Kept Nob w w4) := hidden (Kept.then (Kept.then (Kept.alloc (Kept.alloc ((Kept.alloc (Kept.refl Nob w) _).trans (HK1.out.trans HK2.out)) _) _) HK3.out (fun b hb h => by have := HK1.out.size; have := HK2.out.size; simp at *; omega)) HK4.out (fun b hb h => by have := HK1.out.size; have := HK2.out.size; simp at *; omega)))
    | (go_at_call 122; refine (HP.out _ HK0.out).mono ?_; rintro e w5 ⟨⟨v5, rfl, ho5⟩, hk5⟩; have HO5 := hidden ho5; have HK5 := hidden hk5; clear ho5 hk5; dsimp only))
  have HS2 : Hid (w.heap.size < w2.heap.size) := hidden (by have h1 := HK1.out.size; have h2 := HK2.out.size; simp at h1; omega)
  have HS4 : Hid (w2.heap.size + 1 < w4.heap.size) := hidden (blk_lt HB4.out)
  have HR5 : Hid (∃ cs, w5.heap[w.heap.size]? = some (.cells cs 24 (0, 0)) ∧ cs.size = 32) := hidden ⟨_, HK5.out.blk (HK4.out.blk (HK3.out.blk (blk_alloc (blk_alloc (HK2.out.blk (HK1.out.blk (heap_alloc_new w _) (fun h => h)) (fun h => h)) _) _) (fun h => by have := HS2.out; omega)) (fun h => by have := HS2.out; omega)) (fun h => h), rfl⟩
  have HH5 : Hid (w5.heap[w2.heap.size]? = some (.cells (nums .u32 firstL).toArray 183 (0, 0))) := hidden (HK5.out.blk (HK4.out.blk HB3.out (fun h => by omega)) (fun h => h))
  have HKb5 : Hid (w5.heap[w2.heap.size + 1]? = some (.cells (nums .u32 roundsL).toArray 185 (0, 0))) := hidden (HK5.out.blk HB4.out (fun h => h))
  have HK05 : Hid (Kept Nob w w5) := hidden (HK0.out.trans HK5.out)
  obtain ⟨gH, hgH⟩ : ∃ g, w2.heap.size = g := ⟨_, rfl⟩
  obtain ⟨A5, c5, hv5, hi5⟩ := HO5.out.ints HPW.out
  have HI5 := hidden hi5
  subst hv5
  rw [hgH] at HS2 HS4 HH5 HKb5
  rw [hgH]
  clear hi5 hgH HB3 HB4 HK0 HK1 HK2 HK3 HK4 HK5 HO5
  have hpl := HN.out
  rw [hpl]
  clear hpl
  go_loopw [5] (fun v wr => ∃ (k m : Nat) (A' : Option Addr) (c' : Nat), k ≤ N ∧ m = 64 * (N - k) ∧ v = .slice A' m c' ∧ m ≤ c' ∧ c' ≤ maxLen ∧ RdInts wr .u8 A' (ps.drop (64 * k)) ∧ (∀ ad, A' = some ad → k < N → w4.heap.size ≤ ad.block) ∧ wr.heap[gH]? = some (.cells (nums .u32 (hF ps k)).toArray 183 (0, 0)) ∧ Kept (fun b => b = gH) w5 wr) (fun v _ => match v with | .slice _ l _ => l | _ => 0)
  case atStart => exact ⟨0, 64 * N, A5, c5, by omega, by omega, rfl, by have := HI5.out.le; rw [HN.out] at this; exact this, HI5.out.max, HI5.out.rd, fun ad e h => HI5.out.inF ad e (by rw [HN.out]; omega), HH5.out, Kept.refl _ _⟩
  case round =>
    obtain ⟨k, m, A', c', hk, hm, rfl, hmc, hcm, hrd, hbl, hbH, hks⟩ := hrel
    have HRD := hidden hrd
    have HBL := hidden hbl
    have HBH := hidden hbH
    have HKS := hidden hks
    have HM := hidden hm
    unfold maxLen at hcm
    clear hrd hbl hbH hks
    by_cases hlt : k < N
    · have hm64 : 64 ≤ m := by omega
      have hdl : (ps.drop (64 * k)).length = m := by rw [List.length_drop, HN.out]; omega
      obtain ⟨ad, rfl, _⟩ := HRD.out 0 (by omega)
      have HDL := hidden hdl
      clear hm hdl
      have HBLK := hidden (block_any gH (gH + 1) (some ad) c' (hF ps k) ((ps.drop (64 * k)).take 64) (fun b => b < wr.heap.size) wr HBH.out (HKS.out.blk HKb5.out (fun h => by omega))
        ⟨HRD.out.take 64, fun ad' e _ => by cases e; obtain ⟨_, e, hc⟩ := HRD.out 0 (by have := HDL.out; omega); cases e; have := World.block_lt_of_cell? wr _ hc; simpa [Addr.add] using this, by have := HDL.out; simp; omega, by unfold maxLen; omega, (fun e => by cases e), fun x hx => HPW.out x (List.mem_of_mem_drop (List.mem_of_mem_take hx))⟩
        (fun b h => h) (by have := HDL.out; simp at *; omega) (hF_ok ps k).1 (hF_ok ps k).2)
      have HGB : Hid (gH < ad.block) := hidden (by have := HBL.out ad rfl hlt; have := HS4.out; omega)
      by_cases hc64 : c' = 64
      · have HKN : Hid (k + 1 = N) := hidden (by have := HM.out; omega)
        have hm' : m = 64 := by omega
        subst hc64 hm'
        go_wp2_with (go_at_call 123; refine HBLK.out.mono ?_; rintro e w6 ⟨rfl, hb6, hk6⟩; have HB6 := hidden hb6; have HK6 := hidden hk6; clear hb6 hk6; dsimp only)
        go_roundw
        case rel => exact ⟨k + 1, 0, some ad, 0, by omega, by have := HKN.out; omega, rfl, by omega, by unfold maxLen; omega, by rw [List.drop_eq_nil_of_le (by rw [HN.out]; have := HKN.out; omega)]; exact fun i hi => by simp at hi, fun ad' e h => by have := HKN.out; omega, HB6.out, HKS.out.trans HK6.out⟩
        case measure => simp
      · go_wp2_with (go_at_call 123; refine HBLK.out.mono ?_; rintro e w6 ⟨rfl, hb6, hk6⟩; have HB6 := hidden hb6; have HK6 := hidden hk6; clear hb6 hk6; dsimp only)
        go_roundw
        case rel => exact ⟨k + 1, m - 64, _, c' - 64, by omega, by have := HM.out; omega, rfl, by omega, by unfold maxLen; omega, by
            have := (rd_drop HRD.out 64).kept HK6.out (fun ad' e h => by cases e; have := HGB.out; rw [add_off ad 64 (by omega)] at h; dsimp only at h; omega)
            rw [List.drop_drop, show 64 * k + 64 = 64 * (k + 1) from by omega, add_off ad 64 (by omega)] at this
            exact this, fun ad' e h => by cases e; exact HBL.out ad rfl hlt, HB6.out, HKS.out.trans HK6.out⟩
        case measure => dsimp only; omega
    · obtain ⟨hkN⟩ : Nonempty (k = N) := ⟨by omega⟩
      have hm0 : m = 0 := by omega
      obtain ⟨hh, hhe⟩ : ∃ hh, hF ps N = hh := ⟨_, rfl⟩
      have HHL : Hid (hh.length = 8) := hidden (by rw [← hhe]; exact (hF_ok ps N).1)
      have HHU : Hid (∀ x ∈ hh, U32 x) := hidden (by rw [← hhe]; exact (hF_ok ps N).2)
      have HBH' : Hid (wr.heap[gH]? = some (.cells (nums .u32 hh).toArray 183 (0, 0))) := hidden (by have := HBH.out; rw [hkN, hhe] at this; exact this)
      have HOF' : Hid (ofF xs = outF hh 8) := hidden (by rw [HOF.out, hhe])
      have HRR := HR5.out
      obtain ⟨csR, hcR, hcs⟩ := HRR
      have HRR := hidden (HKS.out.blk hcR (fun h => by have := HS2.out; omega))
      have HCS := hidden hcs
      have HKW : Hid (Kept Nob w wr) := hidden (Kept.then HK05.out HKS.out (fun b hb h => by have := HS2.out; omega))
      clear hhe hkN hm HOF HBH hcR hcs HM HRD HBL
      subst hm0
      go_wp2_with ((with_reducible refine load_lit agg8 (.tmp 3) ⟨gH, 0, none⟩ (nums .u32 hh) ?_ ?_ ?_ ?_ ?_); rfl; rfl; exact (nums_length _ _).trans HHL.out; exact row_cells (blk_alloc HBH'.out _))
      obtain ⟨W7, hW7⟩ : ∃ W7, wr.alloc (.cells #[.int .u8 0, .int .u8 0, .int .u8 0, .int .u8 0, .int .u8 0, .int .u8 0, .int .u8 0, .int .u8 0, .int .u8 0, .int .u8 0, .int .u8 0, .int .u8 0, .int .u8 0, .int .u8 0, .int .u8 0, .int .u8 0, .int .u8 0, .int .u8 0, .int .u8 0, .int .u8 0, .int .u8 0, .int .u8 0, .int .u8 0, .int .u8 0, .int .u8 0, .int .u8 0, .int .u8 0, .int .u8 0, .int .u8 0, .int .u8 0, .int .u8 0, .int .u8 0] 24) = W7 := ⟨_, rfl⟩
      have hB7 : W7.heap[wr.heap.size]? = some (.cells (nums .u8 (outF hh 0)).toArray 24 (0, 0)) := by rw [← hW7]; exact heap_alloc_new _ _
      have HB7 := hidden hB7
      have HK7 : Hid (Kept Nob wr W7) := hidden (by rw [← hW7]; exact Kept.alloc (Kept.refl _ _) _)
      have HRlt : Hid (w.heap.size < wr.heap.size) := hidden (blk_lt HRR.out)
      rw [hW7]
      obtain ⟨g6, hg6⟩ : ∃ g6, wr.heap.size = g6 := ⟨_, rfl⟩
      rw [hg6] at HB7 HRlt
      rw [hg6]
      clear hB7 hW7 hg6
      have IDX : ∀ (j : Nat) (x : World), j < 8 → (Instr.index 183 (.agg (nums .u32 hh).toArray) (.int .i64 j)).run Try.prog x = .ok (.int .u32 (hh.getD j 0)) x := fun j x hj =>
        run_index_nums x _ 181 8 .u32 Try.underlying183 Try.underlying181 (fun _ => by kernel_rfl) hh HHL.out j hj
      have HIDX := hidden IDX
      clear IDX
      go_loopw [7, 8, 22] (fun _ _ i w8 => ∃ j : Nat, j ≤ 8 ∧ i = .int .i64 j ∧ w8.heap[g6]? = some (.cells (nums .u8 (outF hh j)).toArray 24 (0, 0)) ∧ Kept (fun b => b = g6) W7 w8) (fun _ _ i _ => 8 - (intOf i).toNat)
      case atStart => exact ⟨0, by omega, rfl, HB7.out, Kept.refl _ _⟩
      case round =>
        obtain ⟨j, hj, rfl, hb8, hk8⟩ := hrel
        have HB8 := hidden hb8
        have HK8 := hidden hk8
        clear hb8 hk8
        by_cases hlt2 : j < 8
        · have idx := fun x => HIDX.out j x hlt2
          obtain ⟨m0, e0⟩ : ∃ m : Nat, 4 * (j : Int) = (m : Int) := ⟨4 * j, by omega⟩
          have l0 : m0 + 3 < 32 := by omega
          have HM : Hid (4 * j = m0) := hidden (by omega)
          have HLN := outF_len hh j
          have c0 := row_at HB8.out (i := m0) (by omega)
          have c1 := row_at HB8.out (i := m0 + 1) (by omega)
          have c2 := row_at HB8.out (i := m0 + 2) (by omega)
          have c3 := row_at HB8.out (i := m0 + 3) (by omega)
          have f0 := blk_frozen HB8.out m0
          have f1 := blk_frozen HB8.out (m0 + 1)
          have f2 := blk_frozen HB8.out (m0 + 2)
          have f3 := blk_frozen HB8.out (m0 + 3)
          have HOS : Hid (outF hh (j + 1) = ((((outF hh j).set m0 (hh.getD j 0 / 16777216 % 256)).set (m0 + 1) (hh.getD j 0 / 65536 % 256)).set (m0 + 2) (hh.getD j 0 / 256 % 256)).set (m0 + 3) (hh.getD j 0 % 256)) := hidden (by rw [← HM.out]; rfl)
          obtain ⟨y0, y1⟩ := u32_getD HHU.out j
          generalize hh.getD j 0 = y at idx HOS y0 y1
          generalize (outF hh j).getD m0 0 = o0 at c0
          generalize (outF hh j).getD (m0 + 1) 0 = o1 at c1
          generalize (outF hh j).getD (m0 + 2) 0 = o2 at c2
          generalize (outF hh j).getD (m0 + 3) 0 = o3 at c3
          clear HLN
          go_wp2
          go_roundw
          case rel => exact ⟨j + 1, by omega, by go_num, by
              have h1 := row_set (row_set (row_set (row_set HB8.out m0 (y / 16777216)) (m0 + 1) (y / 65536 % 256)) (m0 + 2) (y / 256 % 256)) (m0 + 3) (y % 256)
              rw [HOS.out, show y / 16777216 % 256 = y / 16777216 from by omega]
              exact h1, (((HK8.out.setCell (fun _ => rfl) _).setCell (fun _ => rfl) _).setCell (fun _ => rfl) _).setCell (fun _ => rfl) _⟩
          case measure => simp [intOf]; omega
        · obtain ⟨hj8⟩ : Nonempty (j = 8) := ⟨by omega⟩
          have HBE : Hid (wr.heap[g6]? = some (.cells (nums .u8 (ofF xs)).toArray 24 (0, 0))) := hidden (by rw [HOF'.out, ← hj8]; exact HB8.out)
          have HOL := hidden (ofF_len xs)
          have HRE := hidden (HK8.out.blk (HK7.out.blk HRR.out (fun h => h)) (fun h => by have := HRlt.out; omega))
          clear hj8 HB8
          go_wp2_with (first
            | ((with_reducible refine load_lit agg32 (.tmp 6) ⟨g6, 0, none⟩ (nums .u8 (ofF xs)) ?_ ?_ ?_ ?_ ?_); rfl; rfl; exact (nums_length _ _).trans HOL.out; exact row_cells HBE.out)
            | ((with_reducible refine store_litT agg32 (.tmp 2) (.tmp 53) w.heap.size (nums .u8 (ofF xs)) 24 ?_ ?_ ?_ ?_ ?_ ?_ ?_); rfl; rfl; rfl; exact (nums_length _ _).trans HOL.out; exact nums_oneC _ _; exact ⟨_, HRE.out, HCS.out⟩; intro w9 hb9 hk9; have HB9 := hidden hb9; have HK9 := hidden hk9; clear hb9 hk9))
          refine bodyPost_ret (results_cell_row rfl _ _ w.heap.size _ _ _ _ rfl HB9.out Try.underlying24 rfl (by rw [show (nums IntKind.u8 (ofF xs)).toArray.size = 32 by simp [nums_length, HOL.out]]; kernel_rfl)) rfl ⟨rfl, ?_⟩
          exact Kept.then (Kept.then (HKW.out.trans HK7.out) HK8.out (fun b hb h => by have := HRlt.out; omega)) HK9.out (fun b hb h => by omega)
end Go.Proofs.Ytcghjnegaiiieaa
namespace Go.Proofs.Ytcghjnegaiiieaa
open Go.RowKit
def n4 (n : Int) : List Int := [n / 16777216 % 256, n / 65536 % 256, n / 256 % 256, n % 256]
def joinB (tag : Int) (ps : List (List Int)) : List Int := tag :: (ps.flatMap fun p => n4 p.length ++ p)
theorem joinB_take (tag : Int) (ps : List (List Int)) (k : Nat) (hk : k < ps.length) : joinB tag (ps.take (k + 1)) = joinB tag (ps.take k) ++ n4 (ps[k]).length ++ ps[k] := by
  unfold joinB
  rw [List.take_succ_eq_append_getElem hk, List.flatMap_append]
  simp
theorem joinB_len (tag : Int) (ps : List (List Int)) (k : Nat) : (joinB tag (ps.take k)).length ≤ (joinB tag ps).length := by
  unfold joinB
  have e := congrArg (fun l => (l.flatMap fun p : List Int => n4 p.length ++ p).length) (List.take_append_drop k ps)
  simp only [List.flatMap_append, List.length_append] at e
  simp only [List.length_cons]
  omega
theorem byte_wf {x : Int} (h : 0 ≤ x ∧ x ≤ 255) : (Lit.int .u8 x).wf = true := by simp [Lit.wf, IntKind.min, IntKind.max, IntKind.signed, IntKind.bits]; omega
theorem joinB_wf (tag : Int) (ps : List (List Int)) (ht : (Lit.int .u8 tag).wf = true) (h : ∀ p ∈ ps, ∀ x ∈ p, (Lit.int .u8 x).wf = true) : ∀ x ∈ joinB tag ps, (Lit.int .u8 x).wf = true := fun x hx => by
  unfold joinB at hx
  simp only [List.mem_cons, List.mem_flatMap, List.mem_append, n4, List.not_mem_nil, or_false] at hx
  rcases hx with rfl | ⟨p, hp, (rfl | rfl | rfl | rfl) | hx⟩
  · exact ht
  · exact byte_wf ⟨by omega, by omega⟩
  · exact byte_wf ⟨by omega, by omega⟩
  · exact byte_wf ⟨by omega, by omega⟩
  · exact byte_wf ⟨by omega, by omega⟩
  · exact h p hp x hx
noncomputable def joinF (tag : Int) (ps : List (List Int)) : List Int := ofF (joinB tag ps)
theorem joinF_len (tag : Int) (ps : List (List Int)) : (joinF tag ps).length = 32 := ofF_len _
theorem joinF_wf (tag : Int) (ps : List (List Int)) : ∀ x ∈ joinF tag ps, (Lit.int .u8 x).wf = true := ofF_wf _
theorem rd_four {w : World} (a b c d : Int) (e : TypeId) : RdInts (w.alloc (.cells #[.int .u8 a, .int .u8 b, .int .u8 c, .int .u8 d] e)) .u8 (some ⟨w.heap.size, 0, none⟩) [a, b, c, d] := fun i hi => by
  refine ⟨_, rfl, ?_⟩
  have ea : (⟨w.heap.size, 0, none⟩ : Addr).add i = ⟨w.heap.size, i, none⟩ := by
    unfold Addr.add
    split <;> simp_all
  rw [ea, blk_cell (heap_alloc_new w _)]
  match i, hi with
  | 0, _ => rfl
  | 1, _ => rfl
  | 2, _ => rfl
  | 3, _ => rfl
abbrev RBs : Rl (List Int) := RSl (RInt .u8) 1
theorem parts_at {w : World} {F : Nat → Prop} {A : Option Addr} {ps : List (List Int)} (h : Elems RBs 1 w F A ps) (i : Nat) (hi : i < ps.length) :
    ∃ ad B d, A = some ad ∧ w.cell? (ad.add i) = some (.slice B ps[i].length d) ∧ Ints w F .u8 B d ps[i] := by
  obtain ⟨ad, e, _, es, _, hc, hr⟩ := h i hi
  obtain ⟨B, d, he, hi'⟩ := RSl.ints hr
  refine ⟨ad, B, d, e, ?_, hi'⟩
  have := hc 0 (.slice B ps[i].length d) (by rw [he]; rfl)
  rwa [Nat.mul_one, show (ad.add i).add 0 = ad.add i from rfl] at this
set_option maxRecDepth 100000 in
set_option maxHeartbeats 8000000 in
theorem join_any (tag : Int) (A : Option Addr) (c : Nat) (ps : List (List Int)) (F : Nat → Prop) (w : World) (h : Elems RBs 1 w F A ps) (hF : ∀ b, F b → b < w.heap.size) (ht : (Lit.int .u8 tag).wf = true) (hn : (joinB tag ps).length ≤ 100000000) (hp : ps.length ≤ 1000000) :
    Calls Try.prog 19 #[.int .u8 tag, .slice A ps.length c] w fun e w' => e = .returned (.agg (nums .u8 (joinF tag ps)).toArray) ∧ Kept Nob w w' := by
  have HE := hidden h
  have HF := hidden hF
  have HT := hidden ht
  have HN := hidden hn
  obtain ⟨n, hpn⟩ : ∃ n, ps.length = n := ⟨_, rfl⟩
  rw [hpn] at hp ⊢
  have HPN := hidden hpn
  clear h hF ht hn hpn
  go_enter Try.func19, Try.ntmps19
  go_wp2
  obtain ⟨W, hW⟩ : ∃ W, (w.alloc (.cells #[.int .u8 0, .int .u8 0, .int .u8 0, .int .u8 0, .int .u8 0, .int .u8 0, .int .u8 0, .int .u8 0, .int .u8 0, .int .u8 0, .int .u8 0, .int .u8 0, .int .u8 0, .int .u8 0, .int .u8 0, .int .u8 0, .int .u8 0, .int .u8 0, .int .u8 0, .int .u8 0, .int .u8 0, .int .u8 0, .int .u8 0, .int .u8 0, .int .u8 0, .int .u8 0, .int .u8 0, .int .u8 0, .int .u8 0, .int .u8 0, .int .u8 0, .int .u8 0] 24)).alloc (.cells #[.int .u8 tag] 5) = W := ⟨_, rfl⟩
  have HR : Hid (∃ cs, W.heap[w.heap.size]? = some (.cells cs 24 (0, 0)) ∧ cs.size = 32) := hidden ⟨_, by rw [← hW]; exact blk_alloc (heap_alloc_new _ _) _, rfl⟩
  have HO : Hid (OwnB W (w.heap.size + 1) (.slice (some ⟨w.heap.size + 1, 0, none⟩) 1 1) [tag]) := hidden (OwnB.lit (xs := [tag]) (by rw [← hW]; exact blk_new_at (by simp)) (Nat.le_refl _) (by simp [maxLen]))
  have HK : Hid (Kept Nob w W) := hidden (by rw [← hW]; exact (by repeat (first | exact Kept.refl _ _ | apply Kept.alloc | apply Kept.drewN | apply Kept.drew)))
  have HSZ : Hid (w.heap.size + 1 ≤ W.heap.size) := hidden (by rw [← hW]; simp)
  rw [hW]
  clear hW
  go_loopw [5, 7, 8, 13] (fun v _ _ i wr => ∃ k : Nat, k ≤ n ∧ i = .int .i64 k ∧ OwnB wr (w.heap.size + 1) v (joinB tag (ps.take k)) ∧ Kept (fun b => w.heap.size + 1 ≤ b) W wr) (fun _ _ _ i _ => n - (intOf i).toNat)
  case atStart => exact ⟨0, by omega, rfl, HO.out, Kept.refl _ _⟩
  case round =>
    obtain ⟨k, hk, rfl, ho, hks⟩ := hrel
    have HO := hidden ho
    have HKS := hidden hks
    obtain ⟨A5, c5, hv, _⟩ := ho.slice
    obtain ⟨l, hl⟩ : ∃ l, (joinB tag (ps.take k)).length = l := ⟨_, rfl⟩
    rw [hl] at hv
    subst hv
    have HL := hidden hl
    have hlb : l ≤ 100000000 := by have := joinB_len tag ps k; have := HN.out; omega
    clear ho hks hl
    by_cases hlt : k < n
    · obtain ⟨ad, B, d, rfl, c0, hi⟩ := parts_at (HE.out.keep (RSl.good (RInt.good _)) (Kept.then HK.out HKS.out (fun b hb h => by omega)) (fun _ _ h => h)) k (by rw [HPN.out]; exact hlt)
      have HTK := hidden (joinB_take tag ps k (by rw [HPN.out]; exact hlt))
      have HLB := hidden (joinB_len tag ps (k + 1))
      obtain ⟨p, hpp⟩ : ∃ p, ps[k]'(by rw [HPN.out]; exact hlt) = p := ⟨_, rfl⟩
      rw [hpp] at c0 hi HTK
      have HI := hidden hi
      obtain ⟨m, hm⟩ : ∃ m, p.length = m := ⟨_, rfl⟩
      have hmb : m ≤ 100000000 := by
        have h1 := HLB.out
        have h2 := HN.out
        rw [HTK.out] at h1
        simp at h1
        omega
      rw [hm] at c0
      have HM := hidden hm
      have HN4 : Hid (n4 m = [(m : Int) / 16777216, (m : Int) / 65536 % 256, (m : Int) / 256 % 256, (m : Int) % 256]) := hidden (by unfold n4; rw [show (m : Int) / 16777216 % 256 = (m : Int) / 16777216 from by omega])
      clear hi hpp hm
      go_wp2_with (first
        | (at_builtin; refine OwnB.app rfl (.tmp 19) (.tmp 31) rfl (w.heap.size + 1) _ (joinB tag (ps.take k)) (by rw [← HL.out]; rfl) (OwnB.keep HO.out (by repeat (first | exact Kept.refl _ _ | apply Kept.alloc | apply Kept.drewN | apply Kept.drew)) (fun _ _ h => h)) _ 4 [(m : Int) / 16777216, (m : Int) / 65536 % 256, (m : Int) / 256 % 256, (m : Int) % 256] rfl (rd_four _ _ _ _ _) (fun e => by cases e) (by rw [HL.out]; simp; omega) (by have := HKS.out.size; have := HSZ.out; simp; omega) ?_; intro v1 w1 ho1 hk1; rw [← HN4.out] at ho1; have HO1 := hidden ho1; have HK1 := hidden hk1; clear ho1 hk1)
        | (at_builtin; refine OwnB.app rfl (.tmp 33) (.tmp 34) rfl (w.heap.size + 1) _ (joinB tag (ps.take k) ++ n4 m) rfl HO1.out B d p (by rw [HM.out]; rfl) (HI.out.keep (Kept.trans (Kept.alloc (Kept.refl _ wr) _) HK1.out) (fun b hb h => by have := HF.out b hb; omega)).rd (fun e => (HI.out.nil e).1) (by rw [List.length_append, HL.out, HM.out]; simp [n4]; omega) (by have := HK1.out.size; have := HKS.out.size; have := HSZ.out; simp at *; omega) ?_; intro v2 w2 ho2 hk2; have HO2 := hidden ho2; have HK2 := hidden hk2; clear ho2 hk2))
      go_roundw
      case rel => exact ⟨k + 1, by omega, by go_num, by rw [HTK.out, HM.out]; exact HO2.out, HKS.out.trans ((Kept.trans (Kept.alloc (Kept.refl _ wr) _) HK1.out).trans HK2.out)⟩
      case measure => simp [intOf]; omega
    · have HOF : Hid (Calls Try.prog 80 #[.slice A5 l c5] wr fun e w' => e = .returned (.agg (nums .u8 (joinF tag ps)).toArray) ∧ Kept Nob wr w') := hidden (by
        have hkn : k = n := by omega
        have ho := HO.out
        have hl := HL.out
        rw [List.take_of_length_le (by rw [HPN.out]; omega)] at ho hl
        have hps : ∀ p ∈ ps, ∀ x ∈ p, (Lit.int .u8 x).wf = true := fun p hp x hx => by
          obtain ⟨i, hi, rfl⟩ := List.getElem_of_mem hp
          obtain ⟨_, _, _, _, _, h⟩ := parts_at HE.out i hi
          exact h.wf x hx
        obtain ⟨A6, c6, e, _, hr, hnil⟩ := ho.slice
        rw [hl] at e
        cases e
        have := of_any A5 c5 (joinB tag ps) wr hr hnil (joinB_wf tag ps HT.out hps) HN.out
        rw [hl] at this
        exact this)
      have HFL := hidden (joinF_len tag ps)
      obtain ⟨cs, hcs, hc32⟩ := HR.out
      have HRR : Hid (wr.heap[w.heap.size]? = some (.cells cs 24 (0, 0))) := hidden (HKS.out.blk hcs (fun h => by omega))
      have HC := hidden hc32
      clear hcs hc32 HO HL
      go_wp2_with (first
        | (go_at_call 80; refine HOF.out.mono ?_; rintro e w3 ⟨rfl, hk3⟩; have HK3 := hidden hk3; clear hk3; dsimp only)
        | ((with_reducible refine store_litT agg32 (.tmp 4) (.tmp 38) w.heap.size (nums .u8 (joinF tag ps)) 24 ?_ ?_ ?_ ?_ ?_ ?_ ?_); rfl; rfl; rfl; exact (nums_length _ _).trans HFL.out; exact nums_oneC _ _; exact ⟨_, HK3.out.blk HRR.out (fun h => h), HC.out⟩; intro w9 hb9 hk9; have HB9 := hidden hb9; have HK9 := hidden hk9; clear hb9 hk9))
      refine bodyPost_ret (results_cell_row rfl _ _ w.heap.size _ _ _ _ rfl HB9.out Try.underlying24 rfl (by rw [show (nums IntKind.u8 (joinF tag ps)).toArray.size = 32 by simp [nums_length, HFL.out]]; kernel_rfl)) rfl ⟨rfl, ?_⟩
      exact Kept.then ((Kept.then HK.out HKS.out (fun b hb h => by omega)).trans HK3.out) HK9.out (fun b hb h => by omega)
end Go.Proofs.Ytcghjnegaiiieaa
namespace Go.Proofs.Ytcghjnegaiiieaa
open Go.RowKit
def numB (n : Nat) : List Int := if h : n < 128 then [(n : Int)] else ((n : Int) % 128 + 128) :: numB (n / 128)
termination_by n
decreasing_by omega
theorem or128 (x : Nat) : bits BinOp.or IntKind.u8 ((x : Int) % 256) 128 = (x : Int) % 128 + 128 := by
  have key : ∀ y : Fin 256, bits BinOp.or IntKind.u8 ((y.val : Nat) : Int) 128 = ((y.val % 128 + 128 : Nat) : Int) := by decide +kernel
  have h := key ⟨x % 256, Nat.mod_lt _ (by decide)⟩
  rw [show ((x % 256 : Nat) : Int) = (x : Int) % 256 from by omega] at h
  rw [h]
  show ((x % 256 % 128 + 128 : Nat) : Int) = _
  omega
def PenAt (w : World) (base g : Nat) (xs : List Int) : Prop := g < base ∧ ∃ v, w.heap[g]? = some (.cells #[v] 50 (0, 0)) ∧ OwnB w base v xs
theorem PenAt.keep {S : Nat → Prop} {w w' : World} {base g : Nat} {xs : List Int} (h : PenAt w base g xs) (hk : Kept S w w') (hg : ¬ S g) (hn : ∀ b, base ≤ b → ¬ S b) : PenAt w' base g xs := by
  obtain ⟨h1, v, h2, h3⟩ := h
  exact ⟨h1, v, hk.blk h2 hg, h3.keep hk hn⟩
end Go.Proofs.Ytcghjnegaiiieaa
namespace Go.Proofs.Ytcghjnegaiiieaa
open Go.RowKit
theorem numB_len : ∀ n : Nat, n < 9223372036854775808 → (numB n).length ≤ 10 := by
  have key : ∀ (k n : Nat), n < 128 ^ (k + 1) → (numB n).length ≤ k + 1 := by
    intro k
    induction k with
    | zero => intro n hn; rw [numB, dif_pos (by omega)]; simp
    | succ k ih =>
      intro n hn
      rw [numB]
      split
      · simp
      · have h := ih (n / 128) (by rw [Nat.pow_succ] at hn; omega)
        simp only [List.length_cons]
        omega
  intro n hn
  exact key 9 n (by omega)
end Go.Proofs.Ytcghjnegaiiieaa
namespace Go.Proofs.Ytcghjnegaiiieaa
open Go.RowKit
def EyeAt (w : World) (F : Nat → Prop) (g : Nat) (xs : List Int) (er : Int) : Prop := ∃ A c, w.heap[g]? = some (.cells #[.slice A xs.length c, .int .i64 er] 134 (0, 0)) ∧ Ints w F .u8 A c xs
theorem EyeAt.keep {S : Nat → Prop} {w w' : World} {F : Nat → Prop} {g : Nat} {xs : List Int} {er : Int} (h : EyeAt w F g xs er) (hk : Kept S w w') (hg : ¬ S g) (hf : ∀ b, F b → ¬ S b) : EyeAt w' F g xs er := by
  obtain ⟨A, c, h1, h2⟩ := h
  exact ⟨A, c, hk.blk h1 hg, h2.keep hk hf⟩
end Go.Proofs.Ytcghjnegaiiieaa
namespace Go.Proofs.Ytcghjnegaiiieaa
set_option linter.unusedSimpArgs false
open Go.RowKit
end Go.Proofs.Ytcghjnegaiiieaa
namespace Go.Proofs.Ytcghjnegaiiieaa
open Go.RowKit
def numsI (l : List Int) : List Int := l.flatMap fun n => numB n.toNat
end Go.Proofs.Ytcghjnegaiiieaa
namespace Go.Proofs.Ytcghjnegaiiieaa
open Go.RowKit
def textB (s : List Int) : List Int := numB s.length ++ s
end Go.Proofs.Ytcghjnegaiiieaa
namespace Go.Proofs.Ytcghjnegaiiieaa
open Go.RowKit
structure Way where
  keys : List Int
  hash : List Int
  after : Int
  wait : Int
def RWay : Rl Way := RBy (RCons (RSl (RInt .i64) 1) 1 (RCons (RArr .u8 32) 32 (RCons (RInt .i64) 1 (RCons (RInt .i64) 1 RNil)))) (fun x => (x.keys, x.hash, x.after, x.wait, ()))
theorem RWay.good : Good RWay 35 := RBy.good (RCons.good (RSl.good (RInt.good _)) (RCons.good (RArr.good _ _) (RCons.good (RInt.good _) (RCons.good (RInt.good _) RNil.good)))) _
def wayCells (A : Option Addr) (c : Nat) (x : Way) : List Value := .slice A x.keys.length c :: (nums .u8 x.hash ++ [.int .i64 x.after, .int .i64 x.wait])
structure WayOk (x : Way) : Prop where
  hl : x.hash.length = 32
  hw : ∀ h ∈ x.hash, (Lit.int .u8 h).wf = true
  aw : (Lit.int .i64 x.after).wf = true
  ww : (Lit.int .i64 x.wait).wf = true
theorem RWay.open_ {w : World} {F : Nat → Prop} {cs : List Value} {x : Way} (h : RWay w F cs x) : ∃ A c, cs = wayCells A c x ∧ Ints w F .i64 A c x.keys ∧ WayOk x := by
  obtain ⟨c1, d1, rfl, _, h1, c2, d2, rfl, _, ⟨rfl, h2, h3⟩, c3, d3, rfl, _, ⟨rfl, h4⟩, c4, d4, rfl, _, ⟨rfl, h5⟩, h6⟩ := h
  cases h6
  obtain ⟨A, c, rfl, hi⟩ := RSl.ints h1
  exact ⟨A, c, by simp [wayCells], hi, h2, h3, h4, h5⟩
theorem RWay.mk' {w : World} {F : Nat → Prop} {A : Option Addr} {c : Nat} {x : Way} (h : Ints w F .i64 A c x.keys) (hx : WayOk x) : RWay w F (wayCells A c x) x :=
  ⟨[.slice A x.keys.length c], _, rfl, rfl, h.sl, nums .u8 x.hash, _, rfl, by rw [nums_length, hx.hl], ⟨rfl, hx.hl, hx.hw⟩, [.int .i64 x.after], _, rfl, rfl, ⟨rfl, hx.aw⟩, [.int .i64 x.wait], _, rfl, rfl, ⟨rfl, hx.ww⟩, rfl⟩
section
variable {A : Option Addr} {c : Nat} {x : Way}
theorem way_len (h : WayOk x) : (wayCells A c x).length = 35 := by simp [wayCells, nums_length, h.hl]
theorem way0 : (wayCells A c x)[0]? = some (.slice A x.keys.length c) := rfl
theorem way33 (h : WayOk x) : (wayCells A c x)[33]? = some (.int .i64 x.after) := by
  unfold wayCells
  rw [List.getElem?_cons_succ, List.getElem?_append_right (by rw [nums_length, h.hl]; omega), nums_length, h.hl]
  rfl
theorem way34 (h : WayOk x) : (wayCells A c x)[34]? = some (.int .i64 x.wait) := by
  unfold wayCells
  rw [List.getElem?_cons_succ, List.getElem?_append_right (by rw [nums_length, h.hl]; omega), nums_length, h.hl]
  rfl
theorem wayH (h : WayOk x) (j : Nat) (u : Value) (hj : (nums .u8 x.hash)[j]? = some u) : (wayCells A c x)[1 + j]? = some u := by
  have hl : j < (nums .u8 x.hash).length := (List.getElem?_eq_some_iff.1 hj).1
  unfold wayCells
  rw [Nat.add_comm, List.getElem?_cons_succ, List.getElem?_append_left hl, hj]
end
structure Out where
  amount : Int
  ways : List Way
def ROut : Rl Out := RBy (RCons (RInt .i64) 1 (RCons (RSl RWay 35) 1 RNil)) (fun o => (o.amount, o.ways, ()))
theorem ROut.good : Good ROut 2 := RBy.good (RCons.good (RInt.good _) (RCons.good (RSl.good RWay.good) RNil.good)) _
structure Ways (w : World) (F : Nat → Prop) (A : Option Addr) (c : Nat) (xs : List Way) : Prop where
  el : Elems RWay 35 w F A xs
  le : xs.length ≤ c
  max : c ≤ maxLen
  nil : A = none → xs = [] ∧ c = 0
theorem ROut.open_ {w : World} {F : Nat → Prop} {cs : List Value} {o : Out} (h : ROut w F cs o) : ∃ A c, cs = [.int .i64 o.amount, .slice A o.ways.length c] ∧ Ways w F A c o.ways ∧ (Lit.int .i64 o.amount).wf = true := by
  obtain ⟨c1, d1, rfl, _, ⟨rfl, h1⟩, c2, d2, rfl, _, ⟨A, c, rfl, h2, h3, h4, h5⟩, h6⟩ := h
  cases h6
  exact ⟨A, c, rfl, ⟨h5, h2, h3, h4⟩, h1⟩
theorem ROut.mk' {w : World} {F : Nat → Prop} {A : Option Addr} {c : Nat} {o : Out} (h : Ways w F A c o.ways) (hx : (Lit.int .i64 o.amount).wf = true) : ROut w F [.int .i64 o.amount, .slice A o.ways.length c] o :=
  ⟨[.int .i64 o.amount], _, rfl, rfl, ⟨rfl, hx⟩, [.slice A o.ways.length c], _, rfl, rfl, ⟨A, c, rfl, h.le, h.max, h.nil, h.el⟩, rfl⟩
theorem Ways.keep {w w' : World} {F S : Nat → Prop} {A : Option Addr} {c : Nat} {xs : List Way} (h : Ways w F A c xs) (hk : Kept S w w') (hf : ∀ b, F b → ¬ S b) : Ways w' F A c xs := { h with el := h.el.keep RWay.good hk hf }
theorem Ways.mono {w : World} {F F' : Nat → Prop} {A : Option Addr} {c : Nat} {xs : List Way} (h : Ways w F A c xs) (hf : ∀ b, F b → F' b) : Ways w F' A c xs := { h with el := h.el.mono RWay.good hf }
theorem Ways.at_ {w : World} {F : Nat → Prop} {A : Option Addr} {c : Nat} {xs : List Way} (h : Ways w F A c xs) (i : Nat) (hi : i < xs.length) :
    ∃ ad B d, A = some ad ∧ F ad.block ∧ (∀ j u, (wayCells B d xs[i])[j]? = some u → w.cell? ((ad.add (i * 35)).add j) = some u) ∧ Ints w F .i64 B d xs[i].keys ∧ WayOk xs[i] := by
  obtain ⟨ad, e, hb, es, _, hc, hr⟩ := h.el i hi
  obtain ⟨B, d, rfl, h1, h2⟩ := hr.open_
  exact ⟨ad, B, d, e, hb, hc, h1, h2⟩
theorem aggSum : AggT Try.prog 24 32 := ⟨⟨_, Try.underlying24, rfl⟩, by kernel_rfl⟩
theorem aggWay : AggT Try.prog 26 35 := ⟨⟨_, Try.underlying26, rfl⟩, by kernel_rfl⟩
theorem aggOut : AggT Try.prog 38 2 := ⟨⟨_, Try.underlying38, rfl⟩, by kernel_rfl⟩
theorem Ways.one {w : World} {F : Nat → Prop} {g : Nat} {t : TypeId} {fr : Nat × Nat} {A : Option Addr} {c : Nat} {x : Way} (h : w.heap[g]? = some (.cells (wayCells A c x).toArray t fr)) (hF : F g) (hk : Ints w F .i64 A c x.keys) (hx : WayOk x) :
    Ways w F (some ⟨g, 0, none⟩) 1 [x] := by
  refine ⟨fun i hi => ?_, Nat.le_refl _, by decide, fun e => by cases e⟩
  have h0 : i = 0 := by simpa using hi
  subst h0
  refine ⟨⟨g, 0, none⟩, rfl, hF, wayCells A c x, way_len hx, fun j u hj => ?_, RWay.mk' hk hx⟩
  have ea : ((⟨g, 0, none⟩ : Addr).add (0 * 35)).add j = ⟨g, j, none⟩ := by unfold Addr.add; split <;> simp_all
  rw [ea, blk_cell h]
  simpa using hj
theorem size1 (w : World) : (sizeOf 5).run Try.prog w = .ok 1 w := by kernel_rfl
theorem eqlSum (a b : List Int) (ha : a.length = 32) (hb : b.length = 32) (w : World) : (binOp .eql 24 (.agg (nums .u8 a).toArray) (.agg (nums .u8 b).toArray)).run Try.prog w = .ok (.bool (a == b)) w :=
  run_eql_nums w _ _ 32 .u8 Try.underlying24 Try.underlying5 size1 a b ha hb
def zero32 : List Int := List.replicate 32 0
theorem eqlZero (a : List Int) (ha : a.length = 32) (w : World) : (binOp .eql 24 (.agg (nums .u8 a).toArray) (.agg #[.int .u8 0, .int .u8 0, .int .u8 0, .int .u8 0, .int .u8 0, .int .u8 0, .int .u8 0, .int .u8 0, .int .u8 0, .int .u8 0, .int .u8 0, .int .u8 0, .int .u8 0, .int .u8 0, .int .u8 0, .int .u8 0, .int .u8 0, .int .u8 0, .int .u8 0, .int .u8 0, .int .u8 0, .int .u8 0, .int .u8 0, .int .u8 0, .int .u8 0, .int .u8 0, .int .u8 0, .int .u8 0, .int .u8 0, .int .u8 0, .int .u8 0, .int .u8 0])).run Try.prog w = .ok (.bool (a == zero32)) w := eqlSum a zero32 ha rfl w
end Go.Proofs.Ytcghjnegaiiieaa
namespace Go.Proofs.Ytcghjnegaiiieaa
open Go.RowKit
theorem Ints.drop {w : World} {F : Nat → Prop} {k : IntKind} {A : Option Addr} {c : Nat} {xs : List Int} (h : Ints w F k A c xs) (n : Nat) (hn : n ≤ xs.length) : Ints w F k (if c = n then A else A.map (·.add (n * 1))) (c - n) (xs.drop n) := by
  by_cases e : c = n
  · have hx : xs.drop n = [] := List.drop_eq_nil_of_le (by have := h.le; omega)
    rw [if_pos e, hx, e, Nat.sub_self]
    refine ⟨fun i hi => by simp at hi, fun _ _ hp => by simp at hp, by simp, by simp, fun hA => ⟨rfl, rfl⟩, fun x hx => by simp at hx⟩
  · rw [if_neg e]
    refine ⟨fun i hi => ?_, fun ad ea hp => ?_, ?_, ?_, fun hA => ?_, fun x hx => h.wf x (List.mem_of_mem_drop hx)⟩
    · obtain ⟨ad, ea, hc⟩ := h.rd (n + i) (by rw [List.length_drop] at hi; omega)
      refine ⟨ad.add (n * 1), by rw [ea]; rfl, ?_⟩
      have e1 : (ad.add (n * 1)).add i = ad.add (n + i) := by rw [Nat.mul_one]; exact Go.Addr.add_add ad n i
      rw [e1, hc]
      simp [List.getD_eq_getElem?_getD, List.getElem?_drop]
    · rcases A with _ | ad'
      · simp at ea
      · simp at ea
        subst ea
        rw [add_block]
        exact h.inF ad' rfl (by simp at hp; omega)
    · rw [List.length_drop]; have := h.le; omega
    · exact Nat.le_trans (Nat.sub_le _ _) h.max
    · rcases A with _ | ad'
      · obtain ⟨e1, e2⟩ := h.nil rfl
        subst e1; simp at hn; subst hn; omega
      · simp at hA
theorem OwnB.base {w : World} {base base' : Nat} {v : Value} {xs : List Int} (h : OwnB w base v xs) (hb : base' ≤ base) : OwnB w base' v xs := by
  obtain ⟨h1, h2 | ⟨r, c, cur, h3, h4, h5⟩⟩ := h
  · exact ⟨h1, .inl h2⟩
  · exact ⟨h1, .inr ⟨r, c, cur, h3, Nat.le_trans hb h4, h5⟩⟩
theorem Ints.take {w : World} {F : Nat → Prop} {k : IntKind} {A : Option Addr} {c : Nat} {xs : List Int} (h : Ints w F k A c xs) (n : Nat) : Ints w F k A c (xs.take n) :=
  ⟨h.rd.take n, fun ad e hp => h.inF ad e (by simp at hp; omega), by have := h.le; rw [List.length_take]; omega, h.max, fun e => by obtain ⟨e1, e2⟩ := h.nil e; exact ⟨by rw [e1]; simp, e2⟩, fun x hx => h.wf x (List.mem_of_mem_take hx)⟩
structure EyeG (w : World) (F : Nat → Prop) (g : Nat) (xs : List Int) : Prop where
  ne : ∀ b, F b → b ≠ g
  lt : ∀ b, F b → b < w.heap.size
  gl : g < w.heap.size
  len : xs.length ≤ 140737488355328
theorem EyeG.kept {w w' : World} {F : Nat → Prop} {g : Nat} {xs ys : List Int} {S : Nat → Prop} (h : EyeG w F g xs) (hk : Kept S w w') (hl : ys.length ≤ xs.length) : EyeG w' F g ys :=
  ⟨h.ne, fun b hb => by have := h.lt b hb; have := hk.size; omega, by have := h.gl; have := hk.size; omega, by have := h.len; omega⟩
theorem EyeAt.wf {w : World} {F : Nat → Prop} {g : Nat} {xs : List Int} {er : Int} (h : EyeAt w F g xs er) : ∀ x ∈ xs, (Lit.int .u8 x).wf = true := by
  obtain ⟨_, _, _, hi⟩ := h
  exact hi.wf
end Go.Proofs.Ytcghjnegaiiieaa
namespace Go.Proofs.Ytcghjnegaiiieaa
set_option linter.unusedSimpArgs false
open Go.RowKit
end Go.Proofs.Ytcghjnegaiiieaa
namespace Go.Proofs.Ytcghjnegaiiieaa
set_option linter.unusedSimpArgs false
open Go.RowKit
def OwnV (w : World) (R : Nat → Prop) (e : TypeId) (size : Nat) (v : Value) (n : Nat) (xs : List Value) : Prop := w.ownsRow 0 e size v n xs ∧ ∀ b, v.ownBlock = some b → R b
def Gw (w : World) (R : Nat → Prop) : Nat → Prop := fun b => R b ∨ w.heap.size ≤ b
theorem Gw.sub {w W : World} {R : Nat → Prop} (h : w.heap.size ≤ W.heap.size) : ∀ b, Gw W (Gw w R) b → Gw w R b := fun b hb => hb.elim id (fun h' => .inr (Nat.le_trans h h'))
theorem Gw.old {w : World} {R : Nat → Prop} {b : Nat} (hb : b < w.heap.size) (h : Gw w R b) : R b := h.elim id (fun h' => absurd h' (by omega))
theorem Gw.of {w : World} {R : Nat → Prop} : ∀ b, R b → Gw w R b := fun _ h => .inl h
def PS (g : Nat) (R : Nat → Prop) : Nat → Prop := fun b => b = g ∨ R b
theorem OwnV.nil (w : World) (R : Nat → Prop) (e : TypeId) (size : Nat) : OwnV w R e size (.slice none 0 0) 0 [] := ⟨⟨by simp, .inl ⟨rfl, rfl⟩⟩, fun b h => by simp [Value.ownBlock] at h⟩
theorem OwnV.keep {S : Nat → Prop} {w w' : World} {R : Nat → Prop} {e : TypeId} {size : Nat} {v : Value} {n : Nat} {xs : List Value} (h : OwnV w R e size v n xs) (hk : Kept S w w') (hn : ∀ b, R b → ¬ S b) : OwnV w' R e size v n xs :=
  ⟨own_keep h.1 hk (fun b hb => hn b (h.2 b hb)), h.2⟩
theorem OwnV.mono {w : World} {R R' : Nat → Prop} {e : TypeId} {size : Nat} {v : Value} {n : Nat} {xs : List Value} (h : OwnV w R e size v n xs) (hn : ∀ b, R b → R' b) : OwnV w R' e size v n xs := ⟨h.1, fun b hb => hn b (h.2 b hb)⟩
theorem OwnV.slice {w : World} {R : Nat → Prop} {e : TypeId} {size : Nat} {v : Value} {n : Nat} {xs : List Value} (h : OwnV w R e size v n xs) : ∃ A c, v = .slice A n c ∧ n ≤ c ∧ c ≤ maxLen ∧ (A = none → n = 0 ∧ c = 0) ∧ (∀ ad, A = some ad → R ad.block) ∧ ∀ j u, xs[j]? = some u → ∃ ad, A = some ad ∧ w.cell? (ad.add j) = some u := by
  obtain ⟨⟨hl, h1⟩, hr⟩ := h
  rcases h1 with ⟨rfl, rfl⟩ | ⟨r, c, cur, rfl, _, hh, h4, h5, _, h6⟩
  · refine ⟨none, 0, rfl, Nat.le_refl _, by decide, fun _ => ⟨rfl, rfl⟩, (fun _ e => by cases e), fun j u hj => ?_⟩
    have : xs = [] := List.eq_nil_of_length_eq_zero (by omega)
    subst this
    simp at hj
  · refine ⟨some ⟨r, 0, none⟩, c, rfl, h4, h5, (fun e => by cases e), (fun ad e => by cases e; exact hr r rfl), fun j u hj => ⟨_, rfl, ?_⟩⟩
    have ea : (⟨r, 0, none⟩ : Addr).add j = ⟨r, j, none⟩ := by unfold Addr.add; split <;> simp_all
    have hjl : j < xs.length := (List.getElem?_eq_some_iff.1 hj).1
    rw [ea, blk_cell hh, ← hj, ← h6, List.getElem?_take_of_lt (by omega)]
    simp
theorem OwnV.app {w : World} {ops : Array Oper} {rest : List Oper} {o : Oper} {a : Act} {Q : Exit → Act → World → Prop} {t e : TypeId} {size bytes : Nat} (E : ElemT Try.prog t e size bytes) (hgd : o.guard = none) (s x : Operand)
    (ho : o.op = .call { callee := .builtin .append, args := #[s, x], argTypes := #[t, t] })
    (R : Nat → Prop) (v : Value) (n : Nat) (xs : List Value) (hs : a.eval s = v) (hown : OwnV w R e size v n xs)
    (A : Option Addr) (m c : Nat) (news : List Value) (hx : a.eval x = .slice A m c) (hl : news.length = m * size) (hr : Src w A news) (h0 : A = none → m = 0) (h1 : ∀ u ∈ news, u.oneCell' = true)
    (h63 : n + m ≤ maxLen) (hbytes : (n + m) * bytes ≤ 140737488355328)
    (h : ∀ v' w', OwnV w' (Gw w R) e size v' (n + m) (xs ++ news) → Kept R w w' → wpList Try.prog ops Q rest (a.put o.dst v') w') : wpList Try.prog ops Q (o :: rest) a w := by
  refine Go.Proofs.Ytcghjnegaiiieaa.app E hgd s x ho 0 v n xs hs hown.1 A m c news hx hl hr h0 h1 h63 hbytes (Nat.zero_le _) ?_
  intro v' w' h1 h2 h3
  refine h v' w' ⟨h1, fun b hb => ?_⟩ (Kept.grown (Kept.refl _ _) h2 (fun k e _ => hown.2 k e))
  rcases h3 with h3 | h3
  · rw [h3] at hb; exact .inl (hown.2 b hb)
  · rw [h3] at hb
    have : w.heap.size = b := by simpa using hb
    exact .inr (by omega)
def OwnR (w : World) (R : Nat → Prop) (v : Value) (xs : List Int) : Prop := OwnV w R 5 1 v xs.length (nums .u8 xs)
theorem OwnR.nil (w : World) (R : Nat → Prop) : OwnR w R (.slice none 0 0) [] := OwnV.nil w R _ _
theorem OwnR.keep {S : Nat → Prop} {w w' : World} {R : Nat → Prop} {v : Value} {xs : List Int} (h : OwnR w R v xs) (hk : Kept S w w') (hn : ∀ b, R b → ¬ S b) : OwnR w' R v xs := OwnV.keep h hk hn
theorem OwnR.mono {w : World} {R R' : Nat → Prop} {v : Value} {xs : List Int} (h : OwnR w R v xs) (hn : ∀ b, R b → R' b) : OwnR w R' v xs := OwnV.mono h hn
theorem OwnR.ints {w : World} {R : Nat → Prop} {v : Value} {xs : List Int} (h : OwnR w R v xs) (hw : ∀ x ∈ xs, (Lit.int .u8 x).wf = true) : ∃ A c, v = .slice A xs.length c ∧ Ints w R .u8 A c xs := by
  obtain ⟨A, c, hv, h1, h2, h3, h4, h5⟩ := OwnV.slice h
  refine ⟨A, c, hv, ⟨fun i hi => ?_, fun ad e _ => h4 ad e, h1, h2, fun e => ⟨List.eq_nil_of_length_eq_zero (h3 e).1, (h3 e).2⟩, hw⟩⟩
  obtain ⟨ad, e, hc⟩ := h5 i (.int .u8 (xs.getD i 0)) (by simp [nums, hi, List.getD_eq_getElem?_getD])
  exact ⟨ad, e, hc⟩
theorem OwnR.sl {w : World} {R : Nat → Prop} {v : Value} {xs : List Int} (h : OwnR w R v xs) : ∃ A c, v = .slice A xs.length c ∧ xs.length ≤ c ∧ RdInts w .u8 A xs ∧ (A = none → xs = []) := by
  obtain ⟨A, c, hv, h1, h2, h3, h4, h5⟩ := OwnV.slice h
  refine ⟨A, c, hv, h1, fun i hi => ?_, fun e => List.eq_nil_of_length_eq_zero (h3 e).1⟩
  obtain ⟨ad, e, hc⟩ := h5 i (.int .u8 (xs.getD i 0)) (by simp [nums, hi, List.getD_eq_getElem?_getD])
  exact ⟨ad, e, hc⟩
theorem OwnR.app {w : World} {ops : Array Oper} {rest : List Oper} {o : Oper} {a : Act} {Q : Exit → Act → World → Prop} (hgd : o.guard = none) (s x : Operand)
    (ho : o.op = .call { callee := .builtin .append, args := #[s, x], argTypes := #[27, 27] })
    (R : Nat → Prop) (v : Value) (xs : List Int) (hs : a.eval s = v) (hown : OwnR w R v xs)
    (A : Option Addr) (c : Nat) (news : List Int) (hx : a.eval x = .slice A news.length c) (hr : RdInts w .u8 A news) (h0 : A = none → news = [])
    (h63 : xs.length + news.length ≤ 140737488355328)
    (h : ∀ v' w', OwnR w' (Gw w R) v' (xs ++ news) → Kept R w w' → wpList Try.prog ops Q rest (a.put o.dst v') w') : wpList Try.prog ops Q (o :: rest) a w := by
  refine OwnV.app e8 hgd s x ho R v xs.length (nums .u8 xs) hs hown A news.length c (nums .u8 news) hx (by rw [nums_length, Nat.mul_one]) hr.src' (fun e => by rw [h0 e]; rfl) (nums_oneC .u8 news) (by unfold maxLen; omega) (by omega) ?_
  intro v' w' h1 h2
  refine h v' w' ?_ h2
  unfold OwnR
  rw [List.length_append, nums_append]
  exact h1
def PenR (w : World) (R : Nat → Prop) (g : Nat) (xs : List Int) : Prop := ¬ R g ∧ ∃ v, w.heap[g]? = some (.cells #[v] 50 (0, 0)) ∧ OwnR w R v xs
theorem PenR.keep {S : Nat → Prop} {w w' : World} {R : Nat → Prop} {g : Nat} {xs : List Int} (h : PenR w R g xs) (hk : Kept S w w') (hg : ¬ S g) (hn : ∀ b, R b → ¬ S b) : PenR w' R g xs := by
  obtain ⟨h1, v, h2, h3⟩ := h
  exact ⟨h1, v, hk.blk h2 hg, h3.keep hk hn⟩
theorem PenR.mono {w : World} {R R' : Nat → Prop} {g : Nat} {xs : List Int} (h : PenR w R g xs) (hn : ∀ b, R b → R' b) (hg : ¬ R' g) : PenR w R' g xs := by
  obtain ⟨h1, v, h2, h3⟩ := h
  exact ⟨hg, v, h2, h3.mono hn⟩
theorem PenR.lt {w : World} {R : Nat → Prop} {g : Nat} {xs : List Int} (h : PenR w R g xs) : g < w.heap.size := by
  obtain ⟨_, _, h2, _⟩ := h
  exact blk_lt h2
theorem PenR.grown {w : World} {R : Nat → Prop} {g : Nat} {xs : List Int} (h : PenR w R g xs) : PenR w (Gw w R) g xs := h.mono Gw.of (fun h' => h.1 (Gw.old h.lt h'))
structure PenDoes (w w' : World) (R : Nat → Prop) (g : Nat) (xs ys : List Int) : Prop where
  pen : PenR w' (Gw w R) g (xs ++ ys)
  kept : Kept (PS g R) w w'
theorem PenDoes.refl {w : World} {R : Nat → Prop} {g : Nat} {xs : List Int} (h : PenR w R g xs) : PenDoes w w R g xs [] := ⟨by rw [List.append_nil]; exact h.grown, Kept.refl _ _⟩
theorem PenDoes.trans {w w1 w2 : World} {R : Nat → Prop} {g : Nat} {xs ys zs : List Int} (h : PenDoes w w1 R g xs ys) (k : PenDoes w1 w2 (Gw w R) g (xs ++ ys) zs) : PenDoes w w2 R g xs (ys ++ zs) :=
  ⟨by rw [← List.append_assoc]; exact k.pen.mono (Gw.sub h.kept.size) h.pen.1, Kept.then h.kept k.kept (fun b hb h' => h'.elim .inl (fun h2 => .inr (Gw.old hb h2)))⟩
theorem PenDoes.after {w w1 w2 : World} {R : Nat → Prop} {g : Nat} {xs ys : List Int} (h : Kept Nob w w1) (k : PenDoes w1 w2 R g xs ys) (hg : ¬ Gw w R g) : PenDoes w w2 R g xs ys :=
  ⟨k.pen.mono (fun b hb => hb.elim .inl (fun h' => .inr (Nat.le_trans h.size h'))) hg, Kept.then (h.mono (fun _ _ h => h.elim)) k.kept (fun _ _ h => h)⟩
set_option maxRecDepth 100000 in
set_option maxHeartbeats 8000000 in
theorem penr_num (v0 : Nat) (R : Nat → Prop) (g : Nat) (xs : List Int) (w : World) (h : PenR w R g xs) (hv : v0 < 9223372036854775808) (hx : xs.length ≤ 100000000) :
    Calls Try.prog 35 #[.pointer (some ⟨g, 0, none⟩), .int .i64 v0] w fun e w' => e = .returned (.pointer (some ⟨g, 0, none⟩)) ∧ PenDoes w w' R g xs (numB v0) := by
  have HP := hidden h
  have HKR := hidden (Kept.refl (PS g R) w)
  have hmx : max (v0 : Int) 0 = v0 := by omega
  clear h
  go_enter Try.func35, Try.ntmps35
  go_wp2
  go_loopw [5] (fun i wr => ∃ (v j : Nat) (ys : List Int), i = .int .u64 v ∧ v < 9223372036854775808 ∧ ys.length ≤ 100000000 + j ∧ j ≤ 10 ∧ v < 128 ^ (10 - j) ∧ ys ++ numB v = xs ++ numB v0 ∧ PenR wr (Gw w R) g ys ∧ Kept (PS g R) w wr) (fun i _ => (intOf i).toNat)
  case atStart => exact ⟨v0, 0, xs, rfl, hv, hx, by omega, by omega, rfl, HP.out.grown, HKR.out⟩
  case round =>
    obtain ⟨v, j, ys, rfl, hv', hy, hj, hvj, he, hp, hk⟩ := hrel
    obtain ⟨hg, v9, hb9, ho9⟩ := hp
    obtain ⟨A, c, hv9, hlc, _, _⟩ := ho9.sl
    subst hv9
    have q0 : wr.cell? ⟨g, 0, none⟩ = some (.slice A ys.length c) := blk_cell hb9 0
    have HG := hidden hg
    have HO := hidden ho9
    have HB := hidden hb9
    have HK := hidden hk
    have HE := hidden he
    have HY : Hid (ys.length ≤ 100000010) := hidden (by omega)
    clear ho9 hb9 hk he hg
    by_cases h128 : 128 ≤ v
    · have hor := or128 v
      have hj10 : j < 10 := by
        rcases Nat.lt_or_ge j 10 with h | h
        · exact h
        · rw [show 10 - j = 0 from by omega] at hvj; omega
      have HVJ : Hid (v / 128 < 128 ^ (10 - (j + 1))) := hidden (by rw [show 10 - j = 10 - (j + 1) + 1 from by omega, Nat.pow_succ] at hvj; omega)
      have HN : Hid (numB v = ((v : Int) % 128 + 128) :: numB (v / 128)) := hidden (by rw [numB]; rw [dif_neg (by omega)])
      clear hvj
      go_wp2_with (at_builtin; refine OwnR.app rfl (.tmp 18) (.tmp 22) rfl (Gw w R) _ ys rfl (OwnR.keep HO.out (by repeat (first | exact Kept.refl _ _ | apply Kept.alloc | apply Kept.drewN | apply Kept.drew)) (fun _ _ h => h)) _ 1 [(v : Int) % 128 + 128] rfl (rd_byte _ _) (fun e => by cases e) (by have := HY.out; simp; omega) ?_; intro v3 w3 ho3 hk3; obtain ⟨A3, c3, hv3, _, _, _⟩ := ho3.sl; subst hv3; simp only [List.length_append, List.length_cons, List.length_nil, Nat.zero_add] at ho3; have b3 := hk3.blk (blk_alloc HB.out _) HG.out; have q3 : w3.cell? ⟨g, 0, none⟩ = some (.slice A ys.length c) := blk_cell b3 0; have f3 : w3.frozen? ⟨g, 0, none⟩ = false := blk_frozen b3 0; have HO3 := hidden ho3; have HK3 := hidden hk3; have HB3 := hidden b3; clear ho3 hk3 b3; dsimp only)
      go_roundw
      case rel => exact ⟨v / 128, j + 1, ys ++ [(v : Int) % 128 + 128], by go_num, by omega, by simp; omega, by omega, HVJ.out, by rw [← HE.out, HN.out, List.append_assoc]; rfl, ⟨HG.out, _, blk_set HB3.out 0 _, (HO3.out.mono (Gw.sub (by have := HK.out.size; simp; omega))).keep (Kept.setCell (S := fun b => b = g) (Kept.refl _ _) (p := ⟨g, 0, none⟩) (fun _ => rfl) _) (fun b hb h => by subst h; exact HG.out hb)⟩, Kept.setCell (Kept.then (Kept.alloc HK.out _) HK3.out (fun b hb h => .inr (Gw.old hb h))) (p := ⟨g, 0, none⟩) (fun _ => .inl rfl) _⟩
      case measure => simp [intOf]; omega
    · have HN : Hid (numB v = [(v : Int)]) := hidden (by rw [numB]; rw [dif_pos (by omega)])
      have hm : (v : Int) % 256 = v := by omega
      go_wp2_with (at_builtin; refine OwnR.app rfl (.tmp 32) (.tmp 35) rfl (Gw w R) _ ys rfl (OwnR.keep HO.out (by repeat (first | exact Kept.refl _ _ | apply Kept.alloc | apply Kept.drewN | apply Kept.drew)) (fun _ _ h => h)) _ 1 [(v : Int)] rfl (rd_byte _ _) (fun e => by cases e) (by have := HY.out; simp; omega) ?_; intro v3 w3 ho3 hk3; obtain ⟨A3, c3, hv3, _, _, _⟩ := ho3.sl; subst hv3; simp only [List.length_append, List.length_cons, List.length_nil, Nat.zero_add] at ho3; have b3 := hk3.blk (blk_alloc HB.out _) HG.out; have q3 : w3.cell? ⟨g, 0, none⟩ = some (.slice A ys.length c) := blk_cell b3 0; have f3 : w3.frozen? ⟨g, 0, none⟩ = false := blk_frozen b3 0; have HO3 := hidden ho3; have HK3 := hidden hk3; have HB3 := hidden b3; clear ho3 hk3 b3; dsimp only)
      go_ret
      exact ⟨rfl, ⟨⟨HG.out, _, blk_set HB3.out 0 _, by rw [← HE.out, HN.out]; exact (HO3.out.mono (Gw.sub (by have := HK.out.size; simp; omega))).keep (Kept.setCell (S := fun b => b = g) (Kept.refl _ _) (p := ⟨g, 0, none⟩) (fun _ => rfl) _) (fun b hb h => by subst h; exact HG.out hb)⟩, Kept.setCell (Kept.then (Kept.alloc HK.out _) HK3.out (fun b hb h => .inr (Gw.old hb h))) (p := ⟨g, 0, none⟩) (fun _ => .inl rfl) _⟩⟩
set_option maxRecDepth 100000 in
set_option maxHeartbeats 8000000 in
theorem penr_neg (n : Int) (hn : n < 0) (R : Nat → Prop) (g : Nat) (xs : List Int) (w : World) (h : PenR w R g xs) (hx : xs.length ≤ 100000000) :
    Calls Try.prog 35 #[.pointer (some ⟨g, 0, none⟩), .int .i64 n] w fun e w' => e = .returned (.pointer (some ⟨g, 0, none⟩)) ∧ PenDoes w w' R g xs (numB 0) := by
  obtain ⟨hg, v9, hb9, ho9⟩ := h.grown
  obtain ⟨A, c, hv9, hlc, _, _⟩ := ho9.sl
  subst hv9
  have q0 : w.cell? ⟨g, 0, none⟩ = some (.slice A xs.length c) := blk_cell hb9 0
  have HG := hidden hg
  have HO := hidden ho9
  have HB := hidden hb9
  clear ho9 hb9 hg h
  have hmx : max n 0 = 0 := by omega
  go_enter Try.func35, Try.ntmps35
  go_wp2
  go_loopw [5] (fun i wr => i = .int .u64 0 ∧ wr = w) (fun _ _ => 0)
  case atStart => exact ⟨rfl, rfl⟩
  case round =>
    obtain ⟨rfl, rfl⟩ := hrel
    go_wp2_with (at_builtin; refine OwnR.app rfl (.tmp 32) (.tmp 35) rfl (Gw wr R) _ xs rfl (OwnR.keep HO.out (by repeat (first | exact Kept.refl _ _ | apply Kept.alloc | apply Kept.drewN | apply Kept.drew)) (fun _ _ h => h)) _ 1 [0] rfl (rd_byte _ _) (fun e => by cases e) (by simp; omega) ?_; intro v3 w3 ho3 hk3; obtain ⟨A3, c3, hv3, _, _, _⟩ := ho3.sl; subst hv3; simp only [List.length_append, List.length_cons, List.length_nil, Nat.zero_add] at ho3; have b3 := hk3.blk (blk_alloc HB.out _) HG.out; have q3 : w3.cell? ⟨g, 0, none⟩ = some (.slice A xs.length c) := blk_cell b3 0; have f3 : w3.frozen? ⟨g, 0, none⟩ = false := blk_frozen b3 0; have HO3 := hidden ho3; have HK3 := hidden hk3; have HB3 := hidden b3; clear ho3 hk3 b3; dsimp only)
    go_ret
    exact ⟨rfl, ⟨⟨HG.out, _, blk_set HB3.out 0 _, by rw [show numB 0 = [0] from by rw [numB]; rfl]; exact (HO3.out.mono (Gw.sub (by simp))).keep (Kept.setCell (S := fun b => b = g) (Kept.refl _ _) (p := ⟨g, 0, none⟩) (fun _ => rfl) _) (fun b hb h => by subst h; exact HG.out hb)⟩, Kept.setCell (Kept.then (Kept.alloc (Kept.refl _ _) _) HK3.out (fun b hb h => .inr (Gw.old hb h))) (p := ⟨g, 0, none⟩) (fun _ => .inl rfl) _⟩⟩
theorem penr_numI (n : Int) (R : Nat → Prop) (g : Nat) (xs : List Int) (w : World) (h : PenR w R g xs) (hv : n < 9223372036854775808) (hx : xs.length ≤ 100000000) :
    Calls Try.prog 35 #[.pointer (some ⟨g, 0, none⟩), .int .i64 n] w fun e w' => e = .returned (.pointer (some ⟨g, 0, none⟩)) ∧ PenDoes w w' R g xs (numB n.toNat) := by
  by_cases hn : n < 0
  · rw [show n.toNat = 0 from by omega]
    exact penr_neg n hn R g xs w h hx
  · obtain ⟨v, rfl⟩ : ∃ v : Nat, n = v := ⟨n.toNat, by omega⟩
    exact penr_num v R g xs w h (by omega) hx
theorem numsI_len : ∀ (m : List Int), (∀ v ∈ m, v < 9223372036854775808) → (numsI m).length ≤ 10 * m.length
  | [], _ => by simp [numsI]
  | a :: m, hm => by
    have h1 := numB_len a.toNat (by have := hm a (by simp); omega)
    have h2 := numsI_len m (fun v hv => hm v (by simp [hv]))
    simp only [numsI, List.flatMap_cons, List.length_append, List.length_cons] at *
    omega
set_option maxRecDepth 100000 in
set_option maxHeartbeats 8000000 in
theorem penr_nums (l : List Int) (LA : Option Addr) (lc : Nat) (F R : Nat → Prop) (g : Nat) (xs : List Int) (w : World) (h : PenR w R g xs) (hl : Ints w F .i64 LA lc l) (hF : ∀ b, F b → ¬ PS g R b ∧ b < w.heap.size) (hx : xs.length + 10 * l.length ≤ 100000000) :
    Calls Try.prog 34 #[.pointer (some ⟨g, 0, none⟩), .slice LA l.length lc] w fun e w' => e = .returned (.pointer (some ⟨g, 0, none⟩)) ∧ PenDoes w w' R g xs (numsI l) := by
  have HV : Hid (∀ v ∈ l, v < 9223372036854775808) := hidden (fun v hv => by have := wf_int (hl.wf v hv); omega)
  have HP := hidden h
  have HL := hidden hl
  have HF := hidden hF
  have hle := hl.le
  have hmx := hl.max
  unfold maxLen at hmx
  clear h hl hF
  go_enter Try.func34, Try.ntmps34
  go_wp2
  go_loopw [6, 9] (fun _ i wr => ∃ k : Nat, k ≤ l.length ∧ i = .int .i64 k ∧ PenDoes w wr R g xs (numsI (l.take k))) (fun _ i _ => l.length - (intOf i).toNat)
  case atStart => exact ⟨0, Nat.zero_le _, rfl, PenDoes.refl HP.out⟩
  case round =>
    obtain ⟨k, hk, rfl, hp⟩ := hrel
    have HP2 := hidden hp
    clear hp
    by_cases hlt : k < l.length
    · obtain ⟨ad, hA, hc⟩ := (HL.out.keep HP2.out.kept (fun b hb h => (HF.out b hb).1 h)).rd k hlt
      subst hA
      have HTK : Hid (numsI (l.take (k + 1)) = numsI (l.take k) ++ numB l[k].toNat) := hidden (by unfold numsI; rw [List.take_succ_eq_append_getElem hlt, List.flatMap_append]; simp)
      have HLN : Hid ((xs ++ numsI (l.take k)).length ≤ 100000000) := hidden (by
        have h3 := numsI_len (l.take k) (fun v hv => HV.out v (List.mem_of_mem_take hv))
        rw [List.length_append]
        rw [List.length_take] at h3
        omega)
      have HVK : Hid (l[k] < 9223372036854775808) := hidden (HV.out _ (List.getElem_mem hlt))
      have hc2 : wr.cell? (ad.add k) = some (.int .i64 l[k]) := by rw [hc]; simp [List.getD_eq_getElem?_getD, hlt]
      clear hc
      generalize l[k] = z at hc2 HTK HVK
      have HNUM := hidden (penr_numI z (Gw w R) g (xs ++ numsI (l.take k)) wr HP2.out.pen HVK.out HLN.out)
      go_wp2_with (go_at_call 35; refine HNUM.out.mono ?_; rintro e w3 ⟨rfl, hp3⟩; have HP3 := hidden hp3; clear hp3; dsimp only)
      go_roundw
      case rel => exact ⟨k + 1, by omega, by go_num, by rw [HTK.out]; exact HP2.out.trans HP3.out⟩
      case measure => simp [intOf]; omega
    · obtain rfl : k = l.length := by omega
      go_wp2
      go_ret
      exact ⟨rfl, by have := HP2.out; rwa [List.take_length] at this⟩
set_option maxRecDepth 100000 in
set_option maxHeartbeats 8000000 in
theorem penr_text (s : List Int) (TA : Option Addr) (tc : Nat) (F R : Nat → Prop) (g : Nat) (xs : List Int) (w : World) (h : PenR w R g xs) (hs : Ints w F .u8 TA tc s) (hF : ∀ b, F b → ¬ PS g R b ∧ b < w.heap.size) (hx : xs.length + s.length ≤ 90000000) :
    Calls Try.prog 72 #[.pointer (some ⟨g, 0, none⟩), .slice TA s.length tc] w fun e w' => e = .returned (.pointer (some ⟨g, 0, none⟩)) ∧ PenDoes w w' R g xs (textB s) := by
  have HNUM := hidden (penr_num s.length R g xs w h (by omega) (by omega))
  have HSI := hidden hs
  have HF := hidden hF
  have hle := hs.le
  have hmx := hs.max
  unfold maxLen at hmx
  have HNL := hidden (numB_len s.length (by omega))
  clear h hs hF
  go_enter Try.func72, Try.ntmps72
  go_wp2_with (first
    | (go_at_call 35; refine HNUM.out.mono ?_; rintro e w2 ⟨rfl, hp2⟩; obtain ⟨hg, v9, hb9, ho9⟩ := hp2.pen; obtain ⟨ys, hys⟩ : ∃ ys, xs ++ numB s.length = ys := ⟨_, rfl⟩; have HYL : Hid (ys.length ≤ 90000010) := hidden (by rw [← hys, List.length_append]; have := HNL.out; omega); have HYS := hidden hys; rw [hys] at ho9; clear hys; obtain ⟨A, c, hv9, hlc, _, _⟩ := ho9.sl; subst hv9; have q0 : w2.cell? ⟨g, 0, none⟩ = some (.slice A ys.length c) := blk_cell hb9 0; have HO := hidden ho9; have HB := hidden hb9; have HK2 := hidden hp2.kept; have HG := hidden hg; clear ho9 hb9 hp2 hg; dsimp only)
    | (at_builtin; refine OwnR.app rfl (.tmp 16) (.tmp 17) rfl (Gw w R) _ ys rfl HO.out TA tc s rfl (HSI.out.keep HK2.out (fun b hb h => (HF.out b hb).1 h)).rd (fun e => by have := (HSI.out.nil e).1; exact this) (by have := HYL.out; omega) ?_; intro v3 w3 ho3 hk3; obtain ⟨A3, c3, hv3, _, _, _⟩ := ho3.sl; subst hv3; rw [List.length_append] at ho3; have b3 := hk3.blk HB.out HG.out; have q3 : w3.cell? ⟨g, 0, none⟩ = some (.slice A ys.length c) := blk_cell b3 0; have f3 : w3.frozen? ⟨g, 0, none⟩ = false := blk_frozen b3 0; have HO3 := hidden ho3; have HK3 := hidden hk3; have HB3 := hidden b3; clear ho3 hk3 b3; dsimp only))
  go_ret
  have e : xs ++ textB s = ys ++ s := by rw [← HYS.out]; unfold textB; rw [List.append_assoc]
  refine ⟨rfl, ⟨⟨HG.out, _, blk_set HB3.out 0 _, ?_⟩, Kept.setCell (Kept.then HK2.out HK3.out (fun b hb h => .inr (Gw.old hb h))) (p := ⟨g, 0, none⟩) (fun _ => .inl rfl) _⟩⟩
  rw [e]
  refine (OwnR.mono ?_ (Gw.sub HK2.out.size)).keep (Kept.setCell (S := fun b => b = g) (Kept.refl _ _) (p := ⟨g, 0, none⟩) (fun _ => rfl) _) (fun b hb h => by subst h; exact HG.out hb)
  have ho := HO3.out
  first | exact ho | simpa using ho
set_option maxRecDepth 100000 in
set_option maxHeartbeats 8000000 in
theorem penr_sum (s : List Int) (R : Nat → Prop) (g : Nat) (xs : List Int) (w : World) (h : PenR w R g xs) (hs : s.length = 32) (hw : ∀ x ∈ s, (Lit.int .u8 x).wf = true) (hx : xs.length ≤ 100000000) :
    Calls Try.prog 36 #[.pointer (some ⟨g, 0, none⟩), .agg (nums .u8 s).toArray] w fun e w' => e = .returned (.pointer (some ⟨g, 0, none⟩)) ∧ PenDoes w w' R g xs s := by
  obtain ⟨hg, v9, hb9, ho9⟩ := h
  obtain ⟨A, c, hv9, hlc, _, _⟩ := ho9.sl
  subst hv9
  have HG := hidden hg
  have HGW := hidden (PenR.grown ⟨hg, _, hb9, ho9⟩).1
  have HB : Hid ((w.alloc (.cells (nums .u8 s).toArray 24)).heap[g]? = some (.cells #[.slice A xs.length c] 50 (0, 0))) := hidden (blk_alloc hb9 _)
  have q0 : (w.alloc (.cells (nums .u8 s).toArray 24)).cell? ⟨g, 0, none⟩ = some (.slice A xs.length c) := blk_cell HB.out 0
  have HO := hidden (ho9.keep (Kept.alloc (Kept.refl Nob w) (.cells (nums .u8 s).toArray 24)) (fun _ _ h => h))
  have HRD : Hid (RdInts (w.alloc (.cells (nums .u8 s).toArray 24)) .u8 (some ⟨w.heap.size, 0, none⟩) s) := hidden (Ints.blk (F := fun _ => True) (heap_alloc_new _ _) trivial (by rw [hs]; decide) hw).rd
  have HS := hidden hs
  clear ho9 hb9 hw hg
  go_enter Try.func36, Try.ntmps36
  go_wp2
  refine region_plan (.seg [0] (.seg [1] (.seg [2] (.seg [3] (.seg [4] (.seg [5] (.eff 6 false (.seg [7] (.seg [8] (.eff 9 false .nil)))))))))) (by kernel_rfl) ?_
  all_goals (refine plan_one (o := ?_) ?_ ?_ ?_; rotate_left; (simp only [List.getElem?_toArray, List.getElem?_cons_zero]; exact rfl); rfl; intro NX; (repeat' (first | go_step | go_upon)); all_goals (refine seg_end (by kernel_rfl) ?_; clear NX))
  all_goals (refine plan_one (o := ?_) ?_ ?_ ?_; rotate_left; (simp only [List.getElem?_toArray, List.getElem?_cons_succ, List.getElem?_cons_zero]; exact rfl); rfl; intro NX; (repeat' (first | go_step | go_upon)); all_goals (refine seg_end (by kernel_rfl) ?_; clear NX))
  all_goals (refine plan_one (o := ?_) ?_ ?_ ?_; rotate_left; (simp only [List.getElem?_toArray, List.getElem?_cons_succ, List.getElem?_cons_zero]; exact rfl); rfl; intro NX; (repeat' (first | go_step | go_upon)); all_goals (refine seg_end (by kernel_rfl) ?_; clear NX))
  all_goals (refine plan_one (o := ?_) ?_ ?_ ?_; rotate_left; (simp only [List.getElem?_toArray, List.getElem?_cons_succ, List.getElem?_cons_zero]; exact rfl); rfl; intro NX; (repeat' (first | go_step | go_upon)); all_goals (refine seg_end (by kernel_rfl) ?_; clear NX))
  all_goals (refine plan_one (o := ?_) ?_ ?_ ?_; rotate_left; (simp only [List.getElem?_toArray, List.getElem?_cons_succ, List.getElem?_cons_zero]; exact rfl); rfl; intro NX; (repeat' (first | go_step | go_upon)); all_goals (refine seg_end (by kernel_rfl) ?_; clear NX))
  all_goals (refine plan_one (o := ?_) ?_ ?_ ?_; rotate_left; (simp only [List.getElem?_toArray, List.getElem?_cons_succ, List.getElem?_cons_zero]; exact rfl); rfl; intro NX; (repeat' (first | go_step | go_upon)); all_goals (refine seg_end (by kernel_rfl) ?_; clear NX))
  all_goals (refine plan_eff (o := ?_) ?_ ?_; rotate_left; (simp only [List.getElem?_toArray, List.getElem?_cons_succ, List.getElem?_cons_zero]; exact rfl); intro NX)
  all_goals ((refine OwnR.app rfl (.tmp 11) (.tmp 12) rfl R _ xs rfl (OwnR.keep HO.out (Kept.drew (Kept.refl Nob _)) (fun _ _ h => h)) _ 32 s (by rw [HS.out]; rfl) (HRD.out.kept (Kept.drew (Kept.refl Nob _)) (fun _ _ h => h)) (fun e => by cases e) (by rw [HS.out]; omega) ?_; intro v3 w3 ho3 hk3; obtain ⟨A3, c3, hv3, _, _, _⟩ := ho3.sl; subst hv3; rw [List.length_append, HS.out] at ho3; have b3 := hk3.blk HB.out HG.out; have q3 : w3.cell? ⟨g, 0, none⟩ = some (.slice A xs.length c) := blk_cell b3 0; have f3 : w3.frozen? ⟨g, 0, none⟩ = false := blk_frozen b3 0; have HO3 := hidden ho3; have HK3 := hidden hk3; have HB3 := hidden b3; clear ho3 hk3 b3; go_wp2))
  all_goals refine eff_free ?_
  all_goals (refine plan_one (o := ?_) ?_ ?_ ?_; rotate_left; (simp only [List.getElem?_toArray, List.getElem?_cons_succ, List.getElem?_cons_zero]; exact rfl); rfl; intro NX; (repeat' (first | go_step | go_upon)); all_goals (refine seg_end (by kernel_rfl) ?_; clear NX))
  all_goals (refine plan_one (o := ?_) ?_ ?_ ?_; rotate_left; (simp only [List.getElem?_toArray, List.getElem?_cons_succ, List.getElem?_cons_zero]; exact rfl); rfl; intro NX; (repeat' (first | go_step | go_upon)); all_goals (refine seg_end (by kernel_rfl) ?_; clear NX))
  all_goals (refine plan_eff (o := ?_) ?_ ?_; rotate_left; (simp only [List.getElem?_toArray, List.getElem?_cons_succ, List.getElem?_cons_zero]; exact rfl); intro NX)
  all_goals go_wp2_with (fail)
  all_goals refine eff_free ?_
  all_goals refine plan_nil ?_
  go_wp2
  go_ret
  have ho : OwnR w3 (Gw w R) (.slice A3 (xs ++ s).length c3) (xs ++ s) := by
    have h1 := HO3.out
    rw [List.length_append, HS.out]
    exact h1.mono (fun b hb => hb.elim .inl (fun h => .inr (by simp at h; omega)))
  refine ⟨rfl, ⟨⟨HGW.out, _, blk_set HB3.out 0 _, ?_⟩, Kept.setCell (Kept.then (Kept.drew (Kept.alloc (Kept.refl (PS g R) w) _)) HK3.out (fun b hb h => .inr h)) (p := ⟨g, 0, none⟩) (fun _ => .inl rfl) _⟩⟩
  rw [List.length_append, HS.out] at ho
  exact ho.keep (Kept.setCell (S := fun b => b = g) (Kept.refl _ _) (p := ⟨g, 0, none⟩) (fun _ => rfl) _) (fun b hb h => by subst h; exact HGW.out hb)
set_option maxRecDepth 100000 in
set_option maxHeartbeats 8000000 in
theorem penr_bytes (R : Nat → Prop) (g : Nat) (xs : List Int) (w : World) (h : PenR w R g xs) (hx : xs.length ≤ 100000000) :
    Calls Try.prog 30 #[.pointer (some ⟨g, 0, none⟩)] w fun e w' => ∃ v, e = .returned v ∧ OwnR w' (fun b => w.heap.size ≤ b) v xs ∧ Kept Nob w w' := by
  obtain ⟨hg, v9, hb9, ho9⟩ := h
  obtain ⟨A, c, hv9, hlc, hr, h0⟩ := ho9.sl
  subst hv9
  have q0 : w.cell? ⟨g, 0, none⟩ = some (.slice A xs.length c) := blk_cell hb9 0
  have HR := hidden hr
  have H0 := hidden h0
  clear hr h0 ho9 hb9
  go_enter Try.func30, Try.ntmps30
  go_wp2_with (at_builtin; refine OwnR.app rfl (.const (.slice none 0 0)) (.tmp 8) rfl Nob _ [] rfl (OwnR.nil _ _) A c xs rfl HR.out H0.out (by simp; omega) ?_; intro v1 w1 ho1 hk1; have HO1 := hidden ho1; have HK1 := hidden hk1; clear ho1 hk1; dsimp only)
  go_ret
  exact ⟨_, rfl, by have := HO1.out; rw [List.nil_append] at this; exact this.mono (fun b hb => hb.elim (fun h => h.elim) id), HK1.out⟩
end Go.Proofs.Ytcghjnegaiiieaa
namespace Go.Proofs.Ytcghjnegaiiieaa
open Go.RowKit
def smallB (xs : List Way) : Bool := decide (xs.length ≤ 20) && xs.all (fun x => decide (x.keys.length ≤ 20))
theorem add_at (ad : Addr) (p : Nat) (hp : 0 < p) : ad.add p = ⟨ad.block, ad.off + p, none⟩ := by
  unfold Addr.add
  rw [if_neg (by omega)]
theorem add_field (ad : Addr) (p j : Nat) (hp : 0 < p) : (⟨ad.block, ad.off + p, none⟩ : Addr).add j = ad.add (p + j) := by
  rw [add_at ad (p + j) (by omega)]
  unfold Addr.add
  split
  · rename_i h; subst h; rfl
  · simp [Nat.add_assoc]
structure WayAt (w : World) (ad : Addr) (B : Option Addr) (d : Nat) (x : Way) : Prop where
  c0 : w.cell? ad = some (.slice B x.keys.length d)
  cH : ∀ j u, (nums .u8 x.hash)[j]? = some u → w.cell? ((⟨ad.block, ad.off + 1, none⟩ : Addr).add j) = some u
  c33 : w.cell? ⟨ad.block, ad.off + 33, none⟩ = some (.int .i64 x.after)
  c34 : w.cell? ⟨ad.block, ad.off + 34, none⟩ = some (.int .i64 x.wait)
  all : ∀ j u, (wayCells B d x)[j]? = some u → w.cell? (ad.add j) = some u
theorem wayAt {w : World} {ad : Addr} {B : Option Addr} {d : Nat} {x : Way} (hx : WayOk x) (h : ∀ j u, (wayCells B d x)[j]? = some u → w.cell? (ad.add j) = some u) : WayAt w ad B d x := by
  refine ⟨h 0 _ way0, fun j u hj => ?_, ?_, ?_, h⟩
  · rw [add_field ad 1 j (by omega)]
    exact h (1 + j) u (wayH hx j u hj)
  · rw [← add_at ad 33 (by omega)]
    exact h 33 _ (way33 hx)
  · rw [← add_at ad 34 (by omega)]
    exact h 34 _ (way34 hx)
theorem Ways.way {w : World} {F : Nat → Prop} {A : Option Addr} {c : Nat} {xs : List Way} (h : Ways w F A c xs) (i : Nat) (hi : i < xs.length) :
    ∃ ad B d, A = some ad ∧ F ad.block ∧ WayAt w (ad.add (i * 35)) B d xs[i] ∧ Ints w F .i64 B d xs[i].keys ∧ WayOk xs[i] := by
  obtain ⟨ad, B, d, e, hb, hc, h1, h2⟩ := h.at_ i hi
  exact ⟨ad, B, d, e, hb, wayAt h2 hc, h1, h2⟩
end Go.Proofs.Ytcghjnegaiiieaa
namespace Go.Proofs.Ytcghjnegaiiieaa
open Go.RowKit
def keyB (ks : List Int) (i : Nat) : Bool := decide (0 ≤ ks.getD i 0) && decide (ks.getD i 0 ≤ 255) && (decide (i = 0) || decide (ks.getD (i - 1) 0 < ks.getD i 0))
def keysUpto (ks : List Int) (n : Nat) : Bool := (List.range n).all (keyB ks)
theorem keysUpto_succ (ks : List Int) (n : Nat) : keysUpto ks (n + 1) = (keysUpto ks n && keyB ks n) := by simp [keysUpto, List.range_succ]
theorem keysUpto_no (ks : List Int) (n i : Nat) (hi : i < n) (h : keyB ks i = false) : keysUpto ks n = false := by
  unfold keysUpto
  rw [List.all_eq_false]
  exact ⟨i, by simpa using hi, by rw [h]; simp⟩
def headB (x : Way) : Bool := decide (x.keys.length ≤ 16) && decide (0 ≤ x.after) && decide (x.after ≤ 1073741824) && decide (0 ≤ x.wait) && decide (x.wait ≤ 1073741824)
def wayB (x : Way) : Bool := headB x && keysUpto x.keys x.keys.length
set_option maxRecDepth 100000 in
set_option maxHeartbeats 8000000 in
theorem lockright_any (x : Way) (cs : List Value) (F : Nat → Prop) (w : World) (h : RWay w F cs x) :
    Calls Try.prog 15 #[.agg cs.toArray] w fun e w' => e = .returned (.bool (wayB x)) ∧ Kept Nob w w' := by
  obtain ⟨B, d, hcs, hi, hok⟩ := h.open_
  have g0 : cs.toArray[0]? = some (.slice B x.keys.length d) := by rw [hcs]; rfl
  have g33 : cs.toArray[33]? = some (.int .i64 x.after) := by rw [hcs]; simpa using way33 hok
  have g34 : cs.toArray[34]? = some (.int .i64 x.wait) := by rw [hcs]; simpa using way34 hok
  have hle := hi.le
  have hmax := hi.max
  unfold maxLen at hmax
  have HI := hidden (hi.keep (Kept.alloc (Kept.refl Nob w) (.cells cs.toArray 26)) (fun _ _ h => h))
  clear h hcs hi hok
  generalize cs.toArray = CS at g0 g33 g34 HI
  by_cases hh : headB x = true
  · have hb : wayB x = keysUpto x.keys x.keys.length := by unfold wayB; rw [hh]; rfl
    have HB := hidden hb
    simp only [headB, Bool.and_eq_true, decide_eq_true_eq] at hh
    obtain ⟨⟨⟨⟨h1, h2⟩, h3⟩, h4⟩, h5⟩ := hh
    have x1 : ¬ (16 < (x.keys.length : Int)) := by omega
    clear hb
    go_enter Try.func15, Try.ntmps15
    go_wp2
    go_loop [32] (fun i => ∃ k : Nat, k ≤ x.keys.length ∧ i = .int .i64 k ∧ keysUpto x.keys k = true) (fun i => x.keys.length - (intOf i).toNat)
    case atStart => exact ⟨0, Nat.zero_le _, rfl, rfl⟩
    case round =>
      obtain ⟨k, hk, rfl, hall⟩ := hrel
      have HALL := hidden hall
      clear hall
      by_cases hlt : k < x.keys.length
      · obtain ⟨bd, rfl, hc⟩ := HI.out.rd k hlt
        have HSN := hidden (keysUpto_succ x.keys k)
        have HNO := hidden (keysUpto_no x.keys x.keys.length k hlt)
        have hkb : keyB x.keys k = (decide (0 ≤ x.keys.getD k 0) && decide (x.keys.getD k 0 ≤ 255) && (decide (k = 0) || decide (x.keys.getD (k - 1) 0 < x.keys.getD k 0))) := rfl
        have hprev : ∀ j, k = j + 1 → (w.alloc (.cells CS 26)).cell? (bd.add j) = some (.int .i64 (x.keys.getD j 0)) := fun j hj => by
          obtain ⟨ad', e, hc'⟩ := HI.out.rd j (by omega)
          injection e with e
          subst e
          exact hc'
        have HP := hidden hprev
        have HKB := hidden hkb
        clear hkb hprev
        generalize x.keys.getD k 0 = z at hc HKB
        by_cases c1 : z < 0
        · have hf : keyB x.keys k = false := by rw [HKB.out]; simp; omega
          have HF := hidden (HNO.out hf)
          clear hf
          go_wp2
          go_ret
          exact ⟨ret_bool (by rw [HB.out, HF.out]), Kept.alloc (Kept.refl _ _) _⟩
        · by_cases c2 : 255 < z
          · have hf : keyB x.keys k = false := by rw [HKB.out]; simp; omega
            have HF := hidden (HNO.out hf)
            clear hf
            go_wp2
            go_ret
            exact ⟨ret_bool (by rw [HB.out, HF.out]), Kept.alloc (Kept.refl _ _) _⟩
          · by_cases hk0 : k = 0
            · have y1 : decide (0 < k) = false := by simpa using hk0
              have y2 : ¬ (0 < k) := by omega
              have hf : keyB x.keys k = true := by rw [HKB.out, hk0]; simp; omega
              have HF := hidden hf
              clear hf hk0
              go_wp2
              go_round
              case rel => exact ⟨k + 1, by omega, by go_num, by rw [HSN.out, HALL.out, HF.out]; rfl⟩
              case measure => simp [intOf]; omega
            · obtain ⟨m, hm⟩ : ∃ m, k = m + 1 := ⟨k - 1, by omega⟩
              have hc2 := HP.out m hm
              have hkm : k - 1 = m := by omega
              rw [hkm] at HKB
              have y1 : decide (0 < k) = true := by simp; omega
              have y2 : 0 < k := by omega
              have y3 : m < x.keys.length := by omega
              have e1 : IntKind.i64.wrap ((k : Int) - 1) = (m : Int) := by rw [IntWalk.i64_in _ (by omega)]; omega
              have HK0 := hidden hk0
              clear hm hkm hk0
              generalize x.keys.getD m 0 = y at hc2 HKB
              by_cases c3 : z ≤ y
              · have hf : keyB x.keys k = false := by rw [HKB.out]; simp; exact fun _ _ => ⟨HK0.out, by omega⟩
                have HF := hidden (HNO.out hf)
                clear hf
                go_wp2
                go_ret
                exact ⟨ret_bool (by rw [HB.out, HF.out]), Kept.alloc (Kept.refl _ _) _⟩
              · have hf : keyB x.keys k = true := by rw [HKB.out]; simp; omega
                have HF := hidden hf
                clear hf
                go_wp2
                go_round
                case rel => exact ⟨k + 1, by omega, by go_num, by rw [HSN.out, HALL.out, HF.out]; rfl⟩
                case measure => simp [intOf]; omega
      · obtain rfl : k = x.keys.length := by omega
        go_wp2
        go_ret
        exact ⟨ret_bool (by rw [HB.out, HALL.out]), Kept.alloc (Kept.refl _ _) _⟩
  · have hb : wayB x = false := by unfold wayB; simp [hh]
    rw [hb]
    have hcase : 16 < x.keys.length ∨ (x.keys.length ≤ 16 ∧ x.after < 0) ∨ (x.keys.length ≤ 16 ∧ 0 ≤ x.after ∧ 1073741824 < x.after) ∨ (x.keys.length ≤ 16 ∧ 0 ≤ x.after ∧ x.after ≤ 1073741824 ∧ x.wait < 0) ∨ (x.keys.length ≤ 16 ∧ 0 ≤ x.after ∧ x.after ≤ 1073741824 ∧ 0 ≤ x.wait ∧ 1073741824 < x.wait) := by
      simp only [headB, Bool.and_eq_true, decide_eq_true_eq] at hh
      omega
    clear hh hb
    rcases hcase with h1 | ⟨h1, h2⟩ | ⟨h1, h2, h3⟩ | ⟨h1, h2, h3, h4⟩ | ⟨h1, h2, h3, h4, h5⟩
    all_goals
      first | (have x1 : 16 < (x.keys.length : Int) := by omega) | (have x1 : ¬ (16 < (x.keys.length : Int)) := by omega)
      go_enter Try.func15, Try.ntmps15
      go_wp2
      go_ret
      exact ⟨rfl, Kept.alloc (Kept.refl _ _) _⟩
end Go.Proofs.Ytcghjnegaiiieaa
namespace Go.Proofs.Ytcghjnegaiiieaa
open Go.RowKit
def waysB (xs : List Way) : Bool := xs.all wayB
def outHeadB (o : Out) : Bool := decide (0 ≤ o.amount) && decide (o.amount ≤ 1125899906842624) && decide (1 ≤ o.ways.length) && decide (o.ways.length ≤ 16)
def outB (o : Out) : Bool := outHeadB o && waysB o.ways
theorem clo_right (x : Way) (cs : List Value) (F : Nat → Prop) (w : World) (h : RWay w F cs x) :
    Calls Try.prog 86 #[.agg cs.toArray] w fun e w' => e = .returned (.bool (!wayB x)) ∧ Kept Nob w w' := by
  have HR := hidden (lockright_any x cs F (w.alloc (.cells cs.toArray 26)) (RWay.good.keep h (Kept.alloc (Kept.refl Nob w) _) (fun _ _ h => h)))
  have HL := hidden (RWay.good.len h)
  have HB := hidden (box_cells w cs 26)
  clear h
  generalize wayB x = b at HR ⊢
  go_enter Try.func86, Try.ntmps86
  go_wp2_with (first
    | (refine load_at aggWay (.tmp 1) rfl rfl _ rfl cs HL.out HB.out ?_)
    | (go_at_call 15; refine HR.out.mono ?_; rintro e w1 ⟨rfl, hk⟩; have HK := hidden hk; clear hk))
  go_ret
  exact ⟨rfl, Kept.trans (Kept.alloc (Kept.refl _ _) _) HK.out⟩
end Go.Proofs.Ytcghjnegaiiieaa
namespace Go.Proofs.Ytcghjnegaiiieaa
open Go.RowKit
theorem Ways.cells {w : World} {F : Nat → Prop} {A : Option Addr} {c : Nat} {xs : List Way} (h : Ways w F A c xs) (i : Nat) (hi : i < xs.length) :
    ∃ ad es, A = some ad ∧ es.length = 35 ∧ (∀ j u, es[j]? = some u → w.cell? ((ad.add (i * 35)).add j) = some u) ∧ RWay w F es xs[i] := by
  obtain ⟨ad, e, _, es, h1, h2, h3⟩ := h.el i hi
  exact ⟨ad, es, e, h1, h2, h3⟩
theorem waysB_no {xs : List Way} {i : Nat} (hi : i < xs.length) (h : wayB xs[i] = false) : waysB xs = false := by
  unfold waysB
  rw [List.all_eq_false]
  exact ⟨xs[i], List.getElem_mem hi, by rw [h]; simp⟩
theorem waysB_succ (xs : List Way) (i : Nat) (hi : i < xs.length) : waysB (xs.take (i + 1)) = (waysB (xs.take i) && wayB xs[i]) := by
  unfold waysB
  rw [List.take_succ_eq_append_getElem hi, List.all_append]
  simp
def IxPost (b : Bool) (w : World) (e : Ending) (w' : World) : Prop := ∃ r : Int, e = .returned (.int .i64 r) ∧ decide (0 ≤ r) = b ∧ Kept Nob w w'
set_option maxRecDepth 100000 in
set_option maxHeartbeats 8000000 in
theorem index_ways (A : Option Addr) (c : Nat) (xs : List Way) (F : Nat → Prop) (w : World) (h : Ways w F A c xs) :
    Calls Try.prog 127 #[.slice A xs.length c, .func (.func 86) #[] #[]] w (IxPost (!waysB xs) w) := by
  have H := hidden h
  have hmax := h.max
  have hle := h.le
  unfold maxLen at hmax
  clear h
  go_enter Try.func127, Try.ntmps127
  go_wp2
  go_loopw [8] (fun i wr => ∃ k : Nat, k ≤ xs.length ∧ i = .int .i64 k ∧ waysB (xs.take k) = true ∧ Kept Nob w wr) (fun i _ => xs.length - (intOf i).toNat)
  case atStart => exact ⟨0, Nat.zero_le _, rfl, rfl, Kept.refl _ _⟩
  case round =>
    obtain ⟨k, hk, rfl, hall, hkp⟩ := hrel
    have HALL := hidden hall
    have HKP := hidden hkp
    clear hall hkp
    by_cases hlt : k < xs.length
    · obtain ⟨ad, es, rfl, hl, hc, hr⟩ := (H.out.keep HKP.out (fun _ _ h => h)).cells k hlt
      have HL := hidden hl
      have HC := hidden hc
      have HR := hidden (clo_right xs[k] es F wr hr)
      have HNO := hidden (waysB_no hlt)
      have HSN := hidden (waysB_succ xs k hlt)
      clear hl hc hr
      generalize wayB xs[k] = b at HR HNO HSN
      cases b with
      | true =>
        go_wp2_with (first
          | (refine load_at aggWay (.tmp 14) rfl rfl _ rfl es HL.out HC.out ?_)
          | (go_at_call 86; refine HR.out.mono ?_; rintro e w1 ⟨rfl, hk1⟩; have HK1 := hidden hk1; clear hk1))
        go_roundw
        case rel => exact ⟨k + 1, by omega, by go_num, by rw [HSN.out, HALL.out]; rfl, HKP.out.trans HK1.out⟩
        case measure => simp [intOf]; omega
      | false =>
        go_wp2_with (first
          | (refine load_at aggWay (.tmp 14) rfl rfl _ rfl es HL.out HC.out ?_)
          | (go_at_call 86; refine HR.out.mono ?_; rintro e w1 ⟨rfl, hk1⟩; have HK1 := hidden hk1; clear hk1))
        go_ret
        exact ⟨k, rfl, by rw [HNO.out (by simp)]; simp, HKP.out.trans HK1.out⟩
    · obtain rfl : k = xs.length := by omega
      go_wp2
      go_ret
      refine ⟨-1, rfl, ?_, HKP.out⟩
      have := HALL.out
      rw [List.take_length] at this
      rw [this]
      rfl
theorem contains_ways (A : Option Addr) (c : Nat) (xs : List Way) (F : Nat → Prop) (w : World) (h : Ways w F A c xs) :
    Calls Try.prog 85 #[.slice A xs.length c, .func (.func 86) #[] #[]] w fun e w' => e = .returned (.bool (!waysB xs)) ∧ Kept Nob w w' := by
  have HI := hidden (index_ways A c xs F w h)
  clear h
  generalize (!waysB xs) = b at HI ⊢
  go_enter Try.func85, Try.ntmps85
  go_wp2_with (go_at_call 127; refine HI.out.mono ?_; rintro e w1 ⟨r, rfl, hr, hk1⟩; have HK1 := hidden hk1; have HRR := hidden hr; clear hk1 hr)
  go_ret
  exact ⟨ret_bool (by rw [← HRR.out]), HK1.out⟩
set_option maxRecDepth 100000 in
set_option maxHeartbeats 8000000 in
theorem rightOut_any (o : Out) (A : Option Addr) (c : Nat) (F : Nat → Prop) (w : World) (h : Ways w F A c o.ways) :
    Calls Try.prog 32 #[.agg #[.int .i64 o.amount, .slice A o.ways.length c]] w fun e w' => e = .returned (.bool (outB o)) ∧ Kept Nob w w' := by
  have HC := hidden (contains_ways A c o.ways F _ (h.keep (Kept.alloc (Kept.refl Nob w) (.cells #[.int .i64 o.amount, .slice A o.ways.length c] 38)) (fun _ _ h => h)))
  have hb : outB o = (outHeadB o && waysB o.ways) := rfl
  have hh : outHeadB o = (decide (0 ≤ o.amount) && decide (o.amount ≤ 1125899906842624) && decide (1 ≤ o.ways.length) && decide (o.ways.length ≤ 16)) := rfl
  have hmax := h.max
  have hle := h.le
  unfold maxLen at hmax
  clear h
  rw [hb]
  generalize waysB o.ways = b at HC ⊢
  generalize outHeadB o = q at hh ⊢
  generalize o.amount = a at *
  generalize o.ways.length = n at *
  have HH := hidden hh
  have hcase : (0 ≤ a ∧ a ≤ 1125899906842624 ∧ 1 ≤ n ∧ n ≤ 16 ∧ q = true) ∨ (a < 0 ∧ q = false) ∨ (0 ≤ a ∧ 1125899906842624 < a ∧ q = false) ∨ (0 ≤ a ∧ a ≤ 1125899906842624 ∧ n < 1 ∧ q = false) ∨ (0 ≤ a ∧ a ≤ 1125899906842624 ∧ 1 ≤ n ∧ 16 < n ∧ q = false) := by
    rw [hh]; simp; omega
  clear hh hb
  rcases hcase with ⟨h1, h2, h3, h4, rfl⟩ | ⟨h1, rfl⟩ | ⟨h1, h2, rfl⟩ | ⟨h1, h2, h3, rfl⟩ | ⟨h1, h2, h3, h4, rfl⟩
  all_goals
    try first | (have x1 : ¬ ((n : Int) < 1) := by omega) | (have x1 : (n : Int) < 1 := by omega)
    try first | (have x2 : ¬ (16 < (n : Int)) := by omega) | (have x2 : 16 < (n : Int) := by omega)
    go_enter Try.func32, Try.ntmps32
    go_wp2_with (go_at_call 85; refine HC.out.mono ?_; rintro e w1 ⟨rfl, hk1⟩; have HK1 := hidden hk1; clear hk1)
    go_ret
    first | exact ⟨ret_bool (by simp), Kept.trans (Kept.alloc (Kept.refl _ _) _) HK1.out⟩ | exact ⟨ret_bool (by simp), Kept.alloc (Kept.refl _ _) _⟩
end Go.Proofs.Ytcghjnegaiiieaa
namespace Go.Proofs.Ytcghjnegaiiieaa
open Go.RowKit
structure Tr where
  keys : List Int
  pre : List Int
  height : Int
  age : Int
end Go.Proofs.Ytcghjnegaiiieaa
namespace Go.Proofs.Ytcghjnegaiiieaa
open Go.RowKit
theorem row_hash {w : World} {g : Nat} {t : TypeId} {fr : Nat × Nat} {B : Option Addr} {d : Nat} {x : Way} (h : w.heap[g]? = some (.cells (wayCells B d x).toArray t fr)) (hx : WayOk x) (j : Nat) (u : Value) (hj : (nums .u8 x.hash)[j]? = some u) :
    w.cell? ((⟨g, 1, none⟩ : Addr).add j) = some u := by
  have ea : (⟨g, 1, none⟩ : Addr).add j = ⟨g, 1 + j, none⟩ := by unfold Addr.add; split <;> simp_all
  rw [ea, blk_cell h]
  simpa using wayH (A := B) (c := d) hx j u hj
theorem row0 {w : World} {g : Nat} {t : TypeId} {fr : Nat × Nat} {B : Option Addr} {d : Nat} {x : Way} (h : w.heap[g]? = some (.cells (wayCells B d x).toArray t fr)) : w.cell? ⟨g, 0, none⟩ = some (.slice B x.keys.length d) := (blk_cell h 0).trans rfl
theorem row33 {w : World} {g : Nat} {t : TypeId} {fr : Nat × Nat} {B : Option Addr} {d : Nat} {x : Way} (h : w.heap[g]? = some (.cells (wayCells B d x).toArray t fr)) (hx : WayOk x) : w.cell? ⟨g, 33, none⟩ = some (.int .i64 x.after) := (blk_cell h 33).trans (by simpa using way33 (A := B) (c := d) hx)
theorem row34 {w : World} {g : Nat} {t : TypeId} {fr : Nat × Nat} {B : Option Addr} {d : Nat} {x : Way} (h : w.heap[g]? = some (.cells (wayCells B d x).toArray t fr)) (hx : WayOk x) : w.cell? ⟨g, 34, none⟩ = some (.int .i64 x.wait) := (blk_cell h 34).trans (by simpa using way34 (A := B) (c := d) hx)
end Go.Proofs.Ytcghjnegaiiieaa
namespace Go.Proofs.Ytcghjnegaiiieaa
set_option linter.unusedSimpArgs false
open Go.RowKit
end Go.Proofs.Ytcghjnegaiiieaa
namespace Go.Proofs.Ytcghjnegaiiieaa
set_option linter.unusedSimpArgs false
open Go.RowKit
end Go.Proofs.Ytcghjnegaiiieaa
namespace Go.Proofs.Ytcghjnegaiiieaa
open Go.RowKit
def Tw (w : World) (R : Nat → Prop) : Nat → Prop := fun b => R b ∧ b < w.heap.size
theorem OwnV.tight {w : World} {R : Nat → Prop} {e : TypeId} {size : Nat} {v : Value} {n : Nat} {xs : List Value} (h : OwnV w R e size v n xs) : OwnV w (Tw w R) e size v n xs := ⟨h.1, fun b hb => ⟨h.2 b hb, by
  obtain ⟨cs, fr, hh⟩ := own_cells h.1 hb
  exact blk_lt hh⟩⟩
theorem PenR.tight {w : World} {R : Nat → Prop} {g : Nat} {xs : List Int} (h : PenR w R g xs) : PenR w (Tw w R) g xs := by
  obtain ⟨h1, v, h2, h3⟩ := h
  exact ⟨fun h => h1 h.1, v, h2, OwnV.tight h3⟩
theorem PenDoes.step {w wr W w3 : World} {R R1 : Nat → Prop} {g : Nat} {xs ys zs : List Int} (h : PenDoes w wr R g xs ys) (hk : Kept Nob wr W) (hR : ∀ b, R1 b → Gw w R b) (k : PenDoes W w3 R1 g (xs ++ ys) zs) : PenDoes w w3 R g xs (ys ++ zs) :=
  ⟨by
    rw [← List.append_assoc]
    exact k.pen.mono (fun b hb => hb.elim (hR b) (fun h' => .inr (Nat.le_trans (Nat.le_trans h.kept.size hk.size) h'))) h.pen.1,
   Kept.then (Kept.then h.kept hk (fun _ _ h => h.elim)) k.kept (fun b hb h' => h'.elim .inl (fun h2 => .inr (Gw.old hb (hR b h2))))⟩
theorem PenDoes.first {w W w3 : World} {R R1 : Nat → Prop} {g : Nat} {xs zs : List Int} (hg : PenR w R g xs) (hk : Kept Nob w W) (hR : ∀ b, R1 b → R b) (k : PenDoes W w3 R1 g xs zs) : PenDoes w w3 R g xs zs :=
  PenDoes.step (PenDoes.refl hg) hk (fun b hb => .inl (hR b hb)) (by rw [List.append_nil]; exact k)
theorem PenDoes.lt {w w' : World} {R : Nat → Prop} {g : Nat} {xs ys : List Int} (h : PenDoes w w' R g xs ys) : g < w'.heap.size := h.pen.lt
def wayBy (x : Way) : List Int := numsI [(x.keys.length : Int)] ++ numsI x.keys ++ x.hash ++ numsI [x.after, x.wait]
def outBy (o : Out) : List Int := numsI [o.amount, o.ways.length] ++ o.ways.flatMap wayBy
theorem numB_pos (n : Nat) : 1 ≤ (numB n).length := by rw [numB]; split <;> simp
theorem numsI_ge : ∀ (l : List Int), l.length ≤ (numsI l).length
  | [] => by simp
  | a :: l => by
    have := numsI_ge l
    have := numB_pos a.toNat
    simp only [numsI, List.flatMap_cons, List.length_append, List.length_cons] at *
    omega
theorem ints_two {w : World} {a b : Int} (e : TypeId) (ha : (Lit.int .i64 a).wf = true) (hb : (Lit.int .i64 b).wf = true) : Ints (w.alloc (.cells #[.int .i64 a, .int .i64 b] e)) (fun k => k = w.heap.size) .i64 (some ⟨w.heap.size, 0, none⟩) 2 [a, b] :=
  Ints.blk (xs := [a, b]) (heap_alloc_new _ _) rfl (by simp [maxLen]) (by simp [ha, hb])
theorem wayBy_take (l : List Way) (k : Nat) (hk : k < l.length) : (l.take (k + 1)).flatMap wayBy = (l.take k).flatMap wayBy ++ wayBy l[k] := by
  rw [List.take_succ_eq_append_getElem hk, List.flatMap_append]; simp
theorem flatMap_len_take {α : Type} (f : α → List Int) (l : List α) (k : Nat) : ((l.take k).flatMap f).length ≤ (l.flatMap f).length := by
  have e := congrArg (fun l => (l.flatMap f).length) (List.take_append_drop k l)
  simp only [List.flatMap_append, List.length_append] at e
  omega
set_option maxRecDepth 100000 in
set_option maxHeartbeats 8000000 in
theorem put_any (o : Out) (A : Option Addr) (c : Nat) (F R : Nat → Prop) (g : Nat) (xs : List Int) (w : World) (h : PenR w R g xs) (hw : Ways w F A c o.ways) (ha : (Lit.int .i64 o.amount).wf = true) (hF : ∀ b, F b → ¬ PS g R b ∧ b < w.heap.size) (hx : xs.length + 10 * (outBy o).length ≤ 90000000) :
    Calls Try.prog 29 #[.pointer (some ⟨g, 0, none⟩), .agg #[.int .i64 o.amount, .slice A o.ways.length c]] w fun e w' => e = .returned (.tuple #[]) ∧ PenDoes w w' R g xs (outBy o) := by
  have hgl := h.lt
  have hle := hw.le
  have hmx := hw.max
  unfold maxLen at hmx
  have HX : Hid (xs.length + 10 * (outBy o).length ≤ 90000000) := hidden hx
  have HOB : Hid (outBy o = numsI [o.amount, o.ways.length] ++ o.ways.flatMap wayBy) := hidden rfl
  generalize o.amount = am at *
  generalize o.ways = l at *
  have hlw : (Lit.int .i64 (l.length : Int)).wf = true := by simp [Lit.wf, IntKind.min, IntKind.max, IntKind.signed, IntKind.bits]; omega
  obtain ⟨W0, hW0⟩ : ∃ W0, (w.alloc (.cells #[.int .i64 am, .slice A l.length c] 38)).alloc (.cells #[.int .i64 am, .int .i64 l.length] 3) = W0 := ⟨_, rfl⟩
  have hK0 : Kept Nob w W0 := by rw [← hW0]; exact (by repeat (first | exact Kept.refl _ _ | apply Kept.alloc | apply Kept.drewN | apply Kept.drew))
  have HK0 := hidden hK0
  have HP := hidden h
  have hsz : W0.heap.size = w.heap.size + 2 := by rw [← hW0]; simp
  have HBOX : Hid (W0.heap[w.heap.size]? = some (.cells #[.int .i64 am, .slice A l.length c] 38 (0, 0))) := hidden (by rw [← hW0]; exact blk_alloc (heap_alloc_new _ _) _)
  have HI0 : Hid (Ints W0 (fun k => k = w.heap.size + 1) .i64 (some ⟨w.heap.size + 1, 0, none⟩) 2 [am, (l.length : Int)]) := hidden (by rw [← hW0]; have := ints_two (w := w.alloc (.cells #[.int .i64 am, .slice A l.length c] 38)) (a := am) (b := (l.length : Int)) 3 ha hlw; simpa using this)
  have HP0 := hidden (h.tight.keep hK0 (fun h => h) (fun _ _ h => h))
  have HNUMS : Hid (Calls Try.prog 34 #[.pointer (some ⟨g, 0, none⟩), .slice (some ⟨w.heap.size + 1, 0, none⟩) 2 2] W0 fun e w' => e = .returned (.pointer (some ⟨g, 0, none⟩)) ∧ PenDoes W0 w' (Tw w R) g xs (numsI [am, (l.length : Int)])) :=
    hidden (penr_nums [am, (l.length : Int)] _ 2 (fun k => k = w.heap.size + 1) (Tw w R) g xs W0 HP0.out HI0.out (fun b hb => ⟨fun h => h.elim (fun h' => by omega) (fun h' => by have := h'.2; omega), by omega⟩) (by have := HX.out; simp; omega))
  have HW := hidden (hw.keep hK0 (fun _ _ h => h))
  have HF : Hid (∀ b, F b → ¬ PS g R b ∧ b < w.heap.size) := hidden hF
  clear h hw hF hx hK0
  go_enter Try.func29, Try.ntmps29
  go_wp2_with (go_at_call 34; (with_reducible refine HNUMS.out.mono ?_); rintro e w1 ⟨rfl, hd1⟩; have b1 := hd1.kept.blk HBOX.out (fun h => h.elim (fun h' => by omega) (fun h' => by have := h'.2; omega)); have q1 : w1.cell? ⟨w.heap.size, 1, none⟩ = some (.slice A l.length c) := (blk_cell b1 1).trans rfl; have HD1 := hidden hd1; clear hd1 b1; dsimp only)
  clear HNUMS HI0
  go_loopw [5, 17] (fun _ i wr => ∃ k : Nat, k ≤ l.length ∧ i = .int .i64 k ∧ PenDoes W0 wr (Tw w R) g xs (numsI [am, (l.length : Int)] ++ (l.take k).flatMap wayBy)) (fun _ i _ => l.length - (intOf i).toNat)
  case atStart => exact ⟨0, Nat.zero_le _, rfl, by simpa using HD1.out⟩
  case round =>
    obtain ⟨k, hk, rfl, hd⟩ := hrel
    have HD := hidden hd
    by_cases hlt : k < l.length
    · obtain ⟨ad, B, d, hA, hFa, hc, hi, hok⟩ := (HW.out.keep hd.kept (fun b hb h => h.elim (fun h' => (HF.out b hb).1 (.inl h')) (fun h' => (HF.out b hb).1 (.inr h'.1)))).at_ k hlt
      have HTK := hidden (wayBy_take l k hlt)
      have HLN : Hid ((xs ++ (numsI [am, (l.length : Int)] ++ (l.take k).flatMap wayBy)).length + 10 * (wayBy l[k]).length ≤ 90000000) := hidden (by
        have h1 := HX.out
        have h2 := flatMap_len_take wayBy l (k + 1)
        rw [HOB.out] at h1
        rw [wayBy_take l k hlt] at h2
        simp only [List.length_append] at h1 h2 ⊢
        omega)
      generalize l[k] = x at hc hi hok HTK HLN
      subst hA
      obtain ⟨zs, hzs⟩ : ∃ zs, numsI [am, (l.length : Int)] ++ (l.take k).flatMap wayBy = zs := ⟨_, rfl⟩
      have HZS := hidden hzs
      rw [hzs] at hd HD HLN
      clear hzs
      have HC := hidden hc
      have HI := hidden hi
      have HOK := hidden hok
      obtain ⟨R1, hR1⟩ : ∃ R1, R1 = Tw wr (Gw W0 (Tw w R)) := ⟨_, rfl⟩
      have HPR : Hid (PenR wr R1 g (xs ++ zs)) := hidden (by rw [hR1]; exact hd.pen.tight)
      have HRA : Hid (∀ b, R1 b → Gw W0 (Tw w R) b) := hidden (fun b hb => by rw [hR1] at hb; exact hb.1)
      have HRB : Hid (∀ b, R1 b → b < wr.heap.size) := hidden (fun b hb => by rw [hR1] at hb; exact hb.2)
      clear hR1
      have hgr := hd.lt
      have HNF : Hid (∀ b, F b → b ≠ g ∧ ¬ Tw w R b ∧ b < W0.heap.size) := hidden (fun b hb => ⟨fun h => (HF.out b hb).1 (.inl h), fun h => (HF.out b hb).1 (.inr h.1), by have := (HF.out b hb).2; omega⟩)
      have hwsz := hd.kept.size
      have HFP : Hid (∀ W : World, wr.heap.size < W.heap.size → ∀ b, F b → ¬ PS g (Gw W R1) b ∧ b < wr.heap.size) := hidden (fun W hW b hb => by
        obtain ⟨n1, n2, n3⟩ := HNF.out b hb
        exact ⟨fun h => h.elim n1 (fun h' => n2 (Gw.old n3 (HRA.out b (Gw.old (by omega) h')))), by omega⟩)
      have HFQ : Hid (∀ b, F b → ¬ PS g R1 b) := hidden (fun b hb h => by
        obtain ⟨n1, n2, n3⟩ := HNF.out b hb
        exact h.elim n1 (fun h' => n2 (Gw.old n3 (HRA.out b h'))))
      have HNP : Hid (¬ PS g R1 wr.heap.size ∧ wr.heap.size ≠ g) := hidden ⟨fun h => h.elim (fun h' => by omega) (fun h' => by have := HRB.out _ h'; omega), by omega⟩
      have HKL : Hid (x.keys.length ≤ (numsI x.keys).length ∧ (wayBy x).length = (numB x.keys.length).length + (numsI x.keys).length + 32 + (numsI [x.after, x.wait]).length) := hidden ⟨numsI_ge _, by unfold wayBy; simp only [List.length_append, hok.hl]; simp [numsI]⟩
      have HL2 : Hid ((xs ++ zs ++ numB x.keys.length).length + 10 * x.keys.length ≤ 100000000 ∧ (xs ++ zs ++ (numB x.keys.length ++ numsI x.keys)).length ≤ 100000000 ∧ (xs ++ zs ++ (numB x.keys.length ++ numsI x.keys ++ x.hash)).length + 10 * [x.after, x.wait].length ≤ 100000000) := hidden (by
        have h1 := HLN.out
        have h2 := HKL.out
        have h3 := hok.hl
        simp only [List.length_append, List.length_cons, List.length_nil] at h1 ⊢
        omega)
      have hkm : x.keys.length < 9223372036854775808 := by have := hi.le; have := hi.max; unfold maxLen at this; omega
      clear hd hc hi hok hFa
      go_wp2_with (first
        | ((with_reducible refine load_lit aggWay (.tmp 19) (ad.add (k * 35)) (wayCells B d x) ?_ ?_ ?_ ?_ ?_); rfl; rfl; exact way_len HOK.out; exact HC.out)
        | ((with_reducible refine store_litT aggWay (.tmp 5) (.tmp 20) wr.heap.size (wayCells B d x) 26 ?_ ?_ ?_ ?_ ?_ ?_ ?_); rfl; rfl; rfl; exact way_len HOK.out; exact RWay.good.one (RWay.mk' HI.out HOK.out); exact ⟨_, heap_alloc_new _ _, rfl⟩; intro W hW hkW; have HB := hidden hW; have HKW : Hid (Kept Nob wr W) := hidden (Kept.then (Kept.alloc (Kept.refl _ _) _) hkW (fun b hb h => by omega)); have hsW : wr.heap.size < W.heap.size := blk_lt hW; have p0 := row0 hW; clear hW hkW)
        | (go_at_call 35; refine (penr_num x.keys.length R1 g (xs ++ zs) W (HPR.out.keep HKW.out (fun h => h) (fun _ _ h => h)) hkm (by have := HLN.out; omega)).mono ?_; rintro e w2 ⟨rfl, hd2⟩; have b2 := hd2.kept.blk HB.out HNP.out.1; have p2 := row0 b2; have HD2 := hidden hd2; have HI2 : Hid (Ints w2 F .i64 B d x.keys) := hidden ((HI.out.keep HKW.out (fun _ _ h => h)).keep hd2.kept HFQ.out); have HF2 : Hid (∀ b, F b → ¬ PS g (Gw W R1) b ∧ b < w2.heap.size) := hidden (fun b hb => ⟨((HFP.out W hsW) b hb).1, Nat.lt_of_lt_of_le ((HFP.out W hsW) b hb).2 (Nat.le_trans (Nat.le_of_lt hsW) hd2.kept.size)⟩); have HN2 := hidden (penr_nums x.keys B d F (Gw W R1) g (xs ++ zs ++ numB x.keys.length) w2 hd2.pen HI2.out HF2.out HL2.out.1); clear hd2 b2; dsimp only)
        | (go_at_call 34; (with_reducible refine HN2.out.mono ?_); rintro e w3 ⟨rfl, hd3⟩; have hd3' := HD2.out.trans hd3; have b3 := hd3'.kept.blk HB.out HNP.out.1; have HH3 := hidden (row_hash b3 HOK.out); have HD3 := hidden hd3'; have HS3 := hidden (penr_sum x.hash (Gw W R1) g (xs ++ zs ++ (numB x.keys.length ++ numsI x.keys)) w3 hd3'.pen HOK.out.hl HOK.out.hw HL2.out.2.1); clear hd3 hd3' b3; dsimp only)
        | ((with_reducible refine load_lit aggSum (.tmp 31) ⟨wr.heap.size, 1, none⟩ (nums .u8 x.hash) ?_ ?_ ?_ ?_ ?_); rfl; rfl; exact (nums_length _ _).trans HOK.out.hl; exact HH3.out)
        | (go_at_call 36; (with_reducible refine HS3.out.mono ?_); rintro e w4 ⟨rfl, hd4⟩; have hd4' := HD3.out.trans hd4; have b4 := hd4'.kept.blk HB.out HNP.out.1; have p33 := row33 b4 HOK.out; have p34 := row34 b4 HOK.out; have HD4 := hidden hd4'; have hs4 := hd4'.kept.size; have HN4 : Hid (Calls Try.prog 34 #[.pointer (some ⟨g, 0, none⟩), .slice (some ⟨w4.heap.size, 0, none⟩) 2 2] (w4.alloc (.cells #[.int .i64 x.after, .int .i64 x.wait] 3)) fun e w' => e = .returned (.pointer (some ⟨g, 0, none⟩)) ∧ PenDoes (w4.alloc (.cells #[.int .i64 x.after, .int .i64 x.wait] 3)) w' (Tw w4 (Gw W R1)) g (xs ++ zs ++ (numB x.keys.length ++ numsI x.keys ++ x.hash)) (numsI [x.after, x.wait])) := hidden (penr_nums [x.after, x.wait] (some ⟨w4.heap.size, 0, none⟩) 2 (fun b => b = w4.heap.size) (Tw w4 (Gw W R1)) g (xs ++ zs ++ (numB x.keys.length ++ numsI x.keys ++ x.hash)) (w4.alloc (.cells #[.int .i64 x.after, .int .i64 x.wait] 3)) (hd4'.pen.tight.keep (S := Nob) (Kept.alloc (Kept.refl _ _) _) (fun h => h) (fun _ _ h => h)) (ints_two 3 HOK.out.aw HOK.out.ww) (fun b hb => ⟨fun h => h.elim (fun h' => by have := hd4'.lt; omega) (fun h' => by have := h'.2; omega), by subst hb; simp⟩) HL2.out.2.2); clear hd4 hd4' b4; dsimp only)
        | (go_at_call 34; (with_reducible refine HN4.out.mono ?_); rintro e w5 ⟨rfl, hd5⟩; have HD5 := hidden (HD4.out.step (Kept.alloc (Kept.refl _ _) _) (fun b h => h.1) hd5); clear hd5; dsimp only))
      go_roundw
      case rel => exact ⟨k + 1, by omega, by go_num, by
        rw [HTK.out, ← List.append_assoc, HZS.out]
        have := HD.out.step HKW.out HRA.out HD5.out
        simpa [wayBy, numsI, List.append_assoc] using this⟩
      case measure => simp [intOf]; omega
    · obtain rfl : k = l.length := by omega
      go_wp2
      go_end0
      have := HD.out
      rw [List.take_length, ← HOB.out] at this
      exact ⟨rfl, PenDoes.first HP.out HK0.out (fun b hb => hb.1) this⟩
end Go.Proofs.Ytcghjnegaiiieaa
namespace Go.Proofs.Ytcghjnegaiiieaa
open Go.RowKit
theorem flatten_at {α : Type} (size : Nat) : ∀ (cs : List (List α)) (i : Nat) (h : i < cs.length) (j : Nat) (u : α), (∀ c ∈ cs, c.length = size) → (cs[i])[j]? = some u → cs.flatten[i * size + j]? = some u
  | c :: cs, 0, _, j, u, _, hu => by
    have hj : j < c.length := (List.getElem?_eq_some_iff.1 hu).1
    rw [List.flatten_cons, Nat.zero_mul, Nat.zero_add, List.getElem?_append_left hj]
    exact hu
  | c :: cs, i + 1, h, j, u, hs, hu => by
    have hc : c.length = size := hs c (by simp)
    rw [List.flatten_cons, List.getElem?_append_right (by rw [hc, Nat.add_mul]; omega), hc, show (i + 1) * size + j - size = i * size + j from by rw [Nat.add_mul]; omega]
    exact flatten_at size cs i (by simpa using h) j u (fun c' h' => hs c' (by simp [h'])) (by simpa using hu)
  | [], i, h, _, _, _, _ => by simp at h
def OwnE {α : Type} (R : Rl α) (size : Nat) (w : World) (Rb F : Nat → Prop) (e : TypeId) (v : Value) (xs : List α) : Prop :=
  ∃ cs : List (List Value), cs.length = xs.length ∧ (∀ c ∈ cs, c.length = size) ∧ (∀ i (h : i < xs.length) (h' : i < cs.length), R w F cs[i] xs[i]) ∧ OwnV w Rb e size v xs.length cs.flatten
theorem OwnE.nil {α : Type} (R : Rl α) (size : Nat) (w : World) (Rb F : Nat → Prop) (e : TypeId) : OwnE R size w Rb F e (.slice none 0 0) [] := ⟨[], rfl, by simp, fun i h => by simp at h, OwnV.nil _ _ _ _⟩
theorem OwnE.keep {α : Type} {R : Rl α} {size : Nat} (hR : Good R size) {w w' : World} {Rb F S : Nat → Prop} {e : TypeId} {v : Value} {xs : List α} (h : OwnE R size w Rb F e v xs) (hk : Kept S w w') (hb : ∀ b, Rb b → ¬ S b) (hf : ∀ b, F b → ¬ S b) : OwnE R size w' Rb F e v xs := by
  obtain ⟨cs, h1, h2, h3, h4⟩ := h
  exact ⟨cs, h1, h2, fun i hi hi' => hR.keep (h3 i hi hi') hk hf, h4.keep hk hb⟩
theorem OwnE.mono {α : Type} {R : Rl α} {size : Nat} (hR : Good R size) {w : World} {Rb Rb' F F' : Nat → Prop} {e : TypeId} {v : Value} {xs : List α} (h : OwnE R size w Rb F e v xs) (hb : ∀ b, Rb b → Rb' b) (hf : ∀ b, F b → F' b) : OwnE R size w Rb' F' e v xs := by
  obtain ⟨cs, h1, h2, h3, h4⟩ := h
  exact ⟨cs, h1, h2, fun i hi hi' => hR.mono (h3 i hi hi') hf, h4.mono hb⟩
theorem OwnE.sl {α : Type} {R : Rl α} {size : Nat} (hR : Good R size) {w : World} {Rb F : Nat → Prop} {e : TypeId} {v : Value} {xs : List α} (h : OwnE R size w Rb F e v xs) : ∃ A c, v = .slice A xs.length c ∧ xs.length ≤ c ∧ c ≤ maxLen ∧ (A = none → xs = [] ∧ c = 0) ∧ Elems R size w (fun b => Rb b ∨ F b) A xs := by
  obtain ⟨cs, h1, h2, h3, h4⟩ := h
  obtain ⟨A, c, hv, g1, g2, g3, g4, g5⟩ := h4.slice
  refine ⟨A, c, hv, g1, g2, fun e => ⟨List.eq_nil_of_length_eq_zero (g3 e).1, (g3 e).2⟩, fun i hi => ?_⟩
  have hi' : i < cs.length := by omega
  have hA : ∃ ad, A = some ad := by
    rcases A with _ | ad
    · have := (g3 rfl).1; omega
    · exact ⟨ad, rfl⟩
  obtain ⟨ad, hA⟩ := hA
  refine ⟨ad, hA, .inl (g4 ad hA), cs[i], h2 _ (List.getElem_mem hi'), fun j u hj => ?_, hR.mono (h3 i hi hi') (fun b hb => .inr hb)⟩
  obtain ⟨ad', e', hc⟩ := g5 (i * size + j) u (flatten_at size cs i hi' j u h2 hj)
  rw [hA] at e'
  obtain rfl := Option.some.inj e'
  have := Go.Addr.add_add ad (i * size) j
  rw [this]
  exact hc
theorem OwnE.app {α : Type} {R : Rl α} {size : Nat} (hR : Good R size) {w : World} {ops : Array Oper} {rest : List Oper} {o : Oper} {a : Act} {Q : Exit → Act → World → Prop} {t e : TypeId} {bytes : Nat} (E : ElemT Try.prog t e size bytes) (hgd : o.guard = none) (s x : Operand)
    (ho : o.op = .call { callee := .builtin .append, args := #[s, x], argTypes := #[t, t] })
    (Rb F : Nat → Prop) (v : Value) (xs : List α) (hs : a.eval s = v) (hown : OwnE R size w Rb F e v xs) (hF : ∀ b, F b → ¬ Rb b)
    (b : Nat) (c : Nat) (es : List Value) (n : α) (hx : a.eval x = .slice (some ⟨b, 0, none⟩) 1 c) (tb : TypeId) (fr : Nat × Nat) (hb : w.heap[b]? = some (.cells es.toArray tb fr)) (hr : R w F es n)
    (h63 : xs.length + 1 ≤ 1000000) (hby : bytes ≤ 1000000)
    (h : ∀ v' w', OwnE R size w' (Gw w Rb) F e v' (xs ++ [n]) → Kept Rb w w' → wpList Try.prog ops Q rest (a.put o.dst v') w') : wpList Try.prog ops Q (o :: rest) a w := by
  obtain ⟨cs, h1, h2, h3, h4⟩ := hown
  refine OwnV.app E hgd s x ho Rb v xs.length cs.flatten hs h4 (some ⟨b, 0, none⟩) 1 c es hx (by rw [hR.len hr, Nat.one_mul]) (fun j u hj => ⟨_, rfl, row_cells (es := es) hb j u hj⟩) (fun e => by cases e) (hR.one hr) (by unfold maxLen; omega) (Nat.le_trans (Nat.mul_le_mul h63 hby) (by decide)) ?_
  intro v' w' h5 h6
  refine h v' w' ⟨cs ++ [es], by simp [h1], fun c hc => ?_, fun i hi hi' => ?_, ?_⟩ h6
  · rcases List.mem_append.1 hc with h | h
    · exact h2 c h
    · have : c = es := by simpa using h
      rw [this]; exact hR.len hr
  · rw [List.getElem_append, List.getElem_append]
    split
    · split
      · exact hR.keep (h3 i _ _) h6 hF
      · omega
    · split
      · omega
      · have e1 : i - cs.length = 0 := by simp at hi; omega
        have e2 : i - xs.length = 0 := by simp at hi; omega
        simp only [e1, e2, List.getElem_cons_zero]
        exact hR.keep hr h6 hF
  · rw [List.length_append, List.flatten_append, List.flatten_cons, List.flatten_nil, List.append_nil]
    exact h5
end Go.Proofs.Ytcghjnegaiiieaa
namespace Go.Proofs.Ytcghjnegaiiieaa
open Go.RowKit
def Own1 (v : Value) : Nat → Prop := fun b => v.ownBlock = some b
theorem OwnV.exact {w : World} {R : Nat → Prop} {e : TypeId} {size : Nat} {v : Value} {n : Nat} {xs : List Value} (h : OwnV w R e size v n xs) : OwnV w (Own1 v) e size v n xs := ⟨h.1, fun _ hb => hb⟩
theorem OwnV.lt {w : World} {R : Nat → Prop} {e : TypeId} {size : Nat} {v : Value} {n : Nat} {xs : List Value} (h : OwnV w R e size v n xs) : ∀ b, Own1 v b → b < w.heap.size := fun b hb => (h.tight.2 b hb).2
theorem OwnE.exact {α : Type} {R : Rl α} {size : Nat} {w : World} {Rb F : Nat → Prop} {e : TypeId} {v : Value} {xs : List α} (h : OwnE R size w Rb F e v xs) : OwnE R size w (Own1 v) F e v xs := by
  obtain ⟨cs, h1, h2, h3, h4⟩ := h
  exact ⟨cs, h1, h2, h3, h4.exact⟩
theorem OwnE.own {α : Type} {R : Rl α} {size : Nat} {w : World} {Rb F : Nat → Prop} {e : TypeId} {v : Value} {xs : List α} (h : OwnE R size w Rb F e v xs) : (∀ b, Own1 v b → Rb b) ∧ ∀ b, Own1 v b → b < w.heap.size := by
  obtain ⟨cs, h1, h2, h3, h4⟩ := h
  exact ⟨h4.2, h4.lt⟩
theorem OwnV.ints {w : World} {R : Nat → Prop} {e : TypeId} {k : IntKind} {A : Option Addr} {n c : Nat} {ks : List Int} (h : OwnV w R e 1 (.slice A n c) n (nums k ks)) (hl : ks.length = n) (hw : ∀ x ∈ ks, (Lit.int k x).wf = true) : Ints w R k A c ks := by
  obtain ⟨A', c', hv, h1, h2, h3, h4, h5⟩ := h.slice
  cases hv
  refine ⟨fun i hi => ?_, fun ad e _ => h4 ad e, by omega, h2, fun e => ⟨List.eq_nil_of_length_eq_zero (by have := (h3 e).1; omega), (h3 e).2⟩, hw⟩
  obtain ⟨ad, e, hc⟩ := h5 i (.int k (ks.getD i 0)) (by simp [nums, hi, List.getD_eq_getElem?_getD])
  exact ⟨ad, e, hc⟩
end Go.Proofs.Ytcghjnegaiiieaa
namespace Go.Proofs.Ytcghjnegaiiieaa
open Go.RowKit
theorem addr_plain {w : World} {ad : Addr} {u : Value} (h : w.cell? ad = some u) : ∃ b o, ad = ⟨b, o, none⟩ := by
  obtain ⟨b, o, sp⟩ := ad
  unfold World.cell? at h
  split at h
  · split at h
    · cases h
    · rename_i hs
      cases sp with
      | none => exact ⟨b, o, rfl⟩
      | some s => simp at hs
  · cases h
theorem plain_add (b o i : Nat) : (⟨b, o, none⟩ : Addr).add i = ⟨b, o + i, none⟩ := by unfold Addr.add; split <;> simp_all
theorem conv_bytes {w : World} {A : Option Addr} {c : Nat} {xs : List Int} (h1 : RdInts w .u8 A xs) (h2 : A = none → xs = []) : (convert 27 9 (.slice A xs.length c)).run Try.prog w = .ok (.string (strOfNums xs)) w := by
  cases A with
  | none =>
    rw [h2 rfl]
    exact run_convert_bytes_nil w _ _ Try.underlying27 Try.underlying5 _ c _ Try.underlying9
  | some ad =>
    by_cases h0 : xs = []
    · subst h0
      rw [run_convert_bytes_string w _ _ _ _ _ _ Try.underlying27 Try.underlying5 Try.underlying9]
      show (Conv.bytesToString (.slice (some ad) 0 c)).run Try.prog w = _
      rw [run_bytesToString w ad 0 c [] (by simpa using run_loadCells_list (P := Try.prog) w ad [] (by simp))]
      rfl
    · have hpos : 0 < xs.length := List.length_pos_iff.2 h0
      obtain ⟨ad', e, hc⟩ := h1 0 hpos
      obtain rfl : ad = ad' := Option.some.inj e
      have hc' : w.cell? ad = some (.int .u8 (xs.getD 0 0)) := hc
      obtain ⟨b, o, e2⟩ := addr_plain hc'
      rw [e2] at h1 ⊢
      exact run_convert_bytes_arg w _ _ Try.underlying27 Try.underlying5 b o xs.length c xs rfl (fun i hi => by
        obtain ⟨ad, e, hc⟩ := h1 i hi
        injection e with e
        subst e
        rw [plain_add] at hc
        exact hc) _ Try.underlying9
theorem Ints.conv {w : World} {F : Nat → Prop} {A : Option Addr} {c : Nat} {xs : List Int} (h : Ints w F .u8 A c xs) : (convert 27 9 (.slice A xs.length c)).run Try.prog w = .ok (.string (strOfNums xs)) w := conv_bytes h.rd (fun e => (h.nil e).1)
end Go.Proofs.Ytcghjnegaiiieaa
namespace Go.Proofs.Ytcghjnegaiiieaa
open Go Go.RowKit
section
variable {P : Program} {w : World} {F : Nat → Prop} {ε : Nat → Value} {H : List AObj} {ρ : Operand → Value} {ev : Operand → AV}
theorem els_rep {x : AV} {sz : Nat} {es : List CV} {v : Value} (hs : Sim w F ε H) (h : x.els H = some (sz, es)) (hr : x.repV w F ε v) :
    ∃ A c, v = .slice A es.length c ∧ es.length ≤ c ∧ c ≤ maxLen ∧ (A = none → es = [] ∧ c = 0) ∧ ∀ (i : Nat) (hi : i < es.length), ∃ ad cs, A = some ad ∧ es[i].rep w F cs ∧ cs.length = sz ∧ (∀ j u, cs[j]? = some u → w.cell? ((ad.add (i * sz)).add j) = some u) ∧ (F ad.block ∨ ∃ q, OB ε H q ad.block) := by
  unfold AV.els at h
  split at h
  · cases h
    obtain ⟨A, c, hv, h1, h2, h3, h4⟩ := sl_rep hr
    refine ⟨A, c, hv, h1, h2, h3, fun i hi => ?_⟩
    obtain ⟨ad, e, hsz, hF, cs, hc, hr⟩ := CV.repE_get _ 0 h4 i hi
    rw [add_block] at hF
    exact ⟨ad, cs, e, hr, by rw [CV.rep_len _ _ hr, hsz], fun j u hj => by have := hc j u hj; rwa [Nat.zero_add] at this, .inl hF⟩
  · rename_i q
    split at h
    · rename_i hq
      cases h
      have hob := hs.obj q _ hq
      simp only [AV.repV] at hr
      obtain ⟨hv, _⟩ := hr
      obtain ⟨cs, h1, h2, h3⟩ := hob
      rcases h3.2 with ⟨h4, h0⟩ | ⟨g, cap, cur, h4, _, hh, hc, hm, _, _⟩
      · rw [h4] at hv
        have he : es = [] := List.eq_nil_of_length_eq_zero h0
        subst he
        exact ⟨none, 0, hv, Nat.le_refl _, by decide, fun _ => ⟨rfl, rfl⟩, fun i hi => absurd hi (by simp)⟩
      · rw [h4] at hv
        refine ⟨_, cap, hv, hc, hm, (fun e => by cases e), fun i hi => ?_⟩
        obtain ⟨b, cs', hb, _, hr', hl, hcell⟩ := row_at_ (hs.obj q _ hq) i hi
        have e : b = g := by rw [h4] at hb; simpa [blkOf] using hb.symm
        subst e
        exact ⟨_, cs', rfl, hr', hl, fun j u hj => by rw [plain_add', plain_add', Nat.zero_add]; exact hcell j u hj, .inr ⟨q, _, hq, by simp, hb⟩⟩
    · cases h
  · rename_i q lo hi k
    split at h
    · rename_i e k' es' hq
      split at h
      · rename_i hk
        subst hk
        cases h
        simp only [AV.repV] at hr
        obtain ⟨hlh, a, n, c, hv, hn, rfl⟩ := hr
        obtain ⟨cs, h1, h2, h3⟩ := hs.obj q _ hq
        rcases h3.2 with ⟨h4, h0⟩ | ⟨g, cap, cur, h4, _, hh, hc, hm, _, _⟩
        · rw [h4] at hv
          cases hv
          have e0 : es' = [] := List.eq_nil_of_length_eq_zero h0
          subst e0
          have e1 : hi = 0 := by omega
          have e2 : lo = 0 := by omega
          subst e1 e2
          exact ⟨none, 0, rfl, by simp, by decide, fun _ => ⟨by simp, rfl⟩, fun i hi => absurd hi (by simp)⟩
        · rw [h4] at hv
          injection hv with i1 i2 i3
          subst i1 i2 i3
          have hl : ((es'.take hi).drop lo).length = hi - lo := by simp; omega
          refine ⟨if cap = lo then some ⟨g, 0, none⟩ else (some (⟨g, 0, none⟩ : Addr)).map (·.add (lo * sz)), cap - lo, by rw [hl]; rfl, by rw [hl]; omega, by omega, (fun e => by split at e <;> cases e), fun i hi' => ?_⟩
          rw [hl] at hi'
          obtain ⟨b, cs', hb, _, hr', hl', hcell⟩ := row_at_ (hs.obj q _ hq) (lo + i) (by omega)
          have e : b = g := by rw [h4] at hb; simpa [blkOf] using hb.symm
          subst e
          refine ⟨⟨b, 0 + lo * sz, none⟩, cs', ?_, by simpa using hr', hl', fun j u hj => ?_, .inr ⟨q, _, hq, by simp, hb⟩⟩
          · rw [if_neg (by omega), Option.map_some, plain_add']
          · rw [plain_add', plain_add']
            have := hcell j u hj
            rw [show 0 + lo * sz + i * sz + j = (lo + i) * sz + j from by rw [Nat.add_mul]; omega]
            exact this
      · cases h
    · cases h
  · cases h
    have := repV_pv hr
    exact ⟨none, 0, this, Nat.le_refl _, by decide, fun _ => ⟨rfl, rfl⟩, fun i hi => absurd hi (by simp)⟩
  · cases h
theorem sound_len {t ty : TypeId} {y : Operand} {text : Bool} (hs : Sim w F ε H) (ht : (text = false ∧ ∃ e, P.underlying t = some (.slice e)) ∨ (text = true ∧ P.underlying t = some .string)) (hr : (ev y).repV w F ε (ρ y)) (hk : (PK.len text y).cond P ev H) :
    ∃ v, ((PK.len text y).val ev H).repV w F ε v ∧ ∀ x, (Builtin.len_ #[t] ty #[ρ y]).run P x = .ok v x := by
  rcases ht with ⟨rfl, e, hu⟩ | ⟨rfl, hu⟩
  · simp only [PK.cond, PK.val] at hk ⊢
    obtain ⟨⟨sz, es⟩, hk⟩ := hk
    obtain ⟨A, c, hv, _⟩ := els_rep hs hk hr
    unfold AV.lenV
    rw [hk]
    refine ⟨_, bi_rep .i64 es.length, fun x => ?_⟩
    rw [hv]
    simp [Builtin.len_, run_underlying hu, goInt]
  · simp only [PK.cond] at hk
    split at hk
    · rename_i s _ he
      simp only [PK.val, he]
      have := repV_pv (he ▸ hr)
      refine ⟨_, bi_rep .i64 s.size, fun x => ?_⟩
      rw [this]
      simp [Builtin.len_, run_underlying hu, goInt]
    · exact hk.elim
    · contradiction
theorem run_bounds_slice (n c : Nat) (lo hi : Option Value) (l h : Nat) (hh : match hi with | none => h = n | some v => ∃ k, v = .int k (h : Int)) (hl : match lo with | none => l = 0 | some v => ∃ k, v = .int k (l : Int)) (h1 : l ≤ h) (h2 : h ≤ n) (h3 : n ≤ c) (b : Bool) (x : World) :
    (Instr.sliceBounds b n c lo hi none).run P x = .ok (l, h, c) x := by
  cases hi with
  | none =>
    dsimp only at hh
    subst hh
    cases lo with
    | none => dsimp only at hl; subst hl; simp [Instr.sliceBounds]
    | some v =>
      obtain ⟨k, rfl⟩ := hl
      simp [Instr.sliceBounds, Instr.sliceBound, asIntOf_int, h1]
  | some u =>
    obtain ⟨k', rfl⟩ := hh
    cases lo with
    | none => dsimp only at hl; subst hl; simp [Instr.sliceBounds, Instr.sliceBound, asIntOf_int, Nat.le_trans h2 h3]
    | some v =>
      obtain ⟨k, rfl⟩ := hl
      simp [Instr.sliceBounds, Instr.sliceBound, asIntOf_int, h1, Nat.le_trans h2 h3]
theorem cut_of {m : Nat} {lo hi : Option Operand} (hk : cutOk ev m lo hi) (hlo : ∀ x, lo = some x → (ev x).repV w F ε (ρ x)) (hhi : ∀ x, hi = some x → (ev x).repV w F ε (ρ x)) :
    (match hi.map ρ with | none => hiOf ev m hi = m | some v => ∃ k, v = .int k (hiOf ev m hi : Int)) ∧ (match lo.map ρ with | none => loOf ev lo = 0 | some v => ∃ k, v = .int k (loOf ev lo : Int)) ∧ loOf ev lo ≤ hiOf ev m hi ∧ hiOf ev m hi ≤ m := by
  obtain ⟨h1, h2⟩ := hk
  have hH : (match hi.map ρ with | none => hiOf ev m hi = m | some v => ∃ k, v = .int k (hiOf ev m hi : Int)) ∧ hiOf ev m hi ≤ m := by
    cases hi with
    | none => exact ⟨rfl, Nat.le_refl _⟩
    | some x =>
      dsimp only at h1
      obtain ⟨k, h3, h4⟩ := upTo_of h1 (hhi x rfl)
      exact ⟨⟨k, h3⟩, h4⟩
  cases lo with
  | none => exact ⟨hH.1, rfl, Nat.zero_le _, hH.2⟩
  | some x =>
    dsimp only at h2
    obtain ⟨k, h3, h4⟩ := upTo_of h2 (hlo x rfl)
    exact ⟨hH.1, ⟨k, h3⟩, h4, hH.2⟩
theorem CV.repE_cut {A : Option Addr} {sz : Nat} {es : List CV} (h : CV.repE w F A sz es 0) (l m : Nat) (hm : m ≤ es.length) (A' : Option Addr) (hA : ∀ ad, A = some ad → m ≠ l → A' = some (ad.add (l * sz))) : CV.repE w F A' sz ((es.take m).drop l) 0 :=
  CV.repE_of _ 0 fun k hk => by
    have hk' : l + k < m := by simp at hk; omega
    obtain ⟨ad, e, hs, hat⟩ := CV.repE_get es 0 h (l + k) (by omega)
    refine ⟨_, hA ad e (by omega), ?_, ?_⟩
    · simpa using hs
    · rw [Go.Addr.add_add]
      have : (List.drop l (List.take m es))[k] = es[l + k] := by simp
      rw [this]
      rw [show l * sz + (0 + k) * sz = (0 + (l + k)) * sz from by simp [Nat.add_mul]]
      exact hat
theorem sound_slc {t e : TypeId} {y : Operand} {lo hi : Option Operand} {n : Nat} (hs : Sim w F ε H) (ht : tSlice P t = some (e, n)) (hr : (ev y).repV w F ε (ρ y)) (hlo : ∀ x, lo = some x → (ev x).repV w F ε (ρ x)) (hhi : ∀ x, hi = some x → (ev x).repV w F ε (ρ x)) (hk : (PK.slc y lo hi n).cond P ev H) :
    ∃ v, ((PK.slc y lo hi n).val ev H).repV w F ε v ∧ ∀ x, (Instr.sliceAt t (ρ y) (lo.map ρ) (hi.map ρ) none).run P x = .ok v x := by
  obtain ⟨hu, hz⟩ := tSlice_run ht
  have run : ∀ (A : Option Addr) (m c : Nat), ρ y = .slice A m c → m ≤ c → cutOk ev m lo hi → ∀ x, (Instr.sliceAt t (ρ y) (lo.map ρ) (hi.map ρ) none).run P x = .ok (.slice (if c = loOf ev lo then A else A.map (·.add (loOf ev lo * n))) (hiOf ev m hi - loOf ev lo) (c - loOf ev lo)) x := fun A m c hv hmc hcut x => by
    obtain ⟨h1, h2, h3, h4⟩ := cut_of hcut hlo hhi
    rw [hv]
    unfold Instr.sliceAt
    rw [Sem.run_bind, run_underlying hu]
    simp only [Result.andThen_ok, Instr.slice]
    rw [Sem.run_bind, run_underlying hu]
    simp only [Result.andThen_ok]
    rw [Sem.run_bind, run_bounds_slice m c _ _ _ _ h1 h2 h3 h4 hmc]
    simp only [Result.andThen_ok]
    rw [Sem.run_bind, tSz_run hz]
    rfl
  simp only [PK.cond, PK.val] at hk ⊢
  split at hk
  · rename_i sz es he
    obtain ⟨rfl, hcut⟩ := hk
    rw [he] at hr
    obtain ⟨A, c, hv, h1, h2, h3, h4⟩ := sl_rep hr
    obtain ⟨_, _, h5, h6⟩ := cut_of hcut hlo hhi
    refine ⟨_, ?_, run A _ c hv h1 hcut⟩
    have hl : ((es.take (hiOf ev es.length hi)).drop (loOf ev lo)).length = hiOf ev es.length hi - loOf ev lo := by simp; omega
    rw [← hl]
    refine sl_rep' (by rw [hl]; omega) (by omega) (fun hA => ?_) (CV.repE_cut h4 _ _ h6 _ (fun ad e hne => ?_))
    · have hA' : A = none := by
        split at hA
        · exact hA
        · cases A with
          | none => rfl
          | some _ => cases hA
      obtain ⟨rfl, rfl⟩ := h3 hA'
      simp
    · subst e
      rw [if_neg (by omega)]
      rfl
  · rename_i he
    rw [he] at hr
    have hv := repV_pv hr
    obtain ⟨_, _, h5, h6⟩ := cut_of hk hlo hhi
    refine ⟨_, repV_pv' rfl, fun x => ?_⟩
    rw [run none 0 0 hv (Nat.le_refl _) hk]
    have e1 : hiOf ev 0 hi = 0 := by omega
    have e2 : loOf ev lo = 0 := by omega
    rw [e1, e2]
    rfl
  · rename_i q he
    split at hk
    · rename_i e' k es hq
      obtain ⟨rfl, hcut⟩ := hk
      rw [he] at hr
      simp only [AV.repV] at hr
      obtain ⟨hv, _⟩ := hr
      obtain ⟨_, _, h5, h6⟩ := cut_of hcut hlo hhi
      obtain ⟨cs, h1, h2, h3⟩ := hs.obj q _ hq
      have hsl : ∃ a c, ε q = .slice a es.length c ∧ es.length ≤ c := by
        rcases h3.2 with ⟨h4, h0⟩ | ⟨g, cap, cur, h4, _, hh, hc, hm, _, _⟩
        · exact ⟨none, 0, by rw [h4, h0], by omega⟩
        · exact ⟨_, cap, h4, hc⟩
      obtain ⟨a, c, h4, hc⟩ := hsl
      refine ⟨_, ?_, run a _ c (hv.trans h4) hc hcut⟩
      simp only [AV.repV]
      exact ⟨by omega, a, _, c, h4, by omega, rfl⟩
    · exact hk.elim
  · exact hk.elim
theorem sound_slcA {t e : TypeId} {y : Operand} {lo hi : Option Operand} {n k : Nat} (ht : tArray P t = some (e, n, k)) (hr : (ev y).repV w F ε (ρ y)) (hlo : ∀ x, lo = some x → (ev x).repV w F ε (ρ x)) (hhi : ∀ x, hi = some x → (ev x).repV w F ε (ρ x)) (hk : (PK.slcA y lo hi n k).cond P ev H) :
    ∃ v, ((PK.slcA y lo hi n k).val ev H).repV w F ε v ∧ ∀ x, (Instr.sliceAt t (ρ y) (lo.map ρ) (hi.map ρ) none).run P x = .ok v x := by
  obtain ⟨hu, hz⟩ := tArray_run ht
  simp only [PK.cond, PK.val] at hk ⊢
  obtain ⟨rfl, hn, hk⟩ := hk
  split at hk
  · rename_i kk m xs he
    obtain ⟨rfl, rfl, hcut⟩ := hk
    rw [he] at hr
    simp only [AV.repV] at hr
    obtain ⟨ad, hv, hF, cs, hc, hrep⟩ := hr
    simp only [CV.rep, and_true] at hrep
    subst hrep
    obtain ⟨h1, h2, h3, h4⟩ := cut_of hcut hlo hhi
    refine ⟨.slice (some (if xs.length = loOf ev lo then ad else ad.add (loOf ev lo * 1))) (hiOf ev xs.length hi - loOf ev lo) (xs.length - loOf ev lo), ?_, fun x => ?_⟩
    · have hl : (((xs.take (hiOf ev xs.length hi)).drop (loOf ev lo)).map (ic kk)).length = hiOf ev xs.length hi - loOf ev lo := by simp; omega
      rw [← hl]
      refine sl_rep' (by rw [hl]; omega) (by omega) (fun e => by cases e) (CV.repE_of _ 0 fun i hi' => ?_)
      rw [hl] at hi'
      refine ⟨_, rfl, by simp [ic, CV.size], ?_, [.int kk (xs.getD (loOf ev lo + i) 0)], fun j u hj => ?_, ?_⟩
      · rw [add_block]; split
        · exact hF
        · rw [add_block]; exact hF
      · have hj0 : j = 0 := by have := (List.getElem?_eq_some_iff.1 hj).1; simp at this; exact this
        subst hj0
        simp at hj
        subst hj
        rw [if_neg (by omega)]
        have := hc (loOf ev lo + i) (.int kk (xs.getD (loOf ev lo + i) 0)) (by simp [nums, show loOf ev lo + i < xs.length by omega])
        rw [Go.Addr.add_add, Go.Addr.add_add]
        simpa using this
      · simp only [List.getElem_map, ic, CV.rep]
        refine ⟨?_, rfl⟩
        simp [show loOf ev lo + i < xs.length by omega]
    · rw [hv]
      unfold Instr.sliceAt
      rw [Sem.run_bind, run_underlying hu]
      simp only [Result.andThen_ok, Instr.sureAddr]
      rw [Sem.run_bind, Sem.run_pure]
      simp only [Result.andThen_ok]
      rw [Sem.run_bind, run_bounds_slice xs.length xs.length _ _ _ _ h1 h2 h3 h4 (Nat.le_refl _)]
      simp only [Result.andThen_ok]
      rw [Sem.run_bind, tSz_run hz]
      rfl
  · exact hk.elim
theorem sound_slcT {t : TypeId} {y : Operand} {lo hi : Option Operand} (hu : P.underlying t = some .string) (hr : (ev y).repV w F ε (ρ y)) (hlo : ∀ x, lo = some x → (ev x).repV w F ε (ρ x)) (hhi : ∀ x, hi = some x → (ev x).repV w F ε (ρ x)) (hk : (PK.slcT y lo hi).cond P ev H) :
    ∃ v, ((PK.slcT y lo hi).val ev H).repV w F ε v ∧ ∀ x, (Instr.sliceAt t (ρ y) (lo.map ρ) (hi.map ρ) none).run P x = .ok v x := by
  simp only [PK.cond, PK.val] at hk ⊢
  split at hk
  · rename_i s he
    rw [he] at hr
    have hv := repV_pv hr
    obtain ⟨h1, h2, h3, h4⟩ := cut_of hk hlo hhi
    refine ⟨_, repV_pv' rfl, fun x => ?_⟩
    rw [hv]
    unfold Instr.sliceAt
    rw [Sem.run_bind, run_underlying hu]
    simp only [Result.andThen_ok, Instr.slice]
    rw [Sem.run_bind, run_underlying hu]
    simp only [Result.andThen_ok, Option.isSome_none, Bool.false_eq_true, if_false]
    rw [Sem.run_bind, run_bounds_slice s.size s.size _ _ _ _ h1 h2 h3 h4 (Nat.le_refl _)]
    rfl
  · exact hk.elim
theorem sound_bin {op : BinOp} {t : TypeId} {y z : Operand} (hr : (ev y).repV w F ε (ρ y)) (hi : (ev z).repV w F ε (ρ z)) (hk : (PK.bin op y z).cond P ev H) :
    ∃ v, ((PK.bin op y z).val ev H).repV w F ε v ∧ ∀ x, (do eqGuard op t y z (ρ y) (ρ z); binOp op t (ρ y) (ρ z) : Sem Value).run P x = .ok v x := by
  simp only [PK.cond, PK.val] at hk ⊢
  split at hk
  · rename_i k a k' b h1 h2
    obtain ⟨v, e, ho, hv⟩ := bin_run (P := P) op t k k' a b hk
    rw [e]
    refine ⟨v, repV_pv' ho, fun x => ?_⟩
    rw [int_of h1 hr, int_of h2 hi]
    have hg : (eqGuard op t y z (.int k a) (.int k' b)).run P x = .ok () x := by
      unfold eqGuard
      split <;> rfl
    rw [Sem.run_bind, hg]
    exact hv x
  · exact hk.elim
theorem eqGuard_pv (op : BinOp) (t : TypeId) (y z : Operand) (u v : Value) (hu : u.oneCell' = true) (hn : u ≠ .nilIface) (x : World) : (eqGuard op t y z u v).run P x = .ok () x := by
  unfold eqGuard
  cases op <;> first
    | rfl
    | (cases u <;> first | rfl | (exact absurd rfl hn) | (cases hu))
theorem sound_strEq {op : BinOp} {ng : Bool} {t : TypeId} {y z : Operand} (hop : op = bif ng then .neq else .eql) (hr : (ev y).repV w F ε (ρ y)) (hi : (ev z).repV w F ε (ρ z)) (hk : (PK.strEq ng y z).cond P ev H) :
    ∃ v, ((PK.strEq ng y z).val ev H).repV w F ε v ∧ ∀ x, (do eqGuard op t y z (ρ y) (ρ z); binOp op t (ρ y) (ρ z) : Sem Value).run P x = .ok v x := by
  simp only [PK.cond] at hk
  split at hk
  · rename_i a b h1 h2
    simp only [PK.val, h1, h2]
    have e1 := repV_pv (h1 ▸ hr)
    have e2 := repV_pv (h2 ▸ hi)
    refine ⟨_, bb_rep _, fun x => ?_⟩
    rw [e1, e2, Sem.run_bind, eqGuard_pv op t y z _ _ rfl (by simp)]
    subst hop
    cases ng <;> simp [binOp, Op.stringOp]
  · exact hk.elim
def nilKind : TypeDesc → Option Nat
  | .pointer _ => some 0
  | .slice _ => some 1
  | .map _ _ => some 2
  | _ => none
theorem equal_run {t : TypeId} {u v : Value} {b : Bool} (h : ∀ d x, (Op.equalIn (d + 1) t u v).run P x = .ok b x) (x : World) : (Op.equal t u v).run P x = .ok b x := h 9999 x
theorem eq_nn0 {t e : TypeId} (hu : P.underlying t = some (.pointer e)) (d : Nat) (x : World) : (Op.equalIn (d + 1) t (.pointer none) (.pointer none)).run P x = .ok true x := by simp [Op.equalIn, run_underlying hu]
theorem eq_pn0 {t e : TypeId} {a : Addr} (hu : P.underlying t = some (.pointer e)) (d : Nat) (x : World) : (Op.equalIn (d + 1) t (.pointer (some a)) (.pointer none)).run P x = .ok false x := by simp [Op.equalIn, run_underlying hu]
theorem eq_nn1 {t e : TypeId} {a b c f : Nat} (hu : P.underlying t = some (.slice e)) (d : Nat) (x : World) : (Op.equalIn (d + 1) t (.slice none a b) (.slice none c f)).run P x = .ok true x := by simp [Op.equalIn, run_underlying hu]
theorem eq_nn2 {t e f : TypeId} (hu : P.underlying t = some (.map e f)) (d : Nat) (x : World) : (Op.equalIn (d + 1) t (.map none) (.map none)).run P x = .ok true x := by simp [Op.equalIn, run_underlying hu]
theorem eq_bb {t : TypeId} {a b : Bool} (hu : P.underlying t = some .bool) (d : Nat) (x : World) : (Op.equalIn (d + 1) t (.bool a) (.bool b)).run P x = .ok (a == b) x := by simp [Op.equalIn, run_underlying hu]
theorem sound_eqB {op : BinOp} {ng : Bool} {t : TypeId} {y z : Operand} (hop : op = bif ng then .neq else .eql) (hu : P.underlying t = some .bool) (hr : (ev y).repV w F ε (ρ y)) (hi : (ev z).repV w F ε (ρ z)) (hk : (PK.eqB ng y z).cond P ev H) :
    ∃ v, ((PK.eqB ng y z).val ev H).repV w F ε v ∧ ∀ x, (do eqGuard op t y z (ρ y) (ρ z); binOp op t (ρ y) (ρ z) : Sem Value).run P x = .ok v x := by
  simp only [PK.cond, PK.val] at hk ⊢
  obtain ⟨⟨a, h1⟩, b, h2⟩ := hk
  have e1 := bool_of h1 hr
  have e2 := bool_of h2 hi
  refine ⟨_, bb_rep _, fun x => ?_⟩
  rw [e1, e2, Sem.run_bind, eqGuard_pv op t y z _ _ rfl (by simp)]
  have := equal_run (x := x) (fun d x => eq_bb (a := a) (b := b) hu d x)
  subst hop
  cases ng <;> simp [binOp, this, AV.boolOf, h1, h2]
theorem sound_eqNil {op : BinOp} {ng : Bool} {kd : Nat} {t : TypeId} {y z : Operand} {d : TypeDesc} (hop : op = bif ng then .neq else .eql) (hu : P.underlying t = some d) (hd : nilKind d = some kd) (hr : (ev y).repV w F ε (ρ y)) (hi : (ev z).repV w F ε (ρ z)) (hk : (PK.eqNil kd ng y z).cond P ev H) :
    ∃ v, ((PK.eqNil kd ng y z).val ev H).repV w F ε v ∧ ∀ x, (do eqGuard op t y z (ρ y) (ρ z); binOp op t (ρ y) (ρ z) : Sem Value).run P x = .ok v x := by
  simp only [PK.cond] at hk
  have key : ∀ b u v, ρ y = u → ρ z = v → u.oneCell' = true → u ≠ .nilIface → (∀ x, (Op.equal t u v).run P x = .ok b x) → (∀ op', op' = .eql ∨ op' = .neq → binOp op' t u v = (do let r ← Op.equal t u v; pure (.bool (if op' = .neq then !r else r)))) → ∀ x, (do eqGuard op t y z (ρ y) (ρ z); binOp op t (ρ y) (ρ z) : Sem Value).run P x = .ok (.bool (xor ng b)) x := by
    intro b u v e1 e2 h1 h2 h3 h4 x
    rw [e1, e2, Sem.run_bind, eqGuard_pv op t y z _ _ h1 h2]
    simp only [Result.andThen_ok]
    subst hop
    cases ng
    · rw [show (bif false then BinOp.neq else BinOp.eql) = .eql from rfl, h4 _ (.inl rfl)]
      simp [h3 x]
    · rw [show (bif true then BinOp.neq else BinOp.eql) = .neq from rfl, h4 _ (.inr rfl)]
      simp [h3 x]
  split at hk
  all_goals (try (exact hk.elim))
  all_goals (cases d <;> first | (cases hd; done) | skip)
  · rename_i h1 h2 _
    simp only [PK.val, h1, h2]
    refine ⟨_, bb_rep _, ?_⟩
    have := key true _ _ (repV_pv (h1 ▸ hr)) (repV_pv (h2 ▸ hi)) rfl (by simp) (equal_run fun d x => eq_nn0 hu d x) (fun op' h => by rcases h with rfl | rfl <;> simp [binOp])
    simpa using this
  · rename_i h1 h2 _
    simp only [PK.val, h1, h2]
    refine ⟨_, bb_rep _, ?_⟩
    have := key true _ _ (repV_pv (h1 ▸ hr)) (repV_pv (h2 ▸ hi)) rfl (by simp) (equal_run fun d x => eq_nn1 hu d x) (fun op' h => by rcases h with rfl | rfl <;> simp [binOp])
    simpa using this
  · rename_i h1 h2 _ _
    simp only [PK.val, h1, h2]
    refine ⟨_, bb_rep _, ?_⟩
    have := key true _ _ (repV_pv (h1 ▸ hr)) (repV_pv (h2 ▸ hi)) rfl (by simp) (equal_run fun d x => eq_nn2 hu d x) (fun op' h => by rcases h with rfl | rfl <;> simp [binOp])
    simpa using this
  · rename_i h1 h2 _
    simp only [PK.val, h1, h2]
    rw [h1] at hr
    simp only [AV.repV] at hr
    obtain ⟨b, _, hv⟩ := hr
    refine ⟨_, bb_rep _, ?_⟩
    have := key false _ _ hv (repV_pv (h2 ▸ hi)) rfl (by simp) (equal_run fun d x => eq_pn0 hu d x) (fun op' h => by rcases h with rfl | rfl <;> simp [binOp])
    simpa using this
  · rename_i h1 h2 _
    simp only [PK.val, h1, h2]
    rw [h1] at hr
    simp only [AV.repV] at hr
    obtain ⟨b, hv, _⟩ := hr
    refine ⟨_, bb_rep _, ?_⟩
    have := key false _ _ hv (repV_pv (h2 ▸ hi)) rfl (by simp) (equal_run fun d x => eq_pn0 hu d x) (fun op' h => by rcases h with rfl | rfl <;> simp [binOp])
    simpa using this
end
end Go.Proofs.Ytcghjnegaiiieaa
namespace Go.Proofs.Ytcghjnegaiiieaa
open Go Go.RowKit
section
variable {P : Program}
theorem EqTy.int {t : TypeId} {k : IntKind} (hu : P.underlying t = some (.int k)) (hz : tSz P t = some 1) : EqTy P t .i := by
  have hfit : ∀ x y, Sh.fits .i x y → ∃ k a b, x = .pv (.int k a) ∧ y = .pv (.int k b) := fun x y h => by
    unfold Sh.fits at h
    split at h <;> first | contradiction | skip
    · rename_i k _ k' _ _
      subst h
      exact ⟨_, _, _, rfl, rfl⟩
  refine ⟨hz, by simp [tAgg, hu, Sh.agg], fun x y h => ?_, fun _ => rfl, fun d hd w F x y cs ds h h1 h2 w' => ?_⟩
  · obtain ⟨k, a, b, rfl, rfl⟩ := hfit x y h; exact ⟨rfl, rfl, rfl, rfl⟩
  · obtain ⟨k', a, b, rfl, rfl⟩ := hfit x y h
    simp only [CV.rep] at h1 h2
    obtain ⟨rfl, _⟩ := h1
    obtain ⟨rfl, _⟩ := h2
    obtain ⟨d, rfl⟩ : ∃ e, d = e + 1 := ⟨d - 1, by simp only [Sh.depth] at hd; omega⟩
    exact run_equalIn_int (P := P) w' d t k' k a b hu
theorem EqTy.bool {t : TypeId} (hu : P.underlying t = some .bool) (hz : tSz P t = some 1) : EqTy P t .b := by
  have hfit : ∀ x y, Sh.fits .b x y → ∃ a b, x = .pv (.bool a) ∧ y = .pv (.bool b) := fun x y h => by
    unfold Sh.fits at h
    split at h <;> first | contradiction | skip
    exact ⟨_, _, rfl, rfl⟩
  refine ⟨hz, by simp [tAgg, hu, Sh.agg], fun x y h => ?_, fun _ => rfl, fun d hd w F x y cs ds h h1 h2 w' => ?_⟩
  · obtain ⟨a, b, rfl, rfl⟩ := hfit x y h; exact ⟨rfl, rfl, rfl, rfl⟩
  · obtain ⟨a, b, rfl, rfl⟩ := hfit x y h
    simp only [CV.rep] at h1 h2
    obtain ⟨rfl, _⟩ := h1
    obtain ⟨rfl, _⟩ := h2
    obtain ⟨d, rfl⟩ : ∃ e, d = e + 1 := ⟨d - 1, by simp only [Sh.depth] at hd; omega⟩
    simp [Op.equalIn, run_underlying hu, mkv, Sh.agg, CV.eqv]
theorem EqTy.arr {t e : TypeId} {n : Nat} {k : IntKind} (hu : P.underlying t = some (.array n e)) (he : P.underlying e = some (.int k)) (hz : tSz P t = some n) (hze : tSz P e = some 1) : EqTy P t (.a k n) := by
  have hfit : ∀ x y, Sh.fits (.a k n) x y → ∃ xs ys, x = .ar k n xs ∧ y = .ar k n ys := fun x y h => by
    unfold Sh.fits at h
    split at h <;> first | contradiction | skip
    · rename_i h'
      cases h'
      obtain ⟨rfl, rfl, rfl, rfl⟩ := h
      exact ⟨_, _, rfl, rfl⟩
  refine ⟨hz, by simp [tAgg, hu, Sh.agg], fun x y h => ?_, (fun h => by cases h), fun d hd w F x y cs ds h h1 h2 w' => ?_⟩
  · obtain ⟨a, b, rfl, rfl⟩ := hfit x y h; exact ⟨rfl, rfl, rfl, rfl⟩
  · obtain ⟨a, b, rfl, rfl⟩ := hfit x y h
    simp only [CV.rep] at h1 h2
    obtain ⟨rfl, ha⟩ := h1
    obtain ⟨rfl, hb⟩ := h2
    obtain ⟨d, rfl⟩ : ∃ e, d = e + 2 := ⟨d - 2, by simp only [Sh.depth] at hd; omega⟩
    have := run_equalIn_nums (P := P) w' d t e n k hu he (fun w => tSz_run hze w) a b ha hb
    simpa [mkv, Sh.agg, CV.eqv] using this
inductive EqFs (P : Program) : List Field → List Sh → Nat → Prop where
  | nil (off : Nat) : EqFs P [] [] off
  | cons {f : Field} {fs : List Field} {sh : Sh} {l : List Sh} {off : Nat} (hn : (f.name == "_") = false) (ho : f.offset = off) (hE : EqTy P f.type sh) (hr : EqFs P fs l (off + sh.size)) : EqFs P (f :: fs) (sh :: l) off
theorem EqFs.len {fs : List Field} {l : List Sh} {off : Nat} (h : EqFs P fs l off) : ∀ xs ys, Sh.fitsL l xs ys → CV.sizes xs = Sh.sizes l ∧ CV.sizes ys = Sh.sizes l := by
  induction h with
  | nil off =>
    intro xs ys h
    unfold Sh.fitsL at h
    split at h <;> first | contradiction | skip
    exact ⟨rfl, rfl⟩
  | cons hn ho hE hr ih =>
    intro xs ys h
    unfold Sh.fitsL at h
    split at h <;> first | contradiction | skip
    rename_i h1
    cases h1
    obtain ⟨h1, h2⟩ := h
    obtain ⟨h3, h4, _⟩ := hE.len _ _ h1
    obtain ⟨h5, h6⟩ := ih _ _ h2
    exact ⟨by rw [CV.sizes, Sh.sizes, h3, h5], by rw [CV.sizes, Sh.sizes, h4, h6]⟩
theorem EqFs.run {fs : List Field} {l : List Sh} {off : Nat} (h : EqFs P fs l off) : ∀ d, Sh.depths l ≤ d → ∀ (w : World) (F : Nat → Prop) xs ys (p q cs ds : List Value), Sh.fitsL l xs ys → CV.reps w F xs cs → CV.reps w F ys ds → p.length = off → q.length = off →
    ∀ w', (Op.eqFields d (p ++ cs).toArray (q ++ ds).toArray fs).run P w' = .ok (CV.eqvs xs ys) w' := by
  induction h with
  | nil off =>
    intro d _ w F xs ys p q cs ds h h1 h2 hp hq w'
    unfold Sh.fitsL at h
    split at h <;> first | contradiction | skip
    rw [Op.eqFields]
    rfl
  | @cons f fs sh l off hn ho hE hr ih =>
    have hm1 := hE.run
    have hm2 := ih
    intro d hd w F xs ys p q cs ds h h1 h2 hp hq w'
    simp only [Sh.depths] at hd
    unfold Sh.fitsL at h
    split at h <;> first | contradiction | skip
    rename_i x fs' y gs' h3
    cases h3
    obtain ⟨hf, hl⟩ := h
    simp only [CV.reps] at h1 h2
    obtain ⟨c1, c2, rfl, g1, g2⟩ := h1
    obtain ⟨d1, d2, rfl, g3, g4⟩ := h2
    obtain ⟨s1, s2, a1, a2⟩ := hE.len _ _ hf
    have lc : c1.length = sh.size := by rw [CV.rep_len _ _ g1, s1]
    have ld : d1.length = sh.size := by rw [CV.rep_len _ _ g3, s2]
    have hne : f.name ≠ "_" := by simpa using hn
    rw [Op.eqFields, if_pos hne]
    have p1 := run_part hE.sz hE.ag hE.one p c1 c2 lc
    have p2 := run_part hE.sz hE.ag hE.one q d1 d2 ld
    rw [hp] at p1
    rw [hq] at p2
    rw [ho, ← List.append_assoc, ← List.append_assoc, Sem.run_bind, p1]
    simp only [Result.andThen_ok]
    rw [Sem.run_bind, p2]
    simp only [Result.andThen_ok]
    rw [Sem.run_bind, hm1 d (by omega) w F x y c1 d1 hf g1 g3 w']
    simp only [Result.andThen_ok, CV.eqvs]
    have := hm2 d (by omega) w F fs' gs' (p ++ c1) (q ++ d1) c2 d2 hl g2 g4 (by rw [List.length_append, hp, lc]) (by rw [List.length_append, hq, ld]) w'
    cases hb : x.eqv y
    · simp
    · simp only [List.append_assoc] at this; simp [this]
theorem EqTy.struct {t : TypeId} {fs : List Field} {l : List Sh} (hu : P.underlying t = some (.struct fs.toArray)) (hs : P.stoodInHeld t = false) (hz : tSz P t = some (Sh.sizes l)) (hF : EqFs P fs l 0) : EqTy P t (.st l) := by
  have hfit : ∀ x y, Sh.fits (.st l) x y → ∃ xs ys, x = .st xs ∧ y = .st ys ∧ Sh.fitsL l xs ys := fun x y h => by
    unfold Sh.fits at h
    split at h <;> first | contradiction | skip
    · rename_i h'
      cases h'
      exact ⟨_, _, rfl, rfl, h⟩
  have hm := hF.run
  refine ⟨by rw [hz]; rfl, by simp [tAgg, hu, Sh.agg], fun x y h => ?_, (fun h => by cases h), fun d hd w F x y cs ds h h1 h2 w' => ?_⟩
  · obtain ⟨a, b, rfl, rfl, h⟩ := hfit x y h
    obtain ⟨h3, h4⟩ := hF.len _ _ h
    exact ⟨h3, h4, rfl, rfl⟩
  · obtain ⟨a, b, rfl, rfl, h⟩ := hfit x y h
    simp only [CV.rep] at h1 h2
    obtain ⟨d, rfl⟩ : ∃ e, d = e + 1 := ⟨d - 1, by simp only [Sh.depth] at hd; omega⟩
    have hf : P.fieldsOf t = fs.toArray := by unfold Program.fieldsOf; rw [hu]
    simp only [mkv, Sh.agg, if_true, CV.eqv]
    rw [run_equalIn_agg (P := P) w' d t _ _ (by rw [hf]; exact hu) hs, hf]
    have := hm d (by simp only [Sh.depth] at hd; omega) w F a b [] [] cs ds h h1 h2 rfl rfl w'
    simpa using this
theorem fitsR_at {e : Sh} : ∀ (xs ys : List CV), Sh.fitsR e xs ys → xs.length = ys.length ∧ ∀ i (h : i < xs.length) (h' : i < ys.length), e.fits xs[i] ys[i]
  | [], [], _ => ⟨rfl, fun i h => absurd h (by simp)⟩
  | [], _ :: _, h => by simp [Sh.fitsR] at h
  | _ :: _, [], h => by simp [Sh.fitsR] at h
  | x :: xs, y :: ys, h => by
    simp only [Sh.fitsR] at h
    obtain ⟨h1, h2⟩ := fitsR_at xs ys h.2
    refine ⟨by simp [h1], fun i hi hi' => ?_⟩
    cases i with
    | zero => exact h.1
    | succ i => exact h2 i _ _
theorem sizesR {e : Sh} {n : Nat} {xs : List CV} (h : ∀ x ∈ xs, x.size = n) : CV.sizes xs = xs.length * n := by
  induction xs with
  | nil => simp [CV.sizes]
  | cons a l ih => rw [CV.sizes, ih (fun x hx => h x (by simp [hx])), h a (by simp), List.length_cons, Nat.add_mul]; omega
theorem EqTy.array {t e : TypeId} {n : Nat} {sh : Sh} (hu : P.underlying t = some (.array n e)) (hz : tSz P t = some (n * sh.size)) (hE : EqTy P e sh) : EqTy P t (.ar n sh) := by
  have hfit : ∀ x y, Sh.fits (.ar n sh) x y → ∃ xs ys, x = .st xs ∧ y = .st ys ∧ xs.length = n ∧ ys.length = n ∧ Sh.fitsR sh xs ys := fun x y h => by
    unfold Sh.fits at h
    split at h <;> first | contradiction | skip
    · rename_i h'
      cases h'
      exact ⟨_, _, rfl, rfl, h.1, h.2.1, h.2.2⟩
  have hlen : ∀ xs ys, Sh.fitsR sh xs ys → (∀ x ∈ xs, x.size = sh.size) ∧ (∀ x ∈ ys, x.size = sh.size) := fun xs ys h => by
    obtain ⟨hl, h1⟩ := fitsR_at xs ys h
    refine ⟨fun x hx => ?_, fun x hx => ?_⟩
    · obtain ⟨i, hi, rfl⟩ := List.getElem_of_mem hx
      exact (hE.len _ _ (h1 i hi (by omega))).1
    · obtain ⟨i, hi, rfl⟩ := List.getElem_of_mem hx
      exact (hE.len _ _ (h1 i (by omega) hi)).2.1
  have hm := hE.run
  refine ⟨by rw [hz]; rfl, by simp [tAgg, hu, Sh.agg], fun x y h => ?_, (fun h => by cases h), fun d hd w F x y cs ds h h1 h2 w' => ?_⟩
  · obtain ⟨a, b, rfl, rfl, ha, hb, h⟩ := hfit x y h
    obtain ⟨h3, h4⟩ := hlen a b h
    exact ⟨by rw [CV.size, sizesR (e := sh) h3, ha]; rfl, by rw [CV.size, sizesR (e := sh) h4, hb]; rfl, rfl, rfl⟩
  · obtain ⟨a, b, rfl, rfl, ha, hb, h⟩ := hfit x y h
    simp only [CV.rep] at h1 h2
    obtain ⟨d, rfl⟩ : ∃ e, d = e + 1 := ⟨d - 1, by simp only [Sh.depth] at hd; omega⟩
    simp only [mkv, Sh.agg, if_true, CV.eqv]
    rw [Op.equalIn]
    simp only [Sem.run_bind, run_underlying hu, Result.andThen_ok, tSz_run hE.sz, Std.Legacy.Range.forIn_eq_forIn_range', Std.Legacy.Range.size, Nat.sub_zero, Nat.add_sub_cancel, Nat.div_one]
    have key : ∀ (k j : Nat) (xs ys : List CV) (p q c2 d2 : List Value), xs.length = k → Sh.fitsR sh xs ys → CV.reps w F xs c2 → CV.reps w F ys d2 → p.length = j * sh.size → q.length = j * sh.size → cs = p ++ c2 → ds = q ++ d2 →
        ∀ w', (do
          let r ← forIn (List.range' j k 1) ((none, ()) : Option Bool × Unit) fun i _ => do
            let __do_lift ← part e cs.toArray (i * sh.size)
            let __do_lift_1 ← part e ds.toArray (i * sh.size)
            let __do_lift ← Op.equalIn d e __do_lift __do_lift_1
            if (!__do_lift) = true then pure (ForInStep.done (some false, ())) else pure (ForInStep.yield (none, ()))
          match r.fst with
            | some a => pure a
            | none => pure true : Sem Bool).run P w' = .ok (CV.eqvs xs ys) w' := by
      intro k
      induction k with
      | zero =>
        intro j xs ys p q c2 d2 hk hf g1 g2 hp hq e1 e2 w'
        have hx : xs = [] := List.eq_nil_of_length_eq_zero hk
        subst hx
        have hy : ys = [] := List.eq_nil_of_length_eq_zero (by have := (fitsR_at _ _ hf).1; simpa using this.symm)
        subst hy
        simp [CV.eqvs]
      | succ k ih =>
        intro j xs ys p q c2 d2 hk hf g1 g2 hp hq e1 e2 w'
        cases xs with
        | nil => simp at hk
        | cons x xs =>
          cases ys with
          | nil => simp [Sh.fitsR] at hf
          | cons y ys =>
            simp only [Sh.fitsR] at hf
            simp only [CV.reps] at g1 g2
            obtain ⟨c1, c3, rfl, g1, g3⟩ := g1
            obtain ⟨d1, d3, rfl, g2, g4⟩ := g2
            obtain ⟨s1, s2, a1, a2⟩ := hE.len _ _ hf.1
            have lc : c1.length = sh.size := by rw [CV.rep_len _ _ g1, s1]
            have ld : d1.length = sh.size := by rw [CV.rep_len _ _ g2, s2]
            have p1 := run_part hE.sz hE.ag hE.one p c1 c3 lc w'
            have p2 := run_part hE.sz hE.ag hE.one q d1 d3 ld w'
            rw [hp] at p1
            rw [hq] at p2
            rw [List.append_assoc, ← e1] at p1
            rw [List.append_assoc, ← e2] at p2
            have hrun := hm d (by simp only [Sh.depth] at hd; omega) w F x y c1 d1 hf.1 g1 g2 w'
            rw [List.range'_succ]
            simp only [List.forIn_cons, Sem.run_bind, p1, p2, hrun, Result.andThen_ok, CV.eqvs]
            cases hb : x.eqv y
            · simp
            · simp only [Bool.not_true, Bool.false_eq_true, if_false, Sem.run_bind, Sem.run_pure, Result.andThen_ok, Bool.true_and]
              have := ih (j + 1) xs ys (p ++ c1) (q ++ d1) c3 d3 (by simpa using hk) hf.2 g3 g4 (by rw [List.length_append, hp, lc, Nat.add_mul]; omega) (by rw [List.length_append, hq, ld, Nat.add_mul]; omega) (by rw [e1, List.append_assoc]) (by rw [e2, List.append_assoc]) w'
              simpa only [Sem.run_bind] using this
    have := key n 0 a b [] [] cs ds ha h h1 h2 (by simp) (by simp) (by simp) (by simp) w'
    simp only [Sem.run_bind] at this
    refine Eq.trans ?_ this
    simp
    congr 1
    funext a w''
    cases a.fst <;> rfl
end
end Go.Proofs.Ytcghjnegaiiieaa

/- SHA-256 as the program has it: the words of a block. -/
import Derived.Test.YtcghjnegaiiieaaShaD
import Derived.Outline
namespace Go.Proofs.Ytcghjnegaiiieaa
set_option linter.unusedSimpArgs false
open Go.RowKit
set_option maxRecDepth 100000 in
set_option maxHeartbeats 8000000 in
theorem spread_any (A : Option Addr) (c : Nat) (xs : List Int) (F : Nat → Prop) (w : World) (h : Ints w F .u8 A c xs) (hF : ∀ b, F b → b < w.heap.size) (hl : xs.length = 64) :
    Calls Try.prog 139 #[.slice A 64 c] w fun e w' => e = .returned (.agg (nums .u32 (spF xs 64)).toArray) ∧ Kept Nob w w' := by
  go_enter Try.func139, Try.ntmps139
  go_wp2
  obtain ⟨W, hW⟩ : ∃ W, W = (w.alloc (.cells (nums .u32 (List.replicate 64 0)).toArray 185)).alloc (.cells (nums .u32 (List.replicate 64 0)).toArray 185) := ⟨_, rfl⟩
  have hb1 : W.heap[w.heap.size]? = some (.cells (nums .u32 (List.replicate 64 0)).toArray 185 (0, 0)) := by rw [hW]; exact blk_alloc (heap_alloc_new _ _) _
  have hb2 : W.heap[w.heap.size + 1]? = some (.cells (nums .u32 (List.replicate 64 0)).toArray 185 (0, 0)) := by rw [hW]; exact blk_new_at (by simp)
  have HK : Hid (Kept Nob w W) := hidden (by rw [hW]; exact (by repeat (first | exact Kept.refl _ _ | apply Kept.alloc | apply Kept.drewN | apply Kept.drew)))
  have HX := hidden (h.keep HK.out (fun _ _ h => h))
  have HF := hidden hF
  have HWF := hidden h.wf
  have HB1 := hidden hb1
  have HB2 := hidden hb2
  have HSZ : Hid (W.heap.size = w.heap.size + 1 + 1) := hidden (by rw [hW]; simp)
  have hW' : W = (w.alloc (.cells #[.int .u32 0, .int .u32 0, .int .u32 0, .int .u32 0, .int .u32 0, .int .u32 0, .int .u32 0, .int .u32 0, .int .u32 0, .int .u32 0, .int .u32 0, .int .u32 0, .int .u32 0, .int .u32 0, .int .u32 0, .int .u32 0, .int .u32 0, .int .u32 0, .int .u32 0, .int .u32 0, .int .u32 0, .int .u32 0, .int .u32 0, .int .u32 0, .int .u32 0, .int .u32 0, .int .u32 0, .int .u32 0, .int .u32 0, .int .u32 0, .int .u32 0, .int .u32 0, .int .u32 0, .int .u32 0, .int .u32 0, .int .u32 0, .int .u32 0, .int .u32 0, .int .u32 0, .int .u32 0, .int .u32 0, .int .u32 0, .int .u32 0, .int .u32 0, .int .u32 0, .int .u32 0, .int .u32 0, .int .u32 0, .int .u32 0, .int .u32 0, .int .u32 0, .int .u32 0, .int .u32 0, .int .u32 0, .int .u32 0, .int .u32 0, .int .u32 0, .int .u32 0, .int .u32 0, .int .u32 0, .int .u32 0, .int .u32 0, .int .u32 0, .int .u32 0] 185)).alloc (.cells #[.int .u32 0, .int .u32 0, .int .u32 0, .int .u32 0, .int .u32 0, .int .u32 0, .int .u32 0, .int .u32 0, .int .u32 0, .int .u32 0, .int .u32 0, .int .u32 0, .int .u32 0, .int .u32 0, .int .u32 0, .int .u32 0, .int .u32 0, .int .u32 0, .int .u32 0, .int .u32 0, .int .u32 0, .int .u32 0, .int .u32 0, .int .u32 0, .int .u32 0, .int .u32 0, .int .u32 0, .int .u32 0, .int .u32 0, .int .u32 0, .int .u32 0, .int .u32 0, .int .u32 0, .int .u32 0, .int .u32 0, .int .u32 0, .int .u32 0, .int .u32 0, .int .u32 0, .int .u32 0, .int .u32 0, .int .u32 0, .int .u32 0, .int .u32 0, .int .u32 0, .int .u32 0, .int .u32 0, .int .u32 0, .int .u32 0, .int .u32 0, .int .u32 0, .int .u32 0, .int .u32 0, .int .u32 0, .int .u32 0, .int .u32 0, .int .u32 0, .int .u32 0, .int .u32 0, .int .u32 0, .int .u32 0, .int .u32 0, .int .u32 0, .int .u32 0] 185) := hW
  rw [← hW']
  clear hW hW' h hb1 hb2 hF
  go_loopw [4, 10] (fun _ i wr => ∃ k : Nat, k ≤ 16 ∧ i = .int .i64 k ∧ wr.heap[w.heap.size + 1]? = some (.cells (nums .u32 (spF xs k)).toArray 185 (0, 0)) ∧ Kept (fun b => b = w.heap.size + 1) W wr) (fun _ i _ => 16 - (intOf i).toNat)
  case atStart => exact ⟨0, by omega, rfl, HB2.out, Kept.refl _ _⟩
  case round =>
    obtain ⟨k, hk, rfl, hbk, hst⟩ := hrel
    have HBK := hidden hbk
    have HST := hidden hst
    clear hbk hst
    have HXr := hidden (HX.out.keep HST.out (fun b hb h => by have := HF.out b hb; omega))
    by_cases hlt : k < 16
    · obtain ⟨m0, e0⟩ : ∃ m : Nat, 4 * (k : Int) = (m : Int) := ⟨4 * k, by omega⟩
      have l0 : m0 + 3 < xs.length := by omega
      have HM : Hid (4 * k = m0) := hidden (by omega)
      obtain ⟨ad, rfl, c0⟩ := HXr.out.rd m0 (by omega)
      obtain ⟨_, hh, c1⟩ := HXr.out.rd (m0 + 1) (by omega)
      cases hh
      obtain ⟨_, hh, c2⟩ := HXr.out.rd (m0 + 2) (by omega)
      cases hh
      obtain ⟨_, hh, c3⟩ := HXr.out.rd (m0 + 3) (by omega)
      cases hh
      rw [add_off ad _ (by omega)] at c1 c2 c3
      have cS := row_at HBK.out (i := k) (by have := (spF_ok xs k).1; omega)
      have fS := blk_frozen HBK.out k
      obtain ⟨b00, b01⟩ := byte_getD HWF.out m0
      obtain ⟨b10, b11⟩ := byte_getD HWF.out (m0 + 1)
      obtain ⟨b20, b21⟩ := byte_getD HWF.out (m0 + 2)
      obtain ⟨b30, b31⟩ := byte_getD HWF.out (m0 + 3)
      have HWD : Hid (wordF xs k = bits .or .u32 (bits .or .u32 (bits .or .u32 (xs.getD m0 0 * 16777216) (xs.getD (m0 + 1) 0 * 65536)) (xs.getD (m0 + 2) 0 * 256)) (xs.getD (m0 + 3) 0)) := hidden (by unfold wordF; rw [HM.out])
      generalize xs.getD m0 0 = p0 at c0 HWD b00 b01
      generalize xs.getD (m0 + 1) 0 = p1 at c1 HWD b10 b11
      generalize xs.getD (m0 + 2) 0 = p2 at c2 HWD b20 b21
      generalize xs.getD (m0 + 3) 0 = p3 at c3 HWD b30 b31
      generalize (spF xs k).getD k 0 = old at cS
      rw [hl] at l0
      go_wp2
      refine region_plan (.seg [0] (.seg [1] (.seg [2] (.seg [3] (.seg [4] (.seg [5] (.seg [6] (.seg [7] (.seg [8] (.seg [9] (.seg [10] (.seg [11] (.seg [12] (.seg [13] (.seg [14] (.seg [15] (.seg [16] (.seg [17] (.seg [18] (.seg [19] (.seg [20] (.seg [21] (.seg [22] (.seg [23] (.seg [24] (.seg [25] (.seg [26] (.seg [27] (.seg [28] (.seg [29] (.seg [30] (.seg [31] (.seg [32] (.seg [33] (.seg [34] (.eff 35 false .nil)))))))))))))))))))))))))))))))))))) (by kernel_rfl) ?_
      all_goals (refine plan_one (o := ?_) ?_ ?_ ?_; rotate_left; (simp only [List.getElem?_toArray, List.getElem?_cons_zero]; exact rfl); rfl; intro NX; (repeat' (first | go_step | go_upon)); all_goals (refine seg_end (by kernel_rfl) ?_; clear NX))
      all_goals (refine plan_one (o := ?_) ?_ ?_ ?_; rotate_left; (simp only [List.getElem?_toArray, List.getElem?_cons_succ, List.getElem?_cons_zero]; exact rfl); rfl; intro NX; (repeat' (first | go_step | go_upon)); all_goals (refine seg_end (by kernel_rfl) ?_; clear NX))
      all_goals (refine plan_one (o := ?_) ?_ ?_ ?_; rotate_left; (simp only [List.getElem?_toArray, List.getElem?_cons_succ, List.getElem?_cons_zero]; exact rfl); rfl; intro NX; (repeat' (first | go_step | go_upon)); all_goals (refine seg_end (by kernel_rfl) ?_; clear NX))
      all_goals (refine plan_one (o := ?_) ?_ ?_ ?_; rotate_left; (simp only [List.getElem?_toArray, List.getElem?_cons_succ, List.getElem?_cons_zero]; exact rfl); rfl; intro NX; (repeat' (first | go_step | go_upon)); all_goals (refine seg_end (by kernel_rfl) ?_; clear NX))
      all_goals (refine plan_one (o := ?_) ?_ ?_ ?_; rotate_left; (simp only [List.getElem?_toArray, List.getElem?_cons_succ, List.getElem?_cons_zero]; exact rfl); rfl; intro NX; (repeat' (first | go_step | go_upon)); all_goals (refine seg_end (by kernel_rfl) ?_; clear NX))
      all_goals (refine plan_one (o := ?_) ?_ ?_ ?_; rotate_left; (simp only [List.getElem?_toArray, List.getElem?_cons_succ, List.getElem?_cons_zero]; exact rfl); rfl; intro NX; (repeat' (first | go_step | go_upon)); all_goals (refine seg_end (by kernel_rfl) ?_; clear NX))
      all_goals (refine plan_one (o := ?_) ?_ ?_ ?_; rotate_left; (simp only [List.getElem?_toArray, List.getElem?_cons_succ, List.getElem?_cons_zero]; exact rfl); rfl; intro NX; (repeat' (first | go_step | go_upon)); all_goals (refine seg_end (by kernel_rfl) ?_; clear NX))
      all_goals (refine plan_one (o := ?_) ?_ ?_ ?_; rotate_left; (simp only [List.getElem?_toArray, List.getElem?_cons_succ, List.getElem?_cons_zero]; exact rfl); rfl; intro NX; (repeat' (first | go_step | go_upon)); all_goals (refine seg_end (by kernel_rfl) ?_; clear NX))
      all_goals (refine plan_one (o := ?_) ?_ ?_ ?_; rotate_left; (simp only [List.getElem?_toArray, List.getElem?_cons_succ, List.getElem?_cons_zero]; exact rfl); rfl; intro NX; (repeat' (first | go_step | go_upon)); all_goals (refine seg_end (by kernel_rfl) ?_; clear NX))
      all_goals (refine plan_one (o := ?_) ?_ ?_ ?_; rotate_left; (simp only [List.getElem?_toArray, List.getElem?_cons_succ, List.getElem?_cons_zero]; exact rfl); rfl; intro NX; (repeat' (first | go_step | go_upon)); all_goals (refine seg_end (by kernel_rfl) ?_; clear NX))
      all_goals (refine plan_one (o := ?_) ?_ ?_ ?_; rotate_left; (simp only [List.getElem?_toArray, List.getElem?_cons_succ, List.getElem?_cons_zero]; exact rfl); rfl; intro NX; (repeat' (first | go_step | go_upon)); all_goals (refine seg_end (by kernel_rfl) ?_; clear NX))
      all_goals (refine plan_one (o := ?_) ?_ ?_ ?_; rotate_left; (simp only [List.getElem?_toArray, List.getElem?_cons_succ, List.getElem?_cons_zero]; exact rfl); rfl; intro NX; (repeat' (first | go_step | go_upon)); all_goals (refine seg_end (by kernel_rfl) ?_; clear NX))
      all_goals (refine plan_one (o := ?_) ?_ ?_ ?_; rotate_left; (simp only [List.getElem?_toArray, List.getElem?_cons_succ, List.getElem?_cons_zero]; exact rfl); rfl; intro NX; (repeat' (first | go_step | go_upon)); all_goals (refine seg_end (by kernel_rfl) ?_; clear NX))
      all_goals (refine plan_one (o := ?_) ?_ ?_ ?_; rotate_left; (simp only [List.getElem?_toArray, List.getElem?_cons_succ, List.getElem?_cons_zero]; exact rfl); rfl; intro NX; (repeat' (first | go_step | go_upon)); all_goals (refine seg_end (by kernel_rfl) ?_; clear NX))
      all_goals (refine plan_one (o := ?_) ?_ ?_ ?_; rotate_left; (simp only [List.getElem?_toArray, List.getElem?_cons_succ, List.getElem?_cons_zero]; exact rfl); rfl; intro NX; (repeat' (first | go_step | go_upon)); all_goals (refine seg_end (by kernel_rfl) ?_; clear NX))
      all_goals (refine plan_one (o := ?_) ?_ ?_ ?_; rotate_left; (simp only [List.getElem?_toArray, List.getElem?_cons_succ, List.getElem?_cons_zero]; exact rfl); rfl; intro NX; (repeat' (first | go_step | go_upon)); all_goals (refine seg_end (by kernel_rfl) ?_; clear NX))
      all_goals (refine plan_one (o := ?_) ?_ ?_ ?_; rotate_left; (simp only [List.getElem?_toArray, List.getElem?_cons_succ, List.getElem?_cons_zero]; exact rfl); rfl; intro NX; (repeat' (first | go_step | go_upon)); all_goals (refine seg_end (by kernel_rfl) ?_; clear NX))
      all_goals (refine plan_one (o := ?_) ?_ ?_ ?_; rotate_left; (simp only [List.getElem?_toArray, List.getElem?_cons_succ, List.getElem?_cons_zero]; exact rfl); rfl; intro NX; (repeat' (first | go_step | go_upon)); all_goals (refine seg_end (by kernel_rfl) ?_; clear NX))
      all_goals (refine plan_one (o := ?_) ?_ ?_ ?_; rotate_left; (simp only [List.getElem?_toArray, List.getElem?_cons_succ, List.getElem?_cons_zero]; exact rfl); rfl; intro NX; (repeat' (first | go_step | go_upon)); all_goals (refine seg_end (by kernel_rfl) ?_; clear NX))
      all_goals (refine plan_one (o := ?_) ?_ ?_ ?_; rotate_left; (simp only [List.getElem?_toArray, List.getElem?_cons_succ, List.getElem?_cons_zero]; exact rfl); rfl; intro NX; (repeat' (first | go_step | go_upon)); all_goals (refine seg_end (by kernel_rfl) ?_; clear NX))
      all_goals (refine plan_one (o := ?_) ?_ ?_ ?_; rotate_left; (simp only [List.getElem?_toArray, List.getElem?_cons_succ, List.getElem?_cons_zero]; exact rfl); rfl; intro NX; (repeat' (first | go_step | go_upon)); all_goals (refine seg_end (by kernel_rfl) ?_; clear NX))
      all_goals (refine plan_one (o := ?_) ?_ ?_ ?_; rotate_left; (simp only [List.getElem?_toArray, List.getElem?_cons_succ, List.getElem?_cons_zero]; exact rfl); rfl; intro NX; (repeat' (first | go_step | go_upon)); all_goals (refine seg_end (by kernel_rfl) ?_; clear NX))
      all_goals (refine plan_one (o := ?_) ?_ ?_ ?_; rotate_left; (simp only [List.getElem?_toArray, List.getElem?_cons_succ, List.getElem?_cons_zero]; exact rfl); rfl; intro NX; (repeat' (first | go_step | go_upon)); all_goals (refine seg_end (by kernel_rfl) ?_; clear NX))
      all_goals (refine plan_one (o := ?_) ?_ ?_ ?_; rotate_left; (simp only [List.getElem?_toArray, List.getElem?_cons_succ, List.getElem?_cons_zero]; exact rfl); rfl; intro NX; (repeat' (first | go_step | go_upon)); all_goals (refine seg_end (by kernel_rfl) ?_; clear NX))
      all_goals (refine plan_one (o := ?_) ?_ ?_ ?_; rotate_left; (simp only [List.getElem?_toArray, List.getElem?_cons_succ, List.getElem?_cons_zero]; exact rfl); rfl; intro NX; (repeat' (first | go_step | go_upon)); all_goals (refine seg_end (by kernel_rfl) ?_; clear NX))
      all_goals (refine plan_one (o := ?_) ?_ ?_ ?_; rotate_left; (simp only [List.getElem?_toArray, List.getElem?_cons_succ, List.getElem?_cons_zero]; exact rfl); rfl; intro NX; (repeat' (first | go_step | go_upon)); all_goals (refine seg_end (by kernel_rfl) ?_; clear NX))
      all_goals (refine plan_one (o := ?_) ?_ ?_ ?_; rotate_left; (simp only [List.getElem?_toArray, List.getElem?_cons_succ, List.getElem?_cons_zero]; exact rfl); rfl; intro NX; (repeat' (first | go_step | go_upon)); all_goals (refine seg_end (by kernel_rfl) ?_; clear NX))
      all_goals (refine plan_one (o := ?_) ?_ ?_ ?_; rotate_left; (simp only [List.getElem?_toArray, List.getElem?_cons_succ, List.getElem?_cons_zero]; exact rfl); rfl; intro NX; (repeat' (first | go_step | go_upon)); all_goals (refine seg_end (by kernel_rfl) ?_; clear NX))
      all_goals (refine plan_one (o := ?_) ?_ ?_ ?_; rotate_left; (simp only [List.getElem?_toArray, List.getElem?_cons_succ, List.getElem?_cons_zero]; exact rfl); rfl; intro NX; (repeat' (first | go_step | go_upon)); all_goals (refine seg_end (by kernel_rfl) ?_; clear NX))
      all_goals (refine plan_one (o := ?_) ?_ ?_ ?_; rotate_left; (simp only [List.getElem?_toArray, List.getElem?_cons_succ, List.getElem?_cons_zero]; exact rfl); rfl; intro NX; (repeat' (first | go_step | go_upon)); all_goals (refine seg_end (by kernel_rfl) ?_; clear NX))
      all_goals (refine plan_one (o := ?_) ?_ ?_ ?_; rotate_left; (simp only [List.getElem?_toArray, List.getElem?_cons_succ, List.getElem?_cons_zero]; exact rfl); rfl; intro NX; (repeat' (first | go_step | go_upon)); all_goals (refine seg_end (by kernel_rfl) ?_; clear NX))
      all_goals (refine plan_one (o := ?_) ?_ ?_ ?_; rotate_left; (simp only [List.getElem?_toArray, List.getElem?_cons_succ, List.getElem?_cons_zero]; exact rfl); rfl; intro NX; (repeat' (first | go_step | go_upon)); all_goals (refine seg_end (by kernel_rfl) ?_; clear NX))
      all_goals (refine plan_one (o := ?_) ?_ ?_ ?_; rotate_left; (simp only [List.getElem?_toArray, List.getElem?_cons_succ, List.getElem?_cons_zero]; exact rfl); rfl; intro NX; (repeat' (first | go_step | go_upon)); all_goals (refine seg_end (by kernel_rfl) ?_; clear NX))
      all_goals (refine plan_one (o := ?_) ?_ ?_ ?_; rotate_left; (simp only [List.getElem?_toArray, List.getElem?_cons_succ, List.getElem?_cons_zero]; exact rfl); rfl; intro NX; (repeat' (first | go_step | go_upon)); all_goals (refine seg_end (by kernel_rfl) ?_; clear NX))
      all_goals (refine plan_one (o := ?_) ?_ ?_ ?_; rotate_left; (simp only [List.getElem?_toArray, List.getElem?_cons_succ, List.getElem?_cons_zero]; exact rfl); rfl; intro NX; (repeat' (first | go_step | go_upon)); all_goals (refine seg_end (by kernel_rfl) ?_; clear NX))
      all_goals (refine plan_eff (o := ?_) ?_ ?_; rotate_left; (simp only [List.getElem?_toArray, List.getElem?_cons_succ, List.getElem?_cons_zero]; exact rfl); intro NX)
      all_goals go_wp2_with (fail)
      all_goals refine eff_free ?_
      all_goals refine plan_nil ?_
      go_wp2
      go_roundw
      case rel => exact ⟨k + 1, by omega, by go_num, by have := row_set HBK.out k (wordF xs k); rw [HWD.out] at this; unfold spF; rw [if_pos hlt]; rw [HWD.out]; exact this, (HST.out.setCell (fun _ => rfl) _).drew⟩
      case measure => simp [intOf]; omega
    · have HK16 : Hid (k = 16) := hidden (by omega)
      go_wp2
      go_loopw [5, 6, 7, 8, 9] (fun i _ _ _ _ w2 => ∃ k : Nat, k ≤ 64 ∧ 16 ≤ k ∧ i = .int .i64 k ∧ w2.heap[w.heap.size + 1]? = some (.cells (nums .u32 (spF xs k)).toArray 185 (0, 0)) ∧ Kept (fun b => b = w.heap.size + 1) W w2) (fun i _ _ _ _ _ => 64 - (intOf i).toNat)
      case atStart => exact ⟨16, by omega, by omega, rfl, by have := HBK.out; rw [HK16.out] at this; exact this, HST.out⟩
      case round =>
        obtain ⟨i, hi, hi16, rfl, hbk, hst⟩ := hrel
        rename_i w2 _ _
        have HB := hidden hbk
        have HS := hidden hst
        have HLW := hidden (spF_ok xs i).1
        have HUW := hidden (spF_ok xs i).2
        clear hbk hst HBK HST
        by_cases hlt : i < 64
        · obtain ⟨a15, e15⟩ : ∃ m : Nat, (i : Int) - 15 = (m : Int) := ⟨i - 15, by omega⟩
          obtain ⟨a2, e2⟩ : ∃ m : Nat, (i : Int) - 2 = (m : Int) := ⟨i - 2, by omega⟩
          obtain ⟨a16, e16⟩ : ∃ m : Nat, (i : Int) - 16 = (m : Int) := ⟨i - 16, by omega⟩
          obtain ⟨a7, e7⟩ : ∃ m : Nat, (i : Int) - 7 = (m : Int) := ⟨i - 7, by omega⟩
          have l15 : a15 < 64 := by omega
          have l2 : a2 < 64 := by omega
          have l16 : a16 < 64 := by omega
          have l7 : a7 < 64 := by omega
          have HN : Hid (nxtF (spF xs i) i = ((spF xs i).getD a16 0 + bits .xor .u32 (bits .xor .u32 (rotF ((spF xs i).getD a15 0) 25) (rotF ((spF xs i).getD a15 0) 14)) ((spF xs i).getD a15 0 / 8) + (spF xs i).getD a7 0
    + bits .xor .u32 (bits .xor .u32 (rotF ((spF xs i).getD a2 0) 15) (rotF ((spF xs i).getD a2 0) 13)) ((spF xs i).getD a2 0 / 1024)) % 4294967296) := hidden (by
            unfold nxtF
            rw [show i - 15 = a15 from by omega, show i - 2 = a2 from by omega, show i - 16 = a16 from by omega, show i - 7 = a7 from by omega])
          have c15 := row_at HB.out (i := a15) (by have := HLW.out; omega)
          have c2 := row_at HB.out (i := a2) (by have := HLW.out; omega)
          have c16 := row_at HB.out (i := a16) (by have := HLW.out; omega)
          have c7 := row_at HB.out (i := a7) (by have := HLW.out; omega)
          have cS := row_at HB.out (i := i) (by have := HLW.out; omega)
          have fS := blk_frozen HB.out i
          obtain ⟨b00, b01⟩ := u32_getD HUW.out a15
          obtain ⟨b10, b11⟩ := u32_getD HUW.out a2
          obtain ⟨b20, b21⟩ := u32_getD HUW.out a16
          obtain ⟨b30, b31⟩ := u32_getD HUW.out a7
          generalize (spF xs i).getD a15 0 = p15 at c15 b00 b01 HN
          generalize (spF xs i).getD a2 0 = p2 at c2 b10 b11 HN
          generalize (spF xs i).getD a16 0 = p16 at c16 b20 b21 HN
          generalize (spF xs i).getD a7 0 = p7 at c7 b30 b31 HN
          generalize (spF xs i).getD i 0 = old at cS
          go_wp2
          refine region_plan (.seg [0] (.seg [1] (.seg [2] (.seg [3] (.seg [4] (.seg [5] (.seg [6] (.seg [7] (.seg [8] (.seg [9] .nil)))))))))) (by kernel_rfl) ?_
          all_goals (refine plan_one (o := ?_) ?_ ?_ ?_; rotate_left; (simp only [List.getElem?_toArray, List.getElem?_cons_zero]; exact rfl); rfl; intro NX; (repeat' (first | go_step | go_upon)); all_goals (refine seg_end (by kernel_rfl) ?_; clear NX))
          all_goals (refine plan_one (o := ?_) ?_ ?_ ?_; rotate_left; (simp only [List.getElem?_toArray, List.getElem?_cons_succ, List.getElem?_cons_zero]; exact rfl); rfl; intro NX; (repeat' (first | go_step | go_upon)); all_goals (refine seg_end (by kernel_rfl) ?_; clear NX))
          all_goals (refine plan_one (o := ?_) ?_ ?_ ?_; rotate_left; (simp only [List.getElem?_toArray, List.getElem?_cons_succ, List.getElem?_cons_zero]; exact rfl); rfl; intro NX; (repeat' (first | go_step | go_upon)); all_goals (refine seg_end (by kernel_rfl) ?_; clear NX))
          all_goals (refine plan_one (o := ?_) ?_ ?_ ?_; rotate_left; (simp only [List.getElem?_toArray, List.getElem?_cons_succ, List.getElem?_cons_zero]; exact rfl); rfl; intro NX; (repeat' (first | go_step | go_upon)); all_goals (refine seg_end (by kernel_rfl) ?_; clear NX))
          all_goals (refine plan_one (o := ?_) ?_ ?_ ?_; rotate_left; (simp only [List.getElem?_toArray, List.getElem?_cons_succ, List.getElem?_cons_zero]; exact rfl); rfl; intro NX; (repeat' (first | go_step | go_upon)); all_goals (refine seg_end (by kernel_rfl) ?_; clear NX))
          all_goals (refine plan_one (o := ?_) ?_ ?_ ?_; rotate_left; (simp only [List.getElem?_toArray, List.getElem?_cons_succ, List.getElem?_cons_zero]; exact rfl); rfl; intro NX; (repeat' (first | go_step | go_upon)); all_goals (refine seg_end (by kernel_rfl) ?_; clear NX))
          all_goals (refine plan_one (o := ?_) ?_ ?_ ?_; rotate_left; (simp only [List.getElem?_toArray, List.getElem?_cons_succ, List.getElem?_cons_zero]; exact rfl); rfl; intro NX; (repeat' (first | go_step | go_upon)); all_goals (refine seg_end (by kernel_rfl) ?_; clear NX))
          all_goals (refine plan_one (o := ?_) ?_ ?_ ?_; rotate_left; (simp only [List.getElem?_toArray, List.getElem?_cons_succ, List.getElem?_cons_zero]; exact rfl); rfl; intro NX; (repeat' (first | go_step | go_upon)); all_goals (refine seg_end (by kernel_rfl) ?_; clear NX))
          all_goals (refine plan_one (o := ?_) ?_ ?_ ?_; rotate_left; (simp only [List.getElem?_toArray, List.getElem?_cons_succ, List.getElem?_cons_zero]; exact rfl); rfl; intro NX; (repeat' (first | go_step | go_upon)); all_goals (refine seg_end (by kernel_rfl) ?_; clear NX))
          all_goals (refine plan_one (o := ?_) ?_ ?_ ?_; rotate_left; (simp only [List.getElem?_toArray, List.getElem?_cons_succ, List.getElem?_cons_zero]; exact rfl); rfl; intro NX; (repeat' (first | go_step | go_upon)); all_goals (refine seg_end (by kernel_rfl) ?_; clear NX))
          all_goals refine plan_nil ?_
          go_wp2_with (go_at_call 140; (first | (with_reducible refine (rot_any _ (-7) 25 _ (by omega) (by omega) (by decide) (by decide)).mono ?_) | (with_reducible refine (rot_any _ (-18) 14 _ (by omega) (by omega) (by decide) (by decide)).mono ?_) | (with_reducible refine (rot_any _ (-17) 15 _ (by omega) (by omega) (by decide) (by decide)).mono ?_) | (with_reducible refine (rot_any _ (-19) 13 _ (by omega) (by omega) (by decide) (by decide)).mono ?_)); rintro e w3 ⟨rfl, rfl⟩)
          refine region_plan (.seg [0] (.seg [1] (.seg [2] (.seg [3] (.seg [4] (.seg [5] (.seg [6] (.seg [7] (.seg [8] (.seg [9] (.seg [10] (.seg [11] (.seg [12] (.seg [13] (.seg [14] (.eff 15 false .nil)))))))))))))))) (by kernel_rfl) ?_
          all_goals (refine plan_one (o := ?_) ?_ ?_ ?_; rotate_left; (simp only [List.getElem?_toArray, List.getElem?_cons_zero]; exact rfl); rfl; intro NX; (repeat' (first | go_step | go_upon)); all_goals (refine seg_end (by kernel_rfl) ?_; clear NX))
          all_goals (refine plan_one (o := ?_) ?_ ?_ ?_; rotate_left; (simp only [List.getElem?_toArray, List.getElem?_cons_succ, List.getElem?_cons_zero]; exact rfl); rfl; intro NX; (repeat' (first | go_step | go_upon)); all_goals (refine seg_end (by kernel_rfl) ?_; clear NX))
          all_goals (refine plan_one (o := ?_) ?_ ?_ ?_; rotate_left; (simp only [List.getElem?_toArray, List.getElem?_cons_succ, List.getElem?_cons_zero]; exact rfl); rfl; intro NX; (repeat' (first | go_step | go_upon)); all_goals (refine seg_end (by kernel_rfl) ?_; clear NX))
          all_goals (refine plan_one (o := ?_) ?_ ?_ ?_; rotate_left; (simp only [List.getElem?_toArray, List.getElem?_cons_succ, List.getElem?_cons_zero]; exact rfl); rfl; intro NX; (repeat' (first | go_step | go_upon)); all_goals (refine seg_end (by kernel_rfl) ?_; clear NX))
          all_goals (refine plan_one (o := ?_) ?_ ?_ ?_; rotate_left; (simp only [List.getElem?_toArray, List.getElem?_cons_succ, List.getElem?_cons_zero]; exact rfl); rfl; intro NX; (repeat' (first | go_step | go_upon)); all_goals (refine seg_end (by kernel_rfl) ?_; clear NX))
          all_goals (refine plan_one (o := ?_) ?_ ?_ ?_; rotate_left; (simp only [List.getElem?_toArray, List.getElem?_cons_succ, List.getElem?_cons_zero]; exact rfl); rfl; intro NX; (repeat' (first | go_step | go_upon)); all_goals (refine seg_end (by kernel_rfl) ?_; clear NX))
          all_goals (refine plan_one (o := ?_) ?_ ?_ ?_; rotate_left; (simp only [List.getElem?_toArray, List.getElem?_cons_succ, List.getElem?_cons_zero]; exact rfl); rfl; intro NX; (repeat' (first | go_step | go_upon)); all_goals (refine seg_end (by kernel_rfl) ?_; clear NX))
          all_goals (refine plan_one (o := ?_) ?_ ?_ ?_; rotate_left; (simp only [List.getElem?_toArray, List.getElem?_cons_succ, List.getElem?_cons_zero]; exact rfl); rfl; intro NX; (repeat' (first | go_step | go_upon)); all_goals (refine seg_end (by kernel_rfl) ?_; clear NX))
          all_goals (refine plan_one (o := ?_) ?_ ?_ ?_; rotate_left; (simp only [List.getElem?_toArray, List.getElem?_cons_succ, List.getElem?_cons_zero]; exact rfl); rfl; intro NX; (repeat' (first | go_step | go_upon)); all_goals (refine seg_end (by kernel_rfl) ?_; clear NX))
          all_goals (refine plan_one (o := ?_) ?_ ?_ ?_; rotate_left; (simp only [List.getElem?_toArray, List.getElem?_cons_succ, List.getElem?_cons_zero]; exact rfl); rfl; intro NX; (repeat' (first | go_step | go_upon)); all_goals (refine seg_end (by kernel_rfl) ?_; clear NX))
          all_goals (refine plan_one (o := ?_) ?_ ?_ ?_; rotate_left; (simp only [List.getElem?_toArray, List.getElem?_cons_succ, List.getElem?_cons_zero]; exact rfl); rfl; intro NX; (repeat' (first | go_step | go_upon)); all_goals (refine seg_end (by kernel_rfl) ?_; clear NX))
          all_goals (refine plan_one (o := ?_) ?_ ?_ ?_; rotate_left; (simp only [List.getElem?_toArray, List.getElem?_cons_succ, List.getElem?_cons_zero]; exact rfl); rfl; intro NX; (repeat' (first | go_step | go_upon)); all_goals (refine seg_end (by kernel_rfl) ?_; clear NX))
          all_goals (refine plan_one (o := ?_) ?_ ?_ ?_; rotate_left; (simp only [List.getElem?_toArray, List.getElem?_cons_succ, List.getElem?_cons_zero]; exact rfl); rfl; intro NX; (repeat' (first | go_step | go_upon)); all_goals (refine seg_end (by kernel_rfl) ?_; clear NX))
          all_goals (refine plan_one (o := ?_) ?_ ?_ ?_; rotate_left; (simp only [List.getElem?_toArray, List.getElem?_cons_succ, List.getElem?_cons_zero]; exact rfl); rfl; intro NX; (repeat' (first | go_step | go_upon)); all_goals (refine seg_end (by kernel_rfl) ?_; clear NX))
          all_goals (refine plan_one (o := ?_) ?_ ?_ ?_; rotate_left; (simp only [List.getElem?_toArray, List.getElem?_cons_succ, List.getElem?_cons_zero]; exact rfl); rfl; intro NX; (repeat' (first | go_step | go_upon)); all_goals (refine seg_end (by kernel_rfl) ?_; clear NX))
          all_goals (refine plan_eff (o := ?_) ?_ ?_; rotate_left; (simp only [List.getElem?_toArray, List.getElem?_cons_succ, List.getElem?_cons_zero]; exact rfl); intro NX)
          all_goals go_wp2_with (fail)
          all_goals refine eff_free ?_
          all_goals refine plan_nil ?_
          go_wp2
          go_roundw
          case rel => exact ⟨i + 1, by omega, by omega, by go_num, by have := row_set HB.out i (nxtF (spF xs i) i); rw [HN.out] at this; unfold spF; rw [if_neg (by omega), HN.out]; exact this, (HS.out.setCell (fun _ => rfl) _).drew.drew⟩
          case measure => simp [intOf]; omega
        · have HI64 : Hid (i = 64) := hidden (by omega)
          have HBR := hidden (HS.out.blk HB1.out (by omega))
          go_wp2_with (first
            | ((with_reducible refine load_lit agg64 (.tmp 3) ⟨w.heap.size + 1, 0, none⟩ (nums .u32 (spF xs i)) ?_ ?_ ?_ ?_ ?_); rfl; rfl; exact (nums_length _ _).trans HLW.out; exact row_cells HB.out)
            | ((with_reducible refine store_lit agg64 (.tmp 2) (.tmp 92) w.heap.size (nums .u32 (spF xs i)) ?_ ?_ ?_ ?_ ?_ ?_ ?_); rfl; rfl; rfl; exact (nums_length _ _).trans HLW.out; exact nums_oneC _ _; exact ⟨_, _, HBR.out, by simp [nums_length]⟩; intro w9 hb9 hk9; have HB9 := hidden hb9; have HK9 := hidden hk9; clear hb9 hk9))
          obtain ⟨t9, hb9⟩ := HB9.out
          refine bodyPost_ret (results_cell_row rfl _ _ w.heap.size _ _ _ _ rfl hb9 Try.underlying185 rfl (by rw [show (nums IntKind.u32 (spF xs i)).toArray.size = 64 by simp [nums_length, HLW.out]]; kernel_rfl)) rfl ⟨by rw [HI64.out], ?_⟩
          exact Kept.then (HK.out) (Kept.trans (HS.out.mono (S' := fun b => b = w.heap.size + 1 ∨ b = w.heap.size) (fun _ _ h => .inl h)) (HK9.out.mono (fun _ _ h => .inr h))) (fun b hb h => by rcases h with h | h <;> omega)
end Go.Proofs.Ytcghjnegaiiieaa

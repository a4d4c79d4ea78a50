/- The out to a key, and which outs are a key's alone (layer 7): the law. -/
import Derived.Test.YtcghjnegaiiieaaLock7
namespace Go.Proofs.Ytcghjnegaiiieaa
open Go.RowKit

theorem sameWay_refl (x : Way) : sameWay x x = true := by unfold sameWay; simp
theorem same_lit (k a : Int) (w : World) (A B : Option Addr) (c d : Nat) (ha : Ways w Any A c [wayTo k]) (hb : Ways w Any B d [wayTo k]) :
    Calls Try.prog 25 #[.agg #[.int .i64 a, .slice A 1 c], .agg #[.int .i64 a, .slice B 1 d]] w fun e w' => e = .returned (.bool true) ∧ Kept Nob w w' :=
  (same_any (outTo k a) (outTo k a) A B c d Any w ha hb).mono fun e w' ⟨he, hk⟩ => ⟨by
    rw [he]
    refine ret_bool ?_
    unfold sameOut outTo sameWays
    rw [sameWay_refl]
    simp [sameWays], hk⟩
theorem soleB_other {xs : List Way} (key : Int) (h : xs.length ≠ 1) : soleB xs key = false := by
  match xs, h with
  | [], _ => rfl
  | [_], h => exact absurd rfl h
  | _ :: _ :: _, _ => rfl

set_option maxRecDepth 100000 in
set_option maxHeartbeats 16000000 in
theorem lockSoles_any (a key amount : Int) (A : Option Addr) (c : Nat) (xs : List Way) (w : World) (h : Ways w Any A c xs) (hkw : (Lit.int .i64 key).wf = true) (haw : (Lit.int .i64 amount).wf = true) :
    Calls Try.prog 4 #[.agg #[.int .i64 a, .slice A xs.length c], .int .i64 key, .int .i64 amount] w fun e w' => e = .returned (.bool true) ∧ Kept Nob w w' := by
  have hK0 : Kept Nob w (w.alloc (.cells #[.int .i64 a, .slice A xs.length c] 38)) := Kept.alloc (Kept.refl _ _) _
  have H := hidden (h.keep hK0 (fun _ _ h => h))
  have HSM := hidden (small_any a A c xs Any _ H.out)
  have hmax := h.max
  have hle := h.le
  unfold maxLen at hmax
  have HAW := hidden awake07
  have HK := hidden hK0
  have HBX : Hid ((w.alloc (.cells #[.int .i64 a, .slice A xs.length c] 38)).heap[w.heap.size]? = some (.cells #[.int .i64 a, .slice A xs.length c] 38 (0, 0))) := hidden (heap_alloc_new w _)
  have HTO := hidden (fun W => to_lit key amount W hkw haw)
  clear h hK0 haw
  have HSOL := hidden (fun W (hW : Ways W Any A c xs) => sole_any a key A c xs Any W hW)
  by_cases hs : smallB xs = true
  · rw [hs] at HSM
    clear hs
    have HKW := hidden hkw
    clear hkw
    by_cases hl : xs.length = 1
    · match xs, hl with
      | [x], _ =>
        obtain ⟨ad, B, d, rfl, _, hcw, hi, hok⟩ := H.out.at_ 0 (by simp)
        have hcw : ∀ j u, (wayCells B d x)[j]? = some u → (w.alloc (.cells #[.int .i64 a, .slice (some ad) 1 c] 38)).cell? (ad.add j) = some u := hcw
        have HCW := hidden hcw
        have HSM : Hid (Calls Try.prog 22 #[.agg #[.int .i64 a, .slice (some ad) 1 c]] (w.alloc (.cells #[.int .i64 a, .slice (some ad) 1 c] 38)) fun e w' => e = .returned (.bool true) ∧ Kept Nob (w.alloc (.cells #[.int .i64 a, .slice (some ad) 1 c] 38)) w') := HSM
        have HBX : Hid ((w.alloc (.cells #[.int .i64 a, .slice (some ad) 1 c] 38)).heap[w.heap.size]? = some (.cells #[.int .i64 a, .slice (some ad) 1 c] 38 (0, 0))) := HBX
        have HSOL : Hid (∀ W : World, Ways W Any (some ad) c [x] → Calls Try.prog 24 #[.agg #[.int .i64 a, .slice (some ad) 1 c], .int .i64 key] W fun e w' => e = .returned (.bool (soleB [x] key)) ∧ Kept Nob W w') := HSOL
        have H : Hid (Ways (w.alloc (.cells #[.int .i64 a, .slice (some ad) 1 c] 38)) Any (some ad) c [x]) := H
        have HK : Hid (Kept Nob w (w.alloc (.cells #[.int .i64 a, .slice (some ad) 1 c] 38))) := HK
        show Calls Try.prog 4 #[.agg #[.int .i64 a, .slice (some ad) 1 c], .int .i64 key, .int .i64 amount] w _
        have HOK : Hid (WayOk x) := hidden hok
        have HI : Hid (Ints (w.alloc (.cells #[.int .i64 a, .slice (some ad) 1 c] 38)) Any .i64 B d x.keys) := hidden hi
        have HRW := hidden (RWay.mk' HI.out HOK.out)
        have hs1 : soleB [x] key = (x.keys == [key] && x.hash == zero32 && x.after == 0 && x.wait == 0) := rfl
        have HS1 := hidden hs1
        have eqZ := eqlZero x.hash HOK.out.hl
        clear hcw hi hok hs1
        by_cases hk : x.keys.length = 1
        · obtain ⟨q, hq⟩ : ∃ q, x.keys = [q] := List.length_eq_one_iff.1 hk
          obtain ⟨bd, hB, hcq⟩ := HI.out.rd 0 (by omega)
          subst hB
          rw [hq] at hcq
          have HCQ : Hid ((w.alloc (.cells #[.int .i64 a, .slice (some ad) 1 c] 38)).cell? bd = some (.int .i64 q)) := hidden hcq
          have HQ := hidden hq
          have e1 : (x.keys == [key]) = (q == key) := by rw [HQ.out]; simp
          rw [e1] at HS1
          have HKL := hidden hk
          clear hcq hq hk e1
          generalize (x.hash == zero32) = b3 at eqZ HS1
          obtain ⟨b2, hb2⟩ : ∃ b, (q == key) = b := ⟨_, rfl⟩
          obtain ⟨b4, hb4⟩ : ∃ b, (x.after == 0) = b := ⟨_, rfl⟩
          obtain ⟨b5, hb5⟩ : ∃ b, (x.wait == 0) = b := ⟨_, rfl⟩
          rw [hb2, hb4, hb5] at HS1
          have hcase : (b2 = false) ∨ (b2 = true ∧ b3 = false) ∨ (b2 = true ∧ b3 = true ∧ b4 = false) ∨ (b2 = true ∧ b3 = true ∧ b4 = true) := by cases b2 <;> cases b3 <;> cases b4 <;> simp
          rcases hcase with hz | ⟨hz, hz2⟩ | ⟨hz, hz2, hz3⟩ | ⟨hz, hz2, hz3⟩
          all_goals
            subst hz
            try subst hz2
            try subst hz3
            first | (have HSB : Hid (soleB [x] key = false) := hidden (by rw [HS1.out]; rfl)) | (have HSB : Hid (soleB [x] key = b5) := hidden (by rw [HS1.out]; rfl))
            go_enter Try.func4, Try.ntmps4
            go_wp2_with (first | (go_at_call 22; (with_reducible refine HSM.out.mono ?_); rintro e w1 ⟨rfl, hk1⟩; have HKA := hidden hk1; have b1 := (blk_cell (hk1.blk HBX.out (fun h => h)) 1).trans rfl;  clear hk1) | ((with_reducible refine load_lit aggWay (.tmp 21) ad (wayCells (some bd) d x) ?_ ?_ ?_ ?_ ?_); rfl; rfl; exact way_len HOK.out; exact (fun j u hj => HKA.out.at (HCW.out j u hj) (fun h => h))) | ((with_reducible refine store_lit aggWay (.tmp 8) (.tmp 22) w1.heap.size (wayCells (some bd) d x) ?_ ?_ ?_ ?_ ?_ ?_ ?_); rfl; rfl; rfl; exact way_len HOK.out; exact (RWay.good.one HRW.out); exact ⟨_, _, heap_alloc_new w1 _, rfl⟩; (rintro w2 ⟨ty, hb2⟩ hk2; have HKA := hidden (HKA.out.trans (Kept.then (S := Nob) (Kept.alloc (Kept.refl Nob w1) _) hk2 (fun k hk hs => by omega))); have g0 := row0 hb2; have g33 := row33 hb2 HOK.out; have g34 := row34 hb2 HOK.out; have HGH := hidden (row_hash hb2 HOK.out); have gq := HKA.out.at HCQ.out (fun h => h); rw [HKL.out] at g0; clear hb2 hk2)) | ((with_reducible refine load_lit aggSum (.tmp 36) ⟨w1.heap.size, 1, none⟩ (nums .u8 x.hash) ?_ ?_ ?_ ?_ ?_); rfl; rfl; (rw [nums_length]; exact HOK.out.hl); exact HGH.out) | (go_at_call 23; (with_reducible refine (HTO.out _).mono ?_); rintro e w3 ⟨A3, c3, rfl, hw3, hk3⟩; have HW3 := hidden hw3; have HKA := hidden (HKA.out.trans hk3); have d0 := (blk_cell ((HKA.out.alloc (.cells #[.int .i64 amount, .slice A3 1 c3] 38)).blk HBX.out (fun h => h)) 0).trans rfl; have d1 := (blk_cell ((HKA.out.alloc (.cells #[.int .i64 amount, .slice A3 1 c3] 38)).blk HBX.out (fun h => h)) 1).trans rfl; clear hw3 hk3) | (go_at_call 24; refine (HSOL.out _ (H.out.keep (HKA.out.alloc _) (fun _ _ h => h))).mono ?_; rintro e w5 ⟨rfl, hk5⟩; have HKA := hidden (HKA.out.trans (Kept.trans (Kept.alloc (Kept.refl Nob w3) _) hk5)); have HW5 := hidden (HW3.out.keep (Kept.trans (Kept.alloc (Kept.refl Nob w3) _) hk5) (fun _ _ h => h)); have hb9 := hk5.blk (heap_alloc_new w3 _) (fun h => h); have f0 := (blk_cell hb9 0).trans rfl; have f1 := (blk_cell hb9 1).trans rfl; rw [HSB.out]; clear hk5 hb9) | (go_at_call 25; refine (same_lit key amount _ A3 (some ⟨w5.heap.size + 1, 0, none⟩) c3 1 (HW5.out.keep (by repeat (first | exact Kept.refl _ _ | apply Kept.alloc | apply Kept.drewN | apply Kept.drew)) (fun _ _ h => h)) (Ways.one (A := some ⟨w5.heap.size, 0, none⟩) (c := 1) (x := wayTo key) (blk_new_at (by simp)) trivial (Ints.blk (k := .i64) (xs := [key]) (blk_alloc (heap_alloc_new w5 _) _) trivial (by simp [maxLen]) (by simpa using HKW.out)) (wayTo_ok key))).mono ?_; rintro e w6 ⟨rfl, hk6⟩; have HKA := hidden (HKA.out.trans (Kept.trans (b := (w5.alloc _).alloc _) (by repeat (first | exact Kept.refl _ _ | apply Kept.alloc | apply Kept.drewN | apply Kept.drew)) hk6)); clear hk6) | (go_at_call 17; (with_reducible refine (HAW.out _).mono ?_); rintro e w7 ⟨rfl, hk7⟩; have HKA := hidden (HKA.out.trans hk7); clear hk7))
            go_ret
            exact ⟨rfl, HK.out.trans HKA.out⟩

        · have e1 : (x.keys == [key]) = false := by
            cases hb : (x.keys == [key]) with
            | false => rfl
            | true => exact absurd (by rw [eq_of_beq hb]; rfl) hk
          have HSB : Hid (soleB [x] key = false) := hidden (by rw [HS1.out, e1]; rfl)
          have e2 : ((x.keys.length : Int) == 1) = false := by rw [beq_eq_false_iff_ne]; omega
          clear e1 hk
          go_enter Try.func4, Try.ntmps4
          go_wp2_with (first | (go_at_call 22; (with_reducible refine HSM.out.mono ?_); rintro e w1 ⟨rfl, hk1⟩; have HKA := hidden hk1; have b1 := (blk_cell (hk1.blk HBX.out (fun h => h)) 1).trans rfl;  clear hk1) | ((with_reducible refine load_lit aggWay (.tmp 21) ad (wayCells B d x) ?_ ?_ ?_ ?_ ?_); rfl; rfl; exact way_len HOK.out; exact (fun j u hj => HKA.out.at (HCW.out j u hj) (fun h => h))) | ((with_reducible refine store_lit aggWay (.tmp 8) (.tmp 22) w1.heap.size (wayCells B d x) ?_ ?_ ?_ ?_ ?_ ?_ ?_); rfl; rfl; rfl; exact way_len HOK.out; exact (RWay.good.one HRW.out); exact ⟨_, _, heap_alloc_new w1 _, rfl⟩; (rintro w2 ⟨ty, hb2⟩ hk2; have HKA := hidden (HKA.out.trans (Kept.then (S := Nob) (Kept.alloc (Kept.refl Nob w1) _) hk2 (fun k hk hs => by omega))); have g0 := row0 hb2; have g33 := row33 hb2 HOK.out; have g34 := row34 hb2 HOK.out; have HGH := hidden (row_hash hb2 HOK.out);  clear hb2 hk2)) | (go_at_call 23; (with_reducible refine (HTO.out _).mono ?_); rintro e w3 ⟨A3, c3, rfl, hw3, hk3⟩; have HW3 := hidden hw3; have HKA := hidden (HKA.out.trans hk3); have d0 := (blk_cell ((HKA.out.alloc (.cells #[.int .i64 amount, .slice A3 1 c3] 38)).blk HBX.out (fun h => h)) 0).trans rfl; have d1 := (blk_cell ((HKA.out.alloc (.cells #[.int .i64 amount, .slice A3 1 c3] 38)).blk HBX.out (fun h => h)) 1).trans rfl; clear hw3 hk3) | (go_at_call 24; refine (HSOL.out _ (H.out.keep (HKA.out.alloc _) (fun _ _ h => h))).mono ?_; rintro e w5 ⟨rfl, hk5⟩; have HKA := hidden (HKA.out.trans (Kept.trans (Kept.alloc (Kept.refl Nob w3) _) hk5)); have HW5 := hidden (HW3.out.keep (Kept.trans (Kept.alloc (Kept.refl Nob w3) _) hk5) (fun _ _ h => h)); have hb9 := hk5.blk (heap_alloc_new w3 _) (fun h => h); have f0 := (blk_cell hb9 0).trans rfl; have f1 := (blk_cell hb9 1).trans rfl; rw [HSB.out]; clear hk5 hb9) | (go_at_call 25; refine (same_lit key amount _ A3 (some ⟨w5.heap.size + 1, 0, none⟩) c3 1 (HW5.out.keep (by repeat (first | exact Kept.refl _ _ | apply Kept.alloc | apply Kept.drewN | apply Kept.drew)) (fun _ _ h => h)) (Ways.one (A := some ⟨w5.heap.size, 0, none⟩) (c := 1) (x := wayTo key) (blk_new_at (by simp)) trivial (Ints.blk (k := .i64) (xs := [key]) (blk_alloc (heap_alloc_new w5 _) _) trivial (by simp [maxLen]) (by simpa using HKW.out)) (wayTo_ok key))).mono ?_; rintro e w6 ⟨rfl, hk6⟩; have HKA := hidden (HKA.out.trans (Kept.trans (b := (w5.alloc _).alloc _) (by repeat (first | exact Kept.refl _ _ | apply Kept.alloc | apply Kept.drewN | apply Kept.drew)) hk6)); clear hk6) | (go_at_call 17; (with_reducible refine (HAW.out _).mono ?_); rintro e w7 ⟨rfl, hk7⟩; have HKA := hidden (HKA.out.trans hk7); clear hk7))
          go_ret
          exact ⟨rfl, HK.out.trans HKA.out⟩

    · have HSB := hidden (soleB_other key hl)
      have e2 : ((xs.length : Int) == 1) = false := by rw [beq_eq_false_iff_ne]; omega
      clear hl
      go_enter Try.func4, Try.ntmps4
      go_wp2_with (first | (go_at_call 22; (with_reducible refine HSM.out.mono ?_); rintro e w1 ⟨rfl, hk1⟩; have HKA := hidden hk1; have b1 := (blk_cell (hk1.blk HBX.out (fun h => h)) 1).trans rfl;  clear hk1) | (go_at_call 23; (with_reducible refine (HTO.out _).mono ?_); rintro e w3 ⟨A3, c3, rfl, hw3, hk3⟩; have HW3 := hidden hw3; have HKA := hidden (HKA.out.trans hk3); have d0 := (blk_cell ((HKA.out.alloc (.cells #[.int .i64 amount, .slice A3 1 c3] 38)).blk HBX.out (fun h => h)) 0).trans rfl; have d1 := (blk_cell ((HKA.out.alloc (.cells #[.int .i64 amount, .slice A3 1 c3] 38)).blk HBX.out (fun h => h)) 1).trans rfl; clear hw3 hk3) | (go_at_call 24; refine (HSOL.out _ (H.out.keep (HKA.out.alloc _) (fun _ _ h => h))).mono ?_; rintro e w5 ⟨rfl, hk5⟩; have HKA := hidden (HKA.out.trans (Kept.trans (Kept.alloc (Kept.refl Nob w3) _) hk5)); have HW5 := hidden (HW3.out.keep (Kept.trans (Kept.alloc (Kept.refl Nob w3) _) hk5) (fun _ _ h => h)); have hb9 := hk5.blk (heap_alloc_new w3 _) (fun h => h); have f0 := (blk_cell hb9 0).trans rfl; have f1 := (blk_cell hb9 1).trans rfl; rw [HSB.out]; clear hk5 hb9) | (go_at_call 25; refine (same_lit key amount _ A3 (some ⟨w5.heap.size + 1, 0, none⟩) c3 1 (HW5.out.keep (by repeat (first | exact Kept.refl _ _ | apply Kept.alloc | apply Kept.drewN | apply Kept.drew)) (fun _ _ h => h)) (Ways.one (A := some ⟨w5.heap.size, 0, none⟩) (c := 1) (x := wayTo key) (blk_new_at (by simp)) trivial (Ints.blk (k := .i64) (xs := [key]) (blk_alloc (heap_alloc_new w5 _) _) trivial (by simp [maxLen]) (by simpa using HKW.out)) (wayTo_ok key))).mono ?_; rintro e w6 ⟨rfl, hk6⟩; have HKA := hidden (HKA.out.trans (Kept.trans (b := (w5.alloc _).alloc _) (by repeat (first | exact Kept.refl _ _ | apply Kept.alloc | apply Kept.drewN | apply Kept.drew)) hk6)); clear hk6) | (go_at_call 17; (with_reducible refine (HAW.out _).mono ?_); rintro e w7 ⟨rfl, hk7⟩; have HKA := hidden (HKA.out.trans hk7); clear hk7))
      go_ret
      exact ⟨rfl, HK.out.trans HKA.out⟩
  · have hs : smallB xs = false := by simpa using hs
    rw [hs] at HSM
    clear hs
    go_enter Try.func4, Try.ntmps4
    go_wp2_with (first
      | (go_at_call 22; (with_reducible refine HSM.out.mono ?_); rintro e w1 ⟨rfl, hk1⟩; have HK := hidden (HK.out.trans hk1); clear hk1)
      | (go_at_call 17; (with_reducible refine (HAW.out _).mono ?_); rintro e w2 ⟨rfl, hk2⟩; have HK := hidden (HK.out.trans hk2); clear hk2))
    go_ret
    exact ⟨rfl, HK.out⟩
end Go.Proofs.Ytcghjnegaiiieaa

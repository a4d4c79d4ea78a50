/- The laws of amounts (layer 6) and of shares (layer 15): walks. -/
import Derived.Test.YtfblececmkimiaaCoin
namespace Go.Proofs.Ytfblececmkimiaa
open Go.RowKit
attribute [local go_sem] lmax_two lmin_two

set_option maxHeartbeats 400000 in
theorem lawright_any (n : Int) (w : World) : Calls Try.prog 17 #[.int .i64 n] w fun e w' => e = .returned (.bool (rightB n)) ∧ w = w' := by
  go_enter Try.func17, Try.ntmps17
  go_wp2
  all_goals go_ret
  all_goals exact ⟨ret_bool (by unfold rightB; first | rfl | (simp [*]; done) | grind), rfl⟩

set_option maxRecDepth 100000 in
set_option maxHeartbeats 1000000 in
theorem lawadd_any (A : Option Addr) (c : Nat) (xs : List Int) (w : World) (hr : RdInts w .i64 A xs) (hlen : xs.length ≤ 9223372036854775807) :
    Calls Try.prog 24 #[.slice A xs.length c] w fun e w' => e = .returned (.tuple #[.int .i64 (addL 0 xs).1, .int .i64 (addL 0 xs).2]) ∧ w = w' := by
  have HR := hidden hr
  clear hr
  go_enter Try.func24, Try.ntmps24
  go_wp2_with fail
  go_loop [4, 5] (fun s i => ∃ (k : Nat) (a : Int), k ≤ xs.length ∧ i = .int .i64 k ∧ s = .int .i64 a ∧ 0 ≤ a ∧ a ≤ 1125899906842624 ∧ addL a (xs.drop k) = addL 0 xs) (fun _ i => xs.length - (intOf i).toNat)
  case atStart => exact ⟨0, 0, Nat.zero_le _, rfl, rfl, by omega, by omega, rfl⟩
  case round =>
    obtain ⟨k, a, hk, rfl, rfl, a0, a1, he⟩ := hrel
    have HE := hidden he
    clear he
    by_cases hlt : k < xs.length
    · obtain ⟨ad, rfl, hc⟩ := HR.out k hlt
      have hd := drop_cons xs k hlt
      generalize xs.getD k 0 = z at hc hd
      have HD := hidden hd
      clear hd
      have hnext : addL a (xs.drop k) = if z < 0 ∨ 1125899906842624 < z then (0, 5) else if 1125899906842624 < a + z then (0, 10) else addL (a + z) (xs.drop (k + 1)) := by rw [HD.out]; rfl
      have HN := hidden hnext
      clear hnext
      by_cases hR : 0 ≤ z ∧ z ≤ 1125899906842624
      · obtain ⟨z0, z1⟩ := hR
        have hb := right_yes z0 z1
        by_cases hS : a + z ≤ 1125899906842624
        · have hb2 := right_yes (n := a + z) (by omega) hS
          go_wp2_with (go_at_call 17; refine (lawright_any _ _).mono ?_; rintro e w' ⟨rfl, rfl⟩)
          go_round
          case rel => exact ⟨k + 1, a + z, by omega, by go_num, rfl, by omega, by omega, by rw [← HE.out, HN.out, if_neg (by omega), if_neg (by omega)]⟩
          case measure => simp [intOf]; omega
        · have hb2 := right_no (n := a + z) (by omega)
          go_wp2_with (go_at_call 17; refine (lawright_any _ _).mono ?_; rintro e w' ⟨rfl, rfl⟩)
          go_ret2
          have : addL 0 xs = (0, 10) := by rw [← HE.out, HN.out, if_neg (by omega), if_pos (by omega)]
          rw [this]; exact ⟨rfl, rfl⟩
      · have hb := right_no (n := z) (by omega)
        go_wp2_with (go_at_call 17; refine (lawright_any _ _).mono ?_; rintro e w' ⟨rfl, rfl⟩)
        go_ret2
        have : addL 0 xs = (0, 5) := by rw [← HE.out, HN.out, if_pos (by omega)]
        rw [this]; exact ⟨rfl, rfl⟩
    · go_wp2_with fail
      go_ret2
      have : addL 0 xs = (a, 0) := by rw [← HE.out, List.drop_eq_nil_of_le (by omega)]; rfl
      rw [this]; exact ⟨rfl, rfl⟩

set_option maxRecDepth 100000 in
set_option maxHeartbeats 1000000 in
theorem few_any (A : Option Addr) (c : Nat) (xs : List Int) (w : World) (hc : xs.length ≤ c) (hlen : xs.length ≤ 9223372036854775807) :
    Calls Try.prog 21 #[.slice A xs.length c] w fun e w' => e = .returned (.slice A (xs.take 40).length c) ∧ w = w' := by
  by_cases h : 40 < xs.length
  · have e1 : (xs.take 40).length = 40 := by simp; omega
    rw [e1]
    have hn : ¬ c = 0 := by omega
    go_enter Try.func21, Try.ntmps21
    go_wp2
    all_goals go_ret
    all_goals exact ⟨rfl, rfl⟩
  · have e1 : (xs.take 40).length = xs.length := by simp; omega
    rw [e1]
    go_enter Try.func21, Try.ntmps21
    go_wp2
    go_ret
    exact ⟨rfl, rfl⟩

theorem whole_ten : whole 10 3 = [4, 3, 3] := by decide
set_option maxRecDepth 100000 in
set_option maxHeartbeats 1000000 in
theorem awake06 (w : World) : Calls Try.prog 19 #[] w fun e w' => e = .returned (.bool true) ∧ Kept Nob w w' := by
  have hs := split_yes 10 3 w (by omega) (by omega) (by omega) (by omega)
  have HS := hidden hs
  clear hs
  go_enter Try.func19, Try.ntmps19
  go_wp2_with (go_at_call 20; refine HS.out.mono ?_; rintro e w' ⟨rfl, ho, hk⟩; rw [show ((3 : Nat) : Int) = 3 from rfl, whole_ten] at ho; have c0 := own_cell ho 0 (by omega); have c1 := own_cell ho 1 (by omega); have c2 := own_cell ho 2 (by omega); have HK := hidden hk; simp at c0 c1 c2; clear ho hk)
  go_ret
  exact ⟨rfl, HK.out⟩

set_option maxRecDepth 100000 in
set_option maxHeartbeats 1000000 in
theorem shares_any (n r f : Int) (w : World) :
    Calls Try.prog 15 #[.int .i64 n, .agg #[.int .i64 r, .int .i64 f]] w fun e w' => (e = if rightB n = true ∧ rightB f = true ∧ 0 ≤ r ∧ r ≤ 1000 then
      .returned (.tuple #[.int .i64 (n - min f n - partZ (n - min f n) r), .int .i64 (partZ (n - min f n) r), .int .i64 (min f n), .int .i64 0]) else .returned (.tuple #[.int .i64 0, .int .i64 0, .int .i64 0, .int .i64 1])) ∧ Kept Nob w w' := by
  by_cases hbad : rightB n = true ∧ rightB f = true ∧ 0 ≤ r ∧ r ≤ 1000
  · rw [if_pos hbad]
    obtain ⟨hn, hf, h0, h1⟩ := hbad
    have a1 := right_iff.1 hn
    have a2 := right_iff.1 hf
    obtain ⟨a10, a11⟩ := a1
    obtain ⟨a20, a21⟩ := a2
    have hp := partZ_range (n - min f n) r
    have hpn : partZ (n - min f n) r ≤ n - min f n := by
      unfold partZ
      rw [if_pos ⟨by omega, h0⟩]
      have b : (n - min f n) * (if r < 1000 then r else 1000) ≤ (n - min f n) * 1000 := Int.mul_le_mul_of_nonneg_left (by split <;> omega) (by omega)
      omega
    obtain ⟨m, hm⟩ : ∃ m, m = min f n := ⟨_, rfl⟩
    rw [← hm] at hp hpn ⊢
    have hif : (if n < f then n else f) = m := by rw [hm]; split <;> omega
    have hm0 : 0 ≤ m := by omega
    have hm1 : m ≤ n := by omega
    have HM := hidden hm
    clear hm
    obtain ⟨p, hpp⟩ : ∃ p, p = partZ (n - m) r := ⟨_, rfl⟩
    have HPP := hidden (fun W => part_any (n - m) r W)
    rw [← hpp] at hp hpn ⊢
    have HQ := hidden hpp
    clear hpp
    obtain ⟨hp0, hp1⟩ := hp
    go_enter Try.func15, Try.ntmps15
    go_wp2_with (first | (go_at_call 25; refine (right_any _ _).mono ?_; rintro e w' ⟨rfl, rfl⟩) | (go_at_call 18; refine (HPP.out _).mono ?_; rintro e w' ⟨rfl, rfl⟩; rw [← HQ.out]))
    refine bodyPost_ret (results_tmp4 rfl _ _ _) rfl ?_
    exact ⟨rfl, (Kept.refl _ _).alloc _⟩
  · rw [if_neg hbad]
    have HBad := hidden hbad
    clear hbad
    go_enter Try.func15, Try.ntmps15
    go_wp2_with (first | (go_at_call 25; refine (right_any _ _).mono ?_; rintro e w' ⟨rfl, rfl⟩))
    all_goals first | (refine bodyPost_ret (results_tmp4 rfl _ _ _) rfl ?_; exact ⟨rfl, (Kept.refl _ _).alloc _⟩) | (exfalso; apply HBad.out; refine ⟨by assumption, by assumption, by omega, by omega⟩)

set_option maxRecDepth 100000 in
set_option maxHeartbeats 1000000 in
theorem awake15 (w : World) : Calls Try.prog 16 #[] w fun e w' => e = .returned (.bool true) ∧ Kept Nob w w' := by
  have hs := fun W => shares_any 100 100 10 W
  rw [if_pos (by decide), show (min (10 : Int) 100) = 10 from rfl, show partZ (100 - 10) 100 = 9 from by decide] at hs
  have HS := hidden hs
  clear hs
  have hk : ∀ W, Calls Try.prog 67 #[.int .i64 3] W fun e w' => e = .returned (.int .i64 103) ∧ W = w' := by
    intro W
    go_enter Try.func67, Try.ntmps67
    go_wp2
    go_ret
    exact ⟨rfl, rfl⟩
  have HK := hidden hk
  clear hk
  go_enter Try.func16, Try.ntmps16
  go_wp2_with (first | (go_at_call 15; refine (HS.out _).mono ?_; rintro e w1 ⟨rfl, hk⟩; have HKe := hidden hk; clear hk) | (go_at_call 67; refine (HK.out _).mono ?_; rintro e w' ⟨rfl, rfl⟩))
  go_ret
  exact ⟨rfl, HKe.out⟩

set_option maxRecDepth 100000 in
set_option maxHeartbeats 2000000 in
theorem justiceShares_any (n r f : Int) (w : World) : Calls Try.prog 3 #[.int .i64 n, .agg #[.int .i64 r, .int .i64 f]] w fun e w' => e = .returned (.bool true) ∧ Kept Nob w w' := by
  have hs := fun W => shares_any n r f W
  by_cases h : rightB n = true ∧ rightB f = true ∧ 0 ≤ r ∧ r ≤ 1000
  · rw [if_pos h] at hs
    obtain ⟨hn, hf, h0, h1⟩ := h
    obtain ⟨a10, a11⟩ := right_iff.1 hn
    obtain ⟨a20, a21⟩ := right_iff.1 hf
    obtain ⟨m, hm⟩ : ∃ m, m = min f n := ⟨_, rfl⟩
    rw [← hm] at hs
    have hp : partZ (n - m) r = (n - m) * r / 1000 := by
      unfold partZ
      rw [if_pos ⟨by omega, h0⟩]
      by_cases e : r < 1000
      · rw [if_pos e]
      · rw [if_neg e]; congr 2; omega
    have hp2 := partZ_range (n - m) r
    have b0 : 0 ≤ (n - m) * r := Int.mul_nonneg (by omega) h0
    have b1 : (n - m) * r ≤ (n - m) * 1000 := Int.mul_le_mul_of_nonneg_left h1 (by omega)
    have e1 : wrap64 ((n - m) * r) = (n - m) * r := by unfold wrap64; omega
    have e2 : wrap64 (((n - m) * r).tdiv 1000) = partZ (n - m) r := by rw [hp, Int.tdiv_eq_ediv_of_nonneg b0]; unfold wrap64; omega
    have hpn : partZ (n - m) r ≤ n - m := by rw [hp]; omega
    rw [← e1] at e2
    obtain ⟨p, hpp⟩ : ∃ p, p = partZ (n - m) r := ⟨_, rfl⟩
    rw [← hpp] at hs hp2 e2 hpn
    obtain ⟨hp20, hp21⟩ := hp2
    have HS := hidden hs
    have E2 := hidden e2
    clear hs e1 e2 b0 b1 hp hpp hn hf
    by_cases hc : n < f
    · obtain rfl : m = n := by omega
      obtain rfl : p = 0 := by omega
      clear hm
      go_enter Try.func3, Try.ntmps3
      go_wp2_with (first | (go_at_call 15; refine (HS.out _).mono ?_; rintro e w1 ⟨rfl, hk⟩; have hbb := hk.blk (g := w.heap.size) (heap_alloc_new w _) (fun h => h); have hcc := blk_cell hbb; have HKe := hidden hk; clear hk hbb) | (go_at_call 16; refine (awake15 _).mono ?_; rintro e w2 ⟨rfl, hk⟩; have HKf := hidden hk; clear hk))
      all_goals go_ret
      all_goals first | exact ⟨rfl, (Kept.refl _ _).alloc _ |>.trans (HKe.out.trans HKf.out)⟩
    · obtain rfl : m = f := by omega
      have e2 := E2.out
      clear hm
      go_enter Try.func3, Try.ntmps3
      go_wp2_with (first | (go_at_call 15; refine (HS.out _).mono ?_; rintro e w1 ⟨rfl, hk⟩; have hbb := hk.blk (g := w.heap.size) (heap_alloc_new w _) (fun h => h); have hcc := blk_cell hbb; have HKe := hidden hk; clear hk hbb) | (go_at_call 16; refine (awake15 _).mono ?_; rintro e w2 ⟨rfl, hk⟩; have HKf := hidden hk; clear hk))
      all_goals go_ret
      all_goals first | exact ⟨rfl, (Kept.refl _ _).alloc _ |>.trans (HKe.out.trans HKf.out)⟩
  · rw [if_neg h] at hs
    have hor : rightB n = false ∨ rightB f = false ∨ r < 0 ∨ 1000 < r := by
      by_cases h1 : rightB n = true
      · by_cases h2 : rightB f = true
        · exact .inr (.inr (by have : ¬ (0 ≤ r ∧ r ≤ 1000) := fun h3 => h ⟨h1, h2, h3⟩; omega))
        · exact .inr (.inl (by simpa using h2))
      · exact .inl (by simpa using h1)
    have HS := hidden hs
    clear hs h
    have hcase : n < 0 ∨ (0 ≤ n ∧ 1125899906842624 < n) ∨ (0 ≤ n ∧ n ≤ 1125899906842624 ∧ f < 0) ∨ (0 ≤ n ∧ n ≤ 1125899906842624 ∧ 0 ≤ f ∧ 1125899906842624 < f) ∨
        (0 ≤ n ∧ n ≤ 1125899906842624 ∧ 0 ≤ f ∧ f ≤ 1125899906842624 ∧ r < 0) ∨ (0 ≤ n ∧ n ≤ 1125899906842624 ∧ 0 ≤ f ∧ f ≤ 1125899906842624 ∧ 0 ≤ r ∧ 1000 < r) := by
      have := @right_iff n
      have := @right_iff f
      grind
    clear hor
    rcases hcase with c1 | ⟨c1, c2⟩ | ⟨c1, c2, c3⟩ | ⟨c1, c2, c3, c4⟩ | ⟨c1, c2, c3, c4, c5⟩ | ⟨c1, c2, c3, c4, c5, c6⟩
    all_goals go_enter Try.func3, Try.ntmps3
    all_goals go_wp2_with (first | (go_at_call 15; refine (HS.out _).mono ?_; rintro e w1 ⟨rfl, hk⟩; have hbb := hk.blk (g := w.heap.size) (heap_alloc_new w _) (fun h => h); have hcc := blk_cell hbb; have HKe := hidden hk; clear hk hbb) | (go_at_call 16; refine (awake15 _).mono ?_; rintro e w2 ⟨rfl, hk⟩; have HKf := hidden hk; clear hk))
    all_goals go_ret
    all_goals exact ⟨rfl, (Kept.refl _ _).alloc _ |>.trans (HKe.out.trans HKf.out)⟩

end Go.Proofs.Ytfblececmkimiaa

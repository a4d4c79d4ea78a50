/- The laws on sums of amounts, and on parts: walks. -/
import Derived.Test.YtfblececmkimiaaCoinL
namespace Go.Proofs.Ytfblececmkimiaa
open Go.RowKit
attribute [local go_sem] lmax_two lmin_two

set_option maxRecDepth 100000 in
set_option maxHeartbeats 4000000 in
theorem coinSums_any (n : Int) (A : Option Addr) (c : Nat) (xs : List Int) (w : World) (hc : xs.length ≤ c) (hlen : xs.length ≤ 9223372036854775807) (hr : RdInts w .i64 A xs) :
    Calls Try.prog 5 #[.int .i64 n, .slice A xs.length c] w fun e w' => e = .returned (.bool true) ∧ Kept Nob w w' := by
  have hr2 := hr.take 40
  have hl2 : (xs.take 40).length ≤ 9223372036854775807 := by simp; omega
  have hF := few_any A c xs w hc hlen
  have hA := add_any A c (xs.take 40) w hr2 hl2
  have hB := sub_any n A c (xs.take 40) w hr2 hl2
  have hC := lawadd_any A c (xs.take 40) w hr2 hl2
  have hs : subL n (xs.take 40) = if n < 0 ∨ 1125899906842624 < n then (0, 5) else if (addL 0 (xs.take 40)).2 ≠ 0 then (0, (addL 0 (xs.take 40)).2) else if n < (addL 0 (xs.take 40)).1 then (0, 14) else (n - (addL 0 (xs.take 40)).1, 0) := rfl
  obtain ⟨b0, b1, b2, b3⟩ := addL_range (xs.take 40) 0 (by omega) (by omega)
  obtain ⟨p, hp⟩ : ∃ p, p = addL 0 (xs.take 40) := ⟨_, rfl⟩
  rw [← hp] at hA hC hs b0 b1 b2 b3
  obtain ⟨x, y⟩ := p
  simp only at hA hC hs b0 b1 b2 b3
  generalize subL n (xs.take 40) = q at hs hB
  generalize (xs.take 40).length = len at hF hA hB hC
  have HF := hidden hF
  have HA := hidden hA
  have HC := hidden hC
  clear hF hA hC hp hr hr2 hl2 hc
  have hcase : (n < 0 ∧ q = (0, 5)) ∨ (1125899906842624 < n ∧ q = (0, 5)) ∨ (0 ≤ n ∧ n ≤ 1125899906842624 ∧ 0 < y ∧ q = (0, y)) ∨ (0 ≤ n ∧ n ≤ 1125899906842624 ∧ y = 0 ∧ n < x ∧ q = (0, 14)) ∨ (0 ≤ n ∧ n ≤ 1125899906842624 ∧ y = 0 ∧ x ≤ n ∧ q = (n - x, 0)) := by
    by_cases h1 : n < 0
    · exact .inl ⟨h1, by rw [hs, if_pos (by omega)]⟩
    · by_cases h2 : 1125899906842624 < n
      · exact .inr (.inl ⟨h2, by rw [hs, if_pos (by omega)]⟩)
      · rw [if_neg (by omega)] at hs
        by_cases h3 : y = 0
        · rw [if_neg (by omega)] at hs
          by_cases h4 : n < x
          · rw [if_pos h4] at hs; exact .inr (.inr (.inr (.inl ⟨by omega, by omega, h3, h4, hs⟩)))
          · rw [if_neg h4] at hs; exact .inr (.inr (.inr (.inr ⟨by omega, by omega, h3, by omega, hs⟩)))
        · rw [if_pos h3] at hs; exact .inr (.inr (.inl ⟨by omega, by omega, by omega, hs⟩))
  clear hs
  rcases hcase with ⟨n0, rfl⟩ | ⟨n0, rfl⟩ | ⟨n0, n1, y0, rfl⟩ | ⟨n0, n1, rfl, c1, rfl⟩ | ⟨n0, n1, rfl, c1, rfl⟩
  · have hb := right_no (n := n) (.inl n0)
    have HB := hidden hB
    clear hB
    go_enter Try.func5, Try.ntmps5
    go_wp2_with (first | (go_at_call 21; refine HF.out.mono ?_; rintro e w' ⟨rfl, rfl⟩) | (go_at_call 22; refine HA.out.mono ?_; rintro e w' ⟨rfl, rfl⟩) | (go_at_call 23; refine HB.out.mono ?_; rintro e w' ⟨rfl, rfl⟩) | (go_at_call 24; refine HC.out.mono ?_; rintro e w' ⟨rfl, rfl⟩) | (go_at_call 25; refine (right_any _ _).mono ?_; rintro e w' ⟨rfl, rfl⟩) | (go_at_call 17; refine (lawright_any _ _).mono ?_; rintro e w' ⟨rfl, rfl⟩) | (go_at_call 19; refine (awake06 _).mono ?_; rintro e w2 ⟨rfl, hk⟩; have HK := hidden hk; clear hk))
    go_ret
    exact ⟨rfl, HK.out⟩
  · have hb := right_no (n := n) (.inr n0)
    have HB := hidden hB
    clear hB
    go_enter Try.func5, Try.ntmps5
    go_wp2_with (first | (go_at_call 21; refine HF.out.mono ?_; rintro e w' ⟨rfl, rfl⟩) | (go_at_call 22; refine HA.out.mono ?_; rintro e w' ⟨rfl, rfl⟩) | (go_at_call 23; refine HB.out.mono ?_; rintro e w' ⟨rfl, rfl⟩) | (go_at_call 24; refine HC.out.mono ?_; rintro e w' ⟨rfl, rfl⟩) | (go_at_call 25; refine (right_any _ _).mono ?_; rintro e w' ⟨rfl, rfl⟩) | (go_at_call 17; refine (lawright_any _ _).mono ?_; rintro e w' ⟨rfl, rfl⟩) | (go_at_call 19; refine (awake06 _).mono ?_; rintro e w2 ⟨rfl, hk⟩; have HK := hidden hk; clear hk))
    go_ret
    exact ⟨rfl, HK.out⟩
  · have hb := right_yes n0 n1
    have HB := hidden hB
    clear hB
    go_enter Try.func5, Try.ntmps5
    go_wp2_with (first | (go_at_call 21; refine HF.out.mono ?_; rintro e w' ⟨rfl, rfl⟩) | (go_at_call 22; refine HA.out.mono ?_; rintro e w' ⟨rfl, rfl⟩) | (go_at_call 23; refine HB.out.mono ?_; rintro e w' ⟨rfl, rfl⟩) | (go_at_call 24; refine HC.out.mono ?_; rintro e w' ⟨rfl, rfl⟩) | (go_at_call 25; refine (right_any _ _).mono ?_; rintro e w' ⟨rfl, rfl⟩) | (go_at_call 17; refine (lawright_any _ _).mono ?_; rintro e w' ⟨rfl, rfl⟩) | (go_at_call 19; refine (awake06 _).mono ?_; rintro e w2 ⟨rfl, hk⟩; have HK := hidden hk; clear hk))
    go_ret
    exact ⟨rfl, HK.out⟩
  · have hb := right_yes n0 n1
    have HB := hidden hB
    clear hB
    go_enter Try.func5, Try.ntmps5
    go_wp2_with (first | (go_at_call 21; refine HF.out.mono ?_; rintro e w' ⟨rfl, rfl⟩) | (go_at_call 22; refine HA.out.mono ?_; rintro e w' ⟨rfl, rfl⟩) | (go_at_call 23; refine HB.out.mono ?_; rintro e w' ⟨rfl, rfl⟩) | (go_at_call 24; refine HC.out.mono ?_; rintro e w' ⟨rfl, rfl⟩) | (go_at_call 25; refine (right_any _ _).mono ?_; rintro e w' ⟨rfl, rfl⟩) | (go_at_call 17; refine (lawright_any _ _).mono ?_; rintro e w' ⟨rfl, rfl⟩) | (go_at_call 19; refine (awake06 _).mono ?_; rintro e w2 ⟨rfl, hk⟩; have HK := hidden hk; clear hk))
    go_ret
    exact ⟨rfl, HK.out⟩
  · have hb := right_yes n0 n1
    have HB := hidden hB
    clear hB
    go_enter Try.func5, Try.ntmps5
    go_wp2_with (first | (go_at_call 21; refine HF.out.mono ?_; rintro e w' ⟨rfl, rfl⟩) | (go_at_call 22; refine HA.out.mono ?_; rintro e w' ⟨rfl, rfl⟩) | (go_at_call 23; refine HB.out.mono ?_; rintro e w' ⟨rfl, rfl⟩) | (go_at_call 24; refine HC.out.mono ?_; rintro e w' ⟨rfl, rfl⟩) | (go_at_call 25; refine (right_any _ _).mono ?_; rintro e w' ⟨rfl, rfl⟩) | (go_at_call 17; refine (lawright_any _ _).mono ?_; rintro e w' ⟨rfl, rfl⟩) | (go_at_call 19; refine (awake06 _).mono ?_; rintro e w2 ⟨rfl, hk⟩; have HK := hidden hk; clear hk))
    go_ret
    exact ⟨rfl, HK.out⟩

end Go.Proofs.Ytfblececmkimiaa

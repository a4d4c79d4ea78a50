/- The law on parts of amounts: walks. -/
import Derived.Test.YtfblececmkimiaaCoinL
namespace Go.Proofs.Ytfblececmkimiaa
open Go.RowKit
attribute [local go_sem] lmax_two lmin_two

/-- What the law reckons for a part, in the walk's own form. -/
def PartIs (n f q : Int) : Prop := (rightB n = true ∧ 0 ≤ f ∧ f < 1000 ∧ wrap64 ((wrap64 (n * f)).tdiv 1000) = q) ∨ (rightB n = true ∧ 1000 ≤ f ∧ wrap64 ((wrap64 (n * 1000)).tdiv 1000) = q) ∨ (rightB n = false ∧ q = 0) ∨ (rightB n = true ∧ f < 0 ∧ q = 0)
theorem part_is (n f : Int) : PartIs n f (partZ n f) := by
  unfold PartIs
  by_cases h : 0 ≤ n ∧ n ≤ 1125899906842624
  · have hb := right_yes h.1 h.2
    by_cases h0 : 0 ≤ f
    · by_cases h1 : f < 1000
      · refine .inl ⟨hb, h0, h1, ?_⟩
        unfold partZ
        rw [if_pos ⟨h, h0⟩, if_pos h1]
        have a : 0 ≤ n * f := Int.mul_nonneg h.1 h0
        have b : n * f ≤ 1125899906842624 * 1000 := Int.mul_le_mul h.2 (by omega) h0 (by omega)
        rw [show wrap64 (n * f) = n * f from by unfold wrap64; omega, Int.tdiv_eq_ediv_of_nonneg a]
        unfold wrap64; omega
      · refine .inr (.inl ⟨hb, by omega, ?_⟩)
        unfold partZ
        rw [if_pos ⟨h, h0⟩, if_neg h1]
        rw [show wrap64 (n * 1000) = n * 1000 from by unfold wrap64; omega, Int.tdiv_eq_ediv_of_nonneg (by omega)]
        unfold wrap64; omega
    · exact .inr (.inr (.inr ⟨hb, by omega, by unfold partZ; rw [if_neg (fun h => h0 h.2)]⟩))
  · exact .inr (.inr (.inl ⟨right_no (by omega), by unfold partZ; rw [if_neg (fun k => h k.1)]⟩))

set_option maxRecDepth 100000 in
set_option maxHeartbeats 4000000 in
theorem coinParts_out (n p f : Int) (w : World) (hp : 1000 < p ∧ p ≤ 65536) : Calls Try.prog 4 #[.int .i64 n, .int .i64 p, .int .i64 f] w fun e w' => e = .returned (.bool true) ∧ Kept Nob w w' := by
  obtain ⟨p0, p1⟩ := hp
  have hq := part_is n f
  have hP := fun W => part_any n f W
  generalize partZ n f = q at hq hP
  have HP := hidden hP
  clear hP
  rcases hq with ⟨hb, c1, c2, hE⟩ | ⟨hb, c1, hE⟩ | ⟨hb, rfl⟩ | ⟨hb, c1, rfl⟩
  all_goals go_enter Try.func4, Try.ntmps4
  all_goals go_wp2_with (first | (go_at_call 18; refine (HP.out _).mono ?_; rintro e w' ⟨rfl, rfl⟩) | (go_at_call 17; refine (lawright_any _ _).mono ?_; rintro e w' ⟨rfl, rfl⟩) | (go_at_call 19; refine (awake06 _).mono ?_; rintro e w2 ⟨rfl, hk⟩; have HK := hidden hk; clear hk))
  all_goals go_ret
  all_goals exact ⟨rfl, HK.out⟩

set_option maxRecDepth 100000 in
set_option maxHeartbeats 4000000 in
theorem coinParts_none (n p f : Int) (w : World) (hp : (n < 0 ∨ 1125899906842624 < n) ∨ p < 1 ∨ 65536 < p) : Calls Try.prog 4 #[.int .i64 n, .int .i64 p, .int .i64 f] w fun e w' => e = .returned (.bool true) ∧ Kept Nob w w' := by
  have hq := part_is n f
  have hP := fun W => part_any n f W
  generalize partZ n f = q at hq hP
  have HP := hidden hP
  have HS := hidden (fun W => split_no n p W hp)
  clear hP
  have hcase : (rightB n = false ∧ p ≤ 1000) ∨ (rightB n = false ∧ 65536 < p) ∨ (rightB n = false ∧ 1000 < p ∧ p ≤ 65536) ∨ (rightB n = true ∧ p < 1) ∨ (rightB n = true ∧ 65536 < p) := by
    by_cases h : 0 ≤ n ∧ n ≤ 1125899906842624
    · have := right_yes h.1 h.2
      rcases hp with h1 | h1 | h1
      · omega
      · exact .inr (.inr (.inr (.inl ⟨this, h1⟩)))
      · exact .inr (.inr (.inr (.inr ⟨this, h1⟩)))
    · have := right_no (n := n) (by omega)
      by_cases h1 : p ≤ 1000
      · exact .inl ⟨this, h1⟩
      · by_cases h2 : p ≤ 65536
        · exact .inr (.inr (.inl ⟨this, by omega, h2⟩))
        · exact .inr (.inl ⟨this, by omega⟩)
  clear hp
  rcases hcase with ⟨hr, d1⟩ | ⟨hr, d1⟩ | ⟨hr, d1, d2⟩ | ⟨hr, d1⟩ | ⟨hr, d1⟩
  all_goals rcases hq with ⟨hb, c1, c2, hE⟩ | ⟨hb, c1, hE⟩ | ⟨hb, rfl⟩ | ⟨hb, c1, rfl⟩
  all_goals first
    | exact absurd (hr.symm.trans hb) (by decide)
    | (go_enter Try.func4, Try.ntmps4
       go_wp2_with (first | (go_at_call 18; refine (HP.out _).mono ?_; rintro e w' ⟨rfl, rfl⟩) | (go_at_call 20; refine (HS.out _).mono ?_; rintro e w' ⟨rfl, rfl⟩)  | (go_at_call 17; refine (lawright_any _ _).mono ?_; rintro e w' ⟨rfl, rfl⟩) | (go_at_call 19; refine (awake06 _).mono ?_; rintro e w2 ⟨rfl, hk⟩; have HK := hidden hk; clear hk))
       go_ret
       exact ⟨rfl, HK.out⟩)

set_option maxRecDepth 100000 in
set_option maxHeartbeats 8000000 in
theorem coinParts_some (n f : Int) (m : Nat) (w : World) (n0 : 0 ≤ n) (n1 : n ≤ 1125899906842624) (hm : m + 1 ≤ 1000) : Calls Try.prog 4 #[.int .i64 n, .int .i64 (m + 1 : Nat), .int .i64 f] w fun e w' => e = .returned (.bool true) ∧ Kept Nob w w' := by
  have hr := right_yes n0 n1
  have hq := part_is n f
  have hP := fun W => part_any n f W
  generalize partZ n f = q at hq hP
  have HP := hidden hP
  have HS := hidden (fun W => split_yes n (m + 1) W n0 n1 (by omega) (by omega))
  have hwl := whole_length n ((m + 1 : Nat) : Int)
  have hv : ∀ k : Nat, k < m + 1 → val n ((m + 1 : Nat) : Int) m ≤ val n ((m + 1 : Nat) : Int) k ∧ val n ((m + 1 : Nat) : Int) k ≤ val n ((m + 1 : Nat) : Int) 0 ∧ val n ((m + 1 : Nat) : Int) 0 - val n ((m + 1 : Nat) : Int) k ≤ 1 ∧ 0 ≤ val n ((m + 1 : Nat) : Int) k ∧ val n ((m + 1 : Nat) : Int) 0 ≤ 1125899906842625 := by
    intro k hk
    have hd := div_small n ((m + 1 : Nat) : Int) n0 n1 (by omega)
    have hmo := mod_small n ((m + 1 : Nat) : Int) (by omega)
    unfold val
    split <;> split <;> split <;> omega
  have hsn := sum_next n ((m + 1 : Nat) : Int)
  have hss := fun (k : Nat) (hk : k ≤ m + 1) => sum_small n ((m + 1 : Nat) : Int) n0 (by omega) k (by omega)
  have hsa : sumTo n ((m + 1 : Nat) : Int) (m + 1) = n := sum_all n ((m + 1 : Nat) : Int) (by omega)
  have hs0 : sumTo n ((m + 1 : Nat) : Int) 0 = 0 := by
    have := mod_small n ((m + 1 : Nat) : Int) (by omega)
    unfold sumTo; split <;> simp at * <;> omega
  have hwg := fun (k : Nat) (hk : k < m + 1) => whole_get n ((m + 1 : Nat) : Int) k (by omega)
  have HW := hidden hwg
  have HV := hidden hv
  have HSN := hidden hsn
  have HSS := hidden hss
  have HSA := hidden hsa
  have HS0 := hidden hs0
  clear hP hwl hwg hv hsn hss hsa hs0
  have N0 := hidden n0
  have N1 := hidden n1
  clear n0 n1
  rcases hq with ⟨hb, c1, c2, hE⟩ | ⟨hb, c1, hE⟩ | ⟨hb, rfl⟩ | ⟨hb, c1, rfl⟩
  all_goals first
    | exact absurd (hr.symm.trans hb) (by decide)
    | (go_enter Try.func4, Try.ntmps4
       go_wp2_with (first | (go_at_call 18; refine (HP.out _).mono ?_; rintro e w' ⟨rfl, rfl⟩) | (go_at_call 20; refine (HS.out _).mono ?_; rintro e w1 ⟨rfl, ho, hk⟩; have HO := hidden ho; have HK1 := hidden hk; clear ho hk)  | (go_at_call 17; refine (lawright_any _ _).mono ?_; rintro e w' ⟨rfl, rfl⟩) | (go_at_call 19; refine (awake06 _).mono ?_; rintro e w2 ⟨rfl, hk⟩; have HK := hidden hk; clear hk))
       skip)
  all_goals
    go_loopw [10, 11] (fun t i wr => ∃ k : Nat, k ≤ m + 1 ∧ i = .int .i64 k ∧ t = .int .i64 (sumTo n ((m + 1 : Nat) : Int) k) ∧ Still w1 wr) (fun _ i _ => m + 1 - (intOf i).toNat)
    case atStart => exact ⟨0, Nat.zero_le _, rfl, by rw [HS0.out], Still.refl _⟩
    case round =>
      obtain ⟨k, hk, rfl, rfl, hst⟩ := hrel
      have HSt := hidden hst
      clear hst
      have n1 := N1.out
      have hsk := HSS.out k (by omega)
      by_cases hlt : k < m + 1
      · have x1 := (HSt.out.cell _).trans (own_cell HO.out k hlt)
        have x2 := (HSt.out.cell _).trans (own_cell HO.out 0 (by omega))
        have x3 := (HSt.out.cell _).trans (own_cell HO.out m (by omega))
        rw [HW.out k hlt] at x1
        rw [HW.out 0 (by omega)] at x2
        rw [HW.out m (by omega)] at x3
        obtain ⟨y1, y2, y3, y4, y5⟩ := HV.out k hlt
        obtain ⟨z1, z2, z3, z4, z5⟩ := HV.out m (by omega)
        have hsk1 := HSS.out (k + 1) (by omega)
        have hn := HSN.out k
        generalize sumTo n ((m + 1 : Nat) : Int) k = s0 at *
        generalize hs1 : sumTo n ((m + 1 : Nat) : Int) (k + 1) = s1 at *
        generalize val n ((m + 1 : Nat) : Int) k = vk at *
        generalize val n ((m + 1 : Nat) : Int) 0 = v0 at *
        generalize val n ((m + 1 : Nat) : Int) m = vm at *
        obtain ⟨u1, u2⟩ := hsk
        obtain ⟨u3, u4⟩ := hsk1
        have u5 : s0 + vk ≤ n := by omega
        have HN := hidden hn
        have HS1 := hidden hs1
        clear hn hs1 z1 z2 z3 u3 u4
        go_wp2_with fail
        have e1 : IntKind.i64.wrap (m : Int) = m := IntWalk.i64_in _ (by omega)
        have e2 : IntKind.i64.wrap (v0 - vk) = v0 - vk := IntWalk.i64_in _ (by omega)
        have e3 : (m : Int) < (m : Int) + 1 := by omega
        have e4 : (k : Int) < (m : Int) + 1 := by omega
        have e5 : (0 : Int) < (m : Int) + 1 := by omega
        ((refine wp_region_quiet_lit (by kernel_rfl) (by kernel_rfl) ?_); (repeat (any_goals (first | go_big_quiet_step (fail) | quiet_step (fail) | (refine wpQuiet_step (fun K hK => ?_); go_simp; split <;> (refine hK _ ?_; clear hK K))))); (all_goals (refine wpQuiet_nil ?_; intro _ hw'; obtain ⟨nq, hw''⟩ := hw'; subst hw'')))
        clear e1 e2 e3 e4 e5
        all_goals go_wp2_with fail
        all_goals go_roundw
        case rel => exact ⟨k + 1, by omega, by go_num, by rw [HS1.out, ← HN.out], HSt.out.drewN _⟩
        case measure => simp [intOf]; omega
      · obtain rfl : k = m + 1 := by omega
        have hsa := HSA.out
        generalize sumTo n ((m + 1 : Nat) : Int) (m + 1) = s0 at *
        subst hsa
        go_wp2_with (first | (go_at_call 19; refine (awake06 _).mono ?_; rintro e w2 ⟨rfl, hk⟩; have HK := hidden hk; clear hk))
        go_ret
        exact ⟨rfl, HK1.out.trans ((Kept.still HSt.out).trans HK.out)⟩

end Go.Proofs.Ytfblececmkimiaa

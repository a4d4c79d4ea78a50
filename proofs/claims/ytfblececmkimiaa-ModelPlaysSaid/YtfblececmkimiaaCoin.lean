/- The walks of amounts (layer 6). -/
import Derived.Test.YtfblececmkimiaaRows
import Derived.Test.YtfblececmkimiaaLib
import Derived.Test.YtfblececmkimiaaCoinP
namespace Go.Proofs.Ytfblececmkimiaa
open Go.RowKit
attribute [local go_sem] lmax_two lmin_two

def rightB (n : Int) : Bool := decide (0 ≤ n) && decide (n ≤ 1125899906842624)
theorem right_yes {n : Int} (h0 : 0 ≤ n) (h1 : n ≤ 1125899906842624) : rightB n = true := by simp [rightB, h0, h1]
theorem right_no {n : Int} (h : n < 0 ∨ 1125899906842624 < n) : rightB n = false := by simp [rightB]; omega
theorem right_iff {n : Int} : rightB n = true ↔ 0 ≤ n ∧ n ≤ 1125899906842624 := by simp [rightB]

set_option maxHeartbeats 400000 in
theorem right_any (n : Int) (w : World) : Calls Try.prog 25 #[.int .i64 n] w fun e w' => e = .returned (.bool (rightB n)) ∧ w = w' := by
  go_enter Try.func25, Try.ntmps25
  go_wp2
  all_goals go_ret
  all_goals exact ⟨ret_bool (by unfold rightB; first | rfl | (simp [*]; done) | grind), rfl⟩

def addL : Int → List Int → Int × Int
  | acc, [] => (acc, 0)
  | acc, x :: r => if x < 0 ∨ 1125899906842624 < x then (0, 5) else if 1125899906842624 < acc + x then (0, 10) else addL (acc + x) r

set_option maxRecDepth 100000 in
set_option maxHeartbeats 1000000 in
theorem add_any (A : Option Addr) (c : Nat) (xs : List Int) (w : World) (hr : RdInts w .i64 A xs) (hlen : xs.length ≤ 9223372036854775807) :
    Calls Try.prog 22 #[.slice A xs.length c] w fun e w' => e = .returned (.tuple #[.int .i64 (addL 0 xs).1, .int .i64 (addL 0 xs).2]) ∧ w = w' := by
  have HR := hidden hr
  clear hr
  go_enter Try.func22, Try.ntmps22
  go_wp2_with fail
  go_loop [4, 9] (fun s i => ∃ (k : Nat) (a : Int), k ≤ xs.length ∧ i = .int .i64 k ∧ s = .int .i64 a ∧ 0 ≤ a ∧ a ≤ 1125899906842624 ∧ addL a (xs.drop k) = addL 0 xs) (fun _ i => xs.length - (intOf i).toNat)
  case atStart => exact ⟨0, 0, Nat.zero_le _, rfl, rfl, by omega, by omega, rfl⟩
  case round =>
    obtain ⟨k, a, hk, rfl, rfl, a0, a1, he⟩ := hrel
    have HE := hidden he
    clear he
    by_cases hlt : k < xs.length
    · obtain ⟨ad, rfl, hc⟩ := HR.out k hlt
      have hd := drop_cons xs k hlt
      generalize xs.getD k 0 = z at hc hd
      have HD := hidden hd
      clear hd
      have hnext : addL a (xs.drop k) = if z < 0 ∨ 1125899906842624 < z then (0, 5) else if 1125899906842624 < a + z then (0, 10) else addL (a + z) (xs.drop (k + 1)) := by rw [HD.out]; rfl
      have HN := hidden hnext
      clear hnext
      by_cases hR : 0 ≤ z ∧ z ≤ 1125899906842624
      · obtain ⟨z0, z1⟩ := hR
        have hb := right_yes z0 z1
        go_wp2_with (go_at_call 25; refine (right_any _ _).mono ?_; rintro e w' ⟨rfl, rfl⟩)
        · go_ret2
          have : addL 0 xs = (0, 10) := by rw [← HE.out, HN.out, if_neg (by omega), if_pos (by omega)]
          rw [this]; exact ⟨rfl, rfl⟩
        · go_round
          case rel => exact ⟨k + 1, a + z, by omega, by go_num, rfl, by omega, by omega, by rw [← HE.out, HN.out, if_neg (by omega), if_neg (by omega)]⟩
          case measure => simp [intOf]; omega
      · have hb := right_no (n := z) (by omega)
        go_wp2_with (go_at_call 25; refine (right_any _ _).mono ?_; rintro e w' ⟨rfl, rfl⟩)
        go_ret2
        have : addL 0 xs = (0, 5) := by rw [← HE.out, HN.out, if_pos (by omega)]
        rw [this]; exact ⟨rfl, rfl⟩
    · go_wp2_with fail
      go_ret2
      have : addL 0 xs = (a, 0) := by rw [← HE.out, List.drop_eq_nil_of_le (by omega)]; rfl
      rw [this]; exact ⟨rfl, rfl⟩

theorem addL_range (xs : List Int) : ∀ a, 0 ≤ a → a ≤ 1125899906842624 → 0 ≤ (addL a xs).1 ∧ (addL a xs).1 ≤ 1125899906842624 ∧ 0 ≤ (addL a xs).2 ∧ (addL a xs).2 ≤ 10 := by
  induction xs with
  | nil => intro a h0 h1; simp [addL, h0, h1]
  | cons x r ih =>
    intro a h0 h1
    unfold addL
    split
    · simp
    · split
      · simp
      · exact ih _ (by omega) (by omega)

def subL (n : Int) (xs : List Int) : Int × Int :=
  if n < 0 ∨ 1125899906842624 < n then (0, 5) else if (addL 0 xs).2 ≠ 0 then (0, (addL 0 xs).2) else if n < (addL 0 xs).1 then (0, 14) else (n - (addL 0 xs).1, 0)

set_option maxRecDepth 100000 in
set_option maxHeartbeats 1000000 in
theorem sub_any (n : Int) (A : Option Addr) (c : Nat) (xs : List Int) (w : World) (hr : RdInts w .i64 A xs) (hlen : xs.length ≤ 9223372036854775807) :
    Calls Try.prog 23 #[.int .i64 n, .slice A xs.length c] w fun e w' => e = .returned (.tuple #[.int .i64 (subL n xs).1, .int .i64 (subL n xs).2]) ∧ w = w' := by
  have h0 := addL_range xs 0 (by omega) (by omega)
  obtain ⟨p, hp⟩ : ∃ p, p = addL 0 xs := ⟨_, rfl⟩
  have HA : ∀ W : World, RdInts W .i64 A xs → Calls Try.prog 22 #[.slice A xs.length c] W fun e w' => e = .returned (.tuple #[.int .i64 p.1, .int .i64 p.2]) ∧ W = w' := fun W h => by rw [hp]; exact add_any A c xs W h hlen
  obtain ⟨b0, b1, b2, b3⟩ := h0
  have hs : subL n xs = if n < 0 ∨ 1125899906842624 < n then (0, 5) else if p.2 ≠ 0 then (0, p.2) else if n < p.1 then (0, 14) else (n - p.1, 0) := by rw [hp]; rfl
  rw [← hp] at b0 b1 b2 b3
  obtain ⟨x, y⟩ := p
  simp only at b0 b1 b2 b3
  have HS := hidden hs
  have HB := hidden HA
  have HR := hidden hr
  clear hr hp hs HA
  by_cases hR : 0 ≤ n ∧ n ≤ 1125899906842624
  · obtain ⟨n0, n1⟩ := hR
    have hb := right_yes n0 n1
    go_enter Try.func23, Try.ntmps23
    go_wp2_with (first | (go_at_call 22; refine (HB.out _ HR.out).mono ?_; rintro e w' ⟨rfl, rfl⟩) | (go_at_call 25; refine (right_any _ _).mono ?_; rintro e w' ⟨rfl, rfl⟩))
    all_goals go_ret2
    all_goals go_light
    all_goals (refine ⟨ret_two ?_ ?_, rfl⟩ <;> (rw [HS.out]; grind))
  · have hb := right_no (n := n) (by omega)
    go_enter Try.func23, Try.ntmps23
    go_wp2_with (first | (go_at_call 22; refine (HB.out _ HR.out).mono ?_; rintro e w' ⟨rfl, rfl⟩) | (go_at_call 25; refine (right_any _ _).mono ?_; rintro e w' ⟨rfl, rfl⟩))
    go_ret2
    exact ⟨ret_two (by rw [HS.out, if_pos (by omega)]) (by rw [HS.out, if_pos (by omega)]), rfl⟩

def partZ (n f : Int) : Int := if (0 ≤ n ∧ n ≤ 1125899906842624) ∧ 0 ≤ f then n * (if f < 1000 then f else 1000) / 1000 else 0
theorem partZ_range (n f : Int) : 0 ≤ partZ n f ∧ partZ n f ≤ 1125899906842624 := by
  unfold partZ
  split
  · rename_i h
    have a : 0 ≤ n * (if f < 1000 then f else 1000) := Int.mul_nonneg h.1.1 (by split <;> omega)
    have b : n * (if f < 1000 then f else 1000) ≤ 1125899906842624 * 1000 := Int.mul_le_mul h.1.2 (by split <;> omega) (by split <;> omega) (by omega)
    omega
  · omega

set_option maxRecDepth 100000 in
set_option maxHeartbeats 1000000 in
theorem part_any (n f : Int) (w : World) : Calls Try.prog 18 #[.int .i64 n, .int .i64 f] w fun e w' => e = .returned (.int .i64 (partZ n f)) ∧ w = w' := by
  by_cases hR : 0 ≤ n ∧ n ≤ 1125899906842624
  · have hb := right_yes hR.1 hR.2
    by_cases hf : f < 0
    · go_enter Try.func18, Try.ntmps18
      go_wp2_with (go_at_call 25; refine (right_any _ _).mono ?_; rintro e w' ⟨rfl, rfl⟩)
      go_ret
      exact ⟨ret_int (by unfold partZ; rw [if_neg (by omega)]), rfl⟩
    · have h0 : 0 ≤ f := by omega
      obtain ⟨k, hk⟩ : ∃ k, k = if f < 1000 then f else 1000 := ⟨_, rfl⟩
      have hpz : partZ n f = n * k / 1000 := by unfold partZ; rw [if_pos ⟨hR, h0⟩, hk]
      have a : 0 ≤ n * k := Int.mul_nonneg hR.1 (by rw [hk]; split <;> omega)
      have b : n * k ≤ 1125899906842624 * 1000 := Int.mul_le_mul hR.2 (by rw [hk]; split <;> omega) (by rw [hk]; split <;> omega) (by omega)
      have HP := hidden hpz
      have e1 : wrap64 (n * k) = n * k := by unfold wrap64; omega
      have e2 : wrap64 ((n * k).tdiv 1000) = n * k / 1000 := by rw [Int.tdiv_eq_ediv_of_nonneg a]; unfold wrap64; omega
      have E1 := hidden e1
      have E2 := hidden e2
      have HK := hidden hk
      clear hpz e1 e2 a b hk
      go_enter Try.func18, Try.ntmps18
      go_wp2_with (go_at_call 25; refine (right_any _ _).mono ?_; rintro e w' ⟨rfl, rfl⟩)
      all_goals go_ret
      all_goals go_light
      all_goals refine ⟨ret_int ?_, rfl⟩
      · have hk : k = 1000 := by rw [HK.out]; omega
        rw [HP.out, ← E2.out, ← E1.out, hk]
      · have hk : k = f := by rw [HK.out]; omega
        rw [HP.out, ← E2.out, ← E1.out, hk]
  · have hb := right_no (n := n) (by omega)
    go_enter Try.func18, Try.ntmps18
    go_wp2_with (go_at_call 25; refine (right_any _ _).mono ?_; rintro e w' ⟨rfl, rfl⟩)
    go_ret
    exact ⟨ret_int (by unfold partZ; rw [if_neg (fun h => hR h.1)]), rfl⟩

theorem Try.info2 : (Try.prog.info? 2).map (fun i => (i.zero, i.size, i.bytes)) = some (some (.int .i64 0), 1, 8) := by kernel_rfl

set_option maxRecDepth 100000 in
set_option maxHeartbeats 1000000 in
theorem split_no (n p : Int) (w : World) (h : (n < 0 ∨ 1125899906842624 < n) ∨ p < 1 ∨ 65536 < p) : Calls Try.prog 20 #[.int .i64 n, .int .i64 p] w fun e w' => e = .returned (.slice none 0 0) ∧ w = w' := by
  by_cases hR : 0 ≤ n ∧ n ≤ 1125899906842624
  · have hb := right_yes hR.1 hR.2
    have h2 : p < 1 ∨ 65536 < p := by omega
    by_cases h3 : p < 1
    · have h4 : decide (p < 1) = true := decide_eq_true h3
      go_enter Try.func20, Try.ntmps20
      go_wp2_with (go_at_call 25; refine (right_any _ _).mono ?_; rintro e w' ⟨rfl, rfl⟩)
      go_ret
      exact ⟨rfl, rfl⟩
    · have h5 : 65536 < p := by omega
      go_enter Try.func20, Try.ntmps20
      go_wp2_with (go_at_call 25; refine (right_any _ _).mono ?_; rintro e w' ⟨rfl, rfl⟩)
      go_ret
      exact ⟨rfl, rfl⟩
  · have hb := right_no (n := n) (by omega)
    go_enter Try.func20, Try.ntmps20
    go_wp2_with (go_at_call 25; refine (right_any _ _).mono ?_; rintro e w' ⟨rfl, rfl⟩)
    go_ret
    exact ⟨rfl, rfl⟩

set_option maxRecDepth 100000 in
set_option maxHeartbeats 2000000 in
theorem split_yes (n : Int) (m : Nat) (w : World) (h0 : 0 ≤ n) (h1 : n ≤ 1125899906842624) (m0 : 1 ≤ m) (m1 : m ≤ 65536) :
    Calls Try.prog 20 #[.int .i64 n, .int .i64 m] w fun e w' => e = .returned (.slice (some ⟨w.heap.size, 0, none⟩) m m) ∧ w'.ownsRow w.heap.size 2 1 (.slice (some ⟨w.heap.size, 0, none⟩) m m) m (nums .i64 (whole n m)) ∧ Kept Nob w w' := by
  have hb := right_yes h0 h1
  have hd := div_small n m h0 h1 (by omega)
  obtain ⟨i0, hi, hz0, hz1, hz2⟩ := info_parts Try.info2
  have hib : i0.bytes * m ≤ 281474976710656 := by rw [hz2]; omega
  have E1 := hidden (Int.tdiv_eq_ediv_of_nonneg (b := (m : Int)) h0)
  have E2 := hidden (Int.tmod_eq_emod_of_nonneg (b := (m : Int)) h0)
  have hm := mod_small n m (by omega)
  obtain ⟨q, hq⟩ : ∃ q, q = n / (m : Int) := ⟨_, rfl⟩
  obtain ⟨t, ht⟩ : ∃ t, t = n % (m : Int) := ⟨_, rfl⟩
  rw [← hq] at hd
  rw [← ht] at hm
  have HQ := hidden hq
  have HT := hidden ht
  clear hq ht
  go_enter Try.func20, Try.ntmps20
  go_wp2_with (first | (go_at_call 25; refine (right_any _ _).mono ?_; rintro e w' ⟨rfl, rfl⟩) | (refine wpList_make_full _ rfl (.tmp 18) (.tmp 18) 31 rfl w.heap.size 2 i0 (.int .i64 0) 1 Try.underlying31 hi hz0 hz1 .i64 .i64 m m m rfl rfl rfl rfl hib (by unfold maxLen; omega) (Nat.le_refl _) ?_; intro w1 hown hgr; rw [made_nums, show List.replicate m (0 : Int) = upto n m 0 from by have := upto_zero n m; simpa using this] at hown; have HO := hidden hown; have HG := hidden hgr; clear hown hgr))
  go_loopw [22] (fun i wr => ∃ k : Nat, k ≤ m ∧ i = .int .i64 k ∧ wr.ownsRow w.heap.size 2 1 (.slice (some ⟨w.heap.size, 0, none⟩) m m) m (nums .i64 (upto n m k)) ∧ Kept Nob w wr) (fun i _ => m - (intOf i).toNat)
  case atStart => exact ⟨0, Nat.zero_le _, rfl, HO.out, Kept.grown (Kept.refl _ _) HG.out (by simp)⟩
  case round =>
    obtain ⟨k, hk, rfl, ho, hkp⟩ := hrel
    have HW := hidden ho
    have HKp := hidden hkp
    clear ho hkp
    by_cases hlt : k < m
    · have hcell := own_cell HW.out k hlt
      have hfr := World.ownsRow.frozenAt HW.out k
      have hs1 := World.ownsRow.stored HW.out k (.int .i64 q)
      have hval : val n m k = q + if (k : Int) < t then 1 else 0 := by rw [HQ.out, HT.out]; rfl
      rw [nums_set] at hs1
      have hs2 := World.ownsRow.stored HW.out k (.int .i64 (q + 1))
      rw [nums_set] at hs2
      have hset := upto_set n m k
      have HV := hidden hval
      have HS1 := hidden hs1
      have HS2 := hidden hs2
      have HSet := hidden hset
      clear hval hs1 hs2 hset
      have e1 : n.tdiv (m : Int) = q := by rw [E1.out, HQ.out]
      have e2 : n.tmod (m : Int) = t := by rw [E2.out, HT.out]
      by_cases hc : (k : Int) < t
      · go_wp2_with fail
        go_roundw
        case rel =>
          refine ⟨k + 1, by omega, by go_num, ?_, ?_⟩
          · have h := (World.ownsRow.stored HS1.out.1 k (.int .i64 (q + 1))).1
            rw [nums_set, List.set_set, show (upto n m k).set k (q + 1) = upto n m (k + 1) from by rw [← HSet.out, HV.out, if_pos hc]] at h
            exact h
          · exact Kept.setCell (Kept.setCell HKp.out (by simp) _) (by simp) _
        case measure => simp [intOf]; omega
      · go_wp2_with fail
        go_roundw
        case rel =>
          refine ⟨k + 1, by omega, by go_num, ?_, ?_⟩
          · have h := HS1.out.1
            have e : q = val n m k := by rw [HV.out, if_neg hc]; omega
            rw [show (upto n m k).set k q = upto n m (k + 1) from by rw [e, HSet.out]] at h
            exact h
          · exact Kept.setCell HKp.out (by simp) _
        case measure => simp [intOf]; omega
    · obtain rfl : k = m := by omega
      go_wp2_with fail
      go_ret
      exact ⟨rfl, by have := HW.out; rwa [show upto n k k = whole n k from by simpa using upto_all n k] at this, HKp.out⟩

end Go.Proofs.Ytfblececmkimiaa

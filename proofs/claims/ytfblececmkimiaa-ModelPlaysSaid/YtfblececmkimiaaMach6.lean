/- The machine of numbers: what it pays, and what it is sure of. -/
import Derived.Test.YtfblececmkimiaaMach2
import Derived.Test.YtfblececmkimiaaCoin
namespace Go.Proofs.Ytfblececmkimiaa
open Go.RowKit

def paysF (m : Mach) (side state : Int) : Int × Int :=
  if side ≠ 0 ∧ side ≠ 1 then (0, 1) else if state < 0 ∨ (m.l.length : Int) ≤ state then (0, 7) else
  if side = 1 ∧ state < m.peer then (m.total, 0) else if side = 0 ∧ state < m.given then (0, 0) else (m.l.getD state.toNat 0, 0)

set_option maxHeartbeats 400000 in
theorem least_any (a b : Int) (w : World) : Calls Try.prog 79 #[.int .i64 a, .int .i64 b] w fun e w' => e = .returned (.int .i64 (if b < a then b else a)) ∧ w = w' := by
  by_cases h : b < a
  · rw [if_pos h]
    go_enter Try.func79, Try.ntmps79
    go_wp2
    go_ret
    exact ⟨rfl, rfl⟩
  · rw [if_neg h]
    go_enter Try.func79, Try.ntmps79
    go_wp2
    go_ret
    exact ⟨rfl, rfl⟩

set_option maxRecDepth 100000 in
set_option maxHeartbeats 8000000 in
theorem pays_any (g : Nat) (v : Value) (m : Mach) (side state : Int) (w : World) (h : MachAt 132 w g v m) (ok : m.Ok) :
    Calls Try.prog 56 #[.pointer (some ⟨g, 0, none⟩), .int .i64 side, .int .i64 state] w fun e w' => e = .returned (.tuple #[.int .i64 (paysF m side state).1, .int .i64 (paysF m side state).2]) ∧ w = w' := by
  obtain ⟨r, c, rfl, hc, hf, hc1, hc2, hr⟩ := h.open_ (by have := ok.g0; have := ok.g1; omega)
  obtain ⟨t0, t1, g0, g1, len, p0, p1, s0, s1, vals⟩ := ok
  have hpos : 0 < m.l.length := by omega
  by_cases hs : 0 ≤ state ∧ state < m.l.length
  · obtain ⟨hs0, hs1⟩ := hs
    have hrs := hr state.toNat (by omega)
    obtain ⟨z, hz⟩ : ∃ z, z = m.l.getD state.toNat 0 := ⟨_, rfl⟩
    have hp : paysF m side state = if side ≠ 0 ∧ side ≠ 1 then (0, 1) else if side = 1 ∧ state < m.peer then (m.total, 0) else if side = 0 ∧ state < m.given then (0, 0) else (z, 0) := by
      unfold paysF; rw [if_neg (c := state < 0 ∨ (m.l.length : Int) ≤ state) (by omega), hz]
    rw [← hz] at hrs
    generalize paysF m side state = q at hp
    have HP := hidden hp
    clear h vals hr hz hp
    go_enter Try.func56, Try.ntmps56
    go_wp2_with (go_at_call 78; refine (none_no _ _ (some ⟨r, 0, none⟩) _ _ (by simp [hc]; exact ⟨rfl, rfl⟩) (by omega)).mono ?_; rintro e w' ⟨rfl, rfl⟩)
    all_goals go_ret2
    all_goals go_light
    all_goals exact ⟨ret_two (by rw [HP.out]; grind) (by rw [HP.out]; grind), rfl⟩
  · have hp : paysF m side state = if side ≠ 0 ∧ side ≠ 1 then (0, 1) else (0, 7) := by
      unfold paysF; rw [if_pos (c := state < 0 ∨ (m.l.length : Int) ≤ state) (by omega)]
    have hs' : state < 0 ∨ (0 ≤ state ∧ (m.l.length : Int) ≤ state) := by omega
    generalize paysF m side state = q at hp
    have HP := hidden hp
    clear h vals hr hp hs
    rcases hs' with c1 | ⟨c1, c2⟩
    all_goals go_enter Try.func56, Try.ntmps56
    all_goals go_wp2_with (go_at_call 78; refine (none_no _ _ (some ⟨r, 0, none⟩) _ _ (by simp [hc]; exact ⟨rfl, rfl⟩) (by omega)).mono ?_; rintro e w' ⟨rfl, rfl⟩)
    all_goals go_ret2
    all_goals go_light
    all_goals exact ⟨ret_two (by rw [HP.out]; grind) (by rw [HP.out]; grind), rfl⟩

set_option maxRecDepth 100000 in
set_option maxHeartbeats 8000000 in
theorem lawpays_any (g : Nat) (v : Value) (m : Mach) (side state : Int) (w : World) (h : MachAt 101 w g v m) (ok : m.Ok) :
    Calls Try.prog 55 #[.pointer (some ⟨g, 0, none⟩), .int .i64 side, .int .i64 state] w fun e w' => e = .returned (.tuple #[.int .i64 (paysF m side state).1, .int .i64 (paysF m side state).2]) ∧ w = w' := by
  obtain ⟨r, c, rfl, hc, hf, hc1, hc2, hr⟩ := h.open_ (by have := ok.g0; have := ok.g1; omega)
  obtain ⟨t0, t1, g0, g1, len, p0, p1, s0, s1, vals⟩ := ok
  have hpos : 0 < m.l.length := by omega
  by_cases hs : 0 ≤ state ∧ state < m.l.length
  · obtain ⟨hs0, hs1⟩ := hs
    have hrs := hr state.toNat (by omega)
    obtain ⟨z, hz⟩ : ∃ z, z = m.l.getD state.toNat 0 := ⟨_, rfl⟩
    have hp : paysF m side state = if side ≠ 0 ∧ side ≠ 1 then (0, 1) else if side = 1 ∧ state < m.peer then (m.total, 0) else if side = 0 ∧ state < m.given then (0, 0) else (z, 0) := by
      unfold paysF; rw [if_neg (c := state < 0 ∨ (m.l.length : Int) ≤ state) (by omega), hz]
    rw [← hz] at hrs
    generalize paysF m side state = q at hp
    have HP := hidden hp
    clear h vals hr hz hp
    go_enter Try.func55, Try.ntmps55
    go_wp2_with fail
    all_goals go_ret2
    all_goals go_light
    all_goals exact ⟨ret_two (by rw [HP.out]; grind) (by rw [HP.out]; grind), rfl⟩
  · have hp : paysF m side state = if side ≠ 0 ∧ side ≠ 1 then (0, 1) else (0, 7) := by
      unfold paysF; rw [if_pos (c := state < 0 ∨ (m.l.length : Int) ≤ state) (by omega)]
    have hs' : state < 0 ∨ (0 ≤ state ∧ (m.l.length : Int) ≤ state) := by omega
    generalize paysF m side state = q at hp
    have HP := hidden hp
    clear h vals hr hp hs
    rcases hs' with c1 | ⟨c1, c2⟩
    all_goals go_enter Try.func55, Try.ntmps55
    all_goals go_wp2_with fail
    all_goals go_ret2
    all_goals go_light
    all_goals exact ⟨ret_two (by rw [HP.out]; grind) (by rw [HP.out]; grind), rfl⟩

/-- What the client is sure of, of so many states. -/
def owedTo (l : List Int) (G : Nat) : Nat → Int
  | 0 => l.getD G 0
  | k + 1 => if G ≤ k ∧ l.getD k 0 < owedTo l G k then l.getD k 0 else owedTo l G k
theorem owedTo_le (l : List Int) (G : Nat) : ∀ k, k ≤ G → owedTo l G k = l.getD G 0
  | 0, _ => rfl
  | k + 1, h => by unfold owedTo; rw [if_neg (by omega), owedTo_le l G k (by omega)]
theorem owedTo_range (l : List Int) (G : Nat) (t : Int) (hG : G < l.length) (hv : ∀ j : Nat, j < l.length → 0 ≤ l.getD j 0 ∧ l.getD j 0 ≤ t) : ∀ k, k ≤ l.length → 0 ≤ owedTo l G k ∧ owedTo l G k ≤ t
  | 0, _ => hv G hG
  | k + 1, h => by
    unfold owedTo
    split
    · exact hv k (by omega)
    · exact owedTo_range l G t hG hv k (by omega)
/-- The worst that the peer can close with, of so many states. -/
def worstTo (m : Mach) : Nat → Int
  | 0 => m.total
  | k + 1 => if (paysF m 1 k).1 < worstTo m k then (paysF m 1 k).1 else worstTo m k

set_option maxRecDepth 100000 in
set_option maxHeartbeats 8000000 in
theorem worst_any (g : Nat) (v : Value) (m : Mach) (w : World) (h : MachAt 132 w g v m) (ok : m.Ok) :
    Calls Try.prog 49 #[.pointer (some ⟨g, 0, none⟩)] w fun e w' => e = .returned (.int .i64 (worstTo m m.l.length)) ∧ w = w' := by
  have HP := hidden (fun st => pays_any g v m 1 st w h ok)
  obtain ⟨r, c, rfl, hc, hf, hc1, hc2, hr⟩ := h.open_ (by have := ok.g0; have := ok.g1; omega)
  obtain ⟨t0, t1, g0, g1, len, p0, p1, s0, s1, vals⟩ := ok
  have hpos : 0 < m.l.length := by omega
  clear h vals hr
  go_enter Try.func49, Try.ntmps49
  go_wp2_with (go_at_call 78; refine (none_no _ _ (some ⟨r, 0, none⟩) _ _ (by simp [hc]; exact ⟨rfl, rfl⟩) (by omega)).mono ?_; rintro e w' ⟨rfl, rfl⟩)
  go_loop [3, 18] (fun x i => ∃ k : Nat, k ≤ m.l.length ∧ i = .int .i64 k ∧ x = .int .i64 (worstTo m k)) (fun _ i => m.l.length - (intOf i).toNat)
  case atStart => exact ⟨0, Nat.zero_le _, rfl, rfl⟩
  case round =>
    obtain ⟨k, hk, rfl, rfl⟩ := hrel
    by_cases hlt : k < m.l.length
    · have HN : Hid (worstTo m (k + 1) = if (paysF m 1 k).1 < worstTo m k then (paysF m 1 k).1 else worstTo m k) := hidden rfl
      generalize worstTo m k = u at *
      have HQ := hidden (HP.out k)
      generalize paysF m 1 k = q at HN HQ
      go_wp2_with (first | (go_at_call 56; refine HQ.out.mono ?_; rintro e w' ⟨rfl, rfl⟩) | (go_at_call 79; refine (least_any _ _ _).mono ?_; rintro e w' ⟨rfl, rfl⟩))
      all_goals go_round
      case rel => exact ⟨k + 1, by omega, by go_num, by rw [HN.out]⟩
      case measure => simp [intOf]; omega
    · obtain rfl : k = m.l.length := by omega
      go_wp2_with fail
      go_ret
      exact ⟨rfl, rfl⟩
end Go.Proofs.Ytfblececmkimiaa

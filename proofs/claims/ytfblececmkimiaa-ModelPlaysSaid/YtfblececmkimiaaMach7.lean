/- The machine of numbers: what it owes, how it is made, and its calls. -/
import Derived.Test.YtfblececmkimiaaMach6
namespace Go.Proofs.Ytfblececmkimiaa
open Go.RowKit

set_option maxRecDepth 100000 in
set_option maxHeartbeats 8000000 in
theorem owed_any (g : Nat) (v : Value) (m : Mach) (G : Nat) (w : World) (h : MachAt 132 w g v m) (ok : m.Ok) (hG : m.given = G) :
    Calls Try.prog 50 #[.pointer (some ⟨g, 0, none⟩)] w fun e w' => e = .returned (.int .i64 (owedTo m.l G m.l.length)) ∧ Still w w' := by
  obtain ⟨r, c, rfl, hc, hf, hc1, hc2, hr⟩ := h.open_ (by have := ok.g0; have := ok.g1; omega)
  obtain ⟨t0, t1, g0, g1, len, p0, p1, s0, s1, vals⟩ := ok
  simp only [hG] at hc g0 g1
  have hG1 : G < m.l.length := by omega
  have hpos : 0 < m.l.length := by omega
  have hcg : ¬ (c = G) := by omega
  have x0 := hr G hG1
  have HR := hidden hr
  have HO := hidden (owedTo_le m.l G G (Nat.le_refl _))
  obtain ⟨z0, hz0⟩ : ∃ z, z = m.l.getD G 0 := ⟨_, rfl⟩
  rw [← hz0] at x0
  have HZ0 := hidden hz0
  clear h vals hr hG hz0
  go_enter Try.func50, Try.ntmps50
  go_wp2_with (go_at_call 78; refine (none_no _ _ (some ⟨r, 0, none⟩) _ _ (by simp [hc]; exact ⟨rfl, rfl⟩) (by omega)).mono ?_; rintro e w' ⟨rfl, rfl⟩)
  ((refine wp_region_quiet_lit (by kernel_rfl) (by kernel_rfl) ?_); (repeat (any_goals (first | go_big_quiet_step (fail) | quiet_step (fail) | (refine wpQuiet_step (fun K hK => ?_); go_simp; split <;> (refine hK _ ?_; clear hK K))))); (all_goals (refine wpQuiet_nil ?_; intro _ hw'; obtain ⟨nq, hw''⟩ := hw'; subst hw'')))
  go_wp2_with fail
  ((refine wp_region_quiet_lit (by kernel_rfl) (by kernel_rfl) ?_); (repeat (any_goals (first | go_big_quiet_step (fail) | quiet_step (fail) | (refine wpQuiet_step (fun K hK => ?_); go_simp; split <;> (refine hK _ ?_; clear hK K))))); (all_goals (refine wpQuiet_nil ?_; intro _ hw'; obtain ⟨nq, hw''⟩ := hw'; subst hw'')))
  go_wp2_with fail
  go_loopw [3, 28] (fun x i wr => ∃ k : Nat, k ≤ m.l.length - G ∧ i = .int .i64 k ∧ x = .int .i64 (owedTo m.l G (G + k)) ∧ Still w wr) (fun _ i _ => m.l.length - (intOf i).toNat)
  case atStart => exact ⟨0, Nat.zero_le _, rfl, by rw [Nat.add_zero, HO.out, ← HZ0.out], by repeat (first | exact Still.refl _ | apply Still.drewN)⟩
  case round =>
    obtain ⟨k, hk, rfl, rfl, hst⟩ := hrel
    have HSt := hidden hst
    clear hst
    by_cases hlt : k < m.l.length - G
    · have HN : Hid (owedTo m.l G (G + k + 1) = if G ≤ G + k ∧ m.l.getD (G + k) 0 < owedTo m.l G (G + k) then m.l.getD (G + k) 0 else owedTo m.l G (G + k)) := hidden rfl
      have x1 := (HSt.out.cell _).trans (HR.out (G + k) (by omega))
      generalize owedTo m.l G (G + k) = u at *
      generalize m.l.getD (G + k) 0 = z at *
      by_cases hzu : z < u
      all_goals
        go_wp2_with (first | (go_at_call 79; refine (least_any _ _ _).mono ?_; rintro e w' ⟨rfl, rfl⟩; first | rw [if_pos hzu] | rw [if_neg hzu]))
        go_roundw
        case rel => exact ⟨k + 1, by omega, by go_num, by rw [← Nat.add_assoc, HN.out]; split <;> first | rfl | (exfalso; omega), HSt.out⟩
        case measure => simp [intOf]; omega
    · obtain rfl : k = m.l.length - G := by omega
      have e : G + (m.l.length - G) = m.l.length := by omega
      rw [e]
      go_wp2_with fail
      go_ret
      exact ⟨rfl, HSt.out⟩

def newOk (t c : Int) : Prop := 1 ≤ t ∧ t ≤ 1125899906842624 ∧ 0 ≤ c ∧ c ≤ t
theorem sub_one (t c : Int) : subL t [c] = if t < 0 ∨ 1125899906842624 < t then (0, 5) else if c < 0 ∨ 1125899906842624 < c then (0, 5) else if t < c then (0, 14) else (t - c, 0) := by
  unfold subL addL addL
  grind
theorem rd_one {w : World} {b : Nat} {T : TypeId} {c : Int} (h : w.heap[b]? = some (.cells #[.int .i64 c] T (0, 0))) : RdInts w .i64 (some ⟨b, 0, none⟩) [c] := fun i hi => by
  have : i = 0 := by simp at hi; omega
  subst this
  exact ⟨_, rfl, by rw [show ((⟨b, 0, none⟩ : Addr).add 0) = ⟨b, 0, none⟩ from rfl, blk_cell h]; rfl⟩
def Mach.new (t c : Int) : Mach := ⟨t, [c], 0, 0, 0, false⟩

set_option maxRecDepth 100000 in
set_option maxHeartbeats 8000000 in
theorem new_yes (t c : Int) (w : World) (hn : newOk t c) :
    Calls Try.prog 46 #[.int .i64 t, .int .i64 c] w fun e w' => e = .returned (.tuple #[.pointer (some ⟨w.heap.size + 2, 0, none⟩), .int .i64 0]) ∧
      MachAt 132 w' (w.heap.size + 2) (.slice (some ⟨w.heap.size + 1, 0, none⟩) 1 1) (Mach.new t c) ∧ Kept Nob w w' := by
  obtain ⟨t0, t1, c0, c1⟩ := hn
  have hs : subL t [c] = (t - c, 0) := by rw [sub_one]; grind
  have HS := hidden (fun W (h : RdInts W .i64 (some ⟨w.heap.size, 0, none⟩) [c]) => sub_any t (some ⟨w.heap.size, 0, none⟩) 1 [c] W h (by simp))
  rw [hs] at HS
  clear hs
  go_enter Try.func46, Try.ntmps46
  go_wp2_with (go_at_call 23; refine (HS.out _ (rd_one (heap_alloc_new _ _))).mono ?_; rintro e w' ⟨rfl, rfl⟩)
  go_ret2
  refine ⟨rfl, ⟨?_, ?_⟩, (by repeat (first | exact Kept.refl _ _ | apply Kept.alloc | apply Kept.drewN | apply Kept.drew))⟩
  · exact blk_new_at (by simp)
  · refine World.ownsRow.alloc ?_ _
    exact ⟨rfl, .inr ⟨_, 1, #[.int .i64 c], rfl, Nat.zero_le _, blk_new_at (by simp), Nat.le_refl _, by unfold maxLen; omega, rfl, rfl⟩⟩

set_option maxRecDepth 100000 in
set_option maxHeartbeats 8000000 in
theorem new_no (t c : Int) (w : World) (hn : ¬ newOk t c) :
    Calls Try.prog 46 #[.int .i64 t, .int .i64 c] w fun e w' => e = .returned (.tuple #[.pointer none, .int .i64 1]) ∧ Kept Nob w w' := by
  have hs := sub_one t c
  have hcase : (∃ x y, subL t [c] = (x, y) ∧ 0 < y) ∨ (∃ x, subL t [c] = (x, 0) ∧ t < 1) := by
    unfold newOk at hn
    rw [hs]
    by_cases h1 : t < 0 ∨ 1125899906842624 < t
    · rw [if_pos h1]; exact .inl ⟨_, _, rfl, by omega⟩
    · rw [if_neg h1]
      by_cases h2 : c < 0 ∨ 1125899906842624 < c
      · rw [if_pos h2]; exact .inl ⟨_, _, rfl, by omega⟩
      · rw [if_neg h2]
        by_cases h3 : t < c
        · rw [if_pos h3]; exact .inl ⟨_, _, rfl, by omega⟩
        · rw [if_neg h3]; exact .inr ⟨_, rfl, by omega⟩
  have HS := hidden (fun W (h : RdInts W .i64 (some ⟨w.heap.size, 0, none⟩) [c]) => sub_any t (some ⟨w.heap.size, 0, none⟩) 1 [c] W h (by simp))
  clear hs hn
  rcases hcase with ⟨x, y, h1, h2⟩ | ⟨x, h1, h2⟩
  all_goals
    rw [h1] at HS
    clear h1
    go_enter Try.func46, Try.ntmps46
    go_wp2_with (go_at_call 23; refine (HS.out _ (rd_one (heap_alloc_new _ _))).mono ?_; rintro e w' ⟨rfl, rfl⟩)
    go_ret2
    exact ⟨rfl, (by repeat (first | exact Kept.refl _ _ | apply Kept.alloc | apply Kept.drewN | apply Kept.drew))⟩

set_option maxRecDepth 100000 in
set_option maxHeartbeats 8000000 in
theorem call_any (g : Nat) (v : Value) (m : Mach) (k x : Int) (w : World) (h : MachAt 132 w g v m) (ok : m.Ok) :
    Calls Try.prog 48 #[.pointer (some ⟨g, 0, none⟩), .agg #[.int .i64 k, .int .i64 x]] w fun e w' => e = .returned (.int .i64 (opE m k x)) ∧ MachOut 132 w g v (opM m k x) w' := by
  have H := hidden h
  have hk1 := hidden (show Kept Nob w (w.alloc (.cells #[.int .i64 k, .int .i64 x] 96)) from (by repeat (first | exact Kept.refl _ _ | apply Kept.alloc | apply Kept.drewN | apply Kept.drew)))
  have HM := hidden (h.kept hk1.out (fun h => h) (fun _ _ h => h))
  have OK := hidden ok
  clear h ok
  have hcase : k = 0 ∨ k = 1 ∨ k = 2 ∨ k = 3 ∨ k = 4 ∨ k < 0 ∨ 4 < k := by omega
  rcases hcase with rfl | rfl | rfl | rfl | rfl | hk | hk
  · go_enter Try.func48, Try.ntmps48
    go_wp2_with (go_at_call 57; refine (sign_any g v m x _ HM.out OK.out).mono ?_; rintro e w1 ⟨rfl, ho⟩; have HO := hidden ho; clear ho)
    go_ret
    exact ⟨ret_int (by rfl), HO.out.pre hk1.out H.out⟩
  · go_enter Try.func48, Try.ntmps48
    go_wp2_with (go_at_call 57; refine (sign_any g v m x _ HM.out OK.out).mono ?_; rintro e w1 ⟨rfl, ho⟩; have HO := hidden ho; clear ho)
    go_ret
    exact ⟨ret_int (by rfl), HO.out.pre hk1.out H.out⟩
  · go_enter Try.func48, Try.ntmps48
    go_wp2_with (go_at_call 58; refine (revoke_any g v m _ HM.out OK.out).mono ?_; rintro e w1 ⟨rfl, ho⟩; have HO := hidden ho; clear ho)
    go_ret
    exact ⟨ret_int (by rfl), HO.out.pre hk1.out H.out⟩
  · go_enter Try.func48, Try.ntmps48
    go_wp2_with (go_at_call 59; refine (watch_any g v m _ HM.out OK.out).mono ?_; rintro e w1 ⟨rfl, ho⟩; have HO := hidden ho; clear ho)
    go_ret
    exact ⟨ret_int (by rfl), HO.out.pre hk1.out H.out⟩
  · go_enter Try.func48, Try.ntmps48
    go_wp2_with (go_at_call 60; refine (give_any g v m _ HM.out OK.out).mono ?_; rintro e w1 ⟨rfl, ho⟩; have HO := hidden ho; clear ho)
    go_ret
    exact ⟨ret_int (by rfl), HO.out.pre hk1.out H.out⟩
  all_goals
    have e1 : opE m k x = closeE m := by unfold opE; grind
    have e2 : opM m k x = closeM m := by unfold opM; grind
    rw [e1, e2]
    clear e1 e2
    go_enter Try.func48, Try.ntmps48
    go_wp2_with (go_at_call 61; refine (close_any g v m _ HM.out OK.out).mono ?_; rintro e w1 ⟨rfl, ho⟩; have HO := hidden ho; clear ho)
    go_ret
    exact ⟨rfl, HO.out.pre hk1.out H.out⟩
end Go.Proofs.Ytfblececmkimiaa

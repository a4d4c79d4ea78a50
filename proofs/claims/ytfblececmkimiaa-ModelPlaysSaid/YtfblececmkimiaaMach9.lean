/- The machine of numbers: one that is nil, and the walks of two laws. -/
import Derived.Test.YtfblececmkimiaaMach8
namespace Go.Proofs.Ytfblececmkimiaa
open Go.RowKit

theorem none_yes (w : World) : Calls Try.prog 78 #[.pointer none] w fun e w' => e = .returned (.bool true) ∧ w = w' := by
  go_enter Try.func78, Try.ntmps78
  go_wp2
  go_ret
  exact ⟨rfl, rfl⟩
set_option maxRecDepth 100000 in
set_option maxHeartbeats 800000 in
theorem nil56 (x y : Int) (w : World) : Calls Try.prog 56 #[.pointer none, .int .i64 x, .int .i64 y] w fun e w' => e = .returned (.tuple #[.int .i64 0, .int .i64 1]) ∧ w = w' := by
  go_enter Try.func56, Try.ntmps56
  go_wp2_with (go_at_call 78; refine (none_yes _).mono ?_; rintro e w' ⟨rfl, rfl⟩)
  go_ret2
  exact ⟨rfl, rfl⟩
set_option maxRecDepth 100000 in
set_option maxHeartbeats 800000 in
theorem nil57 (x : Int) (w : World) : Calls Try.prog 57 #[.pointer none, .int .i64 x] w fun e w' => e = .returned (.int .i64 1) ∧ w = w' := by
  go_enter Try.func57, Try.ntmps57
  go_wp2_with (go_at_call 78; refine (none_yes _).mono ?_; rintro e w' ⟨rfl, rfl⟩)
  go_ret
  exact ⟨rfl, rfl⟩
set_option maxRecDepth 100000 in
set_option maxHeartbeats 800000 in
theorem nil58  (w : World) : Calls Try.prog 58 #[.pointer none] w fun e w' => e = .returned (.int .i64 1) ∧ w = w' := by
  go_enter Try.func58, Try.ntmps58
  go_wp2_with (go_at_call 78; refine (none_yes _).mono ?_; rintro e w' ⟨rfl, rfl⟩)
  go_ret
  exact ⟨rfl, rfl⟩
set_option maxRecDepth 100000 in
set_option maxHeartbeats 800000 in
theorem nil59  (w : World) : Calls Try.prog 59 #[.pointer none] w fun e w' => e = .returned (.int .i64 1) ∧ w = w' := by
  go_enter Try.func59, Try.ntmps59
  go_wp2_with (go_at_call 78; refine (none_yes _).mono ?_; rintro e w' ⟨rfl, rfl⟩)
  go_ret
  exact ⟨rfl, rfl⟩
set_option maxRecDepth 100000 in
set_option maxHeartbeats 800000 in
theorem nil60  (w : World) : Calls Try.prog 60 #[.pointer none] w fun e w' => e = .returned (.int .i64 1) ∧ w = w' := by
  go_enter Try.func60, Try.ntmps60
  go_wp2_with (go_at_call 78; refine (none_yes _).mono ?_; rintro e w' ⟨rfl, rfl⟩)
  go_ret
  exact ⟨rfl, rfl⟩
set_option maxRecDepth 100000 in
set_option maxHeartbeats 800000 in
theorem nil61  (w : World) : Calls Try.prog 61 #[.pointer none] w fun e w' => e = .returned (.int .i64 1) ∧ w = w' := by
  go_enter Try.func61, Try.ntmps61
  go_wp2_with (go_at_call 78; refine (none_yes _).mono ?_; rintro e w' ⟨rfl, rfl⟩)
  go_ret
  exact ⟨rfl, rfl⟩
set_option maxRecDepth 100000 in
set_option maxHeartbeats 800000 in
theorem nil52  (w : World) : Calls Try.prog 52 #[.pointer none] w fun e w' => e = .returned (.int .i64 0) ∧ w = w' := by
  go_enter Try.func52, Try.ntmps52
  go_wp2_with (go_at_call 78; refine (none_yes _).mono ?_; rintro e w' ⟨rfl, rfl⟩)
  go_ret
  exact ⟨rfl, rfl⟩
set_option maxRecDepth 100000 in
set_option maxHeartbeats 800000 in
theorem nil53  (w : World) : Calls Try.prog 53 #[.pointer none] w fun e w' => e = .returned (.int .i64 0) ∧ w = w' := by
  go_enter Try.func53, Try.ntmps53
  go_wp2_with (go_at_call 78; refine (none_yes _).mono ?_; rintro e w' ⟨rfl, rfl⟩)
  go_ret
  exact ⟨rfl, rfl⟩
set_option maxRecDepth 100000 in
set_option maxHeartbeats 800000 in
theorem nil50  (w : World) : Calls Try.prog 50 #[.pointer none] w fun e w' => e = .returned (.int .i64 0) ∧ w = w' := by
  go_enter Try.func50, Try.ntmps50
  go_wp2_with (go_at_call 78; refine (none_yes _).mono ?_; rintro e w' ⟨rfl, rfl⟩)
  go_ret
  exact ⟨rfl, rfl⟩
set_option maxRecDepth 100000 in
set_option maxHeartbeats 800000 in
theorem nil49  (w : World) : Calls Try.prog 49 #[.pointer none] w fun e w' => e = .returned (.int .i64 0) ∧ w = w' := by
  go_enter Try.func49, Try.ntmps49
  go_wp2_with (go_at_call 78; refine (none_yes _).mono ?_; rintro e w' ⟨rfl, rfl⟩)
  go_ret
  exact ⟨rfl, rfl⟩
set_option maxRecDepth 100000 in
set_option maxHeartbeats 800000 in
theorem nil54  (w : World) : Calls Try.prog 54 #[.pointer none] w fun e w' => e = .returned (.int .i64 0) ∧ w = w' := by
  go_enter Try.func54, Try.ntmps54
  go_wp2_with (go_at_call 78; refine (none_yes _).mono ?_; rintro e w' ⟨rfl, rfl⟩)
  go_ret
  exact ⟨rfl, rfl⟩

set_option maxRecDepth 100000 in
set_option maxHeartbeats 8000000 in
theorem modelNobody_any (n : Int) (w : World) : Calls Try.prog 13 #[.int .i64 n] w fun e w' => e = .returned (.bool true) ∧ Kept Nob w w' := by
  go_enter Try.func13, Try.ntmps13
  go_wp2_with (first | (go_at_call 56; refine (nil56 _ _ _).mono ?_; rintro e w' ⟨rfl, rfl⟩) | (go_at_call 57; refine (nil57 _ _).mono ?_; rintro e w' ⟨rfl, rfl⟩) | (go_at_call 58; refine (nil58 _).mono ?_; rintro e w' ⟨rfl, rfl⟩) | (go_at_call 59; refine (nil59 _).mono ?_; rintro e w' ⟨rfl, rfl⟩) | (go_at_call 60; refine (nil60 _).mono ?_; rintro e w' ⟨rfl, rfl⟩) | (go_at_call 61; refine (nil61 _).mono ?_; rintro e w' ⟨rfl, rfl⟩) | (go_at_call 52; refine (nil52 _).mono ?_; rintro e w' ⟨rfl, rfl⟩) | (go_at_call 53; refine (nil53 _).mono ?_; rintro e w' ⟨rfl, rfl⟩) | (go_at_call 50; refine (nil50 _).mono ?_; rintro e w' ⟨rfl, rfl⟩) | (go_at_call 49; refine (nil49 _).mono ?_; rintro e w' ⟨rfl, rfl⟩) | (go_at_call 54; refine (nil54 _).mono ?_; rintro e w' ⟨rfl, rfl⟩) | (go_at_call 47; refine (awake_any _).mono ?_; rintro e w1 ⟨rfl, hk⟩; have H1 := hidden hk; clear hk))
  go_ret
  exact ⟨rfl, H1.out⟩

/-- A script of calls that is read. -/
def RdOps (w : World) (A : Option Addr) (xs : List (Int × Int)) : Prop := ∀ i : Nat, i < xs.length → ∃ ad, A = some ad ∧
  w.cell? (ad.add (i * 2)) = some (.int .i64 (xs.getD i (0, 0)).1) ∧ w.cell? ⟨(ad.add (i * 2)).block, (ad.add (i * 2)).off + 1, none⟩ = some (.int .i64 (xs.getD i (0, 0)).2)
theorem RdOps.kept {w w' : World} {A : Option Addr} {xs : List (Int × Int)} (h : RdOps w A xs) (hk : Kept Nob w w') : RdOps w' A xs := fun i hi => by
  obtain ⟨ad, e, h1, h2⟩ := h i hi
  refine ⟨ad, e, ?_, ?_⟩
  · rw [World.cell?_of_block (w := w) (hk.block _ (World.block_lt_of_cell? w _ h1) (fun h => h))]; exact h1
  · rw [World.cell?_of_block (w := w) (hk.block _ (World.block_lt_of_cell? w _ h2) (fun h => h))]; exact h2

set_option maxRecDepth 100000 in
set_option maxHeartbeats 8000000 in
theorem modelSure_no (t c : Int) (vs : Value) (w : World) (hn : ¬ newOk t c) : Calls Try.prog 11 #[.int .i64 t, .int .i64 c, vs] w fun e w' => e = .returned (.bool true) ∧ Kept Nob w w' := by
  go_enter Try.func11, Try.ntmps11
  go_wp2_with (first
    | (go_at_call 46; refine (new_no t c _ hn).mono ?_; rintro e w1 ⟨rfl, hk⟩; have H1 := hidden hk; clear hk)
    | (go_at_call 47; refine (awake_any _).mono ?_; rintro e w2 ⟨rfl, hk⟩; have H2 := hidden hk; clear hk))
  go_ret
  exact ⟨rfl, H1.out.trans H2.out⟩

set_option maxRecDepth 100000 in
set_option maxHeartbeats 8000000 in
theorem modelSure_yes (t c : Int) (A : Option Addr) (C : Nat) (xs : List (Int × Int)) (w : World) (hn : newOk t c) (hR : RdOps w A xs) (_ : xs.length ≤ maxLen) :
    Calls Try.prog 11 #[.int .i64 t, .int .i64 c, .slice A xs.length C] w fun e w' => e = .returned (.bool true) ∧ Kept Nob w w' := by
  have HR := hidden hR
  clear hR
  go_enter Try.func11, Try.ntmps11
  go_wp2_with (go_at_call 46; refine (new_yes t c _ hn).mono ?_; rintro e w1 ⟨rfl, ha, hk⟩; have H1 := hidden (Mine.made ha hk); clear ha hk)
  go_loopw [9] (fun i wr => ∃ (k : Nat) (v : Value) (m : Mach), k ≤ xs.length ∧ k ≤ 60 ∧ i = .int .i64 k ∧ Mine 132 w wr (w.heap.size + 2) v m ∧ m.Inv k ∧ m.total = t) (fun i _ => xs.length - (intOf i).toNat)
  case atStart => exact ⟨0, _, _, Nat.zero_le _, Nat.zero_le _, rfl, H1.out, Mach.new_inv hn, rfl⟩
  case round =>
    obtain ⟨k, v, m, hk1, hk2, rfl, hm, hi, ht⟩ := hrel
    have HM := hidden hm
    have HI := hidden hi
    have HT := hidden ht
    clear hm hi ht
    by_cases hlt : k < xs.length ∧ k < 60
    · obtain ⟨hl1, hl2⟩ := hlt
      obtain ⟨ad, rfl, c0, c1⟩ := (HR.out.kept HM.out.kept) k hl1
      obtain ⟨⟨kd, x⟩, hx⟩ : ∃ p, p = xs.getD k (0, 0) := ⟨_, rfl⟩
      rw [← hx] at c0 c1
      dsimp only at c0 c1
      clear hx
      have HI2 := hidden (opM_inv m k kd x HI.out)
      obtain ⟨G, hG⟩ : ∃ G : Nat, (opM m kd x).given = G := ⟨(opM m kd x).given.toNat, by have := HI2.out.g0; omega⟩
      have HG := hidden hG
      clear hG
      have f1 : ¬ (worstTo (opM m kd x) (opM m kd x).l.length < owedTo (opM m kd x).l G (opM m kd x).l.length) := by have := worst_ge _ _ _ HI2.out HG.out _ (Nat.le_refl _); omega
      have f2 : ¬ (owedTo (opM m kd x).l G (opM m kd x).l.length < 0) := by
        have := (owedTo_range (opM m kd x).l G (opM m kd x).total (by have := HI2.out.lo; have := HG.out; omega) HI2.out.vals _ (Nat.le_refl _)).1
        omega
      have f3 : ¬ (t < worstTo (opM m kd x) (opM m kd x).l.length) := by have := worst_le (opM m kd x) (opM m kd x).l.length; rw [opM_total, HT.out] at this; omega
      have HMM := hidden (rfl : opM m kd x = opM m kd x)
      go_wp2_with (first
        | (go_at_call 48; refine (call_any _ v m kd x _ HM.out.at_ (HI.out.ok hk2)).mono ?_; rintro e w2 ⟨rfl, ho⟩; obtain ⟨v2, h2⟩ := HM.out.out ho; have H2 := hidden h2; clear ho h2)
        | (go_at_call 49; refine (worst_any _ _ _ _ H2.out.at_ (HI2.out.ok (by omega))).mono ?_; rintro e w3 ⟨rfl, rfl⟩)
        | (go_at_call 50; refine (owed_any _ _ _ G _ H2.out.at_ (HI2.out.ok (by omega)) HG.out).mono ?_; rintro e w3 ⟨rfl, ho⟩; have H2 := hidden (H2.out.still ho); clear ho))
      all_goals go_roundw
      case rel => exact ⟨k + 1, _, _, by omega, by omega, by go_num, H2.out, HI2.out, by rw [opM_total]; exact HT.out⟩
      case measure => simp [intOf]; omega
    · have hk : Kept Nob w wr := HM.out.kept
      have HK := hidden hk
      clear hk
      rcases Nat.lt_or_ge k xs.length with hl1 | hl1
      all_goals
        go_wp2_with (go_at_call 47; refine (awake_any _).mono ?_; rintro e w2 ⟨rfl, hk⟩; have H2 := hidden hk; clear hk)
        go_ret
        exact ⟨rfl, HK.out.trans H2.out⟩
end Go.Proofs.Ytfblececmkimiaa

/- The out to a key, and which outs are a key's alone (layer 7). -/
import Derived.Test.YtcghjnegaiiieaaLock6
namespace Go.Proofs.Ytcghjnegaiiieaa
open Go.RowKit

def Any : Nat → Prop := fun _ => True
theorem Ints.none_ (w : World) (F : Nat → Prop) (k : IntKind) : Ints w F k none 0 [] := ⟨fun i hi => by simp at hi, fun _ e => by (cases e), by simp, by simp, fun _ => ⟨rfl, rfl⟩, by simp⟩
theorem opens_lit (wt : Int) (hw : (Lit.int .i64 wt).wf = true) (w : World) :
    Calls Try.prog 20 #[.agg #[.slice none 0 0, .int .u8 0, .int .u8 0, .int .u8 0, .int .u8 0, .int .u8 0, .int .u8 0, .int .u8 0, .int .u8 0, .int .u8 0, .int .u8 0, .int .u8 0, .int .u8 0, .int .u8 0, .int .u8 0, .int .u8 0, .int .u8 0, .int .u8 0, .int .u8 0, .int .u8 0, .int .u8 0, .int .u8 0, .int .u8 0, .int .u8 0, .int .u8 0, .int .u8 0, .int .u8 0, .int .u8 0, .int .u8 0, .int .u8 0, .int .u8 0, .int .u8 0, .int .u8 0, .int .i64 0, .int .i64 wt], .agg #[.slice none 0 0, .slice none 0 0, .int .i64 0, .int .i64 0]] w fun e w' => e = .returned (.bool (decide (wt ≤ 0))) ∧ Kept Nob w w' := by
  have h := opens_plain ⟨[], zero32, 0, wt⟩ ⟨[], [], 0, 0⟩ none none 0 0 (wayCells none 0 ⟨[], zero32, 0, wt⟩) Any w (RWay.mk' (Ints.none_ w Any .i64) ⟨rfl, (fun h hh => by simp [zero32] at hh; subst hh; decide), by show (Lit.int .i64 0).wf = true; decide, hw⟩) rfl (Ints.none_ w Any .i64)
  have e1 : (wayCells none 0 ⟨[], zero32, 0, wt⟩).toArray = #[.slice none 0 0, .int .u8 0, .int .u8 0, .int .u8 0, .int .u8 0, .int .u8 0, .int .u8 0, .int .u8 0, .int .u8 0, .int .u8 0, .int .u8 0, .int .u8 0, .int .u8 0, .int .u8 0, .int .u8 0, .int .u8 0, .int .u8 0, .int .u8 0, .int .u8 0, .int .u8 0, .int .u8 0, .int .u8 0, .int .u8 0, .int .u8 0, .int .u8 0, .int .u8 0, .int .u8 0, .int .u8 0, .int .u8 0, .int .u8 0, .int .u8 0, .int .u8 0, .int .u8 0, .int .i64 0, .int .i64 wt] := by kernel_rfl
  have e2 : trCells none none 0 0 ⟨[], [], 0, 0⟩ = #[.slice none 0 0, .slice none 0 0, .int .i64 0, .int .i64 0] := by kernel_rfl
  rw [e1, e2] at h
  exact h.mono fun e w' ⟨he, hk⟩ => ⟨by rw [he]; exact ret_bool (by simp [allIn, lateB]), hk⟩
theorem to_lit (k a : Int) (w : World) (hk : (Lit.int .i64 k).wf = true) (ha : (Lit.int .i64 a).wf = true) :
    Calls Try.prog 23 #[.int .i64 k, .int .i64 a] w fun e w' => ∃ A c, e = .returned (.agg #[.int .i64 a, .slice A 1 c]) ∧ Ways w' Any A c [wayTo k] ∧ Kept Nob w w' :=
  (to_any k a w hk ha).mono fun e w' ⟨cs, he, hr, hkp⟩ => by
    obtain ⟨A, c, hcs, hw, _⟩ := hr.open_
    exact ⟨A, c, by rw [he, hcs]; rfl, hw.mono (fun _ _ => trivial), hkp⟩
theorem sole_lit (k q a : Int) (A : Option Addr) (c : Nat) (w : World) (h : Ways w Any A c [wayTo k]) :
    Calls Try.prog 24 #[.agg #[.int .i64 a, .slice A 1 c], .int .i64 q] w fun e w' => e = .returned (.bool (decide (k = q))) ∧ Kept Nob w w' :=
  (sole_any a q A c [wayTo k] Any w h).mono fun e w' ⟨he, hk⟩ => ⟨by
    rw [he]
    refine ret_bool ?_
    unfold soleB wayTo zero32
    rw [Bool.eq_iff_iff]
    simp, hk⟩
theorem right_lit (w : World) (A : Option Addr) (c : Nat) (h : Ways w Any A c [wayTo 5]) :
    Calls Try.prog 32 #[.agg #[.int .i64 9, .slice A 1 c]] w fun e w' => e = .returned (.bool true) ∧ Kept Nob w w' :=
  (rightOut_any (outTo 5 9) A c Any w h).mono fun e w' ⟨he, hk⟩ => ⟨by rw [he]; exact ret_bool (by decide +kernel), hk⟩
set_option maxRecDepth 100000 in
set_option maxHeartbeats 8000000 in
theorem awake07 (w : World) : Calls Try.prog 17 #[] w fun e w' => e = .returned (.bool true) ∧ Kept Nob w w' := by
  have HO0 := hidden (opens_lit 0 (by decide))
  have HO1 := hidden (opens_lit 1 (by decide))
  have HTO := hidden (fun W => to_lit 5 9 W (by decide) (by decide))
  have HRI := hidden right_lit
  have HSO := hidden sole_lit
  have HK := hidden (Kept.refl Nob w)
  go_enter Try.func17, Try.ntmps17
  go_wp2_with (first
    | (go_at_call 20; (with_reducible refine (HO0.out _).mono ?_); rintro e w1 ⟨rfl, hk1⟩; have HK := hidden (HK.out.trans hk1); clear hk1)
    | (go_at_call 20; (with_reducible refine (HO1.out _).mono ?_); rintro e w2 ⟨rfl, hk2⟩; have HK := hidden (HK.out.trans hk2); clear hk2)
    | (go_at_call 23; (with_reducible refine (HTO.out _).mono ?_); rintro e w3 ⟨A, c, rfl, hw3, hk3⟩; have HW3 := hidden hw3; have HK := hidden (HK.out.trans hk3); clear hw3 hk3)
    | (go_at_call 24; (with_reducible refine (HSO.out 5 _ 9 _ _ _ HW3.out).mono ?_); rintro e w4 ⟨rfl, hk4⟩; have HK := hidden (HK.out.trans hk4); clear hk4)
    | (go_at_call 32; (with_reducible refine (HRI.out _ _ _ HW3.out).mono ?_); rintro e w5 ⟨rfl, hk5⟩; have HK := hidden (HK.out.trans hk5); clear hk5))
  go_ret
  exact ⟨rfl, HK.out⟩
end Go.Proofs.Ytcghjnegaiiieaa

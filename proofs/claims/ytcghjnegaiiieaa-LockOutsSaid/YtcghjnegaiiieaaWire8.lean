/- An eye is done: the first error, or that something is left (layer 1). -/
import Derived.Test.YtcghjnegaiiieaaWire7
namespace Go.Proofs.Ytcghjnegaiiieaa
open Go.RowKit
def doneE (xs : List Int) (er : Int) : Int := if er = 0 ∧ 0 < xs.length then 3 else er
set_option maxRecDepth 100000 in
set_option maxHeartbeats 8000000 in
theorem eye_done (w : World) (F : Nat → Prop) (g : Nat) (xs : List Int) (er : Int) (h : EyeAt w F g xs er) (hF : ∀ b, F b → b ≠ g) :
    Calls Try.prog 37 #[.pointer (some ⟨g, 0, none⟩)] w fun e w' => e = .returned (.int .i64 (doneE xs er)) ∧ EyeAt w' F g xs (doneE xs er) ∧ Kept (fun b => b = g) w w' := by
  have H := hidden h
  have HERR := hidden (eye_err w F g xs er h)
  have HFAIL := hidden (eye_fail w F g xs er 3 h hF)
  obtain ⟨A, c, hb, hi⟩ := h
  have q0 : w.cell? ⟨g, 0, none⟩ = some (.slice A xs.length c) := blk_cell hb 0
  have hle := hi.le
  have hmx := hi.max
  unfold maxLen at hmx
  clear hb hi
  by_cases h0 : er = 0
  · have e1 : (er == 0) = true := by simpa using h0
    by_cases hl : 0 < xs.length
    · have HD : Hid (doneE xs er = 3) := hidden (if_pos ⟨h0, hl⟩)
      have HFA : Hid (Calls Try.prog 84 #[.pointer (some ⟨g, 0, none⟩), .int .i64 3] w fun e w' => e = .returned (.tuple #[]) ∧ EyeAt w' F g xs 3 ∧ Kept (fun b => b = g) w w') := hidden (by have := HFAIL.out; rwa [if_pos h0] at this)
      rw [HD.out]
      clear h0
      go_enter Try.func37, Try.ntmps37
      go_wp2_with (first
        | (go_at_call 28; (with_reducible refine HERR.out.mono ?_); rintro e w1 ⟨rfl, rfl⟩; dsimp only)
        | (go_at_call 84; (with_reducible refine HFA.out.mono ?_); rintro e w2 ⟨rfl, he2, hk2⟩; have HE2 := hidden he2; have HK2 := hidden hk2; have HER2 := hidden (eye_err w2 F g xs 3 he2); clear he2 hk2; dsimp only)
        | (go_at_call 28; (with_reducible refine HER2.out.mono ?_); rintro e w3 ⟨rfl, rfl⟩; dsimp only))
      go_ret
      exact ⟨rfl, HE2.out, HK2.out⟩
    · have HD : Hid (doneE xs er = er) := hidden (if_neg (fun h => hl h.2))
      rw [HD.out]
      clear h0
      go_enter Try.func37, Try.ntmps37
      go_wp2_with (go_at_call 28; (with_reducible refine HERR.out.mono ?_); rintro e w1 ⟨rfl, rfl⟩; dsimp only)
      go_ret
      exact ⟨rfl, H.out, Kept.refl _ _⟩
  · have e1 : (er == 0) = false := by simpa using h0
    have HD : Hid (doneE xs er = er) := hidden (if_neg (fun h => h0 h.1))
    rw [HD.out]
    clear h0
    go_enter Try.func37, Try.ntmps37
    go_wp2_with (go_at_call 28; (with_reducible refine HERR.out.mono ?_); rintro e w1 ⟨rfl, rfl⟩; dsimp only)
    go_ret
    exact ⟨rfl, H.out, Kept.refl _ _⟩
end Go.Proofs.Ytcghjnegaiiieaa

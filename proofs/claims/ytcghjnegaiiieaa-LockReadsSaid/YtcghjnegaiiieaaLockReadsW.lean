/- Any bytes are read as an out that may be, whose bytes they begin with, or as an error; for every input. -/
import Derived.Test.YtcghjnegaiiieaaRows
import Derived.Test.YtcghjnegaiiieaaLibRow
import Derived.Test.YtcghjnegaiiieaaReads
namespace Go.Proofs.Ytcghjnegaiiieaa.lockReads
open Go.ChangeShapes Go.WideShapes Go.ChangeAt Go.RowKit
open Go.ChangeMaps (open_string shut_string)
theorem own : ownKnob Try.prog.godebug = none := by kernel_rfl
theorem laidOut : laidOutB Try.prog = true := by kernel_rfl
theorem reads : (Try.f5.params.toList.all fun t => Try.prog.readableRec t && decide (t < Try.prog.types.size)) = true := by kernel_rfl
set_option maxRecDepth 100000 in
theorem walk {H : Type} {enc : TypeId × Value → H} (W : World) (base : Nat) (args : Array Value) (ds : List (DataW H)) (ps : List MemPlace)
    (hval : ∀ (j : Nat) t v, Try.f5.params[j]? = some t → args[j]? = some v → Value.okWide Try.prog W .any base t v)
    (hA : DataW.TrodAll enc Try.prog W 0 (fun _ => true) true Try.f5.params.toList args.toList ds ps)
    (hsz : (DataW.weightsEach Try.prog Try.f5.params.toList ds).all (· ≤ reachBytes) = true) :
    Calls Try.prog 5 args W fun e W' => e = .returned (.bool true) ∧ Below W.heap.size W W' := by
  rw [Try.params5] at hA hval hsz
  obtain ⟨v0, vs0, d0, ds0, p0, q0, hargs, rfl, rfl, h0, r0⟩ := trodAll_cons hA
  obtain ⟨rfl, rfl, rfl⟩ := trodAll_nil r0
  obtain rfl : args = #[v0] := by cases args; simp_all
  obtain ⟨xs, hx⟩ := got_arg (got_sl (size := 1) Try.underlying27 (by kernel_rfl) (by decide) (got_int Try.underlying5)) h0
  rw [slice_arg Try.underlying27 (hval 0 27 v0 rfl rfl)] at hx
  obtain ⟨A, c, e, hi⟩ := RSl.ints hx
  obtain rfl := List.cons.inj e |>.1
  exact (lockReads_any A c xs (Old W) W hi (fun _ h => h)).mono fun e W' ⟨he, hk⟩ => ⟨he, hk.below (Nat.le_refl _) (fun _ h => by cases h)⟩
theorem lifted (os : Os) (started : os.Started) (H : Type) (enc : TypeId × Value → H) :
    ReturnsInHanded {} Try.checked os 5 .any (Rows.lockReadsSpec.pre6 enc Try.prog Try.f5 Rows.lockReadsRow.domain false) (Rows.lockReadsSpec.post enc Try.prog Try.f5 false true false false) :=
  lawLift (C := Try.checked) own started (by kernel_rfl) Try.func5
    (ChangeSpec.witness6 (enc := enc) (C := Try.checked) false ⟨#[], #[.slice none 0 0], []⟩ 8 (by kernel_rfl) (by kernel_rfl) (by kernel_rfl) (by kernel_rfl))
    rfl laidOut reads rfl Try.underlying4 (fun ds h => by match ds, h with | [d0], _ => exact ⟨rfl, rfl, rfl⟩) walk
end Go.Proofs.Ytcghjnegaiiieaa.lockReads

/- Which bytes are a disk's is as the document says; for every input. -/
import Derived.Test.YtfblececmkimiaaRows
import Derived.Test.YtfblececmkimiaaLibRow
import Derived.Test.YtfblececmkimiaaLibRead
import Derived.Test.YtfblececmkimiaaDisk5
namespace Go.Proofs.Ytfblececmkimiaa.diskLoads
open Go.ChangeShapes Go.WideShapes Go.ChangeAt Go.RowKit
open Go.ChangeMaps (open_string shut_string)
theorem own : ownKnob Try.prog.godebug = none := by kernel_rfl
theorem laidOut : laidOutB Try.prog = true := by kernel_rfl
theorem reads : (Try.f7.params.toList.all fun t => Try.prog.readableRec t && decide (t < Try.prog.types.size)) = true := by kernel_rfl
set_option maxRecDepth 100000 in
theorem walk {H : Type} {enc : TypeId × Value → H} (W : World) (base : Nat) (args : Array Value) (ds : List (DataW H)) (ps : List MemPlace)
    (hval : ∀ (j : Nat) t v, Try.f7.params[j]? = some t → args[j]? = some v → Value.okWide Try.prog W .any base t v)
    (hA : DataW.TrodAll enc Try.prog W 0 (fun _ => true) true Try.f7.params.toList args.toList ds ps)
    (hsz : (DataW.weightsEach Try.prog Try.f7.params.toList ds).all (· ≤ reachBytes) = true) :
    Calls Try.prog 7 args W fun e W' => e = .returned (.bool true) ∧ Below W.heap.size W W' := by
  rw [Try.params7] at hA hval hsz
  obtain ⟨v0, vs0, d0, ds0, p0, q0, hargs, rfl, rfl, h0, r0⟩ := trodAll_cons hA
  obtain ⟨rfl, rfl, rfl⟩ := trodAll_nil r0
  obtain rfl : args = #[v0] := by cases args; simp_all
  obtain ⟨xs, hx⟩ := got_arg (got_sl Try.underlying55 (size := 1) (by kernel_rfl) (got_int Try.underlying5)) h0
  rw [slice_arg Try.underlying55 (hval 0 55 v0 rfl rfl)] at hx
  obtain ⟨A, c, e, h3, _, h5, _⟩ := hx.ints
  simp at e
  subst e
  have key : Calls Try.prog 7 #[.slice A xs.length c] W fun e w' => e = .returned (.bool true) ∧ Kept Nob W w' := by
    by_cases h1 : 4000 < xs.length
    · exact diskLoads_long A xs.length c W h1 h3
    · by_cases h2 : xs.length = 0 ∨ xs.length % 64 ≠ 0
      · exact diskLoads_bad A xs.length c W (by omega) h2
      · exact diskLoads_good (xs.length / 64) A c xs W (by omega) (by omega) (by omega) h5
  exact (key).mono fun e W' ⟨he, hk⟩ => ⟨he, hk.below (Nat.le_refl _) (fun _ h => by cases h)⟩
theorem lifted (os : Os) (started : os.Started) (H : Type) (enc : TypeId × Value → H) :
    ReturnsInHanded {} Try.checked os 7 .any (Rows.diskLoadsSpec.pre6 enc Try.prog Try.f7 Rows.diskLoadsRow.domain false) (Rows.diskLoadsSpec.post enc Try.prog Try.f7 false true false false) :=
  lawLift (C := Try.checked) own started (by kernel_rfl) Try.func7
    (ChangeSpec.witness6 (enc := enc) (C := Try.checked) false ⟨#[], #[.slice none 0 0], []⟩ 8 (by kernel_rfl) (by kernel_rfl) (by kernel_rfl) (by kernel_rfl))
    rfl laidOut reads rfl Try.underlying4 (fun ds h => by match ds, h with | [d0], _ => exact ⟨rfl, rfl, rfl⟩) walk
theorem over : Rows.diskLoadsRow.holds Try.pinned (OpenSpec.ofChange Rows.diskLoadsSpec) :=
  OpenClaim.holds_of_wide 7 Try.f7 rfl rfl rfl rfl rfl rfl rfl ⟨rfl, rfl, rfl, rfl, rfl⟩ rfl rfl rfl rfl rfl (by kernel_rfl) Try.func7 (by kernel_rfl)
    (of_decide_eq_true (by kernel_rfl)) (by unfold Func.isWrapper; first | (rw [if_pos (by decide +kernel)]; kernel_rfl) | (rw [if_neg (by decide +kernel)]; exact ⟨rfl, rfl⟩))
    (fun os started H enc _ => lifted os started H enc)
end Go.Proofs.Ytfblececmkimiaa.diskLoads
namespace Go.Proofs.Ytfblececmkimiaa
theorem diskLoads_holds : Rows.DiskLoadsSaid := diskLoads.over
#print axioms diskLoads_holds
end Go.Proofs.Ytfblececmkimiaa

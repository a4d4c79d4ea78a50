/- Any amounts together, and what is left of one without them, come to what the document says; for every input. -/
import Derived.Test.YtfblececmkimiaaRows
import Derived.Test.YtfblececmkimiaaLibRow
import Derived.Test.YtfblececmkimiaaLibRead
import Derived.Test.YtfblececmkimiaaCoinL2
namespace Go.Proofs.Ytfblececmkimiaa.coinSums
open Go.ChangeShapes Go.WideShapes Go.ChangeAt Go.RowKit
open Go.ChangeMaps (open_string shut_string)
theorem own : ownKnob Try.prog.godebug = none := by kernel_rfl
theorem laidOut : laidOutB Try.prog = true := by kernel_rfl
theorem reads : (Try.f5.params.toList.all fun t => Try.prog.readableRec t && decide (t < Try.prog.types.size)) = true := by kernel_rfl
set_option maxRecDepth 100000 in
theorem walk {H : Type} {enc : TypeId × Value → H} (W : World) (base : Nat) (args : Array Value) (ds : List (DataW H)) (ps : List MemPlace)
    (hval : ∀ (j : Nat) t v, Try.f5.params[j]? = some t → args[j]? = some v → Value.okWide Try.prog W .any base t v)
    (hA : DataW.TrodAll enc Try.prog W 0 (fun _ => true) true Try.f5.params.toList args.toList ds ps)
    (hsz : (DataW.weightsEach Try.prog Try.f5.params.toList ds).all (· ≤ reachBytes) = true) :
    Calls Try.prog 5 args W fun e W' => e = .returned (.bool true) ∧ Below W.heap.size W W' := by
  rw [Try.params5] at hA hval hsz
  obtain ⟨v0, vs0, d0, ds0, p0, q0, hargs, rfl, rfl, h0, r0⟩ := trodAll_cons hA
  obtain ⟨v1, vs1, d1, ds1, p1, q1, rfl, rfl, rfl, h1, r1⟩ := trodAll_cons r0
  obtain ⟨rfl, rfl, rfl⟩ := trodAll_nil r1
  obtain rfl : args = #[v0, v1] := by cases args; simp_all
  obtain ⟨a0, rfl, rfl, rfl, w0⟩ := open_int Try.underlying2 (hval 0 2 v0 rfl rfl) h0
  obtain ⟨xs, hx⟩ := got_arg (got_sl Try.underlying31 (size := 1) (by kernel_rfl) (got_int Try.underlying2)) h1
  rw [slice_arg Try.underlying31 (hval 1 31 v1 rfl rfl)] at hx
  obtain ⟨A, c, e, h3, h4, h5, _⟩ := hx.ints
  simp at e
  subst e
  exact (coinSums_any a0 A c xs W h3 (by unfold maxLen at h4; omega) h5).mono fun e W' ⟨he, hk⟩ => ⟨he, hk.below (Nat.le_refl _) (fun _ h => by cases h)⟩
theorem lifted (os : Os) (started : os.Started) (H : Type) (enc : TypeId × Value → H) :
    ReturnsInHanded {} Try.checked os 5 .any (Rows.coinSumsSpec.pre6 enc Try.prog Try.f5 Rows.coinSumsRow.domain false) (Rows.coinSumsSpec.post enc Try.prog Try.f5 false true false false) :=
  lawLift (C := Try.checked) own started (by kernel_rfl) Try.func5
    (ChangeSpec.witness6 (enc := enc) (C := Try.checked) false ⟨#[], #[.int .i64 0, .slice none 0 0], []⟩ 8 (by kernel_rfl) (by kernel_rfl) (by kernel_rfl) (by kernel_rfl))
    rfl laidOut reads rfl Try.underlying4 (fun ds h => by match ds, h with | [d0, d1], _ => exact ⟨rfl, rfl, rfl⟩) walk
theorem over : Rows.coinSumsRow.holds Try.pinned (OpenSpec.ofChange Rows.coinSumsSpec) :=
  OpenClaim.holds_of_wide 5 Try.f5 rfl rfl rfl rfl rfl rfl rfl ⟨rfl, rfl, rfl, rfl, rfl⟩ rfl rfl rfl rfl rfl (by kernel_rfl) Try.func5 (by kernel_rfl)
    (of_decide_eq_true (by kernel_rfl)) (by unfold Func.isWrapper; first | (rw [if_pos (by decide +kernel)]; kernel_rfl) | (rw [if_neg (by decide +kernel)]; exact ⟨rfl, rfl⟩))
    (fun os started H enc _ => lifted os started H enc)
end Go.Proofs.Ytfblececmkimiaa.coinSums
namespace Go.Proofs.Ytfblececmkimiaa
theorem coinSums_holds : Rows.CoinSumsSaid := coinSums.over
#print axioms coinSums_holds
end Go.Proofs.Ytfblececmkimiaa

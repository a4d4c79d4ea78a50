/- The one way of an out that its owner's key opens alone, told apart from all else; for every input. -/
import Derived.Test.YtcghjnegaiiieaaLockSolesW
namespace Go.Proofs.Ytcghjnegaiiieaa.lockSoles
open Go.ChangeShapes Go.WideShapes Go.ChangeAt Go.RowKit
theorem named : Try.pinned.checked.prog.funcNamed Rows.lockSolesRow.func = some 4 := by kernel_rfl
theorem joined : joinedFacts Try.pinned.checked.prog 4 Try.f4 Rows.lockSolesSpec Rows.lockSolesRow = true := by kernel_rfl
theorem inst_ : Try.f4.isInstance Try.pinned.checked.prog Rows.lockSolesRow.origin Rows.lockSolesRow.targs := of_decide_eq_true (by kernel_rfl)
theorem wrap : Try.f4.isWrapper Try.pinned.checked.prog Rows.lockSolesRow.wrapper Rows.lockSolesRow.mainSum := by
  unfold Func.isWrapper
  first | (rw [if_pos (by decide +kernel)]; kernel_rfl) | (rw [if_neg (by decide +kernel)]; exact ⟨rfl, rfl⟩)
theorem over : Rows.lockSolesRow.holds Try.pinned (OpenSpec.ofChange Rows.lockSolesSpec) :=
  OpenClaim.holds_of_wide 4 Try.f4 rfl rfl rfl rfl rfl rfl rfl ⟨rfl, rfl, rfl, rfl, rfl⟩ rfl rfl rfl rfl rfl named Try.func4 joined inst_ wrap
    (fun os started H enc _ => lifted os started H enc)
end Go.Proofs.Ytcghjnegaiiieaa.lockSoles
namespace Go.Proofs.Ytcghjnegaiiieaa
theorem lockSoles_holds : Rows.LockSolesSaid := lockSoles.over
#print axioms lockSoles_holds
end Go.Proofs.Ytcghjnegaiiieaa

/- Which outs may be, an out's bytes, what is read of them, and which outs are alike; for every input. -/
import Derived.Test.YtcghjnegaiiieaaLockOutsW
namespace Go.Proofs.Ytcghjnegaiiieaa.lockOuts
open Go.ChangeShapes Go.WideShapes Go.ChangeAt Go.RowKit
theorem named : Try.pinned.checked.prog.funcNamed Rows.lockOutsRow.func = some 6 := by kernel_rfl
theorem joined : joinedFacts Try.pinned.checked.prog 6 Try.f6 Rows.lockOutsSpec Rows.lockOutsRow = true := by kernel_rfl
theorem inst_ : Try.f6.isInstance Try.pinned.checked.prog Rows.lockOutsRow.origin Rows.lockOutsRow.targs := of_decide_eq_true (by kernel_rfl)
theorem wrap : Try.f6.isWrapper Try.pinned.checked.prog Rows.lockOutsRow.wrapper Rows.lockOutsRow.mainSum := by
  unfold Func.isWrapper
  first | (rw [if_pos (by decide +kernel)]; kernel_rfl) | (rw [if_neg (by decide +kernel)]; exact ⟨rfl, rfl⟩)
theorem over : Rows.lockOutsRow.holds Try.pinned (OpenSpec.ofChange Rows.lockOutsSpec) :=
  OpenClaim.holds_of_wide 6 Try.f6 rfl rfl rfl rfl rfl rfl rfl ⟨rfl, rfl, rfl, rfl, rfl⟩ rfl rfl rfl rfl rfl named Try.func6 joined inst_ wrap
    (fun os started H enc _ => lifted os started H enc)
end Go.Proofs.Ytcghjnegaiiieaa.lockOuts
namespace Go.Proofs.Ytcghjnegaiiieaa
theorem lockOuts_holds : Rows.LockOutsSaid := lockOuts.over
#print axioms lockOuts_holds
end Go.Proofs.Ytcghjnegaiiieaa

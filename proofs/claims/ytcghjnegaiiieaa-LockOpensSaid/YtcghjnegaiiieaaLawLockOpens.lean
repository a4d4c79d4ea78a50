/- Which ways may be, and which are open to any try; for every input. -/
import Derived.Test.YtcghjnegaiiieaaLockOpensW
namespace Go.Proofs.Ytcghjnegaiiieaa.lockOpens
open Go.ChangeShapes Go.WideShapes Go.ChangeAt Go.RowKit
theorem named : Try.pinned.checked.prog.funcNamed Rows.lockOpensRow.func = some 3 := by kernel_rfl
theorem joined : joinedFacts Try.pinned.checked.prog 3 Try.f3 Rows.lockOpensSpec Rows.lockOpensRow = true := by kernel_rfl
theorem inst_ : Try.f3.isInstance Try.pinned.checked.prog Rows.lockOpensRow.origin Rows.lockOpensRow.targs := of_decide_eq_true (by kernel_rfl)
theorem wrap : Try.f3.isWrapper Try.pinned.checked.prog Rows.lockOpensRow.wrapper Rows.lockOpensRow.mainSum := by
  unfold Func.isWrapper
  first | (rw [if_pos (by decide +kernel)]; kernel_rfl) | (rw [if_neg (by decide +kernel)]; exact ⟨rfl, rfl⟩)
theorem over : Rows.lockOpensRow.holds Try.pinned (OpenSpec.ofChange Rows.lockOpensSpec) :=
  OpenClaim.holds_of_wide 3 Try.f3 rfl rfl rfl rfl rfl rfl rfl ⟨rfl, rfl, rfl, rfl, rfl⟩ rfl rfl rfl rfl rfl named Try.func3 joined inst_ wrap
    (fun os started H enc _ => lifted os started H enc)
end Go.Proofs.Ytcghjnegaiiieaa.lockOpens
namespace Go.Proofs.Ytcghjnegaiiieaa
theorem lockOpens_holds : Rows.LockOpensSaid := lockOpens.over
#print axioms lockOpens_holds
end Go.Proofs.Ytcghjnegaiiieaa

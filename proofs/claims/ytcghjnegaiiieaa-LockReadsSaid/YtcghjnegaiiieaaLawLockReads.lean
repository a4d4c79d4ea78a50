/- Any bytes are read as an out that may be, whose bytes they begin with, or as an error; for every input. -/
import Derived.Test.YtcghjnegaiiieaaLockReadsW
namespace Go.Proofs.Ytcghjnegaiiieaa.lockReads
open Go.ChangeShapes Go.WideShapes Go.ChangeAt Go.RowKit
theorem named : Try.pinned.checked.prog.funcNamed Rows.lockReadsRow.func = some 5 := by kernel_rfl
theorem joined : joinedFacts Try.pinned.checked.prog 5 Try.f5 Rows.lockReadsSpec Rows.lockReadsRow = true := by kernel_rfl
theorem inst_ : Try.f5.isInstance Try.pinned.checked.prog Rows.lockReadsRow.origin Rows.lockReadsRow.targs := of_decide_eq_true (by kernel_rfl)
theorem wrap : Try.f5.isWrapper Try.pinned.checked.prog Rows.lockReadsRow.wrapper Rows.lockReadsRow.mainSum := by
  unfold Func.isWrapper
  first | (rw [if_pos (by decide +kernel)]; kernel_rfl) | (rw [if_neg (by decide +kernel)]; exact ⟨rfl, rfl⟩)
theorem over : Rows.lockReadsRow.holds Try.pinned (OpenSpec.ofChange Rows.lockReadsSpec) :=
  OpenClaim.holds_of_wide 5 Try.f5 rfl rfl rfl rfl rfl rfl rfl ⟨rfl, rfl, rfl, rfl, rfl⟩ rfl rfl rfl rfl rfl named Try.func5 joined inst_ wrap
    (fun os started H enc _ => lifted os started H enc)
end Go.Proofs.Ytcghjnegaiiieaa.lockReads
namespace Go.Proofs.Ytcghjnegaiiieaa
theorem lockReads_holds : Rows.LockReadsSaid := lockReads.over
#print axioms lockReads_holds
end Go.Proofs.Ytcghjnegaiiieaa

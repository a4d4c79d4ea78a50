/- Which channels and states may be, the commitments of any state, whose they are, and how it is closed in peace; for every input. -/
import Derived.Test.YtcghjnegaiiieaaCB7
namespace Go.Proofs.Ytcghjnegaiiieaa.commitBuilds
open Go.ChangeShapes Go.WideShapes Go.ChangeAt Go.RowKit
theorem named : Try.pinned.checked.prog.funcNamed Rows.commitBuildsRow.func = some 9 := by kernel_rfl
theorem joined : joinedFacts Try.pinned.checked.prog 9 Try.f9 Rows.commitBuildsSpec Rows.commitBuildsRow = true := by kernel_rfl
theorem inst_ : Try.f9.isInstance Try.pinned.checked.prog Rows.commitBuildsRow.origin Rows.commitBuildsRow.targs := of_decide_eq_true (by kernel_rfl)
theorem wrap : Try.f9.isWrapper Try.pinned.checked.prog Rows.commitBuildsRow.wrapper Rows.commitBuildsRow.mainSum := by
  unfold Func.isWrapper
  first | (rw [if_pos (by decide +kernel)]; kernel_rfl) | (rw [if_neg (by decide +kernel)]; exact ⟨rfl, rfl⟩)
theorem over : Rows.commitBuildsRow.holds Try.pinned (OpenSpec.ofChange Rows.commitBuildsSpec) :=
  OpenClaim.holds_of_wide 9 Try.f9 rfl rfl rfl rfl rfl rfl rfl ⟨rfl, rfl, rfl, rfl, rfl⟩ rfl rfl rfl rfl rfl named Try.func9 joined inst_ wrap
    (fun os started H enc _ => lifted os started H enc)
end Go.Proofs.Ytcghjnegaiiieaa.commitBuilds
namespace Go.Proofs.Ytcghjnegaiiieaa
theorem commitBuilds_holds : Rows.CommitBuildsSaid := commitBuilds.over
#print axioms commitBuilds_holds
end Go.Proofs.Ytcghjnegaiiieaa

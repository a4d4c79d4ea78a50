/- Which jobs are made, their receipts, and which receipts fit; for every input. -/
import Derived.Test.YtcghjnegaiiieaaAJ6
namespace Go.Proofs.Ytcghjnegaiiieaa.appointJobs
open Go.ChangeShapes Go.WideShapes Go.ChangeAt Go.RowKit
theorem named : Try.pinned.checked.prog.funcNamed Rows.appointJobsRow.func = some 10 := by kernel_rfl
theorem joined : joinedFacts Try.pinned.checked.prog 10 Try.f10 Rows.appointJobsSpec Rows.appointJobsRow = true := by kernel_rfl
theorem inst_ : Try.f10.isInstance Try.pinned.checked.prog Rows.appointJobsRow.origin Rows.appointJobsRow.targs := of_decide_eq_true (by kernel_rfl)
theorem wrap : Try.f10.isWrapper Try.pinned.checked.prog Rows.appointJobsRow.wrapper Rows.appointJobsRow.mainSum := by
  unfold Func.isWrapper
  first | (rw [if_pos (by decide +kernel)]; kernel_rfl) | (rw [if_neg (by decide +kernel)]; exact ⟨rfl, rfl⟩)
theorem over : Rows.appointJobsRow.holds Try.pinned (OpenSpec.ofChange Rows.appointJobsSpec) :=
  OpenClaim.holds_of_wide 10 Try.f10 rfl rfl rfl rfl rfl rfl rfl ⟨rfl, rfl, rfl, rfl, rfl⟩ rfl rfl rfl rfl rfl named Try.func10 joined inst_ wrap
    (fun os started H enc _ => lifted os started H enc)
end Go.Proofs.Ytcghjnegaiiieaa.appointJobs
namespace Go.Proofs.Ytcghjnegaiiieaa
theorem appointJobs_holds : Rows.AppointJobsSaid := appointJobs.over
#print axioms appointJobs_holds
end Go.Proofs.Ytcghjnegaiiieaa

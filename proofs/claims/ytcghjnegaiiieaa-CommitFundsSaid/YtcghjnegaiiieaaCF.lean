/- The out that funds any channel; for every input. -/
import Derived.Test.YtcghjnegaiiieaaCF6
namespace Go.Proofs.Ytcghjnegaiiieaa.commitFunds
open Go.ChangeShapes Go.WideShapes Go.ChangeAt Go.RowKit
theorem named : Try.pinned.checked.prog.funcNamed Rows.commitFundsRow.func = some 8 := by kernel_rfl
theorem joined : joinedFacts Try.pinned.checked.prog 8 Try.f8 Rows.commitFundsSpec Rows.commitFundsRow = true := by kernel_rfl
theorem inst_ : Try.f8.isInstance Try.pinned.checked.prog Rows.commitFundsRow.origin Rows.commitFundsRow.targs := of_decide_eq_true (by kernel_rfl)
theorem wrap : Try.f8.isWrapper Try.pinned.checked.prog Rows.commitFundsRow.wrapper Rows.commitFundsRow.mainSum := by
  unfold Func.isWrapper
  first | (rw [if_pos (by decide +kernel)]; kernel_rfl) | (rw [if_neg (by decide +kernel)]; exact ⟨rfl, rfl⟩)
theorem over : Rows.commitFundsRow.holds Try.pinned (OpenSpec.ofChange Rows.commitFundsSpec) :=
  OpenClaim.holds_of_wide 8 Try.f8 rfl rfl rfl rfl rfl rfl rfl ⟨rfl, rfl, rfl, rfl, rfl⟩ rfl rfl rfl rfl rfl named Try.func8 joined inst_ wrap
    (fun os started H enc _ => lifted os started H enc)
end Go.Proofs.Ytcghjnegaiiieaa.commitFunds
namespace Go.Proofs.Ytcghjnegaiiieaa
theorem commitFunds_holds : Rows.CommitFundsSaid := commitFunds.over
#print axioms commitFunds_holds
end Go.Proofs.Ytcghjnegaiiieaa

/- Why any transaction does not take the part of any commitment's owner, or that it does; for every input. -/
import Derived.Test.YtcghjnegaiiieaaJC7
namespace Go.Proofs.Ytcghjnegaiiieaa.justiceChecks
open Go.ChangeShapes Go.WideShapes Go.ChangeAt Go.RowKit
theorem named : Try.pinned.checked.prog.funcNamed Rows.justiceChecksRow.func = some 11 := by kernel_rfl
theorem joined : joinedFacts Try.pinned.checked.prog 11 Try.f11 Rows.justiceChecksSpec Rows.justiceChecksRow = true := by kernel_rfl
theorem inst_ : Try.f11.isInstance Try.pinned.checked.prog Rows.justiceChecksRow.origin Rows.justiceChecksRow.targs := of_decide_eq_true (by kernel_rfl)
theorem wrap : Try.f11.isWrapper Try.pinned.checked.prog Rows.justiceChecksRow.wrapper Rows.justiceChecksRow.mainSum := by
  unfold Func.isWrapper
  first | (rw [if_pos (by decide +kernel)]; kernel_rfl) | (rw [if_neg (by decide +kernel)]; exact ⟨rfl, rfl⟩)
theorem over : Rows.justiceChecksRow.holds Try.pinned (OpenSpec.ofChange Rows.justiceChecksSpec) :=
  OpenClaim.holds_of_wide 11 Try.f11 rfl rfl rfl rfl rfl rfl rfl ⟨rfl, rfl, rfl, rfl, rfl⟩ rfl rfl rfl rfl rfl named Try.func11 joined inst_ wrap
    (fun os started H enc _ => lifted os started H enc)
end Go.Proofs.Ytcghjnegaiiieaa.justiceChecks
namespace Go.Proofs.Ytcghjnegaiiieaa
theorem justiceChecks_holds : Rows.JusticeChecksSaid := justiceChecks.over
#print axioms justiceChecks_holds
end Go.Proofs.Ytcghjnegaiiieaa

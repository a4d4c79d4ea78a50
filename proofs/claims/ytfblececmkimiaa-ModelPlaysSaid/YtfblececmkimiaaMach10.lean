/- The machine of numbers: what the script's cells are. -/
import Derived.Test.YtfblececmkimiaaLibRead
import Derived.Test.YtfblececmkimiaaMach9
namespace Go.Proofs.Ytfblececmkimiaa
open Go.RowKit

theorem script_of {w : World} {cs : List Value} {xs0 : List (Int × (Int × Unit))} (h : RSl (RCons (RInt .i64) 1 (RCons (RInt .i64) 1 RNil)) 2 w cs xs0) :
    ∃ A C xs, cs = [.slice A xs.length C] ∧ xs.length ≤ maxLen ∧ RdOps w A xs := by
  rcases h with ⟨rfl, rfl⟩ | ⟨a, c, rfl, h1, h2, h3⟩
  · exact ⟨none, 0, [], rfl, by simp, fun i hi => by simp at hi⟩
  · refine ⟨some a, c, xs0.map (fun p => (p.1, p.2.1)), by simp, by simp; omega, fun i hi => ?_⟩
    have hi' : i < xs0.length := by simpa using hi
    obtain ⟨e, _, h4, c1, d1, rfl, hl1, ⟨e1, _⟩, c2, d2, rfl, hl2, ⟨e2, _⟩, h8⟩ := h3 i hi'
    subst e1 e2
    refine ⟨a, rfl, ?_, ?_⟩
    · have := h4 0 _ rfl
      rw [show ((a.add (i * 2)).add 0) = a.add (i * 2) from rfl] at this
      rw [this]; simp [List.getD_eq_getElem?_getD, hi']
    · have := h4 1 _ rfl
      rw [show ((a.add (i * 2)).add 1) = ⟨(a.add (i * 2)).block, (a.add (i * 2)).off + 1, none⟩ from rfl] at this
      rw [this]; simp [List.getD_eq_getElem?_getD, hi']
end Go.Proofs.Ytfblececmkimiaa

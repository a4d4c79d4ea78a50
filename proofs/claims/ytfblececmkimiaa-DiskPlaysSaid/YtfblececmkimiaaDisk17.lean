/- The disk (layer 22): what the script's cells are. -/
import Derived.Test.YtfblececmkimiaaLib2
import Derived.Test.YtfblececmkimiaaLibRead
import Derived.Test.YtfblececmkimiaaDisk16
namespace Go.Proofs.Ytfblececmkimiaa
open Go.RowKit

theorem diskScript_of {w : World} {cs : List Value} {xs0 : List (Int × (Int × (Int × (List Int × Unit))))} (h : RSl (RCons (RInt .i64) 1 (RCons (RInt .i64) 1 (RCons (RInt .i64) 1 (RCons (RSl (RInt .u8) 1) 1 RNil)))) 4 w cs xs0) :
    ∃ A C xs, cs = [.slice A xs.length C] ∧ xs.length ≤ maxLen ∧ RdScript w A xs := by
  rcases h with ⟨rfl, rfl⟩ | ⟨a, c, rfl, h1, h2, h3⟩
  · exact ⟨none, 0, [], rfl, by simp, fun i hi => by simp at hi⟩
  · obtain ⟨xs, hl, hx⟩ := list_of (p := fun i (o : DOp) => w.cell? (a.add (i * 4)) = some (.int .i64 o.kd) ∧ w.cell? ⟨(a.add (i * 4)).block, (a.add (i * 4)).off + 1, none⟩ = some (.int .i64 o.x) ∧
      w.cell? ⟨(a.add (i * 4)).block, (a.add (i * 4)).off + 2, none⟩ = some (.int .i64 o.n) ∧ w.cell? ⟨(a.add (i * 4)).block, (a.add (i * 4)).off + 3, none⟩ = some (.slice o.A o.data.length o.C) ∧ OpIn w o) xs0.length (fun i hi => by
      obtain ⟨e, _, h4, c1, d1, rfl, hl1, ⟨e1, _⟩, c2, d2, rfl, hl2, ⟨e2, _⟩, c3, d3, rfl, hl3, ⟨e3, wf3⟩, c4, d4, rfl, hl4, e4, h8⟩ := h3 i hi
      obtain ⟨A, C, e4, k1, k2, k3, _⟩ := RSl.ints e4
      rw [e1, e2, e3, e4] at h4
      refine ⟨⟨xs0[i].1, xs0[i].2.1, xs0[i].2.2.1, A, C, xs0[i].2.2.2.1⟩, h4 0 _ rfl, h4 1 _ rfl, h4 2 _ rfl, h4 3 _ rfl, k3, k1, k2, ?_⟩
      have := wf_int wf3
      dsimp only
      exact this.2)
    refine ⟨some a, c, xs, by rw [hl], by omega, fun i hi => ?_⟩
    obtain ⟨k0, k1, k2, k3, k4⟩ := hx i hi
    exact ⟨a, rfl, k0, k1, k2, k3, k4⟩
end Go.Proofs.Ytfblececmkimiaa

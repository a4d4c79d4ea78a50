/- The disk (layer 22): the disk and the document's, side by side. -/
import Derived.Test.YtfblececmkimiaaDisk9
namespace Go.Proofs.Ytfblececmkimiaa
open Go.RowKit

theorem PlainAt.own_blk {w : World} {g b : Nat} {v : Value} {P : Plain} (h : PlainAt w g v P) (hb : v.ownBlock = some b) : ∃ (cs : Array Value) (fr : Nat × Nat), w.heap[b]? = some (.cells cs 5 fr) := by
  obtain ⟨_, ⟨rfl, _⟩ | ⟨r, c, cur, rfl, _, hh, _⟩⟩ := h.row
  · simp [Value.ownBlock] at hb
  · simp [Value.ownBlock] at hb
    subst hb
    exact ⟨_, _, hh⟩
/-- Both were made behind a world, apart from each other, and nothing older was written. -/
structure Pair (w0 w : World) (g r gp : Nat) (v : Value) (D : Disk) (P : Plain) : Prop where
  a : DiskAt w g r D
  b : PlainAt w gp v P
  kept : Kept Nob w0 w
  ng : w0.heap.size ≤ g
  nr : w0.heap.size ≤ r
  np : w0.heap.size ≤ gp
  nv : ∀ k, v.ownBlock = some k → w0.heap.size ≤ k
  sep : v.ownBlock ≠ some r
theorem Pair.left {w0 w w' : World} {g r gp : Nat} {v : Value} {D D' : Disk} {P : Plain} (h : Pair w0 w g r gp v D P) (hd : DiskAt w' g r D') (hk : Kept (fun k => k = g ∨ k = r) w w') : Pair w0 w' g r gp v D' P := by
  refine ⟨hd, h.b.kept hk ?_ ?_, Kept.then h.kept hk (fun k hlt hs => ?_), h.ng, h.nr, h.np, h.nv, h.sep⟩
  · rintro (e | e)
    · exact blk_ne h.b.blk h.a.blk (by decide) e
    · exact blk_ne h.b.blk h.a.row (by decide) e
  · intro b hb
    rintro (e | e)
    · obtain ⟨cs, fr, hc⟩ := h.b.own_blk hb
      exact blk_ne hc h.a.blk (by decide) e
    · exact h.sep (e ▸ hb)
  · have := h.ng
    have := h.nr
    omega
theorem Pair.right {w0 w w' : World} {g r gp : Nat} {v v' : Value} {D : Disk} {P P' : Plain} (h : Pair w0 w g r gp v D P) (hp : PlainAt w' gp v' P') (hk : Kept (fun k => k = gp) w w')
    (ho : v'.ownBlock = v.ownBlock ∨ ∃ b, v'.ownBlock = some b ∧ w.heap.size ≤ b) : Pair w0 w' g r gp v' D P' := by
  refine ⟨h.a.kept hk (blk_ne h.a.blk h.b.blk (by decide)) (blk_ne h.a.row h.b.blk (by decide)), hp, Kept.then h.kept hk (fun k hlt hs => ?_), h.ng, h.nr, h.np, fun k hb => ?_, fun e => ?_⟩
  · have := h.np
    omega
  · rcases ho with ho | ⟨b, ho, hb2⟩
    · exact h.nv k (ho ▸ hb)
    · rw [ho] at hb
      injection hb with hb
      have := h.kept.size
      omega
  · rcases ho with ho | ⟨b, ho, hb2⟩
    · exact h.sep (ho ▸ e)
    · rw [ho] at e
      injection e with e
      have := blk_lt h.a.row
      omega
theorem Pair.keep {w0 w w' : World} {g r gp : Nat} {v : Value} {D : Disk} {P : Plain} (h : Pair w0 w g r gp v D P) (hk : Kept Nob w w') : Pair w0 w' g r gp v D P :=
  ⟨h.a.kept hk (fun h => h) (fun h => h), h.b.kept hk (fun h => h) (fun _ _ h => h), h.kept.trans hk, h.ng, h.nr, h.np, h.nv, h.sep⟩
end Go.Proofs.Ytfblececmkimiaa

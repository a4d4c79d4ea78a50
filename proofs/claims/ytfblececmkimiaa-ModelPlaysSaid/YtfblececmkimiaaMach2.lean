/- The document's machine of numbers (law 38): its steps. -/
import Derived.Deep.AppendLies
import Derived.Deep.RegionLaw
import Derived.Test.YtfblececmkimiaaMach
namespace Go.Proofs.Ytfblececmkimiaa
open Go.RowKit

/-- What stays true of a machine, behind so many calls. -/
structure Mach.Inv (m : Mach) (i : Nat) : Prop where
  t0 : 0 ≤ m.total
  t1 : m.total ≤ 1125899906842624
  g0 : 0 ≤ m.given
  lo : m.given + 1 ≤ m.l.length
  hi : m.l.length ≤ m.given + 2
  n : m.l.length ≤ i + 1
  p0 : m.given ≤ m.peer
  p1 : m.peer ≤ m.given + 1
  p2 : m.peer + 1 ≤ m.l.length
  s0 : 0 ≤ m.seen
  s1 : m.seen ≤ m.given + 1
  vals : ∀ j : Nat, j < m.l.length → 0 ≤ m.l.getD j 0 ∧ m.l.getD j 0 ≤ m.total
theorem Mach.Inv.ok {m : Mach} {i : Nat} (h : m.Inv i) (hi : i ≤ 60) : m.Ok := by
  obtain ⟨t0, t1, g0, lo, hi', n, p0, p1, p2, s0, s1, vals⟩ := h
  exact ⟨t0, t1, g0, by omega, by omega, by omega, by omega, s0, by omega, vals⟩

/-- A call's error, and what it leaves. -/
def opE (m : Mach) (k x : Int) : Int := if k = 0 ∨ k = 1 then signE m x else if k = 2 then revokeE m else if k = 3 then watchE m else if k = 4 then giveE m else closeE m
def opM (m : Mach) (k x : Int) : Mach := if k = 0 ∨ k = 1 then signM m x else if k = 2 then revokeM m else if k = 3 then watchM m else if k = 4 then giveM m else closeM m

theorem opM_inv (m : Mach) (i : Nat) (k x : Int) (h : m.Inv i) : (opM m k x).Inv (i + 1) := by
  obtain ⟨t0, t1, g0, lo, hi', n, p0, p1, p2, s0, s1, vals⟩ := h
  have hsame : m.Inv (i + 1) := ⟨t0, t1, g0, lo, hi', by omega, p0, p1, p2, s0, s1, vals⟩
  unfold opM signM revokeM watchM giveM closeM Mach.after
  split
  · split
    · rename_i h1
      unfold signE at h1
      split at h1
      · simp at h1
      · split at h1
        · simp at h1
        · refine ⟨t0, t1, g0, by simp; omega, by simp; omega, by simp; omega, p0, p1, by simp; omega, s0, s1, fun j hj => ?_⟩
          simp at hj
          by_cases e : j < m.l.length
          · have := vals j e
            simpa [List.getD_eq_getElem?_getD, List.getElem?_append_left e] using this
          · have : j = m.l.length := by omega
            subst this
            simp [List.getD_eq_getElem?_getD]
            simp [List.getD_eq_getElem?_getD] at *
            omega
    · exact hsame
  · split
    · split
      · rename_i h1
        unfold revokeE at h1
        split at h1
        · simp at h1
        · exact ⟨t0, t1, g0, lo, hi', by simp; omega, by simp; omega, by simp; omega, by simp; omega, s0, s1, vals⟩
      · exact hsame
    · split
      · split
        · exact ⟨t0, t1, g0, lo, hi', by simp; omega, p0, p1, p2, by simp; omega, by simp, vals⟩
        · exact hsame
      · split
        · split
          · rename_i h1
            unfold giveE at h1
            split at h1
            · simp at h1
            · split at h1
              · simp at h1
              · exact ⟨t0, t1, by simp; omega, by simp; omega, by simp; omega, by simp; omega, by simp; omega, by simp; omega, p2, s0, by simp; omega, vals⟩
          · exact hsame
        · split
          · exact ⟨t0, t1, g0, lo, hi', by simp; omega, p0, p1, p2, s0, s1, vals⟩
          · exact hsame

theorem MachOut.pre {T : TypeId} {w W w' : World} {g : Nat} {v : Value} {m m' : Mach} (hk : Kept Nob w W) (_ : MachAt T w g v m) (h : MachOut T W g v m' w') : MachOut T w g v m' w' := by
  obtain ⟨v', h1, h2, h3⟩ := h
  refine ⟨v', h1, Kept.then (hk.mono (fun _ _ h => by cases h)) h2 (fun _ _ h => h), ?_⟩
  rcases h3 with h3 | ⟨b, h3, h4⟩
  · exact .inl h3
  · exact .inr ⟨b, h3, Nat.le_trans hk.size h4⟩
theorem MachAt.kept {T : TypeId} {S : Nat → Prop} {w w' : World} {g : Nat} {v : Value} {m : Mach} (h : MachAt T w g v m) (hk : Kept S w w') (hg : ¬ S g) (hv : ∀ b, v.ownBlock = some b → ¬ S b) : MachAt T w' g v m := by
  refine ⟨hk.blk h.blk hg, ?_⟩
  obtain ⟨h1, h2 | ⟨r, c, cur, rfl, hb, hh, h3⟩⟩ := h.row
  · exact ⟨h1, .inl h2⟩
  · exact ⟨h1, .inr ⟨r, c, cur, rfl, hb, hk.blk hh (hv r rfl), h3⟩⟩

theorem MachOut.still {T : TypeId} {w w' : World} {g : Nat} {v : Value} {m : Mach} (h : MachAt T w g v m) (hk : Kept Nob w w') : MachOut T w g v m w' :=
  ⟨v, h.kept hk (fun h => h) (fun _ _ h => h), hk.mono (fun _ _ h => by cases h), .inl rfl⟩
theorem MachAt.push2 {T : TypeId} {w w1 W : World} {g r c r' c' H : Nat} {m : Mach} {x : Int} (hT : T ≠ 2) (h : MachAt T w g (.slice (some ⟨r, 0, none⟩) m.l.length c) m) (hn : 0 < m.l.length)
    (hk : Kept Nob w W) (hown : w1.ownsRow 0 2 1 (.slice (some ⟨r', 0, none⟩) (m.l.length + 1) c') (m.l.length + 1) (nums .i64 m.l ++ [.int .i64 x])) (hg : W.grownBy w1 (some r))
    (hv : r = r' ∨ r' = H) (hH : w.heap.size ≤ H) :
    w1.cell? ⟨g, 1, none⟩ = some (.slice (some ⟨r, 0, none⟩) m.l.length c) ∧ w1.frozen? ⟨g, 1, none⟩ = false ∧ w1.cell? ⟨g, 3, none⟩ = some (.int .i64 m.given) ∧
    MachOut T w g (.slice (some ⟨r, 0, none⟩) m.l.length c) { m with l := m.l ++ [x] } (w1.setCell ⟨g, 1, none⟩ (.slice (some ⟨r', 0, none⟩) (m.l.length + 1) c')) := by
  obtain ⟨r1, c1, e1, _, _, _, ⟨cs, hr⟩, _⟩ := own_at h.row hn
  injection e1 with e1 _ _; injection e1 with e1; injection e1 with e1 _ _; subst e1
  have hne : g ≠ r := blk_ne h.blk hr hT
  have hgl := blk_lt h.blk
  have hsz := hk.size
  have hb : w1.heap[g]? = some (.cells (m.cells (.slice (some ⟨r, 0, none⟩) m.l.length c)) T (0, 0)) :=
    (hg.block g (by omega) (by simpa using hne)).trans ((hk.block g hgl (by simp [Nob])).trans h.blk)
  have e2 : nums .i64 (m.l ++ [x]) = nums .i64 m.l ++ [.int .i64 x] := by simp [nums]
  have hr' : r' = r ∨ w.heap.size ≤ r' := by omega
  refine ⟨by rw [blk_cell hb]; rfl, blk_frozen hb 1, by rw [blk_cell hb]; rfl, .slice (some ⟨r', 0, none⟩) (m.l.length + 1) c', ⟨?_, ?_⟩, ?_, ?_⟩
  · rw [blk_set hb 1]; rfl
  · show World.ownsRow _ 0 2 1 _ (m.l ++ [x]).length (nums .i64 (m.l ++ [x]))
    rw [List.length_append, e2]
    refine ownsRow_setCell_other hown (a := ⟨g, 1, none⟩) ?_ _
    simp [Value.ownBlock]; omega
  · refine Kept.setCell ?_ (fun _ => .inl rfl) _
    exact Kept.grown (hk.mono (fun _ _ h => by cases h)) hg (fun k hk _ => .inr (by simpa [Value.ownBlock] using hk))
  · simpa [Value.ownBlock] using hr'

end Go.Proofs.Ytfblececmkimiaa

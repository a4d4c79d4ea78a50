/- The disk (layer 22): the document's disk writes. -/
import Derived.Test.YtfblececmkimiaaDisk6
namespace Go.Proofs.Ytfblececmkimiaa
open Go.RowKit

structure Plain where
  b : List Int
  fuse : Int
  armed : Bool
  dead : Bool
  wrote : Int
structure PlainAt (w : World) (g : Nat) (v : Value) (P : Plain) : Prop where
  blk : w.heap[g]? = some (.cells #[v, .int .i64 P.fuse, .bool P.armed, .bool P.dead, .int .i64 P.wrote] 66 (0, 0))
  row : w.ownsRow 0 5 1 v P.b.length (nums .u8 P.b)
/-- The document's disk is like the disk. -/
def Rel (D : Disk) (P : Plain) : Prop := P.b = D.b ∧ P.dead = D.dead ∧ P.wrote = D.wrote ∧ ((P.armed = true ∧ 0 ≤ P.fuse ∧ D.fuse = P.fuse) ∨ (P.armed = false ∧ D.fuse = -1))

theorem PlainAt.open_ {w : World} {g : Nat} {v : Value} {P : Plain} (h : PlainAt w g v P) (hn : 0 < P.b.length) :
    ∃ r c, v = .slice (some ⟨r, 0, none⟩) P.b.length c ∧ P.b.length ≤ c ∧ c ≤ maxLen ∧ g ≠ r ∧ r < w.heap.size ∧ RdInts w .u8 (some ⟨r, 0, none⟩) P.b := by
  obtain ⟨r, c, rfl, h1, h2, _, ⟨cs, hh⟩, h4⟩ := own_at h.row hn
  exact ⟨r, c, rfl, h1, h2, blk_ne h.blk hh (by decide), blk_lt hh, fun i hi => ⟨_, rfl, by rw [plain_add, Nat.zero_add]; exact h4 i hi⟩⟩
theorem PlainAt.kept {S : Nat → Prop} {w w' : World} {g : Nat} {v : Value} {P : Plain} (h : PlainAt w g v P) (hk : Kept S w w') (hg : ¬ S g) (hv : ∀ b, v.ownBlock = some b → ¬ S b) : PlainAt w' g v P := by
  refine ⟨hk.blk h.blk hg, ?_⟩
  obtain ⟨h1, h2 | ⟨r, c, cur, rfl, hb, hh, h3⟩⟩ := h.row
  · exact ⟨h1, .inl h2⟩
  · exact ⟨h1, .inr ⟨r, c, cur, rfl, hb, hk.blk hh (hv r rfl), h3⟩⟩
theorem PlainAt.slice {w : World} {g : Nat} {v : Value} {P : Plain} (h : PlainAt w g v P) : ∃ A c, v = .slice A P.b.length c := by
  obtain ⟨A, c, e, _, _⟩ := own_bytes h.row
  exact ⟨A, c, e⟩

theorem plainWithin_any (g : Nat) (v : Value) (P : Plain) (x y : Int) (w : World) (h : PlainAt w g v P) (hn : P.b.length ≤ 2097152) (hy : y ≤ 9223372036854775807) :
    Calls Try.prog 68 #[.pointer (some ⟨g, 0, none⟩), .int .i64 x, .int .i64 y] w fun e w' => e = .returned (.bool (fitsB P.b.length x y)) ∧ w = w' := by
  obtain ⟨A, c, rfl⟩ := h.slice
  have c0 := (blk_cell h.blk 0).trans rfl
  have e1 : (P.b.length : Int).tdiv 64 = ((P.b.length / 64 : Nat) : Int) := by rw [Int.tdiv_eq_ediv_of_nonneg (by omega)]; omega
  have e2 : IntKind.i64.wrap ((P.b.length / 64 : Nat) : Int) = ((P.b.length / 64 : Nat) : Int) := IntWalk.i64_in _ (by omega)
  clear h
  have hcase : (x < 0 ∧ fitsB P.b.length x y = false) ∨ ((0 ≤ x ∧ y < 0) ∧ fitsB P.b.length x y = false) ∨ ((0 ≤ x ∧ 0 ≤ y ∧ ((P.b.length / 64 : Nat) : Int) < y) ∧ fitsB P.b.length x y = false) ∨
      ((0 ≤ x ∧ 0 ≤ y ∧ y ≤ ((P.b.length / 64 : Nat) : Int) ∧ x ≤ ((P.b.length / 64 : Nat) : Int) - y) ∧ fitsB P.b.length x y = true) ∨
      ((0 ≤ x ∧ 0 ≤ y ∧ y ≤ ((P.b.length / 64 : Nat) : Int) ∧ ¬ x ≤ ((P.b.length / 64 : Nat) : Int) - y) ∧ fitsB P.b.length x y = false) := by
    by_cases h1 : x < 0
    · exact .inl ⟨h1, fits_no (by omega)⟩
    · by_cases h2 : y < 0
      · exact .inr (.inl ⟨⟨by omega, h2⟩, fits_no (by omega)⟩)
      · by_cases h4 : ((P.b.length / 64 : Nat) : Int) < y
        · exact .inr (.inr (.inl ⟨⟨by omega, by omega, h4⟩, fits_no (by omega)⟩))
        · by_cases h3 : x ≤ ((P.b.length / 64 : Nat) : Int) - y
          · exact .inr (.inr (.inr (.inl ⟨⟨by omega, by omega, by omega, h3⟩, fits_yes (by omega) (by omega) h3⟩)))
          · exact .inr (.inr (.inr (.inr ⟨⟨by omega, by omega, by omega, h3⟩, fits_no (by omega)⟩)))
  have hs1 : P.b.length / 64 ≤ 32768 := by omega
  generalize fitsB P.b.length x y = q at hcase ⊢
  generalize P.b.length / 64 = s at e1 e2 hcase hs1
  rcases hcase with ⟨h1, hq⟩ | ⟨⟨h1, h2⟩, hq⟩ | ⟨⟨h1, h2, h3⟩, hq⟩ | ⟨⟨h1, h2, h4, h3⟩, hq⟩ | ⟨⟨h1, h2, h4, h3⟩, hq⟩
  all_goals
    subst hq
    try have e3 : IntKind.i64.wrap ((s : Int) - y) = (s : Int) - y := IntWalk.i64_in _ (by omega)
    go_enter Try.func68, Try.ntmps68
    go_wp2
    go_ret
    exact ⟨ret_bool (by first | rfl | exact decide_eq_true (by omega) | exact decide_eq_false (by omega)), rfl⟩
end Go.Proofs.Ytfblececmkimiaa

/- The disk (layer 22): what arms and wakes it, and reads it. -/
import Derived.Test.YtfblececmkimiaaDisk
namespace Go.Proofs.Ytfblececmkimiaa
open Go.RowKit
attribute [local go_sem] lmax_two lmin_two

theorem Kept.setRow {S : Nat → Prop} {a w : World} (h : Kept S a w) {g : Nat} (hg : g < a.heap.size → S g) (cs : Array Value) : Kept S a (w.setRow g cs) :=
  ⟨h.os, h.tape, h.output, by simpa [World.setRow] using h.size, fun k hk hn => by
    rw [setRow_other w g k cs (by rintro rfl; exact hn (hg hk))]
    exact h.block k hk hn⟩
theorem DiskAt.put {w : World} {g r : Nat} {D D' : Disk} (h : DiskAt w g r D) (i : Nat) (u : Value) (hb : D'.b = D.b)
    (hc : (#[.slice (some ⟨r, 0, none⟩) D.b.length D.b.length, .int .i64 D.fuse, .bool D.dead, .int .i64 D.wrote] : Array Value).setIfInBounds i u = #[.slice (some ⟨r, 0, none⟩) D'.b.length D'.b.length, .int .i64 D'.fuse, .bool D'.dead, .int .i64 D'.wrote]) :
    DiskAt (w.setCell ⟨g, i, none⟩ u) g r D' :=
  ⟨by rw [blk_set h.blk i u, hc], by rw [hb]; exact blk_far h.row (p := ⟨g, i, none⟩) (Ne.symm h.ne) u⟩

theorem arm_none (n : Int) (w : World) : Calls Try.prog 39 #[.pointer none, .int .i64 n] w fun e w' => e = .returned (.tuple #[]) ∧ w = w' := by
  go_enter Try.func39, Try.ntmps39
  go_wp2
  go_end0
  exact ⟨rfl, rfl⟩
def Disk.arm (D : Disk) (n : Int) : Disk := { D with fuse := if n < -1 then -1 else n }
theorem arm_any (g r : Nat) (D : Disk) (n : Int) (w : World) (h : DiskAt w g r D) : Calls Try.prog 39 #[.pointer (some ⟨g, 0, none⟩), .int .i64 n] w fun e w' => e = .returned (.tuple #[]) ∧ DiskAt w' g r (D.arm n) ∧ Kept (fun k => k = g ∨ k = r) w w' := by
  have e0 := (blk_cell h.blk 1).trans rfl
  have f0 := blk_frozen h.blk 1
  by_cases hn : n < -1
  · have H := hidden (h.put (D' := D.arm n) 1 (.int .i64 (-1)) rfl (by unfold Disk.arm; rw [if_pos hn]; rfl))
    clear h
    go_enter Try.func39, Try.ntmps39
    go_wp2
    go_end0
    exact ⟨rfl, H.out, Kept.setCell (Kept.refl _ _) (fun _ => .inl rfl) _⟩
  · have H := hidden (h.put (D' := D.arm n) 1 (.int .i64 n) rfl (by unfold Disk.arm; rw [if_neg hn]; rfl))
    clear h
    go_enter Try.func39, Try.ntmps39
    go_wp2
    go_end0
    exact ⟨rfl, H.out, Kept.setCell (Kept.refl _ _) (fun _ => .inl rfl) _⟩
theorem wake_none (w : World) : Calls Try.prog 40 #[.pointer none] w fun e w' => e = .returned (.tuple #[]) ∧ w = w' := by
  go_enter Try.func40, Try.ntmps40
  go_wp2
  go_end0
  exact ⟨rfl, rfl⟩
def Disk.wake (D : Disk) : Disk := { D with fuse := -1, dead := false }
theorem wake_any (g r : Nat) (D : Disk) (w : World) (h : DiskAt w g r D) : Calls Try.prog 40 #[.pointer (some ⟨g, 0, none⟩)] w fun e w' => e = .returned (.tuple #[]) ∧ DiskAt w' g r D.wake ∧ Kept (fun k => k = g ∨ k = r) w w' := by
  have e0 := (blk_cell h.blk 1).trans rfl
  have f0 := blk_frozen h.blk 1
  have e1 := (blk_cell h.blk 2).trans rfl
  have f1 := blk_frozen h.blk 2
  have h1 := h.put (D' := { D with dead := false }) 2 (.bool false) rfl rfl
  have H := hidden (h1.put (D' := D.wake) 1 (.int .i64 (-1)) rfl rfl)
  clear h h1
  go_enter Try.func40, Try.ntmps40
  go_wp2
  go_end0
  exact ⟨rfl, H.out, Kept.setCell (Kept.setCell (Kept.refl _ _) (fun _ => .inl rfl) _) (fun _ => .inl rfl) _⟩
/-- Do sectors lie within? -/
def fitsB (n : Nat) (x y : Int) : Bool := decide (0 ≤ x) && decide (0 ≤ y) && decide (x ≤ ((n / 64 : Nat) : Int) - y)
theorem fits_yes {n : Nat} {x y : Int} (h1 : 0 ≤ x) (h2 : 0 ≤ y) (h3 : x ≤ ((n / 64 : Nat) : Int) - y) : fitsB n x y = true := by simp [fitsB, h1, h2]; omega
theorem fits_no {n : Nat} {x y : Int} (h : x < 0 ∨ y < 0 ∨ ((n / 64 : Nat) : Int) - y < x) : fitsB n x y = false := by simp [fitsB]; omega
theorem fits_iff {n : Nat} {x y : Int} : fitsB n x y = true ↔ 0 ≤ x ∧ 0 ≤ y ∧ x ≤ ((n / 64 : Nat) : Int) - y := by simp [fitsB]; omega
theorem within_any (g r : Nat) (D : Disk) (x y : Int) (w : World) (h : DiskAt w g r D) (hn : D.b.length ≤ 2097152) (hy : y ≤ 9223372036854775807) :
    Calls Try.prog 70 #[.pointer (some ⟨g, 0, none⟩), .int .i64 x, .int .i64 y] w fun e w' => e = .returned (.bool (fitsB D.b.length x y)) ∧ w = w' := by
  have HS := hidden (size_any g r D w h hn)
  clear h
  have hcase : (x < 0 ∧ fitsB D.b.length x y = false) ∨ ((0 ≤ x ∧ y < 0) ∧ fitsB D.b.length x y = false) ∨ ((0 ≤ x ∧ 0 ≤ y ∧ x ≤ ((D.b.length / 64 : Nat) : Int) - y) ∧ fitsB D.b.length x y = true) ∨
      ((0 ≤ x ∧ 0 ≤ y ∧ ¬ x ≤ ((D.b.length / 64 : Nat) : Int) - y) ∧ fitsB D.b.length x y = false) := by
    by_cases h1 : x < 0
    · exact .inl ⟨h1, fits_no (by omega)⟩
    · by_cases h2 : y < 0
      · exact .inr (.inl ⟨⟨by omega, h2⟩, fits_no (by omega)⟩)
      · by_cases h3 : x ≤ ((D.b.length / 64 : Nat) : Int) - y
        · exact .inr (.inr (.inl ⟨⟨by omega, by omega, h3⟩, fits_yes (by omega) (by omega) h3⟩))
        · exact .inr (.inr (.inr ⟨⟨by omega, by omega, h3⟩, fits_no (by omega)⟩))
  have hs1 : D.b.length / 64 ≤ 32768 := by omega
  generalize fitsB D.b.length x y = q at hcase ⊢
  generalize D.b.length / 64 = s at HS hcase hs1
  rcases hcase with ⟨h1, hq⟩ | ⟨⟨h1, h2⟩, hq⟩ | ⟨⟨h1, h2, h3⟩, hq⟩ | ⟨⟨h1, h2, h3⟩, hq⟩
  all_goals
    subst hq
    try have e1 : IntKind.i64.wrap ((s : Int) - y) = (s : Int) - y := IntWalk.i64_in _ (by omega)
    go_enter Try.func70, Try.ntmps70
    go_wp2_with (go_at_call 35; refine HS.out.mono ?_; rintro e w1 ⟨rfl, rfl⟩)
    go_ret
    exact ⟨ret_bool (by first | rfl | exact decide_eq_true (by omega) | exact decide_eq_false (by omega)), rfl⟩
set_option maxHeartbeats 800000 in
theorem read_none (x y : Int) (w : World) : Calls Try.prog 41 #[.pointer none, .int .i64 x, .int .i64 y] w fun e w' => e = .returned (.tuple #[.slice none 0 0, .int .i64 1]) ∧ w = w' := by
  go_enter Try.func41, Try.ntmps41
  go_wp2
  go_ret2
  exact ⟨rfl, rfl⟩
set_option maxHeartbeats 800000 in
theorem write_none (x : Int) (v : Value) (w : World) : Calls Try.prog 42 #[.pointer none, .int .i64 x, v] w fun e w' => e = .returned (.int .i64 1) ∧ w = w' := by
  go_enter Try.func42, Try.ntmps42
  go_wp2
  go_ret
  exact ⟨rfl, rfl⟩
end Go.Proofs.Ytfblececmkimiaa

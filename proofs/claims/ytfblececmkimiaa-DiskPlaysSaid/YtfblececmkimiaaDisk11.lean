/- The disk (layer 22): a call of both that arms, or wakes. -/
import Derived.Test.YtfblececmkimiaaDisk10
namespace Go.Proofs.Ytfblececmkimiaa
open Go.RowKit

set_option maxRecDepth 100000 in
set_option maxHeartbeats 8000000 in
theorem stepArm_any (w0 w : World) (g r gp : Nat) (v : Value) (D : Disk) (P : Plain) (x n : Int) (A : Option Addr) (L C : Nat) (h : Pair w0 w g r gp v D P) (hrel : Rel D P) (hnb : n ≤ 9223372036854775807) :
    Calls Try.prog 37 #[.pointer (some ⟨g, 0, none⟩), .pointer (some ⟨gp, 0, none⟩), .agg #[.int .i64 4, .int .i64 x, .int .i64 n, .slice A L C]] w fun e w' => e = .returned (.bool true) ∧ ∃ P', Pair w0 w' g r gp v (D.arm n) P' ∧ Rel (D.arm n) P' ∧ P'.fuse ≤ 9223372036854775807 := by
  have H0 : Hid (Pair w0 (w.alloc (.cells #[.int .i64 4, .int .i64 x, .int .i64 n, .slice A L C] 68)) g r gp v D P) := hidden (h.keep (Kept.alloc (Kept.refl _ _) _))
  have HREL := hidden hrel
  have hg := blk_lt h.a.blk
  have hr := blk_lt h.a.row
  have hp := blk_lt h.b.blk
  have hp1 : ¬ (gp = w.heap.size) := by omega
  have hp2 : ¬ (w.heap.size = gp) := by omega
  clear h hrel
  go_enter Try.func37, Try.ntmps37
  go_wp2_with (go_at_call 39; refine (arm_any g r D n _ H0.out.a).mono ?_; rintro e w1 ⟨rfl, hd, hk⟩; have H1 := hidden (H0.out.left hd hk); have bx := hk.blk (heap_alloc_new w _) (by rintro (e | e) <;> omega); have c2 := (blk_cell bx 2).trans rfl; have q1 := (blk_cell H1.out.b.blk 1).trans rfl; have q2 := (blk_cell H1.out.b.blk 2).trans rfl; have z1 := blk_frozen H1.out.b.blk 1; have z2 := blk_frozen H1.out.b.blk 2; clear hd hk bx)
  go_ret
  have hv : v.ownBlock ≠ some gp := fun e => by
    obtain ⟨cs, fr, hc⟩ := H1.out.b.own_blk e
    exact blk_ne H1.out.b.blk hc (by decide) rfl
  have h2 := H1.out.b.put (P' := { P with armed := decide (0 ≤ n) }) 2 (.bool (decide (0 ≤ n))) rfl hv rfl
  have h3 := h2.put (P' := { P with armed := decide (0 ≤ n), fuse := n }) 1 (.int .i64 n) rfl hv rfl
  refine ⟨rfl, _, H1.out.right h3 (Kept.setCell (Kept.setCell (Kept.refl (fun k => k = gp) w1) (fun _ => rfl) _) (fun _ => rfl) _) (.inl rfl), ?_⟩
  obtain ⟨r1, r2, r3, _⟩ := HREL.out
  refine ⟨⟨r1, r2, r3, ?_⟩, hnb⟩
  by_cases hn : 0 ≤ n
  · exact .inl ⟨by simpa using hn, hn, by unfold Disk.arm; dsimp only; rw [if_neg (by omega)]⟩
  · exact .inr ⟨by simpa using hn, by unfold Disk.arm; dsimp only; split <;> omega⟩

set_option maxRecDepth 100000 in
set_option maxHeartbeats 8000000 in
theorem stepWake_any (w0 w : World) (g r gp : Nat) (v : Value) (D : Disk) (P : Plain) (x n : Int) (A : Option Addr) (L C : Nat) (h : Pair w0 w g r gp v D P) (hrel : Rel D P) (hnb : P.fuse ≤ 9223372036854775807) :
    Calls Try.prog 37 #[.pointer (some ⟨g, 0, none⟩), .pointer (some ⟨gp, 0, none⟩), .agg #[.int .i64 5, .int .i64 x, .int .i64 n, .slice A L C]] w fun e w' => e = .returned (.bool true) ∧ ∃ P', Pair w0 w' g r gp v D.wake P' ∧ Rel D.wake P' ∧ P'.fuse ≤ 9223372036854775807 := by
  have H0 : Hid (Pair w0 (w.alloc (.cells #[.int .i64 5, .int .i64 x, .int .i64 n, .slice A L C] 68)) g r gp v D P) := hidden (h.keep (Kept.alloc (Kept.refl _ _) _))
  have HREL := hidden hrel
  clear h hrel
  go_enter Try.func37, Try.ntmps37
  go_wp2_with (go_at_call 40; refine (wake_any g r D _ H0.out.a).mono ?_; rintro e w1 ⟨rfl, hd, hk⟩; have H1 := hidden (H0.out.left hd hk); have q1 := (blk_cell H1.out.b.blk 3).trans rfl; have q2 := (blk_cell H1.out.b.blk 2).trans rfl; have z1 := blk_frozen H1.out.b.blk 3; have z2 := blk_frozen H1.out.b.blk 2; clear hd hk)
  go_ret
  have hv : v.ownBlock ≠ some gp := fun e => by
    obtain ⟨cs, fr, hc⟩ := H1.out.b.own_blk e
    exact blk_ne H1.out.b.blk hc (by decide) rfl
  have h2 := H1.out.b.put (P' := { P with armed := false }) 2 (.bool false) rfl hv rfl
  have h3 := h2.put (P' := { P with armed := false, dead := false }) 3 (.bool false) rfl hv rfl
  refine ⟨rfl, _, H1.out.right h3 (Kept.setCell (Kept.setCell (Kept.refl (fun k => k = gp) w1) (fun _ => rfl) _) (fun _ => rfl) _) (.inl rfl), ?_⟩
  obtain ⟨r1, r2, r3, _⟩ := HREL.out
  exact ⟨⟨r1, rfl, r3, .inr ⟨rfl, rfl⟩⟩, hnb⟩
end Go.Proofs.Ytfblececmkimiaa

/- The disk (layer 22): a call of both that reads, and is refused. -/
import Derived.Test.YtfblececmkimiaaDisk12
namespace Go.Proofs.Ytfblececmkimiaa
open Go.RowKit

set_option maxRecDepth 100000 in
set_option maxHeartbeats 8000000 in
theorem stepRead_bad (w0 w : World) (g r gp : Nat) (v : Value) (D : Disk) (P : Plain) (x n : Int) (A : Option Addr) (L C : Nat) (h : Pair w0 w g r gp v D P) (hrel : Rel D P) (hn : D.b.length ≤ 2097152) (hy : n ≤ 9223372036854775807)
    (hbad : D.readE x n ≠ 0) :
    Calls Try.prog 37 #[.pointer (some ⟨g, 0, none⟩), .pointer (some ⟨gp, 0, none⟩), .agg #[.int .i64 3, .int .i64 x, .int .i64 n, .slice A L C]] w fun e w' => e = .returned (.bool true) ∧ Pair w0 w' g r gp v D P := by
  have H0 : Hid (Pair w0 (w.alloc (.cells #[.int .i64 3, .int .i64 x, .int .i64 n, .slice A L C] 68)) g r gp v D P) := hidden (h.keep (Kept.alloc (Kept.refl _ _) _))
  have HREL := hidden hrel
  have hB : D.readB x n = [] := by unfold Disk.readB; rw [if_neg hbad]
  have hcase : (fitsB D.b.length x n = false ∧ D.readE x n = 1) ∨ (fitsB D.b.length x n = true ∧ D.dead = true ∧ D.readE x n = 19) := by
    unfold Disk.readE at hbad ⊢
    by_cases h1 : fitsB D.b.length x n = false
    · rw [if_pos h1]; exact .inl ⟨h1, rfl⟩
    · rw [if_neg h1] at hbad ⊢
      by_cases h2 : D.dead = true
      · rw [if_pos h2]; exact .inr ⟨by simpa using h1, h2, rfl⟩
      · rw [if_neg h2] at hbad; exact absurd rfl hbad
  have HB := hidden hB
  clear h hrel hbad hB
  rcases hcase with ⟨hf, he⟩ | ⟨hf, hd, he⟩
  · have HF := hidden hf
    have HE := hidden he
    clear hf he
    go_enter Try.func37, Try.ntmps37
    go_wp2_with (first
      | (go_at_call 41; refine (read_any g r D x n _ H0.out.a hn hy).mono ?_; rintro e w1 ⟨vb, rfl, hb, hk⟩; rw [HB.out] at hb; obtain ⟨Ab, cb, rfl, _, _⟩ := hb; rw [HE.out]; have H1 := hidden (H0.out.keep hk); have bx := hk.blk (heap_alloc_new w _) (fun h => h); have c1 := (blk_cell bx 1).trans rfl; have c2 := (blk_cell bx 2).trans rfl; clear hk bx)
      | (go_at_call 68; refine (plainWithin_any gp v P x n _ H1.out.b (by rw [HREL.out.1]; exact hn) hy).mono ?_; rintro e w2 ⟨rfl, rfl⟩; rw [HREL.out.1, HF.out]))
    go_ret
    exact ⟨rfl, H1.out⟩
  · have HF := hidden hf
    have HE := hidden he
    have HD := hidden hd
    clear hf he hd
    go_enter Try.func37, Try.ntmps37
    go_wp2_with (first
      | (go_at_call 41; refine (read_any g r D x n _ H0.out.a hn hy).mono ?_; rintro e w1 ⟨vb, rfl, hb, hk⟩; rw [HB.out] at hb; obtain ⟨Ab, cb, rfl, _, _⟩ := hb; rw [HE.out]; have H1 := hidden (H0.out.keep hk); have bx := hk.blk (heap_alloc_new w _) (fun h => h); have c1 := (blk_cell bx 1).trans rfl; have c2 := (blk_cell bx 2).trans rfl; have q3 := (blk_cell H1.out.b.blk 3).trans rfl; rw [HREL.out.2.1, HD.out] at q3; clear hk bx)
      | (go_at_call 68; refine (plainWithin_any gp v P x n _ H1.out.b (by rw [HREL.out.1]; exact hn) hy).mono ?_; rintro e w2 ⟨rfl, rfl⟩; rw [HREL.out.1, HF.out]))
    go_ret
    exact ⟨rfl, H1.out⟩
end Go.Proofs.Ytfblececmkimiaa

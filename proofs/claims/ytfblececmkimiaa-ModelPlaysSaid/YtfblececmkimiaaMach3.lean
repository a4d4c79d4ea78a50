/- A step of the document's machine that signs, and is refused. -/
import Derived.Test.YtfblececmkimiaaMach2
namespace Go.Proofs.Ytfblececmkimiaa
open Go.RowKit

set_option maxRecDepth 100000 in
set_option maxHeartbeats 8000000 in
theorem stepSign_bad (g : Nat) (v : Value) (m : Mach) (k x : Int) (i : Nat) (w : World) (h : MachAt 101 w g v m) (inv : m.Inv i) (hi : i ≤ 60) (hk : k = 0 ∨ k = 1) (hne : signE m x ≠ 0) :
    Calls Try.prog 51 #[.pointer (some ⟨g, 0, none⟩), .agg #[.int .i64 k, .int .i64 x]] w fun e w' => e = .returned (.int .i64 (signE m x)) ∧ MachOut 101 w g v (signM m x) w' := by
  have ok := inv.ok hi
  obtain ⟨r, c, rfl, hc, hf, hc1, hc2, hr⟩ := h.open_ (by have := ok.g0; have := ok.g1; omega)
  obtain ⟨t0, t1, g0, g1, len, p0, p1, s0, s1, vals⟩ := ok
  have hrg := hr m.given.toNat (by omega)
  have hvg := vals m.given.toNat (by omega)
  obtain ⟨hvg0, hvg1⟩ := hvg
  have hse : signE m x = if m.closed = true ∨ (m.l.length : Int) ≠ m.given + 1 then 9 else if x > m.total ∨ x < - m.total ∨ m.l.getD m.given.toNat 0 - x < 0 ∨ m.total < m.l.getD m.given.toNat 0 - x then 14 else 0 := rfl
  obtain ⟨z, hz⟩ : ∃ z, z = m.l.getD m.given.toNat 0 := ⟨_, rfl⟩
  rw [← hz] at hrg hvg0 hvg1 hse
  have HZ := hidden hz
  clear hz
  have hpos : 0 < m.l.length := by omega
  have hgl := blk_lt h.blk
  have hrl : r < w.heap.size := World.block_lt_of_cell? w _ hrg
  have e1 : IntKind.i64.wrap (m.given + 1) = m.given + 1 := IntWalk.i64_in _ (by omega)
  obtain ⟨i0, hi0, hz0, hz1, hz2⟩ := info_parts Try.info2
  have H : Hid (MachAt 101 w g (.slice (some ⟨r, 0, none⟩) m.l.length c) m) := hidden h
  rw [hse] at hne
  have HNe := hidden hne
  clear hne
  have HS := hidden hse
  have HI := hidden inv
  have hlo := inv.lo
  have hhi := inv.hi
  clear h vals hr hse inv
  have hcl : (m.closed = true ∨ m.closed = false ∧ m.given + 1 < m.l.length) ∨ (m.closed = false ∧ (m.l.length : Int) = m.given + 1) := by
    cases m.closed
    · by_cases h : m.given + 1 < m.l.length
      · exact .inl (.inr ⟨rfl, h⟩)
      · exact .inr ⟨rfl, by omega⟩
    · exact .inl (.inl rfl)
  rcases hcl with hcl | ⟨hcl, hl⟩
  · rcases hk with rfl | rfl
    all_goals rcases hcl with hcl | ⟨hcl, hl⟩
    all_goals
      go_enter Try.func51, Try.ntmps51
      go_wp2_with fail
      ((refine wp_region_quiet_lit (by kernel_rfl) (by kernel_rfl) ?_); (repeat (any_goals (first | go_big_quiet_step (fail) | quiet_step (fail) | (refine wpQuiet_step (fun K hK => ?_); go_simp; split <;> (refine hK _ ?_; clear hK K))))); (all_goals (refine wpQuiet_nil ?_; intro _ hw'; obtain ⟨nq, hw''⟩ := hw'; subst hw'')))
      go_wp2_with fail
      ((refine wp_region_quiet_lit (by kernel_rfl) (by kernel_rfl) ?_); (repeat (any_goals (first | go_big_quiet_step (fail) | quiet_step (fail) | (refine wpQuiet_step (fun K hK => ?_); go_simp; split <;> (refine hK _ ?_; clear hK K))))); (all_goals (refine wpQuiet_nil ?_; intro _ hw'; obtain ⟨nq, hw''⟩ := hw'; subst hw'')))
      go_wp2_with fail
      go_ret
      go_light
      exact out_bad (by rw [HS.out]; grind) (by decide) (.still H.out (by repeat (first | exact Kept.refl _ _ | apply Kept.alloc | apply Kept.drewN | apply Kept.drew)))
  · have hle : ¬ (m.given + 1 < (m.l.length : Int)) := by omega
    have HL := hidden hl
    have hcase : (decide (m.total < x) = true ∧ m.total < x) ∨ (decide (m.total < x) = false ∧ decide (x < -m.total) = true ∧ x < - m.total) ∨
        (decide (m.total < x) = false ∧ decide (x < -m.total) = false ∧ x ≤ m.total ∧ -m.total ≤ x ∧ decide (z - x < 0) = true ∧ z - x < 0) ∨
        (decide (m.total < x) = false ∧ decide (x < -m.total) = false ∧ x ≤ m.total ∧ -m.total ≤ x ∧ decide (z - x < 0) = false ∧ 0 ≤ z - x ∧ decide (m.total < z - x) = true ∧ m.total < z - x) := by
      simp only [decide_eq_true_eq, decide_eq_false_iff_not]
      apply Classical.byContradiction
      intro hn
      apply HNe.out
      rw [if_neg (by rw [hcl]; simp; omega), if_neg (by omega)]
    clear hl
    rcases hk with rfl | rfl
    all_goals rcases hcase with ⟨c1, c2⟩ | ⟨c1, c2, c3⟩ | ⟨c1, c2, c3, c4, c5, c6⟩ | ⟨c1, c2, c3, c4, c5, c6, c7, c8⟩
    all_goals (try have e2 : IntKind.i64.wrap (z - x) = z - x := IntWalk.i64_in _ (by omega))
    all_goals
      go_enter Try.func51, Try.ntmps51
      go_wp2_with fail
      ((refine wp_region_quiet_lit (by kernel_rfl) (by kernel_rfl) ?_); (repeat (any_goals (first | go_big_quiet_step (fail) | quiet_step (fail) | (refine wpQuiet_step (fun K hK => ?_); go_simp; split <;> (refine hK _ ?_; clear hK K))))); (all_goals (refine wpQuiet_nil ?_; intro _ hw'; obtain ⟨nq, hw''⟩ := hw'; subst hw'')))
      go_wp2_with fail
      ((refine wp_region_quiet_lit (by kernel_rfl) (by kernel_rfl) ?_); (repeat (any_goals (first | go_big_quiet_step (fail) | quiet_step (fail) | (refine wpQuiet_step (fun K hK => ?_); go_simp; split <;> (refine hK _ ?_; clear hK K))))); (all_goals (refine wpQuiet_nil ?_; intro _ hw'; obtain ⟨nq, hw''⟩ := hw'; subst hw'')))
      go_wp2_with fail
      ((refine wp_region_quiet_lit (by kernel_rfl) (by kernel_rfl) ?_); (repeat (any_goals (first | go_big_quiet_step (fail) | quiet_step (fail) | (refine wpQuiet_step (fun K hK => ?_); go_simp; split <;> (refine hK _ ?_; clear hK K))))); (all_goals (refine wpQuiet_nil ?_; intro _ hw'; obtain ⟨nq, hw''⟩ := hw'; subst hw'')))
      go_wp2_with fail
      go_ret
      go_light
      exact out_bad (by rw [HS.out]; have := HL.out; grind) (by decide) (.still H.out (by repeat (first | exact Kept.refl _ _ | apply Kept.alloc | apply Kept.drewN | apply Kept.drew)))

end Go.Proofs.Ytfblececmkimiaa

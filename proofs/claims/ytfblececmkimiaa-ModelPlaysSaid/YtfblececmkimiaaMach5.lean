/- The other steps of the document's machine. -/
import Derived.Test.YtfblececmkimiaaMach2
namespace Go.Proofs.Ytfblececmkimiaa
open Go.RowKit

set_option maxRecDepth 100000 in
set_option maxHeartbeats 8000000 in
theorem stepRevoke_any (g : Nat) (v : Value) (m : Mach) (k x : Int) (i : Nat) (w : World) (h : MachAt 101 w g v m) (inv : m.Inv i) (hi : i ≤ 60) (hk : k = 2) :
    Calls Try.prog 51 #[.pointer (some ⟨g, 0, none⟩), .agg #[.int .i64 k, .int .i64 x]] w fun e w' => e = .returned (.int .i64 (revokeE m)) ∧ MachOut 101 w g v (revokeM m) w' := by
  have ok := inv.ok hi
  obtain ⟨r, c, rfl, hc, hf, hc1, hc2, hr⟩ := h.open_ (by have := ok.g0; have := ok.g1; omega)
  obtain ⟨t0, t1, g0, g1, len, p0, p1, s0, s1, vals⟩ := ok
  have hpos : 0 < m.l.length := by omega
  have hgl := blk_lt h.blk
  have H : Hid (MachAt 101 w g (.slice (some ⟨r, 0, none⟩) m.l.length c) m) := hidden h
  obtain ⟨_, _, _, lo, hi', _, pp0, pp1, pp2, _, ss1, _⟩ := inv
  have e1 : IntKind.i64.wrap (m.given + 1) = m.given + 1 := IntWalk.i64_in _ (by omega)
  clear h vals hr
  subst hk
  go_enter Try.func51, Try.ntmps51
  go_wp2_with fail
  ((refine wp_region_quiet_lit (by kernel_rfl) (by kernel_rfl) ?_); (repeat (any_goals (first | go_big_quiet_step (fail) | quiet_step (fail) | (refine wpQuiet_step (fun K hK => ?_); go_simp; split <;> (refine hK _ ?_; clear hK K))))); (all_goals (refine wpQuiet_nil ?_; intro _ hw'; obtain ⟨nq, hw''⟩ := hw'; subst hw'')))
  all_goals (try go_wp2_with fail)
  all_goals (try ((refine wp_region_quiet_lit (by kernel_rfl) (by kernel_rfl) ?_); (repeat (any_goals (first | go_big_quiet_step (fail) | quiet_step (fail) | (refine wpQuiet_step (fun K hK => ?_); go_simp; split <;> (refine hK _ ?_; clear hK K))))); (all_goals (refine wpQuiet_nil ?_; intro _ hw'; obtain ⟨nq, hw''⟩ := hw'; subst hw''))))
  all_goals (try go_wp2_with fail)
  all_goals (try ((refine wp_region_quiet_lit (by kernel_rfl) (by kernel_rfl) ?_); (repeat (any_goals (first | go_big_quiet_step (fail) | quiet_step (fail) | (refine wpQuiet_step (fun K hK => ?_); go_simp; split <;> (refine hK _ ?_; clear hK K))))); (all_goals (refine wpQuiet_nil ?_; intro _ hw'; obtain ⟨nq, hw''⟩ := hw'; subst hw''))))
  all_goals (try go_wp2_with fail)
  all_goals go_ret
  all_goals go_light
  all_goals first
    | exact out_bad (by unfold revokeE; grind) (by decide) (.still H.out (by repeat (first | exact Kept.refl _ _ | apply Kept.alloc | apply Kept.drewN | apply Kept.drew)))
    | exact out_good (by unfold revokeE; grind) (.pre (by repeat (first | exact Kept.refl _ _ | apply Kept.alloc | apply Kept.drewN | apply Kept.drew)) H.out (.put (by decide) (H.out.kept (by repeat (first | exact Kept.refl _ _ | apply Kept.alloc | apply Kept.drewN | apply Kept.drew)) (fun h => h) (fun _ _ h => h)) (Still.refl _) 2 (.int .i64 (m.peer + 1)) (by rfl) (by rfl)))

set_option maxRecDepth 100000 in
set_option maxHeartbeats 8000000 in
theorem stepWatch_any (g : Nat) (v : Value) (m : Mach) (k x : Int) (i : Nat) (w : World) (h : MachAt 101 w g v m) (inv : m.Inv i) (hi : i ≤ 60) (hk : k = 3) :
    Calls Try.prog 51 #[.pointer (some ⟨g, 0, none⟩), .agg #[.int .i64 k, .int .i64 x]] w fun e w' => e = .returned (.int .i64 (watchE m)) ∧ MachOut 101 w g v (watchM m) w' := by
  have ok := inv.ok hi
  obtain ⟨r, c, rfl, hc, hf, hc1, hc2, hr⟩ := h.open_ (by have := ok.g0; have := ok.g1; omega)
  obtain ⟨t0, t1, g0, g1, len, p0, p1, s0, s1, vals⟩ := ok
  have hpos : 0 < m.l.length := by omega
  have hgl := blk_lt h.blk
  have H : Hid (MachAt 101 w g (.slice (some ⟨r, 0, none⟩) m.l.length c) m) := hidden h
  obtain ⟨_, _, _, lo, hi', _, pp0, pp1, pp2, _, ss1, _⟩ := inv
  have e1 : IntKind.i64.wrap (m.given + 1) = m.given + 1 := IntWalk.i64_in _ (by omega)
  clear h vals hr
  subst hk
  go_enter Try.func51, Try.ntmps51
  go_wp2_with fail
  ((refine wp_region_quiet_lit (by kernel_rfl) (by kernel_rfl) ?_); (repeat (any_goals (first | go_big_quiet_step (fail) | quiet_step (fail) | (refine wpQuiet_step (fun K hK => ?_); go_simp; split <;> (refine hK _ ?_; clear hK K))))); (all_goals (refine wpQuiet_nil ?_; intro _ hw'; obtain ⟨nq, hw''⟩ := hw'; subst hw'')))
  all_goals (try go_wp2_with fail)
  all_goals (try ((refine wp_region_quiet_lit (by kernel_rfl) (by kernel_rfl) ?_); (repeat (any_goals (first | go_big_quiet_step (fail) | quiet_step (fail) | (refine wpQuiet_step (fun K hK => ?_); go_simp; split <;> (refine hK _ ?_; clear hK K))))); (all_goals (refine wpQuiet_nil ?_; intro _ hw'; obtain ⟨nq, hw''⟩ := hw'; subst hw''))))
  all_goals (try go_wp2_with fail)
  all_goals (try ((refine wp_region_quiet_lit (by kernel_rfl) (by kernel_rfl) ?_); (repeat (any_goals (first | go_big_quiet_step (fail) | quiet_step (fail) | (refine wpQuiet_step (fun K hK => ?_); go_simp; split <;> (refine hK _ ?_; clear hK K))))); (all_goals (refine wpQuiet_nil ?_; intro _ hw'; obtain ⟨nq, hw''⟩ := hw'; subst hw''))))
  all_goals (try go_wp2_with fail)
  all_goals go_ret
  all_goals go_light
  all_goals first
    | exact out_bad (by unfold watchE; grind) (by decide) (.still H.out (by repeat (first | exact Kept.refl _ _ | apply Kept.alloc | apply Kept.drewN | apply Kept.drew)))
    | exact out_good (by unfold watchE; grind) (.pre (by repeat (first | exact Kept.refl _ _ | apply Kept.alloc | apply Kept.drewN | apply Kept.drew)) H.out (.put (by decide) (H.out.kept (by repeat (first | exact Kept.refl _ _ | apply Kept.alloc | apply Kept.drewN | apply Kept.drew)) (fun h => h) (fun _ _ h => h)) (Still.refl _) 4 (.int .i64 (m.given + 1)) (by rfl) (by rfl)))

set_option maxRecDepth 100000 in
set_option maxHeartbeats 8000000 in
theorem stepGive_any (g : Nat) (v : Value) (m : Mach) (k x : Int) (i : Nat) (w : World) (h : MachAt 101 w g v m) (inv : m.Inv i) (hi : i ≤ 60) (hk : k = 4) :
    Calls Try.prog 51 #[.pointer (some ⟨g, 0, none⟩), .agg #[.int .i64 k, .int .i64 x]] w fun e w' => e = .returned (.int .i64 (giveE m)) ∧ MachOut 101 w g v (giveM m) w' := by
  have ok := inv.ok hi
  obtain ⟨r, c, rfl, hc, hf, hc1, hc2, hr⟩ := h.open_ (by have := ok.g0; have := ok.g1; omega)
  obtain ⟨t0, t1, g0, g1, len, p0, p1, s0, s1, vals⟩ := ok
  have hpos : 0 < m.l.length := by omega
  have hgl := blk_lt h.blk
  have H : Hid (MachAt 101 w g (.slice (some ⟨r, 0, none⟩) m.l.length c) m) := hidden h
  obtain ⟨_, _, _, lo, hi', _, pp0, pp1, pp2, _, ss1, _⟩ := inv
  have e1 : IntKind.i64.wrap (m.given + 1) = m.given + 1 := IntWalk.i64_in _ (by omega)
  clear h vals hr
  subst hk
  go_enter Try.func51, Try.ntmps51
  go_wp2_with fail
  ((refine wp_region_quiet_lit (by kernel_rfl) (by kernel_rfl) ?_); (repeat (any_goals (first | go_big_quiet_step (fail) | quiet_step (fail) | (refine wpQuiet_step (fun K hK => ?_); go_simp; split <;> (refine hK _ ?_; clear hK K))))); (all_goals (refine wpQuiet_nil ?_; intro _ hw'; obtain ⟨nq, hw''⟩ := hw'; subst hw'')))
  all_goals (try go_wp2_with fail)
  all_goals (try ((refine wp_region_quiet_lit (by kernel_rfl) (by kernel_rfl) ?_); (repeat (any_goals (first | go_big_quiet_step (fail) | quiet_step (fail) | (refine wpQuiet_step (fun K hK => ?_); go_simp; split <;> (refine hK _ ?_; clear hK K))))); (all_goals (refine wpQuiet_nil ?_; intro _ hw'; obtain ⟨nq, hw''⟩ := hw'; subst hw''))))
  all_goals (try go_wp2_with fail)
  all_goals (try ((refine wp_region_quiet_lit (by kernel_rfl) (by kernel_rfl) ?_); (repeat (any_goals (first | go_big_quiet_step (fail) | quiet_step (fail) | (refine wpQuiet_step (fun K hK => ?_); go_simp; split <;> (refine hK _ ?_; clear hK K))))); (all_goals (refine wpQuiet_nil ?_; intro _ hw'; obtain ⟨nq, hw''⟩ := hw'; subst hw''))))
  all_goals (try go_wp2_with fail)
  all_goals go_ret
  all_goals go_light
  all_goals first
    | exact out_bad (by unfold giveE; grind) (by decide) (.still H.out (by repeat (first | exact Kept.refl _ _ | apply Kept.alloc | apply Kept.drewN | apply Kept.drew)))
    | exact out_good (by unfold giveE; grind) (.pre (by repeat (first | exact Kept.refl _ _ | apply Kept.alloc | apply Kept.drewN | apply Kept.drew)) H.out (.put (by decide) (H.out.kept (by repeat (first | exact Kept.refl _ _ | apply Kept.alloc | apply Kept.drewN | apply Kept.drew)) (fun h => h) (fun _ _ h => h)) (Still.refl _) 3 (.int .i64 (m.given + 1)) (by rfl) (by rfl)))

set_option maxRecDepth 100000 in
set_option maxHeartbeats 8000000 in
theorem stepClose_any (g : Nat) (v : Value) (m : Mach) (k x : Int) (i : Nat) (w : World) (h : MachAt 101 w g v m) (inv : m.Inv i) (hi : i ≤ 60) (hk : k < 0 ∨ 4 < k) :
    Calls Try.prog 51 #[.pointer (some ⟨g, 0, none⟩), .agg #[.int .i64 k, .int .i64 x]] w fun e w' => e = .returned (.int .i64 (closeE m)) ∧ MachOut 101 w g v (closeM m) w' := by
  have ok := inv.ok hi
  obtain ⟨r, c, rfl, hc, hf, hc1, hc2, hr⟩ := h.open_ (by have := ok.g0; have := ok.g1; omega)
  obtain ⟨t0, t1, g0, g1, len, p0, p1, s0, s1, vals⟩ := ok
  have hpos : 0 < m.l.length := by omega
  have hgl := blk_lt h.blk
  have H : Hid (MachAt 101 w g (.slice (some ⟨r, 0, none⟩) m.l.length c) m) := hidden h
  obtain ⟨_, _, _, lo, hi', _, pp0, pp1, pp2, _, ss1, _⟩ := inv
  have e1 : IntKind.i64.wrap (m.given + 1) = m.given + 1 := IntWalk.i64_in _ (by omega)
  clear h vals hr
  rcases hk with hk | hk
  all_goals go_enter Try.func51, Try.ntmps51
  all_goals go_wp2_with fail
  all_goals ((refine wp_region_quiet_lit (by kernel_rfl) (by kernel_rfl) ?_); (repeat (any_goals (first | go_big_quiet_step (fail) | quiet_step (fail) | (refine wpQuiet_step (fun K hK => ?_); go_simp; split <;> (refine hK _ ?_; clear hK K))))); (all_goals (refine wpQuiet_nil ?_; intro _ hw'; obtain ⟨nq, hw''⟩ := hw'; subst hw'')))
  all_goals (try go_wp2_with fail)
  all_goals (try ((refine wp_region_quiet_lit (by kernel_rfl) (by kernel_rfl) ?_); (repeat (any_goals (first | go_big_quiet_step (fail) | quiet_step (fail) | (refine wpQuiet_step (fun K hK => ?_); go_simp; split <;> (refine hK _ ?_; clear hK K))))); (all_goals (refine wpQuiet_nil ?_; intro _ hw'; obtain ⟨nq, hw''⟩ := hw'; subst hw''))))
  all_goals (try go_wp2_with fail)
  all_goals (try ((refine wp_region_quiet_lit (by kernel_rfl) (by kernel_rfl) ?_); (repeat (any_goals (first | go_big_quiet_step (fail) | quiet_step (fail) | (refine wpQuiet_step (fun K hK => ?_); go_simp; split <;> (refine hK _ ?_; clear hK K))))); (all_goals (refine wpQuiet_nil ?_; intro _ hw'; obtain ⟨nq, hw''⟩ := hw'; subst hw''))))
  all_goals (try go_wp2_with fail)
  all_goals go_ret
  all_goals go_light
  all_goals first
    | exact out_bad (by unfold closeE; grind) (by decide) (.still H.out (by repeat (first | exact Kept.refl _ _ | apply Kept.alloc | apply Kept.drewN | apply Kept.drew)))
    | exact out_good (by unfold closeE; grind) (.pre (by repeat (first | exact Kept.refl _ _ | apply Kept.alloc | apply Kept.drewN | apply Kept.drew)) H.out (.put (by decide) (H.out.kept (by repeat (first | exact Kept.refl _ _ | apply Kept.alloc | apply Kept.drewN | apply Kept.drew)) (fun h => h) (fun _ _ h => h)) (Still.refl _) 5 (.bool true) (by rfl) (by rfl)))
end Go.Proofs.Ytfblececmkimiaa

/- Ways and outs that may be (layer 7): the law's words. -/
import Derived.Test.YtcghjnegaiiieaaLock2
namespace Go.Proofs.Ytcghjnegaiiieaa
open Go.RowKit

set_option maxRecDepth 100000 in
set_option maxHeartbeats 8000000 in
theorem lawright_any (x : Way) (cs : List Value) (F : Nat → Prop) (w : World) (h : RWay w F cs x) :
    Calls Try.prog 16 #[.agg cs.toArray] w fun e w' => e = .returned (.bool (wayB x)) ∧ Kept Nob w w' := by
  obtain ⟨B, d, hcs, hi, hok⟩ := h.open_
  have g0 : cs.toArray[0]? = some (.slice B x.keys.length d) := by rw [hcs]; rfl
  have g33 : cs.toArray[33]? = some (.int .i64 x.after) := by rw [hcs]; simpa using way33 hok
  have g34 : cs.toArray[34]? = some (.int .i64 x.wait) := by rw [hcs]; simpa using way34 hok
  have hle := hi.le
  have hmax := hi.max
  unfold maxLen at hmax
  have HI := hidden (hi.keep (Kept.alloc (Kept.refl Nob w) (.cells cs.toArray 26)) (fun _ _ h => h))
  clear h hcs hi hok
  generalize cs.toArray = CS at g0 g33 g34 HI
  by_cases hh : headB x = true
  · have hb : wayB x = keysUpto x.keys x.keys.length := by unfold wayB; rw [hh]; rfl
    have HB := hidden hb
    simp only [headB, Bool.and_eq_true, decide_eq_true_eq] at hh
    obtain ⟨⟨⟨⟨h1, h2⟩, h3⟩, h4⟩, h5⟩ := hh
    have x1 : ¬ (16 < (x.keys.length : Int)) := by omega
    clear hb
    go_enter Try.func16, Try.ntmps16
    go_wp2
    go_loopw [3] (fun i wr => ∃ k : Nat, k ≤ x.keys.length ∧ i = .int .i64 k ∧ keysUpto x.keys k = true ∧ Still (w.alloc (.cells CS 26)) wr) (fun i _ => x.keys.length - (intOf i).toNat)
    case atStart => exact ⟨0, Nat.zero_le _, rfl, rfl, Still.refl _⟩
    case round =>
      obtain ⟨k, hk, rfl, hall, hst⟩ := hrel
      have HALL := hidden hall
      have HST := hidden hst
      have b0 := (hst.cell ⟨w.heap.size, 0, none⟩).trans ((blk_cell (heap_alloc_new w _) 0).trans g0)
      clear hall hst
      by_cases hlt : k < x.keys.length
      · obtain ⟨bd, rfl, hc0⟩ := HI.out.rd k hlt
        have hc := (HST.out.cell _).trans hc0
        have HSN := hidden (keysUpto_succ x.keys k)
        have HNO := hidden (keysUpto_no x.keys x.keys.length k hlt)
        have hkb : keyB x.keys k = (decide (0 ≤ x.keys.getD k 0) && decide (x.keys.getD k 0 ≤ 255) && (decide (k = 0) || decide (x.keys.getD (k - 1) 0 < x.keys.getD k 0))) := rfl
        have hprev : ∀ j, k = j + 1 → wr.cell? (bd.add j) = some (.int .i64 (x.keys.getD j 0)) := fun j hj => by
          obtain ⟨ad', e, hc'⟩ := HI.out.rd j (by omega)
          injection e with e
          subst e
          exact (HST.out.cell _).trans hc'
        have HP := hidden hprev
        have HKB := hidden hkb
        clear hkb hprev hc0
        generalize x.keys.getD k 0 = z at hc HKB
        by_cases c1 : z < 0
        · have hf : keyB x.keys k = false := by rw [HKB.out]; simp; omega
          have HF := hidden (HNO.out hf)
          have y1 : decide (z < 0) = true := by simpa using c1
          clear hf
          go_wp2
          ((refine wp_region_quiet_lit (by kernel_rfl) (by kernel_rfl) ?_); (repeat (any_goals (first | go_big_quiet_step (fail) | quiet_step (fail) | (refine wpQuiet_step (fun K hK => ?_); go_simp; split <;> (refine hK _ ?_; clear hK K))))); (all_goals (refine wpQuiet_nil ?_; intro _ hw'; obtain ⟨nq, hw''⟩ := hw'; subst hw'')))
          go_wp2
          go_ret
          exact ⟨ret_bool (by rw [HB.out, HF.out]), (Kept.still HST.out).drewN _ |> Kept.trans (Kept.alloc (Kept.refl _ _) _)⟩
        · by_cases c2 : 255 < z
          · have hf : keyB x.keys k = false := by rw [HKB.out]; simp; omega
            have HF := hidden (HNO.out hf)
            have y0 : decide (z < 0) = false := by simpa using c1
            have y1 : decide (255 < z) = true := by simpa using c2
            clear hf
            go_wp2
            ((refine wp_region_quiet_lit (by kernel_rfl) (by kernel_rfl) ?_); (repeat (any_goals (first | go_big_quiet_step (fail) | quiet_step (fail) | (refine wpQuiet_step (fun K hK => ?_); go_simp; split <;> (refine hK _ ?_; clear hK K))))); (all_goals (refine wpQuiet_nil ?_; intro _ hw'; obtain ⟨nq, hw''⟩ := hw'; subst hw'')))
            go_wp2
            go_ret
            exact ⟨ret_bool (by rw [HB.out, HF.out]), (Kept.still HST.out).drewN _ |> Kept.trans (Kept.alloc (Kept.refl _ _) _)⟩
          · have y0 : decide (z < 0) = false := by simpa using c1
            have y9 : decide (255 < z) = false := by simpa using c2
            by_cases hk0 : k = 0
            · have y1 : decide (0 < k) = false := by simpa using hk0
              have y2 : ¬ (0 < k) := by omega
              have hf : keyB x.keys k = true := by rw [HKB.out, hk0]; simp; omega
              have HF := hidden hf
              clear hf hk0
              go_wp2
              ((refine wp_region_quiet_lit (by kernel_rfl) (by kernel_rfl) ?_); (repeat (any_goals (first | go_big_quiet_step (fail) | quiet_step (fail) | (refine wpQuiet_step (fun K hK => ?_); go_simp; split <;> (refine hK _ ?_; clear hK K))))); (all_goals (refine wpQuiet_nil ?_; intro _ hw'; obtain ⟨nq, hw''⟩ := hw'; subst hw'')))
              go_wp2
              go_roundw
              case rel => exact ⟨k + 1, by omega, by go_num, by rw [HSN.out, HALL.out, HF.out]; rfl, HST.out.drewN _⟩
              case measure => simp [intOf]; omega
            · obtain ⟨m, hm⟩ : ∃ m, k = m + 1 := ⟨k - 1, by omega⟩
              have hc2 := HP.out m hm
              have hkm : k - 1 = m := by omega
              rw [hkm] at HKB
              have y1 : decide (0 < k) = true := by simp; omega
              have y2 : 0 < k := by omega
              have y3 : m < x.keys.length := by omega
              have e1 : IntKind.i64.wrap ((k : Int) - 1) = (m : Int) := by rw [IntWalk.i64_in _ (by omega)]; omega
              have HK0 := hidden hk0
              clear hm hkm hk0
              generalize x.keys.getD m 0 = y at hc2 HKB
              by_cases c3 : z ≤ y
              · have hf : keyB x.keys k = false := by rw [HKB.out]; simp; exact fun _ _ => ⟨HK0.out, by omega⟩
                have HF := hidden (HNO.out hf)
                have y4 : decide (z ≤ y) = true := by simpa using c3
                clear hf
                go_wp2
                ((refine wp_region_quiet_lit (by kernel_rfl) (by kernel_rfl) ?_); (repeat (any_goals (first | go_big_quiet_step (fail) | quiet_step (fail) | (refine wpQuiet_step (fun K hK => ?_); go_simp; split <;> (refine hK _ ?_; clear hK K))))); (all_goals (refine wpQuiet_nil ?_; intro _ hw'; obtain ⟨nq, hw''⟩ := hw'; subst hw'')))
                go_wp2
                go_ret
                exact ⟨ret_bool (by rw [HB.out, HF.out]), (Kept.still HST.out).drewN _ |> Kept.trans (Kept.alloc (Kept.refl _ _) _)⟩
              · have hf : keyB x.keys k = true := by rw [HKB.out]; simp; omega
                have HF := hidden hf
                have y4 : decide (z ≤ y) = false := by simpa using c3
                clear hf
                go_wp2
                ((refine wp_region_quiet_lit (by kernel_rfl) (by kernel_rfl) ?_); (repeat (any_goals (first | go_big_quiet_step (fail) | quiet_step (fail) | (refine wpQuiet_step (fun K hK => ?_); go_simp; split <;> (refine hK _ ?_; clear hK K))))); (all_goals (refine wpQuiet_nil ?_; intro _ hw'; obtain ⟨nq, hw''⟩ := hw'; subst hw'')))
                go_wp2
                go_roundw
                case rel => exact ⟨k + 1, by omega, by go_num, by rw [HSN.out, HALL.out, HF.out]; rfl, HST.out.drewN _⟩
                case measure => simp [intOf]; omega
      · obtain rfl : k = x.keys.length := by omega
        go_wp2
        go_ret
        exact ⟨ret_bool (by rw [HB.out, HALL.out]), Kept.trans (Kept.alloc (Kept.refl _ _) _) (Kept.still HST.out)⟩
  · have hb : wayB x = false := by unfold wayB; simp [hh]
    rw [hb]
    have hcase : 16 < x.keys.length ∨ (x.keys.length ≤ 16 ∧ x.after < 0) ∨ (x.keys.length ≤ 16 ∧ 0 ≤ x.after ∧ 1073741824 < x.after) ∨ (x.keys.length ≤ 16 ∧ 0 ≤ x.after ∧ x.after ≤ 1073741824 ∧ x.wait < 0) ∨ (x.keys.length ≤ 16 ∧ 0 ≤ x.after ∧ x.after ≤ 1073741824 ∧ 0 ≤ x.wait ∧ 1073741824 < x.wait) := by
      simp only [headB, Bool.and_eq_true, decide_eq_true_eq] at hh
      omega
    clear hh hb
    rcases hcase with h1 | ⟨h1, h2⟩ | ⟨h1, h2, h3⟩ | ⟨h1, h2, h3, h4⟩ | ⟨h1, h2, h3, h4, h5⟩
    all_goals
      first | (have x1 : 16 < (x.keys.length : Int) := by omega) | (have x1 : ¬ (16 < (x.keys.length : Int)) := by omega)
      go_enter Try.func16, Try.ntmps16
      go_wp2
      go_ret
      exact ⟨rfl, Kept.alloc (Kept.refl _ _) _⟩

/-- Each way may be. -/
def waysB (xs : List Way) : Bool := xs.all wayB
def outHeadB (o : Out) : Bool := decide (0 ≤ o.amount) && decide (o.amount ≤ 1125899906842624) && decide (1 ≤ o.ways.length) && decide (o.ways.length ≤ 16)
def outB (o : Out) : Bool := outHeadB o && waysB o.ways
theorem clo_right (x : Way) (cs : List Value) (F : Nat → Prop) (w : World) (h : RWay w F cs x) :
    Calls Try.prog 86 #[.agg cs.toArray] w fun e w' => e = .returned (.bool (!wayB x)) ∧ Kept Nob w w' := by
  have HR := hidden (lockright_any x cs F (w.alloc (.cells cs.toArray 26)) (RWay.good.keep h (Kept.alloc (Kept.refl Nob w) _) (fun _ _ h => h)))
  have HL := hidden (RWay.good.len h)
  have HB := hidden (box_cells w cs 26)
  clear h
  generalize wayB x = b at HR ⊢
  go_enter Try.func86, Try.ntmps86
  go_wp2_with (first
    | (refine load_at aggWay (.tmp 1) rfl rfl _ rfl cs HL.out HB.out ?_)
    | (go_at_call 15; refine HR.out.mono ?_; rintro e w1 ⟨rfl, hk⟩; have HK := hidden hk; clear hk))
  go_ret
  exact ⟨rfl, Kept.trans (Kept.alloc (Kept.refl _ _) _) HK.out⟩
end Go.Proofs.Ytcghjnegaiiieaa

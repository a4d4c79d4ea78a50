/- Outs that may be (layer 7). -/
import Derived.Test.YtcghjnegaiiieaaLock3
namespace Go.Proofs.Ytcghjnegaiiieaa
open Go.RowKit

theorem Ways.cells {w : World} {F : Nat → Prop} {A : Option Addr} {c : Nat} {xs : List Way} (h : Ways w F A c xs) (i : Nat) (hi : i < xs.length) :
    ∃ ad es, A = some ad ∧ es.length = 35 ∧ (∀ j u, es[j]? = some u → w.cell? ((ad.add (i * 35)).add j) = some u) ∧ RWay w F es xs[i] := by
  obtain ⟨ad, e, _, es, h1, h2, h3⟩ := h.el i hi
  exact ⟨ad, es, e, h1, h2, h3⟩
theorem waysB_no {xs : List Way} {i : Nat} (hi : i < xs.length) (h : wayB xs[i] = false) : waysB xs = false := by
  unfold waysB
  rw [List.all_eq_false]
  exact ⟨xs[i], List.getElem_mem hi, by rw [h]; simp⟩
theorem waysB_succ (xs : List Way) (i : Nat) (hi : i < xs.length) : waysB (xs.take (i + 1)) = (waysB (xs.take i) && wayB xs[i]) := by
  unfold waysB
  rw [List.take_succ_eq_append_getElem hi, List.all_append]
  simp
/-- Whether there is one, and where. -/
def IxPost (b : Bool) (w : World) (e : Ending) (w' : World) : Prop := ∃ r : Int, e = .returned (.int .i64 r) ∧ decide (0 ≤ r) = b ∧ Kept Nob w w'

set_option maxRecDepth 100000 in
set_option maxHeartbeats 8000000 in
theorem index_ways (A : Option Addr) (c : Nat) (xs : List Way) (F : Nat → Prop) (w : World) (h : Ways w F A c xs) :
    Calls Try.prog 127 #[.slice A xs.length c, .func (.func 86) #[] #[]] w (IxPost (!waysB xs) w) := by
  have H := hidden h
  have hmax := h.max
  have hle := h.le
  unfold maxLen at hmax
  clear h
  go_enter Try.func127, Try.ntmps127
  go_wp2
  go_loopw [8] (fun i wr => ∃ k : Nat, k ≤ xs.length ∧ i = .int .i64 k ∧ waysB (xs.take k) = true ∧ Kept Nob w wr) (fun i _ => xs.length - (intOf i).toNat)
  case atStart => exact ⟨0, Nat.zero_le _, rfl, rfl, Kept.refl _ _⟩
  case round =>
    obtain ⟨k, hk, rfl, hall, hkp⟩ := hrel
    have HALL := hidden hall
    have HKP := hidden hkp
    clear hall hkp
    by_cases hlt : k < xs.length
    · obtain ⟨ad, es, rfl, hl, hc, hr⟩ := (H.out.keep HKP.out (fun _ _ h => h)).cells k hlt
      have HL := hidden hl
      have HC := hidden hc
      have HR := hidden (clo_right xs[k] es F wr hr)
      have HNO := hidden (waysB_no hlt)
      have HSN := hidden (waysB_succ xs k hlt)
      clear hl hc hr
      generalize wayB xs[k] = b at HR HNO HSN
      cases b with
      | true =>
        go_wp2_with (first
          | (refine load_at aggWay (.tmp 14) rfl rfl _ rfl es HL.out HC.out ?_)
          | (go_at_call 86; refine HR.out.mono ?_; rintro e w1 ⟨rfl, hk1⟩; have HK1 := hidden hk1; clear hk1))
        go_roundw
        case rel => exact ⟨k + 1, by omega, by go_num, by rw [HSN.out, HALL.out]; rfl, HKP.out.trans HK1.out⟩
        case measure => simp [intOf]; omega
      | false =>
        go_wp2_with (first
          | (refine load_at aggWay (.tmp 14) rfl rfl _ rfl es HL.out HC.out ?_)
          | (go_at_call 86; refine HR.out.mono ?_; rintro e w1 ⟨rfl, hk1⟩; have HK1 := hidden hk1; clear hk1))
        go_ret
        exact ⟨k, rfl, by rw [HNO.out (by simp)]; simp, HKP.out.trans HK1.out⟩
    · obtain rfl : k = xs.length := by omega
      go_wp2
      go_ret
      refine ⟨-1, rfl, ?_, HKP.out⟩
      have := HALL.out
      rw [List.take_length] at this
      rw [this]
      rfl
theorem contains_ways (A : Option Addr) (c : Nat) (xs : List Way) (F : Nat → Prop) (w : World) (h : Ways w F A c xs) :
    Calls Try.prog 85 #[.slice A xs.length c, .func (.func 86) #[] #[]] w fun e w' => e = .returned (.bool (!waysB xs)) ∧ Kept Nob w w' := by
  have HI := hidden (index_ways A c xs F w h)
  clear h
  generalize (!waysB xs) = b at HI ⊢
  go_enter Try.func85, Try.ntmps85
  go_wp2_with (go_at_call 127; refine HI.out.mono ?_; rintro e w1 ⟨r, rfl, hr, hk1⟩; have HK1 := hidden hk1; have HRR := hidden hr; clear hk1 hr)
  go_ret
  exact ⟨ret_bool (by rw [← HRR.out]), HK1.out⟩

set_option maxRecDepth 100000 in
set_option maxHeartbeats 8000000 in
theorem rightOut_any (o : Out) (A : Option Addr) (c : Nat) (F : Nat → Prop) (w : World) (h : Ways w F A c o.ways) :
    Calls Try.prog 32 #[.agg #[.int .i64 o.amount, .slice A o.ways.length c]] w fun e w' => e = .returned (.bool (outB o)) ∧ Kept Nob w w' := by
  have HC := hidden (contains_ways A c o.ways F _ (h.keep (Kept.alloc (Kept.refl Nob w) (.cells #[.int .i64 o.amount, .slice A o.ways.length c] 38)) (fun _ _ h => h)))
  have hb : outB o = (outHeadB o && waysB o.ways) := rfl
  have hh : outHeadB o = (decide (0 ≤ o.amount) && decide (o.amount ≤ 1125899906842624) && decide (1 ≤ o.ways.length) && decide (o.ways.length ≤ 16)) := rfl
  have hmax := h.max
  have hle := h.le
  unfold maxLen at hmax
  clear h
  rw [hb]
  generalize waysB o.ways = b at HC ⊢
  generalize outHeadB o = q at hh ⊢
  generalize o.amount = a at *
  generalize o.ways.length = n at *
  have HH := hidden hh
  have hcase : (0 ≤ a ∧ a ≤ 1125899906842624 ∧ 1 ≤ n ∧ n ≤ 16 ∧ q = true) ∨ (a < 0 ∧ q = false) ∨ (0 ≤ a ∧ 1125899906842624 < a ∧ q = false) ∨ (0 ≤ a ∧ a ≤ 1125899906842624 ∧ n < 1 ∧ q = false) ∨ (0 ≤ a ∧ a ≤ 1125899906842624 ∧ 1 ≤ n ∧ 16 < n ∧ q = false) := by
    rw [hh]; simp; omega
  clear hh hb
  rcases hcase with ⟨h1, h2, h3, h4, rfl⟩ | ⟨h1, rfl⟩ | ⟨h1, h2, rfl⟩ | ⟨h1, h2, h3, rfl⟩ | ⟨h1, h2, h3, h4, rfl⟩
  all_goals
    try first | (have x1 : ¬ ((n : Int) < 1) := by omega) | (have x1 : (n : Int) < 1 := by omega)
    try first | (have x2 : ¬ (16 < (n : Int)) := by omega) | (have x2 : 16 < (n : Int) := by omega)
    go_enter Try.func32, Try.ntmps32
    go_wp2_with (go_at_call 85; refine HC.out.mono ?_; rintro e w1 ⟨rfl, hk1⟩; have HK1 := hidden hk1; clear hk1)
    go_ret
    first | exact ⟨ret_bool (by simp), Kept.trans (Kept.alloc (Kept.refl _ _) _) HK1.out⟩ | exact ⟨ret_bool (by simp), Kept.alloc (Kept.refl _ _) _⟩
end Go.Proofs.Ytcghjnegaiiieaa

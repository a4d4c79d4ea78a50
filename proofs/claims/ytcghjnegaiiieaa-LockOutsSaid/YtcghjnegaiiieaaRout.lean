/- Outs that may be (layer 7): the law's word. -/
import Derived.Test.YtcghjnegaiiieaaLock4
namespace Go.Proofs.Ytcghjnegaiiieaa
open Go.RowKit
theorem waysB_tk (l : List Way) (k : Nat) (hk : k < l.length) : waysB (l.take (k + 1)) = (waysB (l.take k) && wayB l[k]) := by
  unfold waysB
  rw [List.take_succ_eq_append_getElem hk, List.all_append]; simp
theorem waysB_none (l : List Way) (k : Nat) (hk : k < l.length) (h : wayB l[k] = false) : waysB l = false := by
  unfold waysB
  rw [List.all_eq_false]
  exact ⟨l[k], List.getElem_mem hk, by simp [h]⟩
set_option maxRecDepth 100000 in
set_option maxHeartbeats 8000000 in
theorem lawrightOut_any (o : Out) (A : Option Addr) (c : Nat) (F : Nat → Prop) (w : World) (h : Ways w F A c o.ways) :
    Calls Try.prog 31 #[.agg #[.int .i64 o.amount, .slice A o.ways.length c]] w fun e w' => e = .returned (.bool (outB o)) ∧ Kept Nob w w' := by
  have hle := h.le
  have hmx := h.max
  unfold maxLen at hmx
  have hK : Kept Nob w (w.alloc (.cells #[.int .i64 o.amount, .slice A o.ways.length c] 38)) := Kept.alloc (Kept.refl _ _) _
  have HK := hidden hK
  have HB : Hid ((w.alloc (.cells #[.int .i64 o.amount, .slice A o.ways.length c] 38)).heap[w.heap.size]? = some (.cells #[.int .i64 o.amount, .slice A o.ways.length c] 38 (0, 0))) := hidden (heap_alloc_new _ _)
  have H := hidden (h.keep hK (fun _ _ h => h))
  have HOB : Hid (outB o = ((decide (0 ≤ o.amount) && decide (o.amount ≤ 1125899906842624) && decide (1 ≤ o.ways.length) && decide (o.ways.length ≤ 16)) && waysB o.ways)) := hidden rfl
  generalize o.amount = am at *
  generalize o.ways = l at *
  clear h hK
  go_enter Try.func31, Try.ntmps31
  go_wp2
  all_goals first
    | (go_ret; refine ⟨ret_bool ?_, HK.out⟩; rw [HOB.out]; symm; rw [Bool.and_eq_false_iff]; left; simp; omega)
    | skip
  go_loopw [3] (fun t3 wr => ∃ k : Nat, k ≤ l.length ∧ t3 = .int .i64 k ∧ waysB (l.take k) = true ∧ Kept Nob (w.alloc (.cells #[.int .i64 am, .slice A l.length c] 38)) wr) (fun t3 _ => l.length - (intOf t3).toNat)
  case atStart => exact ⟨0, by omega, rfl, rfl, Kept.refl _ _⟩
  case round =>
    obtain ⟨k, hk, rfl, hw, hkp⟩ := hrel
    have HW := hidden hw
    have HKP := hidden hkp
    have q1 : wr.cell? ⟨w.heap.size, 1, none⟩ = some (.slice A l.length c) := (blk_cell (hkp.blk HB.out (fun h => h)) 1).trans rfl
    clear hw hkp
    by_cases hlt : k < l.length
    · obtain ⟨ad, e, hb, es, _, hc, hr⟩ := (H.out.keep HKP.out (fun _ _ h => h)).el k hlt
      subst e
      have HC := hidden hc
      have HLN := hidden (RWay.good.len hr)
      have HRI := hidden (lawright_any l[k] es F wr hr)
      have HT := hidden (waysB_tk l k hlt)
      have HNO := hidden (waysB_none l k hlt)
      generalize wayB l[k] = b at HRI HT HNO
      clear hc hr
      cases b with
      | true =>
        go_wp2_with (first
          | ((with_reducible refine load_lit aggWay (.tmp 34) (ad.add (k * 35)) es ?_ ?_ ?_ ?_ ?_); rfl; rfl; exact HLN.out; exact HC.out)
          | (go_at_call 16; (with_reducible refine HRI.out.mono ?_); rintro e w2 ⟨rfl, hk2⟩; have HK2 := hidden hk2; clear hk2; dsimp only))
        go_roundw
        case rel => exact ⟨k + 1, by omega, by go_num, by rw [HT.out, HW.out]; rfl, HKP.out.trans HK2.out⟩
        case measure => simp [intOf]; omega
      | false =>
        go_wp2_with (first
          | ((with_reducible refine load_lit aggWay (.tmp 34) (ad.add (k * 35)) es ?_ ?_ ?_ ?_ ?_); rfl; rfl; exact HLN.out; exact HC.out)
          | (go_at_call 16; (with_reducible refine HRI.out.mono ?_); rintro e w2 ⟨rfl, hk2⟩; have HK2 := hidden hk2; clear hk2; dsimp only))
        go_ret
        exact ⟨ret_bool (by rw [HOB.out, HNO.out (by simp)]; simp), HK.out.trans (HKP.out.trans HK2.out)⟩
    · obtain rfl : k = l.length := by omega
      go_wp2
      go_ret
      refine ⟨ret_bool ?_, HK.out.trans HKP.out⟩
      have h1 := HW.out
      rw [List.take_length] at h1
      rw [HOB.out, h1]
      symm
      simp
      omega
end Go.Proofs.Ytcghjnegaiiieaa

/- SHA-256 as the program has it: the sum of bytes, walked. -/
import Derived.Test.YtcghjnegaiiieaaSha5
namespace Go.Proofs.Ytcghjnegaiiieaa
open Go.RowKit
theorem run_index_nums {P : Program} (w : World) (t e : TypeId) (n : Nat) (k : IntKind) (ht : P.underlying t = some (.array n e)) (he : P.underlying e = some (.int k)) (hsz : ∀ w, (sizeOf e).run P w = .ok 1 w)
    (xs : List Int) (hx : xs.length = n) (i : Nat) (hi : i < n) : (Instr.index t (.agg (nums k xs).toArray) (.int .i64 i)).run P w = .ok (.int k (xs.getD i 0)) w := by
  have hp : (part e (nums k xs).toArray (i * 1)).run P w = .ok (.int k (xs.getD i 0)) w := by
    simp [part, isAgg, run_underlying he, List.getD, nums, List.getElem?_eq_getElem (show i < xs.length by omega)]
  unfold Instr.index
  simp only [asIntOf, Sem.run_bind, Sem.run_pure, Result.andThen_ok, run_underlying ht]
  rw [if_pos ⟨by omega, by omega⟩]
  simp only [Sem.run_bind, hsz, Result.andThen_ok, Int.toNat_natCast, hp]
theorem store_litT {P : Program} {w : World} {ops : Array Oper} {rest : List Oper} {dst : Option Tmp} {tyy : TypeId} {pos : String} {aft : Array Edge} {gd : Option (Nat × Bool)} {a : Act} {Q : Exit → Act → World → Prop} {n : Nat} {ty : TypeId} (hT : AggT P ty n) (x y : Operand)
    (g : Nat) (es : List Value) (t : TypeId) (hgd : Region.wanted ⟨dst, .store ty x y, tyy, pos, aft, gd⟩ (yielded ops a.tmps) = true) (hx : a.eval x = .pointer (some ⟨g, 0, none⟩)) (hy : a.eval y = .agg es.toArray) (hn : es.length = n) (h1 : ∀ u ∈ es, u.oneCell' = true)
    (hg : ∃ cs, w.heap[g]? = some (.cells cs t (0, 0)) ∧ cs.size = n)
    (h : ∀ w', w'.heap[g]? = some (.cells es.toArray t (0, 0)) → Kept (fun b => b = g) w w' → wpList P ops Q rest (a.put dst undef) w') : wpList P ops Q (⟨dst, .store ty x y, tyy, pos, aft, gd⟩ :: rest) a w := by
  obtain ⟨cs, hg, hc⟩ := hg
  exact store_row hT x y rfl hgd g hx es.toArray hy (by simpa using hn) (by simpa using h1) cs t hg hc h
set_option maxRecDepth 100000 in
set_option maxHeartbeats 8000000 in
theorem of_any (A : Option Addr) (c : Nat) (xs : List Int) (w : World) (h : RdInts w .u8 A xs) (h0 : A = none → xs = []) (hw : ∀ x ∈ xs, (Lit.int .u8 x).wf = true) (hn : xs.length ≤ 100000000) :
    Calls Try.prog 80 #[.slice A xs.length c] w fun e w' => e = .returned (.agg (nums .u8 (ofF xs)).toArray) ∧ Kept Nob w w' := by
  have HP : Hid (∀ W, Kept Nob w W → Calls Try.prog 122 #[.slice A xs.length c] W fun e w' => (∃ v, e = .returned v ∧ OwnB w' W.heap.size v (padF xs)) ∧ Kept Nob W w') := hidden (fun W hW => padded_any A c xs W (h.kept hW (fun _ _ h => h)) h0 hn)
  have HPW := hidden (padF_wf xs hw)
  have hof := ofF_eq xs
  obtain ⟨N, hN⟩ := padF_len xs
  generalize padF xs = ps at HP HPW hof hN
  have HN := hidden hN
  rw [show ps.length / 64 = N from by omega] at hof
  have HOF := hidden hof
  clear h h0 hw hof hN
  generalize xs.length = n at hn HP
  go_enter Try.func80, Try.ntmps80
  go_wp2_with (first
    | (go_at_call 120; refine (first_any _).mono ?_; rintro e w1 ⟨rfl, hk1⟩; have HK1 := hidden hk1; clear hk1; dsimp only)
    | (go_at_call 121; refine (rounds_any _).mono ?_; rintro e w2 ⟨rfl, hk2⟩; have HK2 := hidden hk2; clear hk2; dsimp only)
    | ((with_reducible refine store_litT agg8 (.tmp 3) (.tmp 9) w2.heap.size (nums .u32 firstL) 183 ?_ ?_ ?_ ?_ ?_ ?_ ?_); rfl; rfl; rfl; rfl; exact nums_oneC _ _; exact ⟨_, blk_alloc (heap_alloc_new _ _) _, rfl⟩; intro w3 hb3 hk3; have HB3 := hidden hb3; have HK3 := hidden hk3; clear hb3 hk3)
    | ((with_reducible refine store_litT agg64 (.tmp 4) (.tmp 10) (w2.heap.size + 1) (nums .u32 roundsL) 185 ?_ ?_ ?_ ?_ ?_ ?_ ?_); rfl; rfl; rfl; rfl; exact nums_oneC _ _; exact ⟨_, HK3.out.blk (blk_new_at (by simp)) (by omega), rfl⟩; intro w4 hb4 hk4; have HB4 := hidden hb4; have HK4 := hidden hk4; clear hb4 hk4; have HK0 : Hid (Kept Nob w w4) := hidden (Kept.then (Kept.then (Kept.alloc (Kept.alloc ((Kept.alloc (Kept.refl Nob w) _).trans (HK1.out.trans HK2.out)) _) _) HK3.out (fun b hb h => by have := HK1.out.size; have := HK2.out.size; simp at *; omega)) HK4.out (fun b hb h => by have := HK1.out.size; have := HK2.out.size; simp at *; omega)))
    | (go_at_call 122; refine (HP.out _ HK0.out).mono ?_; rintro e w5 ⟨⟨v5, rfl, ho5⟩, hk5⟩; have HO5 := hidden ho5; have HK5 := hidden hk5; clear ho5 hk5; dsimp only))
  have HS2 : Hid (w.heap.size < w2.heap.size) := hidden (by have h1 := HK1.out.size; have h2 := HK2.out.size; simp at h1; omega)
  have HS4 : Hid (w2.heap.size + 1 < w4.heap.size) := hidden (blk_lt HB4.out)
  have HR5 : Hid (∃ cs, w5.heap[w.heap.size]? = some (.cells cs 24 (0, 0)) ∧ cs.size = 32) := hidden ⟨_, HK5.out.blk (HK4.out.blk (HK3.out.blk (blk_alloc (blk_alloc (HK2.out.blk (HK1.out.blk (heap_alloc_new w _) (fun h => h)) (fun h => h)) _) _) (fun h => by have := HS2.out; omega)) (fun h => by have := HS2.out; omega)) (fun h => h), rfl⟩
  have HH5 : Hid (w5.heap[w2.heap.size]? = some (.cells (nums .u32 firstL).toArray 183 (0, 0))) := hidden (HK5.out.blk (HK4.out.blk HB3.out (fun h => by omega)) (fun h => h))
  have HKb5 : Hid (w5.heap[w2.heap.size + 1]? = some (.cells (nums .u32 roundsL).toArray 185 (0, 0))) := hidden (HK5.out.blk HB4.out (fun h => h))
  have HK05 : Hid (Kept Nob w w5) := hidden (HK0.out.trans HK5.out)
  obtain ⟨gH, hgH⟩ : ∃ g, w2.heap.size = g := ⟨_, rfl⟩
  obtain ⟨A5, c5, hv5, hi5⟩ := HO5.out.ints HPW.out
  have HI5 := hidden hi5
  subst hv5
  rw [hgH] at HS2 HS4 HH5 HKb5
  rw [hgH]
  clear hi5 hgH HB3 HB4 HK0 HK1 HK2 HK3 HK4 HK5 HO5
  have hpl := HN.out
  rw [hpl]
  clear hpl
  go_loopw [5] (fun v wr => ∃ (k m : Nat) (A' : Option Addr) (c' : Nat), k ≤ N ∧ m = 64 * (N - k) ∧ v = .slice A' m c' ∧ m ≤ c' ∧ c' ≤ maxLen ∧ RdInts wr .u8 A' (ps.drop (64 * k)) ∧ (∀ ad, A' = some ad → k < N → w4.heap.size ≤ ad.block) ∧ wr.heap[gH]? = some (.cells (nums .u32 (hF ps k)).toArray 183 (0, 0)) ∧ Kept (fun b => b = gH) w5 wr) (fun v _ => match v with | .slice _ l _ => l | _ => 0)
  case atStart => exact ⟨0, 64 * N, A5, c5, by omega, by omega, rfl, by have := HI5.out.le; rw [HN.out] at this; exact this, HI5.out.max, HI5.out.rd, fun ad e h => HI5.out.inF ad e (by rw [HN.out]; omega), HH5.out, Kept.refl _ _⟩
  case round =>
    obtain ⟨k, m, A', c', hk, hm, rfl, hmc, hcm, hrd, hbl, hbH, hks⟩ := hrel
    have HRD := hidden hrd
    have HBL := hidden hbl
    have HBH := hidden hbH
    have HKS := hidden hks
    have HM := hidden hm
    unfold maxLen at hcm
    clear hrd hbl hbH hks
    by_cases hlt : k < N
    · have hm64 : 64 ≤ m := by omega
      have hdl : (ps.drop (64 * k)).length = m := by rw [List.length_drop, HN.out]; omega
      obtain ⟨ad, rfl, _⟩ := HRD.out 0 (by omega)
      have HDL := hidden hdl
      clear hm hdl
      have HBLK := hidden (block_any gH (gH + 1) (some ad) c' (hF ps k) ((ps.drop (64 * k)).take 64) (fun b => b < wr.heap.size) wr HBH.out (HKS.out.blk HKb5.out (fun h => by omega))
        ⟨HRD.out.take 64, fun ad' e _ => by cases e; obtain ⟨_, e, hc⟩ := HRD.out 0 (by have := HDL.out; omega); cases e; have := World.block_lt_of_cell? wr _ hc; simpa [Addr.add] using this, by have := HDL.out; simp; omega, by unfold maxLen; omega, (fun e => by cases e), fun x hx => HPW.out x (List.mem_of_mem_drop (List.mem_of_mem_take hx))⟩
        (fun b h => h) (by have := HDL.out; simp at *; omega) (hF_ok ps k).1 (hF_ok ps k).2)
      have HGB : Hid (gH < ad.block) := hidden (by have := HBL.out ad rfl hlt; have := HS4.out; omega)
      by_cases hc64 : c' = 64
      · have HKN : Hid (k + 1 = N) := hidden (by have := HM.out; omega)
        have hm' : m = 64 := by omega
        subst hc64 hm'
        go_wp2_with (go_at_call 123; refine HBLK.out.mono ?_; rintro e w6 ⟨rfl, hb6, hk6⟩; have HB6 := hidden hb6; have HK6 := hidden hk6; clear hb6 hk6; dsimp only)
        go_roundw
        case rel => exact ⟨k + 1, 0, some ad, 0, by omega, by have := HKN.out; omega, rfl, by omega, by unfold maxLen; omega, by rw [List.drop_eq_nil_of_le (by rw [HN.out]; have := HKN.out; omega)]; exact fun i hi => by simp at hi, fun ad' e h => by have := HKN.out; omega, HB6.out, HKS.out.trans HK6.out⟩
        case measure => simp
      · go_wp2_with (go_at_call 123; refine HBLK.out.mono ?_; rintro e w6 ⟨rfl, hb6, hk6⟩; have HB6 := hidden hb6; have HK6 := hidden hk6; clear hb6 hk6; dsimp only)
        go_roundw
        case rel => exact ⟨k + 1, m - 64, _, c' - 64, by omega, by have := HM.out; omega, rfl, by omega, by unfold maxLen; omega, by
            have := (rd_drop HRD.out 64).kept HK6.out (fun ad' e h => by cases e; have := HGB.out; rw [add_off ad 64 (by omega)] at h; dsimp only at h; omega)
            rw [List.drop_drop, show 64 * k + 64 = 64 * (k + 1) from by omega, add_off ad 64 (by omega)] at this
            exact this, fun ad' e h => by cases e; exact HBL.out ad rfl hlt, HB6.out, HKS.out.trans HK6.out⟩
        case measure => dsimp only; omega
    · obtain ⟨hkN⟩ : Nonempty (k = N) := ⟨by omega⟩
      have hm0 : m = 0 := by omega
      obtain ⟨hh, hhe⟩ : ∃ hh, hF ps N = hh := ⟨_, rfl⟩
      have HHL : Hid (hh.length = 8) := hidden (by rw [← hhe]; exact (hF_ok ps N).1)
      have HHU : Hid (∀ x ∈ hh, U32 x) := hidden (by rw [← hhe]; exact (hF_ok ps N).2)
      have HBH' : Hid (wr.heap[gH]? = some (.cells (nums .u32 hh).toArray 183 (0, 0))) := hidden (by have := HBH.out; rw [hkN, hhe] at this; exact this)
      have HOF' : Hid (ofF xs = outF hh 8) := hidden (by rw [HOF.out, hhe])
      have HRR := HR5.out
      obtain ⟨csR, hcR, hcs⟩ := HRR
      have HRR := hidden (HKS.out.blk hcR (fun h => by have := HS2.out; omega))
      have HCS := hidden hcs
      have HKW : Hid (Kept Nob w wr) := hidden (Kept.then HK05.out HKS.out (fun b hb h => by have := HS2.out; omega))
      clear hhe hkN hm HOF HBH hcR hcs HM HRD HBL
      subst hm0
      go_wp2_with ((with_reducible refine load_lit agg8 (.tmp 3) ⟨gH, 0, none⟩ (nums .u32 hh) ?_ ?_ ?_ ?_ ?_); rfl; rfl; exact (nums_length _ _).trans HHL.out; exact row_cells (blk_alloc HBH'.out _))
      obtain ⟨W7, hW7⟩ : ∃ W7, wr.alloc (.cells #[.int .u8 0, .int .u8 0, .int .u8 0, .int .u8 0, .int .u8 0, .int .u8 0, .int .u8 0, .int .u8 0, .int .u8 0, .int .u8 0, .int .u8 0, .int .u8 0, .int .u8 0, .int .u8 0, .int .u8 0, .int .u8 0, .int .u8 0, .int .u8 0, .int .u8 0, .int .u8 0, .int .u8 0, .int .u8 0, .int .u8 0, .int .u8 0, .int .u8 0, .int .u8 0, .int .u8 0, .int .u8 0, .int .u8 0, .int .u8 0, .int .u8 0, .int .u8 0] 24) = W7 := ⟨_, rfl⟩
      have hB7 : W7.heap[wr.heap.size]? = some (.cells (nums .u8 (outF hh 0)).toArray 24 (0, 0)) := by rw [← hW7]; exact heap_alloc_new _ _
      have HB7 := hidden hB7
      have HK7 : Hid (Kept Nob wr W7) := hidden (by rw [← hW7]; exact Kept.alloc (Kept.refl _ _) _)
      have HRlt : Hid (w.heap.size < wr.heap.size) := hidden (blk_lt HRR.out)
      rw [hW7]
      obtain ⟨g6, hg6⟩ : ∃ g6, wr.heap.size = g6 := ⟨_, rfl⟩
      rw [hg6] at HB7 HRlt
      rw [hg6]
      clear hB7 hW7 hg6
      have IDX : ∀ (j : Nat) (x : World), j < 8 → (Instr.index 183 (.agg (nums .u32 hh).toArray) (.int .i64 j)).run Try.prog x = .ok (.int .u32 (hh.getD j 0)) x := fun j x hj =>
        run_index_nums x _ 181 8 .u32 Try.underlying183 Try.underlying181 (fun _ => by kernel_rfl) hh HHL.out j hj
      have HIDX := hidden IDX
      clear IDX
      go_loopw [7, 8, 22] (fun _ _ i w8 => ∃ j : Nat, j ≤ 8 ∧ i = .int .i64 j ∧ w8.heap[g6]? = some (.cells (nums .u8 (outF hh j)).toArray 24 (0, 0)) ∧ Kept (fun b => b = g6) W7 w8) (fun _ _ i _ => 8 - (intOf i).toNat)
      case atStart => exact ⟨0, by omega, rfl, HB7.out, Kept.refl _ _⟩
      case round =>
        obtain ⟨j, hj, rfl, hb8, hk8⟩ := hrel
        have HB8 := hidden hb8
        have HK8 := hidden hk8
        clear hb8 hk8
        by_cases hlt2 : j < 8
        · have idx := fun x => HIDX.out j x hlt2
          obtain ⟨m0, e0⟩ : ∃ m : Nat, 4 * (j : Int) = (m : Int) := ⟨4 * j, by omega⟩
          have l0 : m0 + 3 < 32 := by omega
          have HM : Hid (4 * j = m0) := hidden (by omega)
          have HLN := outF_len hh j
          have c0 := row_at HB8.out (i := m0) (by omega)
          have c1 := row_at HB8.out (i := m0 + 1) (by omega)
          have c2 := row_at HB8.out (i := m0 + 2) (by omega)
          have c3 := row_at HB8.out (i := m0 + 3) (by omega)
          have f0 := blk_frozen HB8.out m0
          have f1 := blk_frozen HB8.out (m0 + 1)
          have f2 := blk_frozen HB8.out (m0 + 2)
          have f3 := blk_frozen HB8.out (m0 + 3)
          have HOS : Hid (outF hh (j + 1) = ((((outF hh j).set m0 (hh.getD j 0 / 16777216 % 256)).set (m0 + 1) (hh.getD j 0 / 65536 % 256)).set (m0 + 2) (hh.getD j 0 / 256 % 256)).set (m0 + 3) (hh.getD j 0 % 256)) := hidden (by rw [← HM.out]; rfl)
          obtain ⟨y0, y1⟩ := u32_getD HHU.out j
          generalize hh.getD j 0 = y at idx HOS y0 y1
          generalize (outF hh j).getD m0 0 = o0 at c0
          generalize (outF hh j).getD (m0 + 1) 0 = o1 at c1
          generalize (outF hh j).getD (m0 + 2) 0 = o2 at c2
          generalize (outF hh j).getD (m0 + 3) 0 = o3 at c3
          clear HLN
          go_wp2
          go_roundw
          case rel => exact ⟨j + 1, by omega, by go_num, by
              have h1 := row_set (row_set (row_set (row_set HB8.out m0 (y / 16777216)) (m0 + 1) (y / 65536 % 256)) (m0 + 2) (y / 256 % 256)) (m0 + 3) (y % 256)
              rw [HOS.out, show y / 16777216 % 256 = y / 16777216 from by omega]
              exact h1, (((HK8.out.setCell (fun _ => rfl) _).setCell (fun _ => rfl) _).setCell (fun _ => rfl) _).setCell (fun _ => rfl) _⟩
          case measure => simp [intOf]; omega
        · obtain ⟨hj8⟩ : Nonempty (j = 8) := ⟨by omega⟩
          have HBE : Hid (wr.heap[g6]? = some (.cells (nums .u8 (ofF xs)).toArray 24 (0, 0))) := hidden (by rw [HOF'.out, ← hj8]; exact HB8.out)
          have HOL := hidden (ofF_len xs)
          have HRE := hidden (HK8.out.blk (HK7.out.blk HRR.out (fun h => h)) (fun h => by have := HRlt.out; omega))
          clear hj8 HB8
          go_wp2_with (first
            | ((with_reducible refine load_lit agg32 (.tmp 6) ⟨g6, 0, none⟩ (nums .u8 (ofF xs)) ?_ ?_ ?_ ?_ ?_); rfl; rfl; exact (nums_length _ _).trans HOL.out; exact row_cells HBE.out)
            | ((with_reducible refine store_litT agg32 (.tmp 2) (.tmp 53) w.heap.size (nums .u8 (ofF xs)) 24 ?_ ?_ ?_ ?_ ?_ ?_ ?_); rfl; rfl; rfl; exact (nums_length _ _).trans HOL.out; exact nums_oneC _ _; exact ⟨_, HRE.out, HCS.out⟩; intro w9 hb9 hk9; have HB9 := hidden hb9; have HK9 := hidden hk9; clear hb9 hk9))
          refine bodyPost_ret (results_cell_row rfl _ _ w.heap.size _ _ _ _ rfl HB9.out Try.underlying24 rfl (by rw [show (nums IntKind.u8 (ofF xs)).toArray.size = 32 by simp [nums_length, HOL.out]]; kernel_rfl)) rfl ⟨rfl, ?_⟩
          exact Kept.then (Kept.then (HKW.out.trans HK7.out) HK8.out (fun b hb h => by have := HRlt.out; omega)) HK9.out (fun b hb h => by omega)
end Go.Proofs.Ytcghjnegaiiieaa

/- Part 5 of the texts that LawCommitFunds needs, pruned and joined. -/
import Derived.Test.YtcghjnegaiiieaaCF4
set_option linter.unusedSimpArgs false
namespace Go.Proofs.Ytcghjnegaiiieaa
open Go.RowKit
set_option maxRecDepth 100000 in
set_option maxHeartbeats 8000000 in
theorem equal_ints (A B : Option Addr) (c d : Nat) (xs ys : List Int) (F : Nat → Prop) (w : World) (hx : Ints w F .i64 A c xs) (hy : Ints w F .i64 B d ys) :
    Calls Try.prog 89 #[.slice A xs.length c, .slice B ys.length d] w fun e w' => e = .returned (.bool (xs == ys)) ∧ Kept Nob w w' := by
  have HX := hidden hx
  have HY := hidden hy
  have l1 := hx.le
  have l2 := hx.max
  have l3 := hy.le
  have l4 := hy.max
  unfold maxLen at l2 l4
  clear hx hy
  by_cases hl : xs.length = ys.length
  · have e3 : ((xs.length : Int) != (ys.length : Int)) = false := by simp [hl]
    have HL := hidden hl
    clear hl
    go_enter Try.func89, Try.ntmps89
    go_wp2
    go_loopw [5, 13] (fun _ i wr => ∃ j : Nat, j ≤ xs.length ∧ i = .int .i64 j ∧ (xs.drop j == ys.drop j) = (xs == ys) ∧ Still w wr) (fun _ i _ => xs.length - (intOf i).toNat)
    case atStart => exact ⟨0, Nat.zero_le _, rfl, rfl, Still.refl _⟩
    case round =>
      obtain ⟨j, hj, rfl, he, hst⟩ := hrel
      have HE := hidden he
      have HST := hidden hst
      clear he hst
      by_cases hlt : j < xs.length
      · have hlt4 : j < ys.length := by rw [← HL.out]; exact hlt
        obtain ⟨kx, rfl, c1⟩ := HX.out.rd j hlt
        obtain ⟨ky, rfl, c2⟩ := HY.out.rd j hlt4
        have c1 := (HST.out.cell _).trans c1
        have c2 := (HST.out.cell _).trans c2
        have HEQ := hidden (eq_drop xs ys j hlt hlt4)
        generalize xs.getD j 0 = zx at c1 HEQ
        generalize ys.getD j 0 = zy at c2 HEQ
        by_cases hzz : zx = zy
        · have ez : (zx != zy) = false := by simp [hzz]
          have HZZ : Hid ((zx == zy) = true) := hidden (by simp [hzz])
          clear hzz
          go_wp2
          ((refine wp_region_quiet_lit (by kernel_rfl) (by kernel_rfl) ?_); (repeat (any_goals (first | go_big_quiet_step (fail) | quiet_step (fail) | (refine wpQuiet_step (fun K hK => ?_); go_simp; split <;> (refine hK _ ?_; clear hK K))))); (all_goals (refine wpQuiet_nil ?_; intro _ hw'; obtain ⟨nq, hw''⟩ := hw'; subst hw'')))
          go_wp2
          go_roundw
          case rel => exact ⟨j + 1, by omega, by go_num, by rw [← HE.out, HEQ.out, HZZ.out]; rfl, HST.out.drewN _⟩
          case measure => simp [intOf]; omega
        · have ez : (zx != zy) = true := by simp [hzz]
          have hz2 : (zx == zy) = false := by simpa using hzz
          have HFV : Hid ((xs == ys) = false) := hidden (by rw [← HE.out, HEQ.out, hz2]; rfl)
          clear hzz hz2
          go_wp2
          ((refine wp_region_quiet_lit (by kernel_rfl) (by kernel_rfl) ?_); (repeat (any_goals (first | go_big_quiet_step (fail) | quiet_step (fail) | (refine wpQuiet_step (fun K hK => ?_); go_simp; split <;> (refine hK _ ?_; clear hK K))))); (all_goals (refine wpQuiet_nil ?_; intro _ hw'; obtain ⟨nq, hw''⟩ := hw'; subst hw'')))
          go_wp2
          go_ret
          exact ⟨ret_bool HFV.out.symm, Kept.still (HST.out.drewN _)⟩
      · obtain rfl : j = xs.length := by omega
        have HT : Hid ((xs == ys) = true) := hidden (by rw [← HE.out, List.drop_length, List.drop_eq_nil_of_le (by rw [HL.out]; omega)]; rfl)
        go_wp2
        go_ret
        exact ⟨ret_bool HT.out.symm, Kept.still HST.out⟩
  · have e3 : ((xs.length : Int) != (ys.length : Int)) = true := by rw [bne_iff_ne]; omega
    have HF : Hid ((xs == ys) = false) := hidden (by
      cases hb : (xs == ys) with
      | false => rfl
      | true => exact absurd (by rw [eq_of_beq hb]) hl)
    clear hl
    go_enter Try.func89, Try.ntmps89
    go_wp2
    go_ret
    exact ⟨ret_bool HF.out.symm, Kept.refl _ _⟩
set_option maxRecDepth 100000 in
set_option maxHeartbeats 8000000 in
theorem same_way (x y : Way) (cs ds : List Value) (F : Nat → Prop) (w : World) (hx : RWay w F cs x) (hy : RWay w F ds y) :
    Calls Try.prog 88 #[.agg cs.toArray, .agg ds.toArray] w fun e w' => e = .returned (.bool (sameWay x y)) ∧ Kept Nob w w' := by
  obtain ⟨A, c, rfl, ix, okx⟩ := hx.open_
  obtain ⟨B, d, rfl, iy, oky⟩ := hy.open_
  obtain ⟨W, hW⟩ : ∃ W, (w.alloc (.cells (wayCells A c x).toArray 26)).alloc (.cells (wayCells B d y).toArray 26) = W := ⟨_, rfl⟩
  have hK : Kept Nob w W := by rw [← hW]; exact (by repeat (first | exact Kept.refl _ _ | apply Kept.alloc | apply Kept.drewN | apply Kept.drew))
  have hb0 : W.heap[w.heap.size]? = some (.cells (wayCells A c x).toArray 26 (0, 0)) := by rw [← hW]; exact blk_alloc (heap_alloc_new _ _) _
  have hb1 : W.heap[w.heap.size + 1]? = some (.cells (wayCells B d y).toArray 26 (0, 0)) := by rw [← hW]; exact blk_new_at (by simp)
  have x0 := row0 hb0
  have y0 := row0 hb1
  have HK := hidden hK
  have HEQ := hidden (equal_ints A B c d x.keys y.keys F W (ix.keep hK (fun _ _ h => h)) (iy.keep hK (fun _ _ h => h)))
  have HB0 := hidden hb0
  have HB1 := hidden hb1
  have OKX := hidden okx
  have OKY := hidden oky
  have HSW : Hid (sameWay x y = ((x.keys == y.keys) && (x.hash == y.hash) && (x.after == y.after) && (x.wait == y.wait))) := hidden (by
    unfold sameWay
    cases (x.keys == y.keys) <;> cases (x.hash == y.hash) <;> cases (x.after == y.after) <;> cases (x.wait == y.wait) <;> rfl)
  have eqh := eqlSum x.hash y.hash okx.hl oky.hl
  rw [HSW.out]
  clear hx hy ix iy okx oky hb0 hb1 hK HSW
  generalize (x.keys == y.keys) = b1 at *
  generalize (x.hash == y.hash) = b2 at *
  obtain ⟨b3, h3⟩ : ∃ b, (x.after == y.after) = b := ⟨_, rfl⟩
  obtain ⟨b4, h4⟩ : ∃ b, (x.wait == y.wait) = b := ⟨_, rfl⟩
  rw [h3, h4]
  cases b1
  · go_enter Try.func88, Try.ntmps88
    go_wp2_with (go_at_call 89; (with_reducible refine HEQ.out.mono ?_); rintro e w2 ⟨rfl, hk2⟩; have HK2 := hidden hk2; clear hk2; dsimp only)
    go_ret
    exact ⟨rfl, HK.out.trans HK2.out⟩
  · cases b2 <;> cases b3 <;> cases b4
    all_goals
      go_enter Try.func88, Try.ntmps88
      go_wp2_with (first
        | (go_at_call 89; (with_reducible refine HEQ.out.mono ?_); rintro e w2 ⟨rfl, hk2⟩; have r0 := hk2.blk HB0.out (fun h => h); have r1 := hk2.blk HB1.out (fun h => h); have x33 := row33 r0 OKX.out; have x34 := row34 r0 OKX.out; have y33 := row33 r1 OKY.out; have y34 := row34 r1 OKY.out; have HH0 := hidden (row_hash r0 OKX.out); have HH1 := hidden (row_hash r1 OKY.out); have HK2 := hidden hk2; clear hk2 r0 r1; dsimp only)
        | ((with_reducible refine load_lit aggSum (.tmp 11) ⟨w.heap.size, 1, none⟩ (nums .u8 x.hash) ?_ ?_ ?_ ?_ ?_); rfl; rfl; exact (nums_length _ _).trans OKX.out.hl; exact HH0.out)
        | ((with_reducible refine load_lit aggSum (.tmp 13) ⟨w.heap.size + 1, 1, none⟩ (nums .u8 y.hash) ?_ ?_ ?_ ?_ ?_); rfl; rfl; exact (nums_length _ _).trans OKY.out.hl; exact HH1.out))
      go_ret
      exact ⟨rfl, HK.out.trans HK2.out⟩
set_option maxRecDepth 100000 in
set_option maxHeartbeats 8000000 in
theorem equalFunc_ways (A B : Option Addr) (c d : Nat) (xs ys : List Way) (F : Nat → Prop) (w : World) (hx : Ways w F A c xs) (hy : Ways w F B d ys) :
    Calls Try.prog 87 #[.slice A xs.length c, .slice B ys.length d, .func (.func 88) #[] #[]] w fun e w' => e = .returned (.bool (sameWays xs ys)) ∧ Kept Nob w w' := by
  have HX := hidden hx
  have HY := hidden hy
  have l1 := hx.le
  have l2 := hx.max
  have l3 := hy.le
  have l4 := hy.max
  unfold maxLen at l2 l4
  clear hx hy
  by_cases hl : xs.length = ys.length
  · have e3 : ((xs.length : Int) != (ys.length : Int)) = false := by simp [hl]
    have HL := hidden hl
    clear hl
    go_enter Try.func87, Try.ntmps87
    go_wp2
    go_loopw [7, 8, 9, 17] (fun _ _ _ i wr => ∃ j : Nat, j ≤ xs.length ∧ i = .int .i64 j ∧ sameWays (xs.drop j) (ys.drop j) = sameWays xs ys ∧ Kept Nob w wr) (fun _ _ _ i _ => xs.length - (intOf i).toNat)
    case atStart => exact ⟨0, Nat.zero_le _, rfl, rfl, Kept.refl _ _⟩
    case round =>
      obtain ⟨j, hj, rfl, he, hkp⟩ := hrel
      have HE := hidden he
      have HKP := hidden hkp
      clear he hkp
      by_cases hlt : j < xs.length
      · have hlt2 : j < ys.length := by rw [← HL.out]; exact hlt
        obtain ⟨ax, es, rfl, hex, hcx, hrx⟩ := (HX.out.keep HKP.out (fun _ _ h => h)).cells j hlt
        obtain ⟨ay, ds, rfl, hey, hcy, hry⟩ := (HY.out.keep HKP.out (fun _ _ h => h)).cells j hlt2
        have HSD := hidden (sameWays_drop xs ys j hlt hlt2)
        generalize xs[j] = x at *
        generalize ys[j] = y at *
        have HEX := hidden hex
        have HEY := hidden hey
        have HCX := hidden hcx
        have HCY := hidden hcy
        have H1X := hidden (RWay.good.one hrx)
        have H1Y := hidden (RWay.good.one hry)
        have HRX := hidden hrx
        have HRY := hidden hry
        clear hex hey hcx hcy hrx hry
        by_cases hsb : sameWay x y = true
        · have HSB := hidden hsb
          rw [hsb, Bool.true_and] at HSD
          clear hsb
          go_wp2_with (first
            | ((with_reducible refine load_lit aggWay (.tmp 20) (ax.add (j * 35)) es ?_ ?_ ?_ ?_ ?_); rfl; rfl; exact HEX.out; exact HCX.out)
            | ((with_reducible refine store_litT aggWay (.tmp 8) (.tmp 21) wr.heap.size es 26 ?_ ?_ ?_ ?_ ?_ ?_ ?_); rfl; rfl; rfl; exact HEX.out; exact H1X.out; exact ⟨_, heap_alloc_new _ _, rfl⟩; intro W1 hW1 hkW1; have HB1 := hidden hW1; have HK1 : Hid (Kept Nob wr W1) := hidden (Kept.then (Kept.alloc (Kept.refl _ _) _) hkW1 (fun b hb h => by omega)); have hz1 := blk_lt hW1; have HCY1 : Hid (∀ j' u, ds[j']? = some u → W1.cell? ((ay.add (j * 35)).add j') = some u) := hidden (fun j' u hj' => HK1.out.at (HCY.out j' u hj') (fun h => h)); clear hW1 hkW1)
            | ((with_reducible refine load_lit aggWay (.tmp 24) (ay.add (j * 35)) ds ?_ ?_ ?_ ?_ ?_); rfl; rfl; exact HEY.out; exact HCY1.out)
            | ((with_reducible refine store_litT aggWay (.tmp 9) (.tmp 25) W1.heap.size ds 26 ?_ ?_ ?_ ?_ ?_ ?_ ?_); rfl; rfl; rfl; exact HEY.out; exact H1Y.out; exact ⟨_, heap_alloc_new _ _, rfl⟩; intro W2 hW2 hkW2; have HB2 := hidden hW2; have HK2 : Hid (Kept Nob W1 W2) := hidden (Kept.then (Kept.alloc (Kept.refl _ _) _) hkW2 (fun b hb h => by omega)); have HB12 := hidden (HK2.out.blk HB1.out (fun h => h)); have HSM := hidden (same_way x y es ds F W2 (RWay.good.keep (RWay.good.keep HRX.out HK1.out (fun _ _ h => h)) HK2.out (fun _ _ h => h)) (RWay.good.keep (RWay.good.keep HRY.out HK1.out (fun _ _ h => h)) HK2.out (fun _ _ h => h))); rw [HSB.out] at HSM; clear hW2 hkW2)
            | ((with_reducible refine load_lit aggWay (.tmp 8) ⟨wr.heap.size, 0, none⟩ es ?_ ?_ ?_ ?_ ?_); rfl; rfl; exact HEX.out; exact row_cells HB12.out)
            | ((with_reducible refine load_lit aggWay (.tmp 9) ⟨W1.heap.size, 0, none⟩ ds ?_ ?_ ?_ ?_ ?_); rfl; rfl; exact HEY.out; exact row_cells HB2.out)
            | (go_at_call 88; (with_reducible refine HSM.out.mono ?_); rintro e w3 ⟨rfl, hk3⟩; have HK3 := hidden ((HKP.out.trans (HK1.out.trans HK2.out)).trans hk3); clear hk3; dsimp only))
          go_roundw
          case rel => exact ⟨j + 1, by omega, by go_num, by rw [← HE.out, HSD.out], HK3.out⟩
          case measure => simp [intOf]; omega
        · have hsb : sameWay x y = false := by simpa using hsb
          have HSB := hidden hsb
          rw [hsb, Bool.false_and] at HSD
          clear hsb
          go_wp2_with (first
            | ((with_reducible refine load_lit aggWay (.tmp 20) (ax.add (j * 35)) es ?_ ?_ ?_ ?_ ?_); rfl; rfl; exact HEX.out; exact HCX.out)
            | ((with_reducible refine store_litT aggWay (.tmp 8) (.tmp 21) wr.heap.size es 26 ?_ ?_ ?_ ?_ ?_ ?_ ?_); rfl; rfl; rfl; exact HEX.out; exact H1X.out; exact ⟨_, heap_alloc_new _ _, rfl⟩; intro W1 hW1 hkW1; have HB1 := hidden hW1; have HK1 : Hid (Kept Nob wr W1) := hidden (Kept.then (Kept.alloc (Kept.refl _ _) _) hkW1 (fun b hb h => by omega)); have hz1 := blk_lt hW1; have HCY1 : Hid (∀ j' u, ds[j']? = some u → W1.cell? ((ay.add (j * 35)).add j') = some u) := hidden (fun j' u hj' => HK1.out.at (HCY.out j' u hj') (fun h => h)); clear hW1 hkW1)
            | ((with_reducible refine load_lit aggWay (.tmp 24) (ay.add (j * 35)) ds ?_ ?_ ?_ ?_ ?_); rfl; rfl; exact HEY.out; exact HCY1.out)
            | ((with_reducible refine store_litT aggWay (.tmp 9) (.tmp 25) W1.heap.size ds 26 ?_ ?_ ?_ ?_ ?_ ?_ ?_); rfl; rfl; rfl; exact HEY.out; exact H1Y.out; exact ⟨_, heap_alloc_new _ _, rfl⟩; intro W2 hW2 hkW2; have HB2 := hidden hW2; have HK2 : Hid (Kept Nob W1 W2) := hidden (Kept.then (Kept.alloc (Kept.refl _ _) _) hkW2 (fun b hb h => by omega)); have HB12 := hidden (HK2.out.blk HB1.out (fun h => h)); have HSM := hidden (same_way x y es ds F W2 (RWay.good.keep (RWay.good.keep HRX.out HK1.out (fun _ _ h => h)) HK2.out (fun _ _ h => h)) (RWay.good.keep (RWay.good.keep HRY.out HK1.out (fun _ _ h => h)) HK2.out (fun _ _ h => h))); rw [HSB.out] at HSM; clear hW2 hkW2)
            | ((with_reducible refine load_lit aggWay (.tmp 8) ⟨wr.heap.size, 0, none⟩ es ?_ ?_ ?_ ?_ ?_); rfl; rfl; exact HEX.out; exact row_cells HB12.out)
            | ((with_reducible refine load_lit aggWay (.tmp 9) ⟨W1.heap.size, 0, none⟩ ds ?_ ?_ ?_ ?_ ?_); rfl; rfl; exact HEY.out; exact row_cells HB2.out)
            | (go_at_call 88; (with_reducible refine HSM.out.mono ?_); rintro e w3 ⟨rfl, hk3⟩; have HK3 := hidden ((HKP.out.trans (HK1.out.trans HK2.out)).trans hk3); clear hk3; dsimp only))
          go_ret
          exact ⟨ret_bool (by rw [← HE.out, HSD.out]), HK3.out⟩
      · obtain rfl : j = xs.length := by omega
        have HT : Hid (sameWays xs ys = true) := hidden (by rw [← HE.out, List.drop_length, List.drop_eq_nil_of_le (by rw [HL.out]; omega)]; rfl)
        go_wp2
        go_ret
        exact ⟨ret_bool HT.out.symm, HKP.out⟩
  · have e3 : ((xs.length : Int) != (ys.length : Int)) = true := by rw [bne_iff_ne]; omega
    have HF := hidden (sameWays_length hl)
    clear hl
    go_enter Try.func87, Try.ntmps87
    go_wp2
    go_ret
    exact ⟨ret_bool HF.out.symm, Kept.refl _ _⟩
end Go.Proofs.Ytcghjnegaiiieaa
namespace Go.Proofs.Ytcghjnegaiiieaa
open Go.RowKit
set_option maxRecDepth 100000 in
set_option maxHeartbeats 8000000 in
theorem lockSame_any (a b : Out) (A B : Option Addr) (c d : Nat) (F : Nat → Prop) (w : World) (ha : Ways w F A c a.ways) (hb : Ways w F B d b.ways) :
    Calls Try.prog 33 #[.agg #[.int .i64 a.amount, .slice A a.ways.length c], .agg #[.int .i64 b.amount, .slice B b.ways.length d]] w fun e w' => e = .returned (.bool (sameOut a b)) ∧ Kept Nob w w' := by
  obtain ⟨W, hW⟩ : ∃ W, (w.alloc (.cells #[.int .i64 a.amount, .slice A a.ways.length c] 38)).alloc (.cells #[.int .i64 b.amount, .slice B b.ways.length d] 38) = W := ⟨_, rfl⟩
  have hK : Kept Nob w W := by rw [← hW]; exact (by repeat (first | exact Kept.refl _ _ | apply Kept.alloc | apply Kept.drewN | apply Kept.drew))
  have hb0 : W.heap[w.heap.size]? = some (.cells #[.int .i64 a.amount, .slice A a.ways.length c] 38 (0, 0)) := by rw [← hW]; exact blk_alloc (heap_alloc_new _ _) _
  have hb1 : W.heap[w.heap.size + 1]? = some (.cells #[.int .i64 b.amount, .slice B b.ways.length d] 38 (0, 0)) := by rw [← hW]; exact blk_new_at (by simp)
  have a0 : W.cell? ⟨w.heap.size, 0, none⟩ = some (.int .i64 a.amount) := (blk_cell hb0 0).trans rfl
  have a1 : W.cell? ⟨w.heap.size, 1, none⟩ = some (.slice A a.ways.length c) := (blk_cell hb0 1).trans rfl
  have b0 : W.cell? ⟨w.heap.size + 1, 0, none⟩ = some (.int .i64 b.amount) := (blk_cell hb1 0).trans rfl
  have b1 : W.cell? ⟨w.heap.size + 1, 1, none⟩ = some (.slice B b.ways.length d) := (blk_cell hb1 1).trans rfl
  clear hb0 hb1
  have HEQ := hidden (equalFunc_ways A B c d a.ways b.ways F W (ha.keep hK (fun _ _ h => h)) (hb.keep hK (fun _ _ h => h)))
  have HK := hidden hK
  have HS : Hid (sameOut a b = ((a.amount == b.amount) && sameWays a.ways b.ways)) := hidden rfl
  have l1 := ha.le
  have l2 := ha.max
  have l3 := hb.le
  have l4 := hb.max
  unfold maxLen at l2 l4
  rw [HS.out]
  clear ha hb hK HS
  generalize sameWays a.ways b.ways = s at *
  cases hpq : (a.amount == b.amount)
  all_goals
    go_enter Try.func33, Try.ntmps33
    go_wp2_with (go_at_call 87; (with_reducible refine HEQ.out.mono ?_); rintro e w2 ⟨rfl, hk2⟩; have HK2 := hidden hk2; clear hk2; dsimp only)
  · go_ret
    exact ⟨rfl, HK.out⟩
  · go_ret
    exact ⟨rfl, HK.out.trans HK2.out⟩
theorem sameWay_self (x : Way) : sameWay x x = true := by unfold sameWay; simp
theorem sameWays_self : ∀ (xs : List Way), sameWays xs xs = true
  | [] => rfl
  | x :: xs => by unfold sameWays; rw [sameWay_self, sameWays_self xs]; rfl
theorem sameOut_self (a : Out) : sameOut a a = true := by unfold sameOut; rw [sameWays_self]; simp
end Go.Proofs.Ytcghjnegaiiieaa
namespace Go.Proofs.Ytcghjnegaiiieaa
set_option linter.unusedSimpArgs false
open Go.RowKit
/-- What a transaction's block reads as. -/
structure TxBlk (y : World) (g : Nat) (p : TxP) (t : Txx) : Prop where
  c0 : y.cell? ⟨g, 0, none⟩ = some (.slice p.iA t.ins.length p.ic)
  c1 : y.cell? ⟨g, 1, none⟩ = some (.slice p.oA t.outs.length p.oc)
  c2 : y.cell? ⟨g, 2, none⟩ = some (.int .i64 t.op.kind)
  c38 : y.cell? ⟨g, 38, none⟩ = some (.slice p.dA t.op.data.length p.dc)
  c39 : y.cell? ⟨g, 39, none⟩ = some (.slice p.sA t.sgns.length p.sc)
  op : ∀ j u, (opxCells p.dA p.dc t.op)[j]? = some u → y.cell? ((⟨g, 2, none⟩ : Addr).add j) = some u
theorem TxBlk.of {y : World} {g : Nat} {p : TxP} {t : Txx} {ty : TypeId} {fr : Nat × Nat} (h : OpxOk t.op) (hb : y.heap[g]? = some (.cells (txCells p t).toArray ty fr)) : TxBlk y g p t := by
  obtain ⟨h0, h1, h2, h38, h39⟩ := tx_at (p := p) h
  refine ⟨(blk_cell hb 0).trans (by simpa using h0), (blk_cell hb 1).trans (by simpa using h1), (blk_cell hb 2).trans (by simpa using h2), (blk_cell hb 38).trans (by simpa using h38), (blk_cell hb 39).trans (by simpa using h39), fun j u hj => ?_⟩
  have ea : (⟨g, 2, none⟩ : Addr).add j = ⟨g, 2 + j, none⟩ := by unfold Addr.add; split <;> simp_all
  rw [ea, blk_cell hb]
  simpa using tx_op (p := p) h j u hj
end Go.Proofs.Ytcghjnegaiiieaa
namespace Go.Proofs.Ytcghjnegaiiieaa
open Go.RowKit
structure Brg {α : Type} (R : Rl α) (n : Nat) (enc : α → CV) (ok : α → Prop) : Prop where
  fwd : ∀ w F cs x, R w F cs x → (enc x).rep w F cs ∧ ok x
  bwd : ∀ w F cs x, (enc x).rep w F cs → ok x → R w F cs x
  sz : ∀ x, (enc x).size = n
structure Brgs {β : Type} (S : Rl β) (encs : β → List CV) (ok : β → Prop) : Prop where
  fwd : ∀ w F cs x, S w F cs x → CV.reps w F (encs x) cs ∧ ok x
  bwd : ∀ w F cs x, CV.reps w F (encs x) cs → ok x → S w F cs x
theorem Brg.int (k : IntKind) : Brg (RInt k) 1 (ic k) (fun n => (Lit.int k n).wf = true) :=
  ⟨fun w F cs x h => ⟨by simp only [ic, CV.rep]; exact ⟨h.1, rfl⟩, h.2⟩, fun w F cs x h hok => by simp only [ic, CV.rep] at h; exact ⟨h.1, hok⟩, fun _ => rfl⟩
theorem Brg.bool : Brg RBool 1 (fun b => .pv (.bool b)) (fun _ => True) :=
  ⟨fun w F cs x h => ⟨by simp only [CV.rep]; exact ⟨h, rfl⟩, trivial⟩, fun w F cs x h _ => by simp only [CV.rep] at h; exact h.1, fun _ => rfl⟩
structure ArOk (k : IntKind) (n : Nat) (xs : List Int) : Prop where
  len : xs.length = n
  wf : ∀ x ∈ xs, (Lit.int k x).wf = true
theorem Brg.arr (k : IntKind) (n : Nat) : Brg (RArr k n) n (.ar k n) (ArOk k n) :=
  ⟨fun w F cs x h => ⟨by simp only [CV.rep]; exact ⟨h.1, h.2.1⟩, h.2.1, h.2.2⟩, fun w F cs x h hok => by simp only [CV.rep] at h; exact ⟨h.1, hok.len, hok.wf⟩, fun _ => rfl⟩
structure SlOk {α : Type} (ok : α → Prop) (xs : List α) : Prop where
  max : xs.length ≤ maxLen
  all : ∀ x ∈ xs, ok x
theorem Brg.sl {α : Type} {R : Rl α} {n : Nat} {enc : α → CV} {ok : α → Prop} (h : Brg R n enc ok) (hR : Good R n) : Brg (RSl R n) 1 (fun xs => .sl n (xs.map enc)) (SlOk ok) := by
  refine ⟨fun w F cs xs hx => ?_, fun w F cs xs hx hok => ?_, fun _ => rfl⟩
  · obtain ⟨A, c, e, h1, h2, h3, h4⟩ := hx
    refine ⟨?_, by omega, fun x hx => ?_⟩
    · simp only [CV.rep]
      refine ⟨A, c, by rw [List.length_map]; exact e, by rw [List.length_map]; exact h1, h2, fun hA => ⟨by rw [(h3 hA).1]; rfl, (h3 hA).2⟩, CV.repE_of _ 0 fun k hk => ?_⟩
      obtain ⟨ad, e1, hb, es, g1, g2, g3⟩ := h4 k (by simpa using hk)
      refine ⟨ad, e1, by simp [h.sz], by rw [add_block]; exact hb, es, fun j u hj => by rw [Nat.zero_add]; exact g2 j u hj, ?_⟩
      rw [List.getElem_map]
      exact (h.fwd w F es _ g3).1
    · obtain ⟨k, hk, rfl⟩ := List.getElem_of_mem hx
      obtain ⟨ad, e1, hb, es, g1, g2, g3⟩ := h4 k hk
      exact (h.fwd w F es _ g3).2
  · simp only [CV.rep, List.length_map] at hx
    obtain ⟨A, c, e, h1, h2, h3, h4⟩ := hx
    refine ⟨A, c, e, h1, h2, fun hA => ⟨by simpa using (h3 hA).1, (h3 hA).2⟩, fun k hk => ?_⟩
    obtain ⟨ad, e1, hs, hb, es, g2, g3⟩ := CV.repE_get _ 0 h4 k (by simpa using hk)
    rw [add_block] at hb
    rw [List.getElem_map] at g3
    rw [Nat.zero_add] at g2
    have hr := h.bwd w F es _ g3 (hok.all _ (List.getElem_mem hk))
    exact ⟨ad, e1, hb, es, hR.len hr, g2, hr⟩
theorem Brgs.nil : Brgs RNil (fun _ => []) (fun _ => True) :=
  ⟨fun w F cs x h => ⟨by simp only [CV.reps]; exact h, trivial⟩, fun w F cs x h _ => by simp only [CV.reps] at h; exact h⟩
theorem Brgs.cons {α β : Type} {R : Rl α} {n : Nat} {enc : α → CV} {ok : α → Prop} {S : Rl β} {encs : β → List CV} {oks : β → Prop} (h : Brg R n enc ok) (hs : Brgs S encs oks) : Brgs (RCons R n S) (fun p => enc p.1 :: encs p.2) (fun p => ok p.1 ∧ oks p.2) := by
  refine ⟨fun w F cs x hx => ?_, fun w F cs x hx hok => ?_⟩
  · obtain ⟨c, d, e, hl, h1, h2⟩ := hx
    obtain ⟨g1, g2⟩ := h.fwd w F c _ h1
    obtain ⟨g3, g4⟩ := hs.fwd w F d _ h2
    exact ⟨by simp only [CV.reps]; exact ⟨c, d, e, g1, g3⟩, g2, g4⟩
  · simp only [CV.reps] at hx
    obtain ⟨c, d, e, h1, h2⟩ := hx
    exact ⟨c, d, e, by rw [CV.rep_len _ _ h1, h.sz], h.bwd w F c _ h1 hok.1, hs.bwd w F d _ h2 hok.2⟩
theorem Brgs.st {α β : Type} {S : Rl β} {encs : β → List CV} {oks : β → Prop} (hs : Brgs S encs oks) (g : α → β) (enc : α → CV) (ok : α → Prop) (n : Nat) (he : ∀ x, enc x = .st (encs (g x))) (hok : ∀ x, ok x ↔ oks (g x)) (hsz : ∀ x, CV.sizes (encs (g x)) = n) : Brg (RBy S g) n enc ok := by
  refine ⟨fun w F cs x hx => ?_, fun w F cs x hx ho => ?_, fun x => by rw [he, CV.size]; exact hsz x⟩
  · obtain ⟨h1, h2⟩ := hs.fwd w F cs _ hx
    exact ⟨by rw [he]; simp only [CV.rep]; exact h1, (hok x).2 h2⟩
  · rw [he] at hx
    simp only [CV.rep] at hx
    exact hs.bwd w F cs _ hx ((hok x).1 ho)
structure OkWay (x : Way) : Prop where
  keys : SlOk (fun n => (Lit.int .i64 n).wf = true) x.keys
  hash : ArOk .u8 32 x.hash
  after : (Lit.int .i64 x.after).wf = true
  wait : (Lit.int .i64 x.wait).wf = true
theorem brgWay : Brg RWay 35 cWay OkWay :=
  (Brgs.cons (Brg.sl (Brg.int .i64) (RInt.good .i64)) (Brgs.cons (Brg.arr .u8 32) (Brgs.cons (Brg.int .i64) (Brgs.cons (Brg.int .i64) Brgs.nil)))).st _ cWay OkWay 35 (fun x => rfl) (fun x => ⟨fun h => ⟨h.keys, h.hash, h.after, h.wait, trivial⟩, fun h => ⟨h.1, h.2.1, h.2.2.1, h.2.2.2.1⟩⟩) (fun x => rfl)
structure OkOut (x : Out) : Prop where
  amount : (Lit.int .i64 x.amount).wf = true
  ways : SlOk OkWay x.ways
theorem brgOut : Brg ROut 2 cOut OkOut :=
  (Brgs.cons (Brg.int .i64) (Brgs.cons (Brg.sl brgWay RWay.good) Brgs.nil)).st _ cOut OkOut 2 (fun x => rfl) (fun x => ⟨fun h => ⟨h.amount, h.ways, trivial⟩, fun h => ⟨h.1, h.2.1⟩⟩) (fun x => rfl)
/-- A contract of an earlier text, of a function whose result leads nowhere. -/
theorem ap_flat {f : FuncId} {xs : List CV} {r : CV} (hent : Enters Try.prog f) (h : ∀ w F vs, (∀ b, F b → b < w.heap.size) → AV.repVs w F (fun _ => undef) (xs.map .c) vs → Calls Try.prog f vs.toArray w fun e w' => (∃ v, e = .returned v ∧ r.repV w' F v) ∧ Kept Nob w w') : AP Try.prog f xs [r] :=
  ⟨hent, fun w F vs hF hvs => (h w F vs hF hvs).mono fun e w' ⟨⟨v, h1, h2⟩, h3⟩ => ⟨v, F, h1, h2, h3, fun _ h => h, fun _ h => .inl h, fun b hb => Nat.lt_of_lt_of_le (hF b hb) h3.size⟩⟩
theorem reps_two {w : World} {F : Nat → Prop} {ε : Nat → Value} {x y : CV} {vs : List Value} (h : AV.repVs w F ε [.c x, .c y] vs) : ∃ u v, vs = [u, v] ∧ x.repV w F u ∧ y.repV w F v := by
  simp only [AV.repVs, AV.repV] at h
  obtain ⟨v, us, rfl, h1, u, _, rfl, h2, rfl⟩ := h
  exact ⟨v, u, rfl, h1, h2⟩
theorem pv_repV {w : World} {F : Nat → Prop} {u : Value} (h : u.oneCell' = true) : (CV.pv u).repV w F u := by
  have := repV_pv' (w := w) (F := F) (ε := fun _ => undef) h
  simpa only [AV.repV] using this
theorem repV_int {w : World} {F : Nat → Prop} {k : IntKind} {n : Int} {v : Value} (h : (ic k n).repV w F v) : v = .int k n := by
  obtain ⟨cs, h1, rfl⟩ := h
  simp only [ic, CV.rep] at h1
  rw [h1.1]; rfl
theorem repV_brg {α : Type} {R : Rl α} {n : Nat} {enc : α → CV} {ok : α → Prop} (h : Brg R n enc ok) {w : World} {F : Nat → Prop} {x : α} {v : Value} (hr : (enc x).repV w F v) (ho : ok x) (hag : (enc x).agg = true) : ∃ cs, v = .agg cs.toArray ∧ R w F cs x := by
  obtain ⟨cs, h1, rfl⟩ := hr
  exact ⟨cs, by simp [mkv, hag], h.bwd w F cs x h1 ho⟩
theorem lockSame_ap (a b : Out) (ha : OkOut a) (hb : OkOut b) : AP Try.prog 33 [cOut a, cOut b] [.pv (.bool (sameOut a b))] :=
  ap_flat (fun _ _ => Try.call33 _ _) fun w F vs hF hvs => by
    obtain ⟨u, v, rfl, h1, h2⟩ := reps_two hvs
    obtain ⟨cs, rfl, r1⟩ := repV_brg brgOut h1 ha rfl
    obtain ⟨ds, rfl, r2⟩ := repV_brg brgOut h2 hb rfl
    obtain ⟨A, c, rfl, w1, _⟩ := r1.open_
    obtain ⟨B, d, rfl, w2, _⟩ := r2.open_
    exact (lockSame_any a b A B c d F w w1 w2).mono fun e w' ⟨h1, h2⟩ => ⟨⟨_, h1, pv_repV rfl⟩, h2⟩
theorem lockSole_ap (a : Out) (k : Int) (ha : OkOut a) : AP Try.prog 24 [cOut a, ic .i64 k] [.pv (.bool (soleB a.ways k))] :=
  ap_flat (fun _ _ => Try.call24 _ _) fun w F vs hF hvs => by
    obtain ⟨u, v, rfl, h1, h2⟩ := reps_two hvs
    obtain ⟨cs, rfl, r1⟩ := repV_brg brgOut h1 ha rfl
    obtain ⟨A, c, rfl, w1, _⟩ := r1.open_
    rw [repV_int h2]
    exact (sole_any a.amount k A c a.ways F w w1).mono fun e w' ⟨h1, h2⟩ => ⟨⟨_, h1, pv_repV rfl⟩, h2⟩
end Go.Proofs.Ytcghjnegaiiieaa
namespace Go.Proofs.Ytcghjnegaiiieaa
open Go.RowKit
/-- The other one's key, as the program reckons it. -/
def otherK (c : Chan) (me : Int) : Int := IntKind.i64.wrap (IntKind.i64.wrap (c.client + c.peer) - me)
def ownKey (c : Chan) (k : Nat) : Int := [c.client, c.peer].getD k 0
def ownAt (c : Chan) (p q : Way) (b : Out) (k : Nat) : Bool :=
  p.keys.length == 1 && p.keys.getD 0 0 == ownKey c k && p.wait == c.wait && p.after == 0 && p.hash == Z32 && q.keys.length == 1 && q.keys.getD 0 0 == otherK c (ownKey c k) && q.wait == 0 && q.after == 0 && q.hash != Z32 && soleB b.ways (otherK c (ownKey c k))
def ownerOf (c : Chan) (p q : Way) (b : Out) : Int := if ownAt c p q b 0 then 0 else if ownAt c p q b 1 then 1 else -1
theorem ownAt_eq {c : Chan} {p q : Way} {b : Out} {i j : Int} (hi : p.keys = [i]) (hj : q.keys = [j]) (k : Nat) : ownAt c p q b k = (i == [c.client, c.peer].getD k 0 && p.wait == c.wait && p.after == 0 && p.hash == List.replicate 32 0 && j == IntKind.i64.wrap (IntKind.i64.wrap (c.client + c.peer) - [c.client, c.peer].getD k 0) && q.wait == 0 && q.after == 0 && !(q.hash == List.replicate 32 0) && soleB b.ways (IntKind.i64.wrap (IntKind.i64.wrap (c.client + c.peer) - [c.client, c.peer].getD k 0))) := by
  unfold ownAt ownKey otherK
  rw [hi, hj]
  simp only [List.length_singleton, List.getD_cons_zero, beq_self_eq_true, Bool.true_and, Bool.and_true, bne]
theorem pv_int {k : IntKind} {a b : Int} (h : a = b) : CV.pv (.int k a) = CV.pv (.int k b) := by rw [h]
theorem ownerOf_none {c : Chan} {p q : Way} {b : Out} (h0 : ownAt c p q b 0 = false) (h1 : ownAt c p q b 1 = false) : ownerOf c p q b = -1 := by simp [ownerOf, h0, h1]
theorem ownerOf_hit {c : Chan} {p q : Way} {b : Out} {k : Nat} (h2 : k ≤ 2) (hk : k < 2) (hn : ∀ j, j < k → ownAt c p q b j = false) (h : ownAt c p q b k = true) : (k : Int) = ownerOf c p q b := by
  match k, hk with
  | 0, _ => simp [ownerOf, h]
  | 1, _ => simp [ownerOf, h, hn 0 (by omega)]
set_option maxRecDepth 100000 in
set_option maxHeartbeats 4000000 in
theorem ownerFull_ap (c : Chan) (x : Inp) (a : Int) (i j : Int) (p q : Way) (b : Out) (o : Opx) (g : List Sgn) (hi : p.keys = [i]) (hj : q.keys = [j]) (hb : OkOut b) (hx : x.tx = c.ft) (hx2 : x.at_ = c.fa) (ho : o.kind = 0) : AP Try.prog 56 [cChan c, cTxx ⟨[x], [⟨a, [p, q]⟩, b], o, g⟩] [ic .i64 (ownerOf c p q b)] := by
  refine ap_of (fun _ _ => Try.call56 _ _) Try.func56 rfl Try.ntmps56 (by simp) (zs := [RZ.mk 4 none]) (by kernel_rfl) (fun w F => ?_)
  simp only [List.map_cons, List.map_nil, argT, Nat.reduceAdd]
  refine at_seq fun K1 hK1 => ?_
  refine at_region [It.mk (some 2) none (IK.box (Operand.tmp 0)), It.mk (some 3) none (IK.box (Operand.tmp 1)), It.mk (some 4) none (IK.p (PK.mov (Operand.const (Value.int IntKind.i64 0))))] (by kernel_rfl) ?_
  simp (maxSteps := 999999) (disch := omega) only [av1, av2, av3, eq_self, exists_const, forall_const, implies_true, storeOk, AS.gd, PK.more, PK.cond, PK.val, AV.get, CV.get, AV.ok, CV.ok, AV.off, CV.off, AV.set, CV.set, AV.fits, CV.fits, AV.size, AV.agg, CV.agg, AV.solid, AV.int?, AV.bool?, binOk, AV.els, CV.isByte, Sh.agg, Sh.fits, Sh.fitsL, Sh.fitsR, CV.eqv, CV.eqvs, AV.closed, rsAV, thenQ, AObj.lt, CV.numOf, Nat.reduceAdd, Nat.reduceLT, Nat.reduceMul, reduceCtorEq, ↓reduceIte, Nat.reduceEqDiff, Nat.reduceLeDiff, Nat.reduceSub, Nat.reduceBEq, Nat.reduceBNe, Int.reduceLT, Int.reduceEq, Int.reduceAdd, Int.reduceToNat, Int.reduceLE, Int.reduceBEq, Int.reduceBNe, enc1, cChan, cCSt, eqTy_Sum, eqTy_Ref, hx, hx2, ho, hi, hj]
  (repeat ((with_reducible refine And.intro ?_ ?_); (first | trivial | assumption | omega | (exact nf_imp _) | (exact fn_imp _) | (intro hq; exact ⟨hq, by omega⟩) | (simp; done) | (intro hq; simp [hq]; done) | (intro hq; refine ⟨hq, fun hq2 => ?_⟩; rw [hq, hq2]; rfl))))
  refine hK1 _ ?_
  (try clear hK1)
  refine at_seq fun K2 hK2 => ?_
  refine at_seq fun K3 hK3 => ?_
  refine at_draws [] (by kernel_rfl) ?_
  refine ag_pures (fuel := 0) [0, 1, 2, 3, 4, 5, 6, 7, 8, 9, 10, 11, 12, 13, 14, 15, 16, 17, 18, 19, 20, 21, 22, 23, 24, 25, 26, 27, 28, 29, 30, 31, 32, 33, 34] [It.mk (some 10) none (IK.p (PK.fAddr (Operand.tmp 3) 0 0)), It.mk (some 11) none (IK.p (PK.load (Operand.tmp 10) 1 false)), It.mk (some 12) none (IK.p (PK.len false (Operand.tmp 11))), It.mk (some 13) none (IK.p (PK.bin BinOp.neq (Operand.tmp 12) (Operand.const (Value.int IntKind.i64 1)))), It.mk (some 14) none (IK.p (PK.mov (Operand.tmp 13))), It.mk (some 15) (some (14, false)) (IK.p (PK.fAddr (Operand.tmp 3) 0 0)), It.mk (some 16) (some (14, false)) (IK.p (PK.load (Operand.tmp 15) 1 false)), It.mk (some 17) (some (14, false)) (IK.p (PK.iAddrS (Operand.tmp 16) (Operand.const (Value.int IntKind.i64 0)) 35)), It.mk (some 18) (some (14, false)) (IK.p (PK.fAddr (Operand.tmp 17) 0 0)), It.mk (some 19) (some (14, false)) (IK.p (PK.load (Operand.tmp 18) 33 true)), It.mk (some 20) (some (14, false)) (IK.p (PK.fAddr (Operand.tmp 2) 3 3)), It.mk (some 21) (some (14, false)) (IK.p (PK.load (Operand.tmp 20) 33 true)), It.mk (some 22) (some (14, false)) (IK.p (PK.eqA true 62 (Sh.st [Sh.a IntKind.u8 32, Sh.i]) (Operand.tmp 19) (Operand.tmp 21))), It.mk (some 23) none (IK.p (PK.pick (Operand.tmp 14) (Operand.const (Value.bool true)) (Operand.tmp 22))), It.mk (some 24) none (IK.p (PK.mov (Operand.tmp 23))), It.mk (some 25) (some (24, false)) (IK.p (PK.fAddr (Operand.tmp 3) 1 1)), It.mk (some 26) (some (24, false)) (IK.p (PK.load (Operand.tmp 25) 1 false)), It.mk (some 27) (some (24, false)) (IK.p (PK.len false (Operand.tmp 26))), It.mk (some 28) (some (24, false)) (IK.p (PK.bin BinOp.neq (Operand.tmp 27) (Operand.const (Value.int IntKind.i64 2)))), It.mk (some 29) none (IK.p (PK.pick (Operand.tmp 24) (Operand.const (Value.bool true)) (Operand.tmp 28))), It.mk (some 30) none (IK.p (PK.mov (Operand.tmp 29))), It.mk (some 31) (some (30, false)) (IK.p (PK.fAddr (Operand.tmp 3) 1 1)), It.mk (some 32) (some (30, false)) (IK.p (PK.load (Operand.tmp 31) 1 false)), It.mk (some 33) (some (30, false)) (IK.p (PK.iAddrS (Operand.tmp 32) (Operand.const (Value.int IntKind.i64 0)) 2)), It.mk (some 34) (some (30, false)) (IK.p (PK.fAddr (Operand.tmp 33) 1 1)), It.mk (some 35) (some (30, false)) (IK.p (PK.load (Operand.tmp 34) 1 false)), It.mk (some 36) (some (30, false)) (IK.p (PK.len false (Operand.tmp 35))), It.mk (some 37) (some (30, false)) (IK.p (PK.bin BinOp.neq (Operand.tmp 36) (Operand.const (Value.int IntKind.i64 2)))), It.mk (some 38) none (IK.p (PK.pick (Operand.tmp 30) (Operand.const (Value.bool true)) (Operand.tmp 37))), It.mk (some 39) none (IK.p (PK.mov (Operand.tmp 38))), It.mk (some 40) (some (39, false)) (IK.p (PK.fAddr (Operand.tmp 3) 2 2)), It.mk (some 41) (some (39, false)) (IK.p (PK.fAddr (Operand.tmp 40) 0 0)), It.mk (some 42) (some (39, false)) (IK.p (PK.load (Operand.tmp 41) 1 false)), It.mk (some 43) (some (39, false)) (IK.p (PK.bin BinOp.neq (Operand.tmp 42) (Operand.const (Value.int IntKind.i64 0)))), It.mk (some 44) none (IK.p (PK.pick (Operand.tmp 39) (Operand.const (Value.bool true)) (Operand.tmp 43)))] (by kernel_rfl) (by kernel_rfl) (by kernel_rfl) (by kernel_rfl) (hideZ_nil _ 0) (fun K4 hK4 => ?_)
  simp (maxSteps := 999999) (disch := omega) only [av1, av2, av3, eq_self, exists_const, forall_const, implies_true, storeOk, AS.gd, PK.more, PK.cond, PK.val, AV.get, CV.get, AV.ok, CV.ok, AV.off, CV.off, AV.set, CV.set, AV.fits, CV.fits, AV.size, AV.agg, CV.agg, AV.solid, AV.int?, AV.bool?, binOk, AV.els, CV.isByte, Sh.agg, Sh.fits, Sh.fitsL, Sh.fitsR, CV.eqv, CV.eqvs, AV.closed, rsAV, thenQ, AObj.lt, CV.numOf, Nat.reduceAdd, Nat.reduceLT, Nat.reduceMul, reduceCtorEq, ↓reduceIte, Nat.reduceEqDiff, Nat.reduceLeDiff, Nat.reduceSub, Nat.reduceBEq, Nat.reduceBNe, Int.reduceLT, Int.reduceEq, Int.reduceAdd, Int.reduceToNat, Int.reduceLE, Int.reduceBEq, Int.reduceBNe, enc1, cChan, cCSt, eqTy_Sum, eqTy_Ref, hx, hx2, ho, hi, hj]
  (repeat ((with_reducible refine And.intro ?_ ?_); (first | trivial | assumption | omega | (exact nf_imp _) | (exact fn_imp _) | (intro hq; exact ⟨hq, by omega⟩) | (simp; done) | (intro hq; simp [hq]; done) | (intro hq; refine ⟨hq, fun hq2 => ?_⟩; rw [hq, hq2]; rfl))))
  refine hK4 _ ?_
  (try clear hK4)
  refine ag_done (by kernel_rfl) ?_
  (try simp only [thenQ])
  refine hK3 _ ?_
  (try clear hK3)
  refine at_cond _ rfl rfl (fun h5 => ?_) (fun h5 => ?_)
  · have r5 := h5
    (try simp only [decide_eq_true_eq, decide_eq_false_iff_not, Bool.and_eq_true, Bool.or_eq_true, Bool.and_eq_false_iff, Bool.or_eq_false_iff, Bool.not_eq_true', Bool.not_eq_false', Bool.not_true, Bool.not_false, Int.not_lt, Int.not_le, Nat.not_lt, Nat.not_le, int_ofNat_lt, int_ofNat_le, beq_iff_eq, bne_iff_ne, ne_eq, gt_iff_lt, ge_iff_le, Bool.not_eq_true, beq_eq_false_iff_ne, bne_eq_false_iff_eq] at h5)
    simp at h5
  · have r5 := h5
    (try simp only [decide_eq_true_eq, decide_eq_false_iff_not, Bool.and_eq_true, Bool.or_eq_true, Bool.and_eq_false_iff, Bool.or_eq_false_iff, Bool.not_eq_true', Bool.not_eq_false', Bool.not_true, Bool.not_false, Int.not_lt, Int.not_le, Nat.not_lt, Nat.not_le, int_ofNat_lt, int_ofNat_le, beq_iff_eq, bne_iff_ne, ne_eq, gt_iff_lt, ge_iff_le, Bool.not_eq_true, beq_eq_false_iff_ne, bne_eq_false_iff_eq] at h5)
    refine at_skip ?_
    (try simp only [thenQ, blockQ])
    refine hK2 _ ?_
    (try clear hK2)
    refine at_seq fun K6 hK6 => ?_
    refine at_draws [2, 3] (by kernel_rfl) ?_
    refine ag_pures (fuel := 4) [0, 1, 2, 3, 4, 5, 6, 7, 8, 9, 10, 11, 12, 13] [It.mk (some 45) none (IK.p (PK.fAddr (Operand.tmp 3) 1 1)), It.mk (some 46) none (IK.p (PK.load (Operand.tmp 45) 1 false)), It.mk (some 47) none (IK.p (PK.iAddrS (Operand.tmp 46) (Operand.const (Value.int IntKind.i64 0)) 2)), It.mk (some 48) none (IK.p (PK.fAddr (Operand.tmp 47) 1 1)), It.mk (some 49) none (IK.p (PK.load (Operand.tmp 48) 1 false)), It.mk (some 50) none (IK.p (PK.iAddrS (Operand.tmp 49) (Operand.const (Value.int IntKind.i64 0)) 35)), It.mk (some 51) none (IK.p (PK.load (Operand.tmp 50) 35 true)), It.mk (some 52) none (IK.p (PK.fAddr (Operand.tmp 3) 1 1)), It.mk (some 53) none (IK.p (PK.load (Operand.tmp 52) 1 false)), It.mk (some 54) none (IK.p (PK.iAddrS (Operand.tmp 53) (Operand.const (Value.int IntKind.i64 0)) 2)), It.mk (some 55) none (IK.p (PK.fAddr (Operand.tmp 54) 1 1)), It.mk (some 56) none (IK.p (PK.load (Operand.tmp 55) 1 false)), It.mk (some 57) none (IK.p (PK.iAddrS (Operand.tmp 56) (Operand.const (Value.int IntKind.i64 1)) 35)), It.mk (some 58) none (IK.p (PK.load (Operand.tmp 57) 35 true))] (by kernel_rfl) (by kernel_rfl) (by kernel_rfl) (by kernel_rfl) (by simp only [hideZ, List.contains_cons, List.contains_nil, Nat.reduceAdd, Nat.reduceBEq, Bool.or_false, Bool.false_or, Bool.or_true, Bool.true_or, Bool.false_eq_true, if_true, if_false, ↓reduceIte]; rfl) (fun K7 hK7 => ?_)
    simp (maxSteps := 999999) (disch := omega) only [av1, av2, av3, eq_self, exists_const, forall_const, implies_true, storeOk, AS.gd, PK.more, PK.cond, PK.val, AV.get, CV.get, AV.ok, CV.ok, AV.off, CV.off, AV.set, CV.set, AV.fits, CV.fits, AV.size, AV.agg, CV.agg, AV.solid, AV.int?, AV.bool?, binOk, AV.els, CV.isByte, Sh.agg, Sh.fits, Sh.fitsL, Sh.fitsR, CV.eqv, CV.eqvs, AV.closed, rsAV, thenQ, AObj.lt, CV.numOf, Nat.reduceAdd, Nat.reduceLT, Nat.reduceMul, reduceCtorEq, ↓reduceIte, Nat.reduceEqDiff, Nat.reduceLeDiff, Nat.reduceSub, Nat.reduceBEq, Nat.reduceBNe, Int.reduceLT, Int.reduceEq, Int.reduceAdd, Int.reduceToNat, Int.reduceLE, Int.reduceBEq, Int.reduceBNe, enc1, cChan, cCSt, eqTy_Sum, eqTy_Ref, hx, hx2, ho, hi, hj]
    (repeat ((with_reducible refine And.intro ?_ ?_); (first | trivial | assumption | omega | (exact nf_imp _) | (exact fn_imp _) | (intro hq; exact ⟨hq, by omega⟩) | (simp; done) | (intro hq; simp [hq]; done) | (intro hq; refine ⟨hq, fun hq2 => ?_⟩; rw [hq, hq2]; rfl))))
    refine hK7 _ ?_
    (try clear hK7)
    refine ag_two (i := 14) (j := 15) (by kernel_rfl) ?_ ?_
    · refine agi (it := It.mk (some 5) none (IK.alloc (CV.st [CV.pv (Value.slice none 0 0), CV.ar IntKind.u8 32 (List.replicate 32 0), CV.pv (Value.int IntKind.i64 0), CV.pv (Value.int IntKind.i64 0)]))) (R' := [13, 12, 11, 10, 9, 8, 7, 6, 5, 4, 3, 2, 1, 0]) (by kernel_rfl) (.inl rfl) (by kernel_rfl) (fun K8 hK8 => ?_)
      simp (maxSteps := 999999) (disch := omega) only [av1, av2, av3, eq_self, exists_const, forall_const, implies_true, storeOk, AS.gd, PK.more, PK.cond, PK.val, AV.get, CV.get, AV.ok, CV.ok, AV.off, CV.off, AV.set, CV.set, AV.fits, CV.fits, AV.size, AV.agg, CV.agg, AV.solid, AV.int?, AV.bool?, binOk, AV.els, CV.isByte, Sh.agg, Sh.fits, Sh.fitsL, Sh.fitsR, CV.eqv, CV.eqvs, AV.closed, rsAV, thenQ, AObj.lt, CV.numOf, Nat.reduceAdd, Nat.reduceLT, Nat.reduceMul, reduceCtorEq, ↓reduceIte, Nat.reduceEqDiff, Nat.reduceLeDiff, Nat.reduceSub, Nat.reduceBEq, Nat.reduceBNe, Int.reduceLT, Int.reduceEq, Int.reduceAdd, Int.reduceToNat, Int.reduceLE, Int.reduceBEq, Int.reduceBNe, enc1, cChan, cCSt, eqTy_Sum, eqTy_Ref, hx, hx2, ho, hi, hj]
      (repeat ((with_reducible refine And.intro ?_ ?_); (first | trivial | assumption | omega | (exact nf_imp _) | (exact fn_imp _) | (intro hq; exact ⟨hq, by omega⟩) | (simp; done) | (intro hq; simp [hq]; done) | (intro hq; refine ⟨hq, fun hq2 => ?_⟩; rw [hq, hq2]; rfl))))
      refine hK8 _ ?_
      (try clear hK8)
      refine ag_one (i := 15) (by kernel_rfl) ?_
      refine agi (it := It.mk (some 6) none (IK.alloc (CV.st [CV.pv (Value.slice none 0 0), CV.ar IntKind.u8 32 (List.replicate 32 0), CV.pv (Value.int IntKind.i64 0), CV.pv (Value.int IntKind.i64 0)]))) (R' := [13, 12, 11, 10, 9, 8, 7, 6, 5, 4, 3, 2, 1, 0]) (by kernel_rfl) (.inl rfl) (by kernel_rfl) (fun K9 hK9 => ?_)
      simp (maxSteps := 999999) (disch := omega) only [av1, av2, av3, eq_self, exists_const, forall_const, implies_true, storeOk, AS.gd, PK.more, PK.cond, PK.val, AV.get, CV.get, AV.ok, CV.ok, AV.off, CV.off, AV.set, CV.set, AV.fits, CV.fits, AV.size, AV.agg, CV.agg, AV.solid, AV.int?, AV.bool?, binOk, AV.els, CV.isByte, Sh.agg, Sh.fits, Sh.fitsL, Sh.fitsR, CV.eqv, CV.eqvs, AV.closed, rsAV, thenQ, AObj.lt, CV.numOf, Nat.reduceAdd, Nat.reduceLT, Nat.reduceMul, reduceCtorEq, ↓reduceIte, Nat.reduceEqDiff, Nat.reduceLeDiff, Nat.reduceSub, Nat.reduceBEq, Nat.reduceBNe, Int.reduceLT, Int.reduceEq, Int.reduceAdd, Int.reduceToNat, Int.reduceLE, Int.reduceBEq, Int.reduceBNe, enc1, cChan, cCSt, eqTy_Sum, eqTy_Ref, hx, hx2, ho, hi, hj]
      (repeat ((with_reducible refine And.intro ?_ ?_); (first | trivial | assumption | omega | (exact nf_imp _) | (exact fn_imp _) | (intro hq; exact ⟨hq, by omega⟩) | (simp; done) | (intro hq; simp [hq]; done) | (intro hq; refine ⟨hq, fun hq2 => ?_⟩; rw [hq, hq2]; rfl))))
      refine hK9 _ ?_
      (try clear hK9)
      refine ag_one (i := 16) (by kernel_rfl) ?_
      refine agi (it := It.mk none none (IK.store (Operand.tmp 5) (Operand.tmp 51) 35)) (R' := [13, 12, 11, 10, 9, 8, 7]) (by kernel_rfl) (.inl rfl) (by kernel_rfl) (fun K10 hK10 => ?_)
      simp (maxSteps := 999999) (disch := omega) only [av1, av2, av3, eq_self, exists_const, forall_const, implies_true, storeOk, AS.gd, PK.more, PK.cond, PK.val, AV.get, CV.get, AV.ok, CV.ok, AV.off, CV.off, AV.set, CV.set, AV.fits, CV.fits, AV.size, AV.agg, CV.agg, AV.solid, AV.int?, AV.bool?, binOk, AV.els, CV.isByte, Sh.agg, Sh.fits, Sh.fitsL, Sh.fitsR, CV.eqv, CV.eqvs, AV.closed, rsAV, thenQ, AObj.lt, CV.numOf, Nat.reduceAdd, Nat.reduceLT, Nat.reduceMul, reduceCtorEq, ↓reduceIte, Nat.reduceEqDiff, Nat.reduceLeDiff, Nat.reduceSub, Nat.reduceBEq, Nat.reduceBNe, Int.reduceLT, Int.reduceEq, Int.reduceAdd, Int.reduceToNat, Int.reduceLE, Int.reduceBEq, Int.reduceBNe, enc1, cChan, cCSt, eqTy_Sum, eqTy_Ref, hx, hx2, ho, hi, hj]
      (repeat ((with_reducible refine And.intro ?_ ?_); (first | trivial | assumption | omega | (exact nf_imp _) | (exact fn_imp _) | (intro hq; exact ⟨hq, by omega⟩) | (simp; done) | (intro hq; simp [hq]; done) | (intro hq; refine ⟨hq, fun hq2 => ?_⟩; rw [hq, hq2]; rfl))))
      refine hK10 _ ?_
      (try clear hK10)
      refine ag_one (i := 17) (by kernel_rfl) ?_
      refine agi (it := It.mk none none (IK.store (Operand.tmp 6) (Operand.tmp 58) 35)) (R' := []) (by kernel_rfl) (.inr (by kernel_rfl)) (by kernel_rfl) (fun K11 hK11 => ?_)
      simp (maxSteps := 999999) (disch := omega) only [av1, av2, av3, eq_self, exists_const, forall_const, implies_true, storeOk, AS.gd, PK.more, PK.cond, PK.val, AV.get, CV.get, AV.ok, CV.ok, AV.off, CV.off, AV.set, CV.set, AV.fits, CV.fits, AV.size, AV.agg, CV.agg, AV.solid, AV.int?, AV.bool?, binOk, AV.els, CV.isByte, Sh.agg, Sh.fits, Sh.fitsL, Sh.fitsR, CV.eqv, CV.eqvs, AV.closed, rsAV, thenQ, AObj.lt, CV.numOf, Nat.reduceAdd, Nat.reduceLT, Nat.reduceMul, reduceCtorEq, ↓reduceIte, Nat.reduceEqDiff, Nat.reduceLeDiff, Nat.reduceSub, Nat.reduceBEq, Nat.reduceBNe, Int.reduceLT, Int.reduceEq, Int.reduceAdd, Int.reduceToNat, Int.reduceLE, Int.reduceBEq, Int.reduceBNe, enc1, cChan, cCSt, eqTy_Sum, eqTy_Ref, hx, hx2, ho, hi, hj]
      (repeat ((with_reducible refine And.intro ?_ ?_); (first | trivial | assumption | omega | (exact nf_imp _) | (exact fn_imp _) | (intro hq; exact ⟨hq, by omega⟩) | (simp; done) | (intro hq; simp [hq]; done) | (intro hq; refine ⟨hq, fun hq2 => ?_⟩; rw [hq, hq2]; rfl))))
      refine hK11 _ ?_
      (try clear hK11)
      refine ag_done (by kernel_rfl) ?_
      (try simp only [thenQ])
      refine hK6 _ ?_
      (try clear hK6)
      refine at_seq fun K12 hK12 => ?_
      refine at_seq fun K13 hK13 => ?_
      refine at_region [It.mk (some 59) none (IK.p (PK.fAddr (Operand.tmp 2) 1 1)), It.mk (some 60) none (IK.p (PK.load (Operand.tmp 59) 1 false)), It.mk (some 61) none (IK.p (PK.fAddr (Operand.tmp 2) 2 2)), It.mk (some 62) none (IK.p (PK.load (Operand.tmp 61) 1 false)), It.mk (some 63) none (IK.p (PK.bld (CV.ar IntKind.i64 2 [0, 0]) [(0, 1), (1, 1)] [(0, Operand.tmp 60), (1, Operand.tmp 62)])), It.mk (some 64) none (IK.p (PK.mov (Operand.const (Value.int IntKind.i64 0))))] (by kernel_rfl) ?_
      simp (maxSteps := 999999) (disch := omega) only [av1, av2, av3, eq_self, exists_const, forall_const, implies_true, storeOk, AS.gd, PK.more, PK.cond, PK.val, AV.get, CV.get, AV.ok, CV.ok, AV.off, CV.off, AV.set, CV.set, AV.fits, CV.fits, AV.size, AV.agg, CV.agg, AV.solid, AV.int?, AV.bool?, binOk, AV.els, CV.isByte, Sh.agg, Sh.fits, Sh.fitsL, Sh.fitsR, CV.eqv, CV.eqvs, AV.closed, rsAV, thenQ, AObj.lt, CV.numOf, Nat.reduceAdd, Nat.reduceLT, Nat.reduceMul, reduceCtorEq, ↓reduceIte, Nat.reduceEqDiff, Nat.reduceLeDiff, Nat.reduceSub, Nat.reduceBEq, Nat.reduceBNe, Int.reduceLT, Int.reduceEq, Int.reduceAdd, Int.reduceToNat, Int.reduceLE, Int.reduceBEq, Int.reduceBNe, enc1, cChan, cCSt, eqTy_Sum, eqTy_Ref, hx, hx2, ho, hi, hj]
      (repeat ((with_reducible refine And.intro ?_ ?_); (first | trivial | assumption | omega | (exact nf_imp _) | (exact fn_imp _) | (intro hq; exact ⟨hq, by omega⟩) | (simp; done) | (intro hq; simp [hq]; done) | (intro hq; refine ⟨hq, fun hq2 => ?_⟩; rw [hq, hq2]; rfl))))
      refine hK13 _ ?_
      (try clear hK13)
      refine at_block ?_
      refine at_loopK [2, 3, 5, 6, 63] (fun k : { k : Nat // k ≤ 2 ∧ ∀ j, j < k → ownAt c p q b j = false } => [(64, true, bi .i64 k.1)]) (fun k => 2 - k.1) ⟨0, by omega, fun j hj => absurd hj (by omega)⟩ ?_ ?_
      · simp (maxSteps := 999999) (disch := omega) only [av1, av2, av3, eq_self, exists_const, forall_const, implies_true, storeOk, AS.gd, PK.more, PK.cond, PK.val, AV.get, CV.get, AV.ok, CV.ok, AV.off, CV.off, AV.set, CV.set, AV.fits, CV.fits, AV.size, AV.agg, CV.agg, AV.solid, AV.int?, AV.bool?, binOk, AV.els, CV.isByte, Sh.agg, Sh.fits, Sh.fitsL, Sh.fitsR, CV.eqv, CV.eqvs, AV.closed, rsAV, thenQ, AObj.lt, CV.numOf, Nat.reduceAdd, Nat.reduceLT, Nat.reduceMul, reduceCtorEq, ↓reduceIte, Nat.reduceEqDiff, Nat.reduceLeDiff, Nat.reduceSub, Nat.reduceBEq, Nat.reduceBNe, Int.reduceLT, Int.reduceEq, Int.reduceAdd, Int.reduceToNat, Int.reduceLE, Int.reduceBEq, Int.reduceBNe, enc1, cChan, cCSt, eqTy_Sum, eqTy_Ref, hx, hx2, ho, hi, hj]
        repeat' (first | exact SubT.nil | refine SubT.cons (by first | rfl | (simp [look]; done) | (fail)) ?_)
      rintro ⟨k, hk⟩; have hk2 := hk.1
      simp (maxSteps := 999999) (disch := omega) only [av1, av2, av3, eq_self, exists_const, forall_const, implies_true, storeOk, AS.gd, PK.more, PK.cond, PK.val, AV.get, CV.get, AV.ok, CV.ok, AV.off, CV.off, AV.set, CV.set, AV.fits, CV.fits, AV.size, AV.agg, CV.agg, AV.solid, AV.int?, AV.bool?, binOk, AV.els, CV.isByte, Sh.agg, Sh.fits, Sh.fitsL, Sh.fitsR, CV.eqv, CV.eqvs, AV.closed, rsAV, thenQ, AObj.lt, CV.numOf, Nat.reduceAdd, Nat.reduceLT, Nat.reduceMul, reduceCtorEq, ↓reduceIte, Nat.reduceEqDiff, Nat.reduceLeDiff, Nat.reduceSub, Nat.reduceBEq, Nat.reduceBNe, Int.reduceLT, Int.reduceEq, Int.reduceAdd, Int.reduceToNat, Int.reduceLE, Int.reduceBEq, Int.reduceBNe, enc1, cChan, cCSt, eqTy_Sum, eqTy_Ref, hx, hx2, ho, hi, hj]
      refine at_seq fun K14 hK14 => ?_
      refine at_region [It.mk (some 65) none (IK.p (PK.bin BinOp.lss (Operand.tmp 64) (Operand.const (Value.int IntKind.i64 2))))] (by kernel_rfl) ?_
      simp (maxSteps := 999999) (disch := omega) only [av1, av2, av3, eq_self, exists_const, forall_const, implies_true, storeOk, AS.gd, PK.more, PK.cond, PK.val, AV.get, CV.get, AV.ok, CV.ok, AV.off, CV.off, AV.set, CV.set, AV.fits, CV.fits, AV.size, AV.agg, CV.agg, AV.solid, AV.int?, AV.bool?, binOk, AV.els, CV.isByte, Sh.agg, Sh.fits, Sh.fitsL, Sh.fitsR, CV.eqv, CV.eqvs, AV.closed, rsAV, thenQ, AObj.lt, CV.numOf, Nat.reduceAdd, Nat.reduceLT, Nat.reduceMul, reduceCtorEq, ↓reduceIte, Nat.reduceEqDiff, Nat.reduceLeDiff, Nat.reduceSub, Nat.reduceBEq, Nat.reduceBNe, Int.reduceLT, Int.reduceEq, Int.reduceAdd, Int.reduceToNat, Int.reduceLE, Int.reduceBEq, Int.reduceBNe, enc1, cChan, cCSt, eqTy_Sum, eqTy_Ref, hx, hx2, ho, hi, hj]
      (repeat ((with_reducible refine And.intro ?_ ?_); (first | trivial | assumption | omega | (exact nf_imp _) | (exact fn_imp _) | (intro hq; exact ⟨hq, by omega⟩) | (simp; done) | (intro hq; simp [hq]; done) | (intro hq; refine ⟨hq, fun hq2 => ?_⟩; rw [hq, hq2]; rfl))))
      refine hK14 _ ?_
      (try clear hK14)
      refine at_seq fun K15 hK15 => ?_
      refine at_cond _ rfl rfl (fun h16 => ?_) (fun h16 => ?_)
      · have r16 := h16
        (try simp only [decide_eq_true_eq, decide_eq_false_iff_not, Bool.and_eq_true, Bool.or_eq_true, Bool.and_eq_false_iff, Bool.or_eq_false_iff, Bool.not_eq_true', Bool.not_eq_false', Bool.not_true, Bool.not_false, Int.not_lt, Int.not_le, Nat.not_lt, Nat.not_le, int_ofNat_lt, int_ofNat_le, beq_iff_eq, bne_iff_ne, ne_eq, gt_iff_lt, ge_iff_le, Bool.not_eq_true, beq_eq_false_iff_ne, bne_eq_false_iff_eq] at h16)
        refine at_skip ?_
        (try simp only [thenQ, blockQ])
        refine hK15 _ ?_
        (try clear hK15)
        refine at_seq fun K17 hK17 => ?_
        refine at_block ?_
        refine at_seq fun K18 hK18 => ?_
        refine at_region [It.mk (some 66) none (IK.p (PK.mov (Operand.tmp 64))), It.mk (some 67) none (IK.p (PK.idxA (Operand.tmp 63) (Operand.tmp 64) 2 1 false)), It.mk (some 7) none (IK.p (PK.mov (Operand.tmp 66))), It.mk (some 8) none (IK.p (PK.mov (Operand.tmp 67)))] (by kernel_rfl) ?_
        simp (maxSteps := 999999) (disch := omega) only [av1, av2, av3, eq_self, exists_const, forall_const, implies_true, storeOk, AS.gd, PK.more, PK.cond, PK.val, AV.get, CV.get, AV.ok, CV.ok, AV.off, CV.off, AV.set, CV.set, AV.fits, CV.fits, AV.size, AV.agg, CV.agg, AV.solid, AV.int?, AV.bool?, binOk, AV.els, CV.isByte, Sh.agg, Sh.fits, Sh.fitsL, Sh.fitsR, CV.eqv, CV.eqvs, AV.closed, rsAV, thenQ, AObj.lt, CV.numOf, Nat.reduceAdd, Nat.reduceLT, Nat.reduceMul, reduceCtorEq, ↓reduceIte, Nat.reduceEqDiff, Nat.reduceLeDiff, Nat.reduceSub, Nat.reduceBEq, Nat.reduceBNe, Int.reduceLT, Int.reduceEq, Int.reduceAdd, Int.reduceToNat, Int.reduceLE, Int.reduceBEq, Int.reduceBNe, enc1, cChan, cCSt, eqTy_Sum, eqTy_Ref, hx, hx2, ho, hi, hj]
        (repeat ((with_reducible refine And.intro ?_ ?_); (first | trivial | assumption | omega | (exact nf_imp _) | (exact fn_imp _) | (intro hq; exact ⟨hq, by omega⟩) | (simp; done) | (intro hq; simp [hq]; done) | (intro hq; refine ⟨hq, fun hq2 => ?_⟩; rw [hq, hq2]; rfl))))
        refine hK18 _ ?_
        (try clear hK18)
        refine at_seq fun K19 hK19 => ?_
        refine at_region [It.mk (some 68) none (IK.p (PK.fAddr (Operand.tmp 2) 1 1)), It.mk (some 69) none (IK.p (PK.load (Operand.tmp 68) 1 false)), It.mk (some 70) none (IK.p (PK.fAddr (Operand.tmp 2) 2 2)), It.mk (some 71) none (IK.p (PK.load (Operand.tmp 70) 1 false)), It.mk (some 72) none (IK.p (PK.bin BinOp.add (Operand.tmp 69) (Operand.tmp 71))), It.mk (some 73) none (IK.p (PK.mov (Operand.tmp 8))), It.mk (some 74) none (IK.p (PK.bin BinOp.sub (Operand.tmp 72) (Operand.tmp 73))), It.mk (some 9) none (IK.p (PK.mov (Operand.tmp 74)))] (by kernel_rfl) ?_
        simp (maxSteps := 999999) (disch := omega) only [av1, av2, av3, eq_self, exists_const, forall_const, implies_true, storeOk, AS.gd, PK.more, PK.cond, PK.val, AV.get, CV.get, AV.ok, CV.ok, AV.off, CV.off, AV.set, CV.set, AV.fits, CV.fits, AV.size, AV.agg, CV.agg, AV.solid, AV.int?, AV.bool?, binOk, AV.els, CV.isByte, Sh.agg, Sh.fits, Sh.fitsL, Sh.fitsR, CV.eqv, CV.eqvs, AV.closed, rsAV, thenQ, AObj.lt, CV.numOf, Nat.reduceAdd, Nat.reduceLT, Nat.reduceMul, reduceCtorEq, ↓reduceIte, Nat.reduceEqDiff, Nat.reduceLeDiff, Nat.reduceSub, Nat.reduceBEq, Nat.reduceBNe, Int.reduceLT, Int.reduceEq, Int.reduceAdd, Int.reduceToNat, Int.reduceLE, Int.reduceBEq, Int.reduceBNe, enc1, cChan, cCSt, eqTy_Sum, eqTy_Ref, hx, hx2, ho, hi, hj]
        (repeat ((with_reducible refine And.intro ?_ ?_); (first | trivial | assumption | omega | (exact nf_imp _) | (exact fn_imp _) | (intro hq; exact ⟨hq, by omega⟩) | (simp; done) | (intro hq; simp [hq]; done) | (intro hq; refine ⟨hq, fun hq2 => ?_⟩; rw [hq, hq2]; rfl))))
        refine hK19 _ ?_
        (try clear hK19)
        refine at_seq fun K20 hK20 => ?_
        refine at_region [It.mk (some 75) none (IK.p (PK.fAddr (Operand.tmp 5) 0 0)), It.mk (some 76) none (IK.p (PK.load (Operand.tmp 75) 1 false)), It.mk (some 77) none (IK.p (PK.len false (Operand.tmp 76))), It.mk (some 78) none (IK.p (PK.bin BinOp.eql (Operand.tmp 77) (Operand.const (Value.int IntKind.i64 1)))), It.mk (some 79) none (IK.p (PK.mov (Operand.tmp 78))), It.mk (some 80) (some (79, true)) (IK.p (PK.fAddr (Operand.tmp 5) 0 0)), It.mk (some 81) (some (79, true)) (IK.p (PK.load (Operand.tmp 80) 1 false)), It.mk (some 82) (some (79, true)) (IK.p (PK.iAddrS (Operand.tmp 81) (Operand.const (Value.int IntKind.i64 0)) 1)), It.mk (some 83) (some (79, true)) (IK.p (PK.load (Operand.tmp 82) 1 false)), It.mk (some 84) (some (79, true)) (IK.p (PK.mov (Operand.tmp 8))), It.mk (some 85) (some (79, true)) (IK.p (PK.bin BinOp.eql (Operand.tmp 83) (Operand.tmp 84))), It.mk (some 86) none (IK.p (PK.pick (Operand.tmp 79) (Operand.tmp 85) (Operand.const (Value.bool false)))), It.mk (some 87) none (IK.p (PK.mov (Operand.tmp 86))), It.mk (some 88) (some (87, true)) (IK.p (PK.fAddr (Operand.tmp 5) 3 34)), It.mk (some 89) (some (87, true)) (IK.p (PK.load (Operand.tmp 88) 1 false)), It.mk (some 90) (some (87, true)) (IK.p (PK.fAddr (Operand.tmp 2) 5 37)), It.mk (some 91) (some (87, true)) (IK.p (PK.load (Operand.tmp 90) 1 false)), It.mk (some 92) (some (87, true)) (IK.p (PK.bin BinOp.eql (Operand.tmp 89) (Operand.tmp 91))), It.mk (some 93) none (IK.p (PK.pick (Operand.tmp 87) (Operand.tmp 92) (Operand.const (Value.bool false)))), It.mk (some 94) none (IK.p (PK.mov (Operand.tmp 93))), It.mk (some 95) (some (94, true)) (IK.p (PK.fAddr (Operand.tmp 5) 2 33)), It.mk (some 96) (some (94, true)) (IK.p (PK.load (Operand.tmp 95) 1 false)), It.mk (some 97) (some (94, true)) (IK.p (PK.bin BinOp.eql (Operand.tmp 96) (Operand.const (Value.int IntKind.i64 0)))), It.mk (some 98) none (IK.p (PK.pick (Operand.tmp 94) (Operand.tmp 97) (Operand.const (Value.bool false)))), It.mk (some 99) none (IK.p (PK.mov (Operand.tmp 98))), It.mk (some 100) (some (99, true)) (IK.p (PK.fAddr (Operand.tmp 5) 1 1)), It.mk (some 101) (some (99, true)) (IK.p (PK.load (Operand.tmp 100) 32 true)), It.mk (some 102) (some (99, true)) (IK.p (PK.bld (CV.ar IntKind.u8 32 (List.replicate 32 0)) [(0, 1), (1, 1), (2, 1), (3, 1), (4, 1), (5, 1), (6, 1), (7, 1), (8, 1), (9, 1), (10, 1), (11, 1), (12, 1), (13, 1), (14, 1), (15, 1), (16, 1), (17, 1), (18, 1), (19, 1), (20, 1), (21, 1), (22, 1), (23, 1), (24, 1), (25, 1), (26, 1), (27, 1), (28, 1), (29, 1), (30, 1), (31, 1)] [])), It.mk (some 103) (some (99, true)) (IK.p (PK.eqA false 24 (Sh.a IntKind.u8 32) (Operand.tmp 101) (Operand.tmp 102))), It.mk (some 104) none (IK.p (PK.pick (Operand.tmp 99) (Operand.tmp 103) (Operand.const (Value.bool false)))), It.mk (some 105) none (IK.p (PK.mov (Operand.tmp 104))), It.mk (some 106) (some (105, true)) (IK.p (PK.fAddr (Operand.tmp 6) 0 0)), It.mk (some 107) (some (105, true)) (IK.p (PK.load (Operand.tmp 106) 1 false)), It.mk (some 108) (some (105, true)) (IK.p (PK.len false (Operand.tmp 107))), It.mk (some 109) (some (105, true)) (IK.p (PK.bin BinOp.eql (Operand.tmp 108) (Operand.const (Value.int IntKind.i64 1)))), It.mk (some 110) none (IK.p (PK.pick (Operand.tmp 105) (Operand.tmp 109) (Operand.const (Value.bool false)))), It.mk (some 111) none (IK.p (PK.mov (Operand.tmp 110))), It.mk (some 112) (some (111, true)) (IK.p (PK.fAddr (Operand.tmp 6) 0 0)), It.mk (some 113) (some (111, true)) (IK.p (PK.load (Operand.tmp 112) 1 false)), It.mk (some 114) (some (111, true)) (IK.p (PK.iAddrS (Operand.tmp 113) (Operand.const (Value.int IntKind.i64 0)) 1)), It.mk (some 115) (some (111, true)) (IK.p (PK.load (Operand.tmp 114) 1 false)), It.mk (some 116) (some (111, true)) (IK.p (PK.mov (Operand.tmp 9))), It.mk (some 117) (some (111, true)) (IK.p (PK.bin BinOp.eql (Operand.tmp 115) (Operand.tmp 116))), It.mk (some 118) none (IK.p (PK.pick (Operand.tmp 111) (Operand.tmp 117) (Operand.const (Value.bool false)))), It.mk (some 119) none (IK.p (PK.mov (Operand.tmp 118))), It.mk (some 120) (some (119, true)) (IK.p (PK.fAddr (Operand.tmp 6) 3 34)), It.mk (some 121) (some (119, true)) (IK.p (PK.load (Operand.tmp 120) 1 false)), It.mk (some 122) (some (119, true)) (IK.p (PK.bin BinOp.eql (Operand.tmp 121) (Operand.const (Value.int IntKind.i64 0)))), It.mk (some 123) none (IK.p (PK.pick (Operand.tmp 119) (Operand.tmp 122) (Operand.const (Value.bool false)))), It.mk (some 124) none (IK.p (PK.mov (Operand.tmp 123))), It.mk (some 125) (some (124, true)) (IK.p (PK.fAddr (Operand.tmp 6) 2 33)), It.mk (some 126) (some (124, true)) (IK.p (PK.load (Operand.tmp 125) 1 false)), It.mk (some 127) (some (124, true)) (IK.p (PK.bin BinOp.eql (Operand.tmp 126) (Operand.const (Value.int IntKind.i64 0)))), It.mk (some 128) none (IK.p (PK.pick (Operand.tmp 124) (Operand.tmp 127) (Operand.const (Value.bool false)))), It.mk (some 129) none (IK.p (PK.mov (Operand.tmp 128))), It.mk (some 130) (some (129, true)) (IK.p (PK.fAddr (Operand.tmp 6) 1 1)), It.mk (some 131) (some (129, true)) (IK.p (PK.load (Operand.tmp 130) 32 true)), It.mk (some 132) (some (129, true)) (IK.p (PK.bld (CV.ar IntKind.u8 32 (List.replicate 32 0)) [(0, 1), (1, 1), (2, 1), (3, 1), (4, 1), (5, 1), (6, 1), (7, 1), (8, 1), (9, 1), (10, 1), (11, 1), (12, 1), (13, 1), (14, 1), (15, 1), (16, 1), (17, 1), (18, 1), (19, 1), (20, 1), (21, 1), (22, 1), (23, 1), (24, 1), (25, 1), (26, 1), (27, 1), (28, 1), (29, 1), (30, 1), (31, 1)] [])), It.mk (some 133) (some (129, true)) (IK.p (PK.eqA true 24 (Sh.a IntKind.u8 32) (Operand.tmp 131) (Operand.tmp 132))), It.mk (some 134) none (IK.p (PK.pick (Operand.tmp 129) (Operand.tmp 133) (Operand.const (Value.bool false)))), It.mk (some 135) none (IK.p (PK.mov (Operand.tmp 134))), It.mk (some 136) (some (135, true)) (IK.p (PK.fAddr (Operand.tmp 3) 1 1)), It.mk (some 137) (some (135, true)) (IK.p (PK.load (Operand.tmp 136) 1 false)), It.mk (some 138) (some (135, true)) (IK.p (PK.iAddrS (Operand.tmp 137) (Operand.const (Value.int IntKind.i64 1)) 2)), It.mk (some 139) (some (135, true)) (IK.p (PK.load (Operand.tmp 138) 2 true)), It.mk (some 140) (some (135, true)) (IK.p (PK.mov (Operand.tmp 9))), It.mk (some 141) (some (135, true)) (IK.call 24 [Operand.tmp 139, Operand.tmp 140]), It.mk (some 142) none (IK.p (PK.pick (Operand.tmp 135) (Operand.tmp 141) (Operand.const (Value.bool false))))] (by kernel_rfl) ?_
        refine apl_cut [It.mk (some 75) none (IK.p (PK.fAddr (Operand.tmp 5) 0 0)), It.mk (some 76) none (IK.p (PK.load (Operand.tmp 75) 1 false)), It.mk (some 77) none (IK.p (PK.len false (Operand.tmp 76))), It.mk (some 78) none (IK.p (PK.bin BinOp.eql (Operand.tmp 77) (Operand.const (Value.int IntKind.i64 1)))), It.mk (some 79) none (IK.p (PK.mov (Operand.tmp 78))), It.mk (some 80) (some (79, true)) (IK.p (PK.fAddr (Operand.tmp 5) 0 0)), It.mk (some 81) (some (79, true)) (IK.p (PK.load (Operand.tmp 80) 1 false)), It.mk (some 82) (some (79, true)) (IK.p (PK.iAddrS (Operand.tmp 81) (Operand.const (Value.int IntKind.i64 0)) 1)), It.mk (some 83) (some (79, true)) (IK.p (PK.load (Operand.tmp 82) 1 false)), It.mk (some 84) (some (79, true)) (IK.p (PK.mov (Operand.tmp 8))), It.mk (some 85) (some (79, true)) (IK.p (PK.bin BinOp.eql (Operand.tmp 83) (Operand.tmp 84))), It.mk (some 86) none (IK.p (PK.pick (Operand.tmp 79) (Operand.tmp 85) (Operand.const (Value.bool false)))), It.mk (some 87) none (IK.p (PK.mov (Operand.tmp 86))), It.mk (some 88) (some (87, true)) (IK.p (PK.fAddr (Operand.tmp 5) 3 34)), It.mk (some 89) (some (87, true)) (IK.p (PK.load (Operand.tmp 88) 1 false)), It.mk (some 90) (some (87, true)) (IK.p (PK.fAddr (Operand.tmp 2) 5 37)), It.mk (some 91) (some (87, true)) (IK.p (PK.load (Operand.tmp 90) 1 false)), It.mk (some 92) (some (87, true)) (IK.p (PK.bin BinOp.eql (Operand.tmp 89) (Operand.tmp 91))), It.mk (some 93) none (IK.p (PK.pick (Operand.tmp 87) (Operand.tmp 92) (Operand.const (Value.bool false)))), It.mk (some 94) none (IK.p (PK.mov (Operand.tmp 93))), It.mk (some 95) (some (94, true)) (IK.p (PK.fAddr (Operand.tmp 5) 2 33)), It.mk (some 96) (some (94, true)) (IK.p (PK.load (Operand.tmp 95) 1 false)), It.mk (some 97) (some (94, true)) (IK.p (PK.bin BinOp.eql (Operand.tmp 96) (Operand.const (Value.int IntKind.i64 0)))), It.mk (some 98) none (IK.p (PK.pick (Operand.tmp 94) (Operand.tmp 97) (Operand.const (Value.bool false)))), It.mk (some 99) none (IK.p (PK.mov (Operand.tmp 98))), It.mk (some 100) (some (99, true)) (IK.p (PK.fAddr (Operand.tmp 5) 1 1)), It.mk (some 101) (some (99, true)) (IK.p (PK.load (Operand.tmp 100) 32 true)), It.mk (some 102) (some (99, true)) (IK.p (PK.bld (CV.ar IntKind.u8 32 (List.replicate 32 0)) [(0, 1), (1, 1), (2, 1), (3, 1), (4, 1), (5, 1), (6, 1), (7, 1), (8, 1), (9, 1), (10, 1), (11, 1), (12, 1), (13, 1), (14, 1), (15, 1), (16, 1), (17, 1), (18, 1), (19, 1), (20, 1), (21, 1), (22, 1), (23, 1), (24, 1), (25, 1), (26, 1), (27, 1), (28, 1), (29, 1), (30, 1), (31, 1)] [])), It.mk (some 103) (some (99, true)) (IK.p (PK.eqA false 24 (Sh.a IntKind.u8 32) (Operand.tmp 101) (Operand.tmp 102))), It.mk (some 104) none (IK.p (PK.pick (Operand.tmp 99) (Operand.tmp 103) (Operand.const (Value.bool false)))), It.mk (some 105) none (IK.p (PK.mov (Operand.tmp 104))), It.mk (some 106) (some (105, true)) (IK.p (PK.fAddr (Operand.tmp 6) 0 0)), It.mk (some 107) (some (105, true)) (IK.p (PK.load (Operand.tmp 106) 1 false)), It.mk (some 108) (some (105, true)) (IK.p (PK.len false (Operand.tmp 107))), It.mk (some 109) (some (105, true)) (IK.p (PK.bin BinOp.eql (Operand.tmp 108) (Operand.const (Value.int IntKind.i64 1)))), It.mk (some 110) none (IK.p (PK.pick (Operand.tmp 105) (Operand.tmp 109) (Operand.const (Value.bool false)))), It.mk (some 111) none (IK.p (PK.mov (Operand.tmp 110))), It.mk (some 112) (some (111, true)) (IK.p (PK.fAddr (Operand.tmp 6) 0 0)), It.mk (some 113) (some (111, true)) (IK.p (PK.load (Operand.tmp 112) 1 false)), It.mk (some 114) (some (111, true)) (IK.p (PK.iAddrS (Operand.tmp 113) (Operand.const (Value.int IntKind.i64 0)) 1)), It.mk (some 115) (some (111, true)) (IK.p (PK.load (Operand.tmp 114) 1 false)), It.mk (some 116) (some (111, true)) (IK.p (PK.mov (Operand.tmp 9))), It.mk (some 117) (some (111, true)) (IK.p (PK.bin BinOp.eql (Operand.tmp 115) (Operand.tmp 116))), It.mk (some 118) none (IK.p (PK.pick (Operand.tmp 111) (Operand.tmp 117) (Operand.const (Value.bool false)))), It.mk (some 119) none (IK.p (PK.mov (Operand.tmp 118))), It.mk (some 120) (some (119, true)) (IK.p (PK.fAddr (Operand.tmp 6) 3 34)), It.mk (some 121) (some (119, true)) (IK.p (PK.load (Operand.tmp 120) 1 false)), It.mk (some 122) (some (119, true)) (IK.p (PK.bin BinOp.eql (Operand.tmp 121) (Operand.const (Value.int IntKind.i64 0)))), It.mk (some 123) none (IK.p (PK.pick (Operand.tmp 119) (Operand.tmp 122) (Operand.const (Value.bool false)))), It.mk (some 124) none (IK.p (PK.mov (Operand.tmp 123))), It.mk (some 125) (some (124, true)) (IK.p (PK.fAddr (Operand.tmp 6) 2 33)), It.mk (some 126) (some (124, true)) (IK.p (PK.load (Operand.tmp 125) 1 false)), It.mk (some 127) (some (124, true)) (IK.p (PK.bin BinOp.eql (Operand.tmp 126) (Operand.const (Value.int IntKind.i64 0)))), It.mk (some 128) none (IK.p (PK.pick (Operand.tmp 124) (Operand.tmp 127) (Operand.const (Value.bool false)))), It.mk (some 129) none (IK.p (PK.mov (Operand.tmp 128))), It.mk (some 130) (some (129, true)) (IK.p (PK.fAddr (Operand.tmp 6) 1 1)), It.mk (some 131) (some (129, true)) (IK.p (PK.load (Operand.tmp 130) 32 true)), It.mk (some 132) (some (129, true)) (IK.p (PK.bld (CV.ar IntKind.u8 32 (List.replicate 32 0)) [(0, 1), (1, 1), (2, 1), (3, 1), (4, 1), (5, 1), (6, 1), (7, 1), (8, 1), (9, 1), (10, 1), (11, 1), (12, 1), (13, 1), (14, 1), (15, 1), (16, 1), (17, 1), (18, 1), (19, 1), (20, 1), (21, 1), (22, 1), (23, 1), (24, 1), (25, 1), (26, 1), (27, 1), (28, 1), (29, 1), (30, 1), (31, 1)] [])), It.mk (some 133) (some (129, true)) (IK.p (PK.eqA true 24 (Sh.a IntKind.u8 32) (Operand.tmp 131) (Operand.tmp 132))), It.mk (some 134) none (IK.p (PK.pick (Operand.tmp 129) (Operand.tmp 133) (Operand.const (Value.bool false)))), It.mk (some 135) none (IK.p (PK.mov (Operand.tmp 134))), It.mk (some 136) (some (135, true)) (IK.p (PK.fAddr (Operand.tmp 3) 1 1)), It.mk (some 137) (some (135, true)) (IK.p (PK.load (Operand.tmp 136) 1 false)), It.mk (some 138) (some (135, true)) (IK.p (PK.iAddrS (Operand.tmp 137) (Operand.const (Value.int IntKind.i64 1)) 2)), It.mk (some 139) (some (135, true)) (IK.p (PK.load (Operand.tmp 138) 2 true)), It.mk (some 140) (some (135, true)) (IK.p (PK.mov (Operand.tmp 9)))] [It.mk (some 141) (some (135, true)) (IK.call 24 [Operand.tmp 139, Operand.tmp 140]), It.mk (some 142) none (IK.p (PK.pick (Operand.tmp 135) (Operand.tmp 141) (Operand.const (Value.bool false))))] (fun K21 hK21 => ?_)
        simp (maxSteps := 999999) (disch := omega) only [av1, av2, av3, eq_self, exists_const, forall_const, implies_true, storeOk, AS.gd, PK.more, PK.cond, PK.val, AV.get, CV.get, AV.ok, CV.ok, AV.off, CV.off, AV.set, CV.set, AV.fits, CV.fits, AV.size, AV.agg, CV.agg, AV.solid, AV.int?, AV.bool?, binOk, AV.els, CV.isByte, Sh.agg, Sh.fits, Sh.fitsL, Sh.fitsR, CV.eqv, CV.eqvs, AV.closed, rsAV, thenQ, AObj.lt, CV.numOf, Nat.reduceAdd, Nat.reduceLT, Nat.reduceMul, reduceCtorEq, ↓reduceIte, Nat.reduceEqDiff, Nat.reduceLeDiff, Nat.reduceSub, Nat.reduceBEq, Nat.reduceBNe, Int.reduceLT, Int.reduceEq, Int.reduceAdd, Int.reduceToNat, Int.reduceLE, Int.reduceBEq, Int.reduceBNe, enc1, cChan, cCSt, eqTy_Sum, eqTy_Ref, hx, hx2, ho, hi, hj]
        (repeat ((with_reducible refine And.intro ?_ ?_); (first | trivial | assumption | omega | (exact nf_imp _) | (exact fn_imp _) | (intro hq; exact ⟨hq, by omega⟩) | (simp; done) | (intro hq; simp [hq]; done) | (intro hq; refine ⟨hq, fun hq2 => ?_⟩; rw [hq, hq2]; rfl))))
        refine hK21 _ ?_
        (try clear hK21)
        refine apl_cut [It.mk (some 141) (some (135, true)) (IK.call 24 [Operand.tmp 139, Operand.tmp 140])] [It.mk (some 142) none (IK.p (PK.pick (Operand.tmp 135) (Operand.tmp 141) (Operand.const (Value.bool false))))] (fun K22 hK22 => ?_)
        simp (maxSteps := 999999) (disch := omega) only [av1, av2, av3, eq_self, exists_const, forall_const, implies_true, storeOk, AS.gd, PK.more, PK.cond, PK.val, AV.get, CV.get, AV.ok, CV.ok, AV.off, CV.off, AV.set, CV.set, AV.fits, CV.fits, AV.size, AV.agg, CV.agg, AV.solid, AV.int?, AV.bool?, binOk, AV.els, CV.isByte, Sh.agg, Sh.fits, Sh.fitsL, Sh.fitsR, CV.eqv, CV.eqvs, AV.closed, rsAV, thenQ, AObj.lt, CV.numOf, Nat.reduceAdd, Nat.reduceLT, Nat.reduceMul, reduceCtorEq, ↓reduceIte, Nat.reduceEqDiff, Nat.reduceLeDiff, Nat.reduceSub, Nat.reduceBEq, Nat.reduceBNe, Int.reduceLT, Int.reduceEq, Int.reduceAdd, Int.reduceToNat, Int.reduceLE, Int.reduceBEq, Int.reduceBNe, enc1, cChan, cCSt, eqTy_Sum, eqTy_Ref, hx, hx2, ho, hi, hj]
        apply Exists.intro
        apply And.intro
        · first | exact (lockSole_ap _ _ hb) | exact (fun _ => (lockSole_ap _ _ hb)) | exact (fun h => ⟨h, (lockSole_ap _ _ hb)⟩) | exact (fun h => ⟨by simp_all, (lockSole_ap _ _ hb)⟩)
        (try simp only [rsAV, List.map_cons, List.map_nil, thenQ])
        refine hK22 _ ?_
        (try clear hK22)
        simp (maxSteps := 999999) (disch := omega) only [av1, av2, av3, eq_self, exists_const, forall_const, implies_true, storeOk, AS.gd, PK.more, PK.cond, PK.val, AV.get, CV.get, AV.ok, CV.ok, AV.off, CV.off, AV.set, CV.set, AV.fits, CV.fits, AV.size, AV.agg, CV.agg, AV.solid, AV.int?, AV.bool?, binOk, AV.els, CV.isByte, Sh.agg, Sh.fits, Sh.fitsL, Sh.fitsR, CV.eqv, CV.eqvs, AV.closed, rsAV, thenQ, AObj.lt, CV.numOf, Nat.reduceAdd, Nat.reduceLT, Nat.reduceMul, reduceCtorEq, ↓reduceIte, Nat.reduceEqDiff, Nat.reduceLeDiff, Nat.reduceSub, Nat.reduceBEq, Nat.reduceBNe, Int.reduceLT, Int.reduceEq, Int.reduceAdd, Int.reduceToNat, Int.reduceLE, Int.reduceBEq, Int.reduceBNe, enc1, cChan, cCSt, eqTy_Sum, eqTy_Ref, hx, hx2, ho, hi, hj]
        (repeat ((with_reducible refine And.intro ?_ ?_); (first | trivial | assumption | omega | (exact nf_imp _) | (exact fn_imp _) | (intro hq; exact ⟨hq, by omega⟩) | (simp; done) | (intro hq; simp [hq]; done) | (intro hq; refine ⟨hq, fun hq2 => ?_⟩; rw [hq, hq2]; rfl))))
        refine hK20 _ ?_
        (try clear hK20)
        refine at_cond _ rfl rfl (fun h23 => ?_) (fun h23 => ?_)
        · have r23 := h23
          (try simp only [decide_eq_true_eq, decide_eq_false_iff_not, Bool.and_eq_true, Bool.or_eq_true, Bool.and_eq_false_iff, Bool.or_eq_false_iff, Bool.not_eq_true', Bool.not_eq_false', Bool.not_true, Bool.not_false, Int.not_lt, Int.not_le, Nat.not_lt, Nat.not_le, int_ofNat_lt, int_ofNat_le, beq_iff_eq, bne_iff_ne, ne_eq, gt_iff_lt, ge_iff_le, Bool.not_eq_true, beq_eq_false_iff_ne, bne_eq_false_iff_eq] at h23)
          refine at_seq fun K24 hK24 => ?_
          refine at_region [It.mk (some 143) none (IK.p (PK.mov (Operand.tmp 7))), It.mk (some 4) none (IK.p (PK.mov (Operand.tmp 143)))] (by kernel_rfl) ?_
          simp (maxSteps := 999999) (disch := omega) only [av1, av2, av3, eq_self, exists_const, forall_const, implies_true, storeOk, AS.gd, PK.more, PK.cond, PK.val, AV.get, CV.get, AV.ok, CV.ok, AV.off, CV.off, AV.set, CV.set, AV.fits, CV.fits, AV.size, AV.agg, CV.agg, AV.solid, AV.int?, AV.bool?, binOk, AV.els, CV.isByte, Sh.agg, Sh.fits, Sh.fitsL, Sh.fitsR, CV.eqv, CV.eqvs, AV.closed, rsAV, thenQ, AObj.lt, CV.numOf, Nat.reduceAdd, Nat.reduceLT, Nat.reduceMul, reduceCtorEq, ↓reduceIte, Nat.reduceEqDiff, Nat.reduceLeDiff, Nat.reduceSub, Nat.reduceBEq, Nat.reduceBNe, Int.reduceLT, Int.reduceEq, Int.reduceAdd, Int.reduceToNat, Int.reduceLE, Int.reduceBEq, Int.reduceBNe, enc1, cChan, cCSt, eqTy_Sum, eqTy_Ref, hx, hx2, ho, hi, hj]
          (repeat ((with_reducible refine And.intro ?_ ?_); (first | trivial | assumption | omega | (exact nf_imp _) | (exact fn_imp _) | (intro hq; exact ⟨hq, by omega⟩) | (simp; done) | (intro hq; simp [hq]; done) | (intro hq; refine ⟨hq, fun hq2 => ?_⟩; rw [hq, hq2]; rfl))))
          refine hK24 _ ?_
          (try clear hK24)
          refine at_ret ?_
          simp (maxSteps := 999999) (disch := omega) only [av1, av2, av3, eq_self, exists_const, forall_const, implies_true, storeOk, AS.gd, PK.more, PK.cond, PK.val, AV.get, CV.get, AV.ok, CV.ok, AV.off, CV.off, AV.set, CV.set, AV.fits, CV.fits, AV.size, AV.agg, CV.agg, AV.solid, AV.int?, AV.bool?, binOk, AV.els, CV.isByte, Sh.agg, Sh.fits, Sh.fitsL, Sh.fitsR, CV.eqv, CV.eqvs, AV.closed, rsAV, thenQ, AObj.lt, CV.numOf, Nat.reduceAdd, Nat.reduceLT, Nat.reduceMul, reduceCtorEq, ↓reduceIte, Nat.reduceEqDiff, Nat.reduceLeDiff, Nat.reduceSub, Nat.reduceBEq, Nat.reduceBNe, Int.reduceLT, Int.reduceEq, Int.reduceAdd, Int.reduceToNat, Int.reduceLE, Int.reduceBEq, Int.reduceBNe, enc1, cChan, cCSt, eqTy_Sum, eqTy_Ref, hx, hx2, ho, hi, hj, blockQ, retQ, RetOk, ResOk, AV.fin, AV.fins, CV.le, CV.les]
          first
            | (refine pv_int ?_; have e : ownAt c p q b k = true := by rw [ownAt_eq hi hj]; assumption
               exact ownerOf_hit hk.1 (by omega) hk.2 e)
            | (refine pv_int ?_; obtain rfl : k = 2 := by omega
               exact (ownerOf_none (hk.2 0 (by omega)) (hk.2 1 (by omega))).symm)
            | trace_state
        · have r23 := h23
          (try simp only [decide_eq_true_eq, decide_eq_false_iff_not, Bool.and_eq_true, Bool.or_eq_true, Bool.and_eq_false_iff, Bool.or_eq_false_iff, Bool.not_eq_true', Bool.not_eq_false', Bool.not_true, Bool.not_false, Int.not_lt, Int.not_le, Nat.not_lt, Nat.not_le, int_ofNat_lt, int_ofNat_le, beq_iff_eq, bne_iff_ne, ne_eq, gt_iff_lt, ge_iff_le, Bool.not_eq_true, beq_eq_false_iff_ne, bne_eq_false_iff_eq] at h23)
          refine at_skip ?_
          (try simp only [thenQ, blockQ])
          (try simp only [blockQ])
          refine hK17 _ ?_
          (try clear hK17)
          refine at_region [It.mk (some 144) none (IK.p (PK.bin BinOp.add (Operand.tmp 64) (Operand.const (Value.int IntKind.i64 1)))), It.mk (some 64) none (IK.p (PK.mov (Operand.tmp 144)))] (by kernel_rfl) ?_
          simp (maxSteps := 999999) (disch := omega) only [av1, av2, av3, eq_self, exists_const, forall_const, implies_true, storeOk, AS.gd, PK.more, PK.cond, PK.val, AV.get, CV.get, AV.ok, CV.ok, AV.off, CV.off, AV.set, CV.set, AV.fits, CV.fits, AV.size, AV.agg, CV.agg, AV.solid, AV.int?, AV.bool?, binOk, AV.els, CV.isByte, Sh.agg, Sh.fits, Sh.fitsL, Sh.fitsR, CV.eqv, CV.eqvs, AV.closed, rsAV, thenQ, AObj.lt, CV.numOf, Nat.reduceAdd, Nat.reduceLT, Nat.reduceMul, reduceCtorEq, ↓reduceIte, Nat.reduceEqDiff, Nat.reduceLeDiff, Nat.reduceSub, Nat.reduceBEq, Nat.reduceBNe, Int.reduceLT, Int.reduceEq, Int.reduceAdd, Int.reduceToNat, Int.reduceLE, Int.reduceBEq, Int.reduceBNe, enc1, cChan, cCSt, eqTy_Sum, eqTy_Ref, hx, hx2, ho, hi, hj]
          (repeat ((with_reducible refine And.intro ?_ ?_); (first | trivial | assumption | omega | (exact nf_imp _) | (exact fn_imp _) | (intro hq; exact ⟨hq, by omega⟩) | (simp; done) | (intro hq; simp [hq]; done) | (intro hq; refine ⟨hq, fun hq2 => ?_⟩; rw [hq, hq2]; rfl))))
          refine ⟨⟨k + 1, by omega, fun j hj => (by rcases Nat.lt_succ_iff_lt_or_eq.1 hj with h | h; exact hk.2 j h; (subst h; rw [ownAt_eq hi (by assumption)]; assumption))⟩, by (dsimp only; omega), ?_⟩
          refine Le.same rfl ?_
          (try simp (maxSteps := 999999) (disch := omega) only [av1, av2, av3, eq_self, exists_const, forall_const, implies_true, storeOk, AS.gd, PK.more, PK.cond, PK.val, AV.get, CV.get, AV.ok, CV.ok, AV.off, CV.off, AV.set, CV.set, AV.fits, CV.fits, AV.size, AV.agg, CV.agg, AV.solid, AV.int?, AV.bool?, binOk, AV.els, CV.isByte, Sh.agg, Sh.fits, Sh.fitsL, Sh.fitsR, CV.eqv, CV.eqvs, AV.closed, rsAV, thenQ, AObj.lt, CV.numOf, Nat.reduceAdd, Nat.reduceLT, Nat.reduceMul, reduceCtorEq, ↓reduceIte, Nat.reduceEqDiff, Nat.reduceLeDiff, Nat.reduceSub, Nat.reduceBEq, Nat.reduceBNe, Int.reduceLT, Int.reduceEq, Int.reduceAdd, Int.reduceToNat, Int.reduceLE, Int.reduceBEq, Int.reduceBNe, enc1, cChan, cCSt, eqTy_Sum, eqTy_Ref, hx, hx2, ho, hi, hj])
          repeat' (first | exact SubT.nil | refine SubT.cons ?_ ?_)
          all_goals (first | rfl | (simp only [look, Nat.reduceEqDiff, ↓reduceIte]; first | rfl | ((rw [wrap64 (by omega) (by omega)]; rfl))))
      · have r16 := h16
        (try simp only [decide_eq_true_eq, decide_eq_false_iff_not, Bool.and_eq_true, Bool.or_eq_true, Bool.and_eq_false_iff, Bool.or_eq_false_iff, Bool.not_eq_true', Bool.not_eq_false', Bool.not_true, Bool.not_false, Int.not_lt, Int.not_le, Nat.not_lt, Nat.not_le, int_ofNat_lt, int_ofNat_le, beq_iff_eq, bne_iff_ne, ne_eq, gt_iff_lt, ge_iff_le, Bool.not_eq_true, beq_eq_false_iff_ne, bne_eq_false_iff_eq] at h16)
        refine at_exit ?_
        simp only [thenQ, blockQ, if_true]
        refine hK12 _ ?_
        (try clear hK12)
        refine at_seq fun K25 hK25 => ?_
        refine at_region [It.mk (some 4) none (IK.p (PK.mov (Operand.const (Value.int IntKind.i64 (-1)))))] (by kernel_rfl) ?_
        simp (maxSteps := 999999) (disch := omega) only [av1, av2, av3, eq_self, exists_const, forall_const, implies_true, storeOk, AS.gd, PK.more, PK.cond, PK.val, AV.get, CV.get, AV.ok, CV.ok, AV.off, CV.off, AV.set, CV.set, AV.fits, CV.fits, AV.size, AV.agg, CV.agg, AV.solid, AV.int?, AV.bool?, binOk, AV.els, CV.isByte, Sh.agg, Sh.fits, Sh.fitsL, Sh.fitsR, CV.eqv, CV.eqvs, AV.closed, rsAV, thenQ, AObj.lt, CV.numOf, Nat.reduceAdd, Nat.reduceLT, Nat.reduceMul, reduceCtorEq, ↓reduceIte, Nat.reduceEqDiff, Nat.reduceLeDiff, Nat.reduceSub, Nat.reduceBEq, Nat.reduceBNe, Int.reduceLT, Int.reduceEq, Int.reduceAdd, Int.reduceToNat, Int.reduceLE, Int.reduceBEq, Int.reduceBNe, enc1, cChan, cCSt, eqTy_Sum, eqTy_Ref, hx, hx2, ho, hi, hj]
        (repeat ((with_reducible refine And.intro ?_ ?_); (first | trivial | assumption | omega | (exact nf_imp _) | (exact fn_imp _) | (intro hq; exact ⟨hq, by omega⟩) | (simp; done) | (intro hq; simp [hq]; done) | (intro hq; refine ⟨hq, fun hq2 => ?_⟩; rw [hq, hq2]; rfl))))
        refine hK25 _ ?_
        (try clear hK25)
        refine at_ret ?_
        simp (maxSteps := 999999) (disch := omega) only [av1, av2, av3, eq_self, exists_const, forall_const, implies_true, storeOk, AS.gd, PK.more, PK.cond, PK.val, AV.get, CV.get, AV.ok, CV.ok, AV.off, CV.off, AV.set, CV.set, AV.fits, CV.fits, AV.size, AV.agg, CV.agg, AV.solid, AV.int?, AV.bool?, binOk, AV.els, CV.isByte, Sh.agg, Sh.fits, Sh.fitsL, Sh.fitsR, CV.eqv, CV.eqvs, AV.closed, rsAV, thenQ, AObj.lt, CV.numOf, Nat.reduceAdd, Nat.reduceLT, Nat.reduceMul, reduceCtorEq, ↓reduceIte, Nat.reduceEqDiff, Nat.reduceLeDiff, Nat.reduceSub, Nat.reduceBEq, Nat.reduceBNe, Int.reduceLT, Int.reduceEq, Int.reduceAdd, Int.reduceToNat, Int.reduceLE, Int.reduceBEq, Int.reduceBNe, enc1, cChan, cCSt, eqTy_Sum, eqTy_Ref, hx, hx2, ho, hi, hj, blockQ, retQ, RetOk, ResOk, AV.fin, AV.fins, CV.le, CV.les]
        first
          | (refine pv_int ?_; have e : ownAt c p q b k = true := by rw [ownAt_eq hi hj]; assumption
             exact ownerOf_hit hk.1 (by omega) hk.2 e)
          | (refine pv_int ?_; obtain rfl : k = 2 := by omega
             exact (ownerOf_none (hk.2 0 (by omega)) (hk.2 1 (by omega))).symm)
          | trace_state
    · refine agi (it := It.mk (some 6) none (IK.alloc (CV.st [CV.pv (Value.slice none 0 0), CV.ar IntKind.u8 32 (List.replicate 32 0), CV.pv (Value.int IntKind.i64 0), CV.pv (Value.int IntKind.i64 0)]))) (R' := [13, 12, 11, 10, 9, 8, 7, 6, 5, 4, 3, 2, 1, 0]) (by kernel_rfl) (.inl rfl) (by kernel_rfl) (fun K26 hK26 => ?_)
      simp (maxSteps := 999999) (disch := omega) only [av1, av2, av3, eq_self, exists_const, forall_const, implies_true, storeOk, AS.gd, PK.more, PK.cond, PK.val, AV.get, CV.get, AV.ok, CV.ok, AV.off, CV.off, AV.set, CV.set, AV.fits, CV.fits, AV.size, AV.agg, CV.agg, AV.solid, AV.int?, AV.bool?, binOk, AV.els, CV.isByte, Sh.agg, Sh.fits, Sh.fitsL, Sh.fitsR, CV.eqv, CV.eqvs, AV.closed, rsAV, thenQ, AObj.lt, CV.numOf, Nat.reduceAdd, Nat.reduceLT, Nat.reduceMul, reduceCtorEq, ↓reduceIte, Nat.reduceEqDiff, Nat.reduceLeDiff, Nat.reduceSub, Nat.reduceBEq, Nat.reduceBNe, Int.reduceLT, Int.reduceEq, Int.reduceAdd, Int.reduceToNat, Int.reduceLE, Int.reduceBEq, Int.reduceBNe, enc1, cChan, cCSt, eqTy_Sum, eqTy_Ref, hx, hx2, ho, hi, hj]
      (repeat ((with_reducible refine And.intro ?_ ?_); (first | trivial | assumption | omega | (exact nf_imp _) | (exact fn_imp _) | (intro hq; exact ⟨hq, by omega⟩) | (simp; done) | (intro hq; simp [hq]; done) | (intro hq; refine ⟨hq, fun hq2 => ?_⟩; rw [hq, hq2]; rfl))))
      refine hK26 _ ?_
      (try clear hK26)
      refine ag_one (i := 14) (by kernel_rfl) ?_
      refine agi (it := It.mk (some 5) none (IK.alloc (CV.st [CV.pv (Value.slice none 0 0), CV.ar IntKind.u8 32 (List.replicate 32 0), CV.pv (Value.int IntKind.i64 0), CV.pv (Value.int IntKind.i64 0)]))) (R' := [13, 12, 11, 10, 9, 8, 7, 6, 5, 4, 3, 2, 1, 0]) (by kernel_rfl) (.inl rfl) (by kernel_rfl) (fun K27 hK27 => ?_)
      simp (maxSteps := 999999) (disch := omega) only [av1, av2, av3, eq_self, exists_const, forall_const, implies_true, storeOk, AS.gd, PK.more, PK.cond, PK.val, AV.get, CV.get, AV.ok, CV.ok, AV.off, CV.off, AV.set, CV.set, AV.fits, CV.fits, AV.size, AV.agg, CV.agg, AV.solid, AV.int?, AV.bool?, binOk, AV.els, CV.isByte, Sh.agg, Sh.fits, Sh.fitsL, Sh.fitsR, CV.eqv, CV.eqvs, AV.closed, rsAV, thenQ, AObj.lt, CV.numOf, Nat.reduceAdd, Nat.reduceLT, Nat.reduceMul, reduceCtorEq, ↓reduceIte, Nat.reduceEqDiff, Nat.reduceLeDiff, Nat.reduceSub, Nat.reduceBEq, Nat.reduceBNe, Int.reduceLT, Int.reduceEq, Int.reduceAdd, Int.reduceToNat, Int.reduceLE, Int.reduceBEq, Int.reduceBNe, enc1, cChan, cCSt, eqTy_Sum, eqTy_Ref, hx, hx2, ho, hi, hj]
      (repeat ((with_reducible refine And.intro ?_ ?_); (first | trivial | assumption | omega | (exact nf_imp _) | (exact fn_imp _) | (intro hq; exact ⟨hq, by omega⟩) | (simp; done) | (intro hq; simp [hq]; done) | (intro hq; refine ⟨hq, fun hq2 => ?_⟩; rw [hq, hq2]; rfl))))
      refine hK27 _ ?_
      (try clear hK27)
      refine ag_one (i := 16) (by kernel_rfl) ?_
      refine agi (it := It.mk none none (IK.store (Operand.tmp 5) (Operand.tmp 51) 35)) (R' := [13, 12, 11, 10, 9, 8, 7]) (by kernel_rfl) (.inl rfl) (by kernel_rfl) (fun K28 hK28 => ?_)
      simp (maxSteps := 999999) (disch := omega) only [av1, av2, av3, eq_self, exists_const, forall_const, implies_true, storeOk, AS.gd, PK.more, PK.cond, PK.val, AV.get, CV.get, AV.ok, CV.ok, AV.off, CV.off, AV.set, CV.set, AV.fits, CV.fits, AV.size, AV.agg, CV.agg, AV.solid, AV.int?, AV.bool?, binOk, AV.els, CV.isByte, Sh.agg, Sh.fits, Sh.fitsL, Sh.fitsR, CV.eqv, CV.eqvs, AV.closed, rsAV, thenQ, AObj.lt, CV.numOf, Nat.reduceAdd, Nat.reduceLT, Nat.reduceMul, reduceCtorEq, ↓reduceIte, Nat.reduceEqDiff, Nat.reduceLeDiff, Nat.reduceSub, Nat.reduceBEq, Nat.reduceBNe, Int.reduceLT, Int.reduceEq, Int.reduceAdd, Int.reduceToNat, Int.reduceLE, Int.reduceBEq, Int.reduceBNe, enc1, cChan, cCSt, eqTy_Sum, eqTy_Ref, hx, hx2, ho, hi, hj]
      (repeat ((with_reducible refine And.intro ?_ ?_); (first | trivial | assumption | omega | (exact nf_imp _) | (exact fn_imp _) | (intro hq; exact ⟨hq, by omega⟩) | (simp; done) | (intro hq; simp [hq]; done) | (intro hq; refine ⟨hq, fun hq2 => ?_⟩; rw [hq, hq2]; rfl))))
      refine hK28 _ ?_
      (try clear hK28)
      refine ag_one (i := 17) (by kernel_rfl) ?_
      refine agi (it := It.mk none none (IK.store (Operand.tmp 6) (Operand.tmp 58) 35)) (R' := []) (by kernel_rfl) (.inr (by kernel_rfl)) (by kernel_rfl) (fun K29 hK29 => ?_)
      simp (maxSteps := 999999) (disch := omega) only [av1, av2, av3, eq_self, exists_const, forall_const, implies_true, storeOk, AS.gd, PK.more, PK.cond, PK.val, AV.get, CV.get, AV.ok, CV.ok, AV.off, CV.off, AV.set, CV.set, AV.fits, CV.fits, AV.size, AV.agg, CV.agg, AV.solid, AV.int?, AV.bool?, binOk, AV.els, CV.isByte, Sh.agg, Sh.fits, Sh.fitsL, Sh.fitsR, CV.eqv, CV.eqvs, AV.closed, rsAV, thenQ, AObj.lt, CV.numOf, Nat.reduceAdd, Nat.reduceLT, Nat.reduceMul, reduceCtorEq, ↓reduceIte, Nat.reduceEqDiff, Nat.reduceLeDiff, Nat.reduceSub, Nat.reduceBEq, Nat.reduceBNe, Int.reduceLT, Int.reduceEq, Int.reduceAdd, Int.reduceToNat, Int.reduceLE, Int.reduceBEq, Int.reduceBNe, enc1, cChan, cCSt, eqTy_Sum, eqTy_Ref, hx, hx2, ho, hi, hj]
      (repeat ((with_reducible refine And.intro ?_ ?_); (first | trivial | assumption | omega | (exact nf_imp _) | (exact fn_imp _) | (intro hq; exact ⟨hq, by omega⟩) | (simp; done) | (intro hq; simp [hq]; done) | (intro hq; refine ⟨hq, fun hq2 => ?_⟩; rw [hq, hq2]; rfl))))
      refine hK29 _ ?_
      (try clear hK29)
      refine ag_done (by kernel_rfl) ?_
      (try simp only [thenQ])
      refine hK6 _ ?_
      (try clear hK6)
      refine at_seq fun K30 hK30 => ?_
      refine at_seq fun K31 hK31 => ?_
      refine at_region [It.mk (some 59) none (IK.p (PK.fAddr (Operand.tmp 2) 1 1)), It.mk (some 60) none (IK.p (PK.load (Operand.tmp 59) 1 false)), It.mk (some 61) none (IK.p (PK.fAddr (Operand.tmp 2) 2 2)), It.mk (some 62) none (IK.p (PK.load (Operand.tmp 61) 1 false)), It.mk (some 63) none (IK.p (PK.bld (CV.ar IntKind.i64 2 [0, 0]) [(0, 1), (1, 1)] [(0, Operand.tmp 60), (1, Operand.tmp 62)])), It.mk (some 64) none (IK.p (PK.mov (Operand.const (Value.int IntKind.i64 0))))] (by kernel_rfl) ?_
      simp (maxSteps := 999999) (disch := omega) only [av1, av2, av3, eq_self, exists_const, forall_const, implies_true, storeOk, AS.gd, PK.more, PK.cond, PK.val, AV.get, CV.get, AV.ok, CV.ok, AV.off, CV.off, AV.set, CV.set, AV.fits, CV.fits, AV.size, AV.agg, CV.agg, AV.solid, AV.int?, AV.bool?, binOk, AV.els, CV.isByte, Sh.agg, Sh.fits, Sh.fitsL, Sh.fitsR, CV.eqv, CV.eqvs, AV.closed, rsAV, thenQ, AObj.lt, CV.numOf, Nat.reduceAdd, Nat.reduceLT, Nat.reduceMul, reduceCtorEq, ↓reduceIte, Nat.reduceEqDiff, Nat.reduceLeDiff, Nat.reduceSub, Nat.reduceBEq, Nat.reduceBNe, Int.reduceLT, Int.reduceEq, Int.reduceAdd, Int.reduceToNat, Int.reduceLE, Int.reduceBEq, Int.reduceBNe, enc1, cChan, cCSt, eqTy_Sum, eqTy_Ref, hx, hx2, ho, hi, hj]
      (repeat ((with_reducible refine And.intro ?_ ?_); (first | trivial | assumption | omega | (exact nf_imp _) | (exact fn_imp _) | (intro hq; exact ⟨hq, by omega⟩) | (simp; done) | (intro hq; simp [hq]; done) | (intro hq; refine ⟨hq, fun hq2 => ?_⟩; rw [hq, hq2]; rfl))))
      refine hK31 _ ?_
      (try clear hK31)
      refine at_block ?_
      refine at_loopK [2, 3, 5, 6, 63] (fun k : { k : Nat // k ≤ 2 ∧ ∀ j, j < k → ownAt c p q b j = false } => [(64, true, bi .i64 k.1)]) (fun k => 2 - k.1) ⟨0, by omega, fun j hj => absurd hj (by omega)⟩ ?_ ?_
      · simp (maxSteps := 999999) (disch := omega) only [av1, av2, av3, eq_self, exists_const, forall_const, implies_true, storeOk, AS.gd, PK.more, PK.cond, PK.val, AV.get, CV.get, AV.ok, CV.ok, AV.off, CV.off, AV.set, CV.set, AV.fits, CV.fits, AV.size, AV.agg, CV.agg, AV.solid, AV.int?, AV.bool?, binOk, AV.els, CV.isByte, Sh.agg, Sh.fits, Sh.fitsL, Sh.fitsR, CV.eqv, CV.eqvs, AV.closed, rsAV, thenQ, AObj.lt, CV.numOf, Nat.reduceAdd, Nat.reduceLT, Nat.reduceMul, reduceCtorEq, ↓reduceIte, Nat.reduceEqDiff, Nat.reduceLeDiff, Nat.reduceSub, Nat.reduceBEq, Nat.reduceBNe, Int.reduceLT, Int.reduceEq, Int.reduceAdd, Int.reduceToNat, Int.reduceLE, Int.reduceBEq, Int.reduceBNe, enc1, cChan, cCSt, eqTy_Sum, eqTy_Ref, hx, hx2, ho, hi, hj]
        repeat' (first | exact SubT.nil | refine SubT.cons (by first | rfl | (simp [look]; done) | (fail)) ?_)
      rintro ⟨k, hk⟩; have hk2 := hk.1
      simp (maxSteps := 999999) (disch := omega) only [av1, av2, av3, eq_self, exists_const, forall_const, implies_true, storeOk, AS.gd, PK.more, PK.cond, PK.val, AV.get, CV.get, AV.ok, CV.ok, AV.off, CV.off, AV.set, CV.set, AV.fits, CV.fits, AV.size, AV.agg, CV.agg, AV.solid, AV.int?, AV.bool?, binOk, AV.els, CV.isByte, Sh.agg, Sh.fits, Sh.fitsL, Sh.fitsR, CV.eqv, CV.eqvs, AV.closed, rsAV, thenQ, AObj.lt, CV.numOf, Nat.reduceAdd, Nat.reduceLT, Nat.reduceMul, reduceCtorEq, ↓reduceIte, Nat.reduceEqDiff, Nat.reduceLeDiff, Nat.reduceSub, Nat.reduceBEq, Nat.reduceBNe, Int.reduceLT, Int.reduceEq, Int.reduceAdd, Int.reduceToNat, Int.reduceLE, Int.reduceBEq, Int.reduceBNe, enc1, cChan, cCSt, eqTy_Sum, eqTy_Ref, hx, hx2, ho, hi, hj]
      refine at_seq fun K32 hK32 => ?_
      refine at_region [It.mk (some 65) none (IK.p (PK.bin BinOp.lss (Operand.tmp 64) (Operand.const (Value.int IntKind.i64 2))))] (by kernel_rfl) ?_
      simp (maxSteps := 999999) (disch := omega) only [av1, av2, av3, eq_self, exists_const, forall_const, implies_true, storeOk, AS.gd, PK.more, PK.cond, PK.val, AV.get, CV.get, AV.ok, CV.ok, AV.off, CV.off, AV.set, CV.set, AV.fits, CV.fits, AV.size, AV.agg, CV.agg, AV.solid, AV.int?, AV.bool?, binOk, AV.els, CV.isByte, Sh.agg, Sh.fits, Sh.fitsL, Sh.fitsR, CV.eqv, CV.eqvs, AV.closed, rsAV, thenQ, AObj.lt, CV.numOf, Nat.reduceAdd, Nat.reduceLT, Nat.reduceMul, reduceCtorEq, ↓reduceIte, Nat.reduceEqDiff, Nat.reduceLeDiff, Nat.reduceSub, Nat.reduceBEq, Nat.reduceBNe, Int.reduceLT, Int.reduceEq, Int.reduceAdd, Int.reduceToNat, Int.reduceLE, Int.reduceBEq, Int.reduceBNe, enc1, cChan, cCSt, eqTy_Sum, eqTy_Ref, hx, hx2, ho, hi, hj]
      (repeat ((with_reducible refine And.intro ?_ ?_); (first | trivial | assumption | omega | (exact nf_imp _) | (exact fn_imp _) | (intro hq; exact ⟨hq, by omega⟩) | (simp; done) | (intro hq; simp [hq]; done) | (intro hq; refine ⟨hq, fun hq2 => ?_⟩; rw [hq, hq2]; rfl))))
      refine hK32 _ ?_
      (try clear hK32)
      refine at_seq fun K33 hK33 => ?_
      refine at_cond _ rfl rfl (fun h34 => ?_) (fun h34 => ?_)
      · have r34 := h34
        (try simp only [decide_eq_true_eq, decide_eq_false_iff_not, Bool.and_eq_true, Bool.or_eq_true, Bool.and_eq_false_iff, Bool.or_eq_false_iff, Bool.not_eq_true', Bool.not_eq_false', Bool.not_true, Bool.not_false, Int.not_lt, Int.not_le, Nat.not_lt, Nat.not_le, int_ofNat_lt, int_ofNat_le, beq_iff_eq, bne_iff_ne, ne_eq, gt_iff_lt, ge_iff_le, Bool.not_eq_true, beq_eq_false_iff_ne, bne_eq_false_iff_eq] at h34)
        refine at_skip ?_
        (try simp only [thenQ, blockQ])
        refine hK33 _ ?_
        (try clear hK33)
        refine at_seq fun K35 hK35 => ?_
        refine at_block ?_
        refine at_seq fun K36 hK36 => ?_
        refine at_region [It.mk (some 66) none (IK.p (PK.mov (Operand.tmp 64))), It.mk (some 67) none (IK.p (PK.idxA (Operand.tmp 63) (Operand.tmp 64) 2 1 false)), It.mk (some 7) none (IK.p (PK.mov (Operand.tmp 66))), It.mk (some 8) none (IK.p (PK.mov (Operand.tmp 67)))] (by kernel_rfl) ?_
        simp (maxSteps := 999999) (disch := omega) only [av1, av2, av3, eq_self, exists_const, forall_const, implies_true, storeOk, AS.gd, PK.more, PK.cond, PK.val, AV.get, CV.get, AV.ok, CV.ok, AV.off, CV.off, AV.set, CV.set, AV.fits, CV.fits, AV.size, AV.agg, CV.agg, AV.solid, AV.int?, AV.bool?, binOk, AV.els, CV.isByte, Sh.agg, Sh.fits, Sh.fitsL, Sh.fitsR, CV.eqv, CV.eqvs, AV.closed, rsAV, thenQ, AObj.lt, CV.numOf, Nat.reduceAdd, Nat.reduceLT, Nat.reduceMul, reduceCtorEq, ↓reduceIte, Nat.reduceEqDiff, Nat.reduceLeDiff, Nat.reduceSub, Nat.reduceBEq, Nat.reduceBNe, Int.reduceLT, Int.reduceEq, Int.reduceAdd, Int.reduceToNat, Int.reduceLE, Int.reduceBEq, Int.reduceBNe, enc1, cChan, cCSt, eqTy_Sum, eqTy_Ref, hx, hx2, ho, hi, hj]
        (repeat ((with_reducible refine And.intro ?_ ?_); (first | trivial | assumption | omega | (exact nf_imp _) | (exact fn_imp _) | (intro hq; exact ⟨hq, by omega⟩) | (simp; done) | (intro hq; simp [hq]; done) | (intro hq; refine ⟨hq, fun hq2 => ?_⟩; rw [hq, hq2]; rfl))))
        refine hK36 _ ?_
        (try clear hK36)
        refine at_seq fun K37 hK37 => ?_
        refine at_region [It.mk (some 68) none (IK.p (PK.fAddr (Operand.tmp 2) 1 1)), It.mk (some 69) none (IK.p (PK.load (Operand.tmp 68) 1 false)), It.mk (some 70) none (IK.p (PK.fAddr (Operand.tmp 2) 2 2)), It.mk (some 71) none (IK.p (PK.load (Operand.tmp 70) 1 false)), It.mk (some 72) none (IK.p (PK.bin BinOp.add (Operand.tmp 69) (Operand.tmp 71))), It.mk (some 73) none (IK.p (PK.mov (Operand.tmp 8))), It.mk (some 74) none (IK.p (PK.bin BinOp.sub (Operand.tmp 72) (Operand.tmp 73))), It.mk (some 9) none (IK.p (PK.mov (Operand.tmp 74)))] (by kernel_rfl) ?_
        simp (maxSteps := 999999) (disch := omega) only [av1, av2, av3, eq_self, exists_const, forall_const, implies_true, storeOk, AS.gd, PK.more, PK.cond, PK.val, AV.get, CV.get, AV.ok, CV.ok, AV.off, CV.off, AV.set, CV.set, AV.fits, CV.fits, AV.size, AV.agg, CV.agg, AV.solid, AV.int?, AV.bool?, binOk, AV.els, CV.isByte, Sh.agg, Sh.fits, Sh.fitsL, Sh.fitsR, CV.eqv, CV.eqvs, AV.closed, rsAV, thenQ, AObj.lt, CV.numOf, Nat.reduceAdd, Nat.reduceLT, Nat.reduceMul, reduceCtorEq, ↓reduceIte, Nat.reduceEqDiff, Nat.reduceLeDiff, Nat.reduceSub, Nat.reduceBEq, Nat.reduceBNe, Int.reduceLT, Int.reduceEq, Int.reduceAdd, Int.reduceToNat, Int.reduceLE, Int.reduceBEq, Int.reduceBNe, enc1, cChan, cCSt, eqTy_Sum, eqTy_Ref, hx, hx2, ho, hi, hj]
        (repeat ((with_reducible refine And.intro ?_ ?_); (first | trivial | assumption | omega | (exact nf_imp _) | (exact fn_imp _) | (intro hq; exact ⟨hq, by omega⟩) | (simp; done) | (intro hq; simp [hq]; done) | (intro hq; refine ⟨hq, fun hq2 => ?_⟩; rw [hq, hq2]; rfl))))
        refine hK37 _ ?_
        (try clear hK37)
        refine at_seq fun K38 hK38 => ?_
        refine at_region [It.mk (some 75) none (IK.p (PK.fAddr (Operand.tmp 5) 0 0)), It.mk (some 76) none (IK.p (PK.load (Operand.tmp 75) 1 false)), It.mk (some 77) none (IK.p (PK.len false (Operand.tmp 76))), It.mk (some 78) none (IK.p (PK.bin BinOp.eql (Operand.tmp 77) (Operand.const (Value.int IntKind.i64 1)))), It.mk (some 79) none (IK.p (PK.mov (Operand.tmp 78))), It.mk (some 80) (some (79, true)) (IK.p (PK.fAddr (Operand.tmp 5) 0 0)), It.mk (some 81) (some (79, true)) (IK.p (PK.load (Operand.tmp 80) 1 false)), It.mk (some 82) (some (79, true)) (IK.p (PK.iAddrS (Operand.tmp 81) (Operand.const (Value.int IntKind.i64 0)) 1)), It.mk (some 83) (some (79, true)) (IK.p (PK.load (Operand.tmp 82) 1 false)), It.mk (some 84) (some (79, true)) (IK.p (PK.mov (Operand.tmp 8))), It.mk (some 85) (some (79, true)) (IK.p (PK.bin BinOp.eql (Operand.tmp 83) (Operand.tmp 84))), It.mk (some 86) none (IK.p (PK.pick (Operand.tmp 79) (Operand.tmp 85) (Operand.const (Value.bool false)))), It.mk (some 87) none (IK.p (PK.mov (Operand.tmp 86))), It.mk (some 88) (some (87, true)) (IK.p (PK.fAddr (Operand.tmp 5) 3 34)), It.mk (some 89) (some (87, true)) (IK.p (PK.load (Operand.tmp 88) 1 false)), It.mk (some 90) (some (87, true)) (IK.p (PK.fAddr (Operand.tmp 2) 5 37)), It.mk (some 91) (some (87, true)) (IK.p (PK.load (Operand.tmp 90) 1 false)), It.mk (some 92) (some (87, true)) (IK.p (PK.bin BinOp.eql (Operand.tmp 89) (Operand.tmp 91))), It.mk (some 93) none (IK.p (PK.pick (Operand.tmp 87) (Operand.tmp 92) (Operand.const (Value.bool false)))), It.mk (some 94) none (IK.p (PK.mov (Operand.tmp 93))), It.mk (some 95) (some (94, true)) (IK.p (PK.fAddr (Operand.tmp 5) 2 33)), It.mk (some 96) (some (94, true)) (IK.p (PK.load (Operand.tmp 95) 1 false)), It.mk (some 97) (some (94, true)) (IK.p (PK.bin BinOp.eql (Operand.tmp 96) (Operand.const (Value.int IntKind.i64 0)))), It.mk (some 98) none (IK.p (PK.pick (Operand.tmp 94) (Operand.tmp 97) (Operand.const (Value.bool false)))), It.mk (some 99) none (IK.p (PK.mov (Operand.tmp 98))), It.mk (some 100) (some (99, true)) (IK.p (PK.fAddr (Operand.tmp 5) 1 1)), It.mk (some 101) (some (99, true)) (IK.p (PK.load (Operand.tmp 100) 32 true)), It.mk (some 102) (some (99, true)) (IK.p (PK.bld (CV.ar IntKind.u8 32 (List.replicate 32 0)) [(0, 1), (1, 1), (2, 1), (3, 1), (4, 1), (5, 1), (6, 1), (7, 1), (8, 1), (9, 1), (10, 1), (11, 1), (12, 1), (13, 1), (14, 1), (15, 1), (16, 1), (17, 1), (18, 1), (19, 1), (20, 1), (21, 1), (22, 1), (23, 1), (24, 1), (25, 1), (26, 1), (27, 1), (28, 1), (29, 1), (30, 1), (31, 1)] [])), It.mk (some 103) (some (99, true)) (IK.p (PK.eqA false 24 (Sh.a IntKind.u8 32) (Operand.tmp 101) (Operand.tmp 102))), It.mk (some 104) none (IK.p (PK.pick (Operand.tmp 99) (Operand.tmp 103) (Operand.const (Value.bool false)))), It.mk (some 105) none (IK.p (PK.mov (Operand.tmp 104))), It.mk (some 106) (some (105, true)) (IK.p (PK.fAddr (Operand.tmp 6) 0 0)), It.mk (some 107) (some (105, true)) (IK.p (PK.load (Operand.tmp 106) 1 false)), It.mk (some 108) (some (105, true)) (IK.p (PK.len false (Operand.tmp 107))), It.mk (some 109) (some (105, true)) (IK.p (PK.bin BinOp.eql (Operand.tmp 108) (Operand.const (Value.int IntKind.i64 1)))), It.mk (some 110) none (IK.p (PK.pick (Operand.tmp 105) (Operand.tmp 109) (Operand.const (Value.bool false)))), It.mk (some 111) none (IK.p (PK.mov (Operand.tmp 110))), It.mk (some 112) (some (111, true)) (IK.p (PK.fAddr (Operand.tmp 6) 0 0)), It.mk (some 113) (some (111, true)) (IK.p (PK.load (Operand.tmp 112) 1 false)), It.mk (some 114) (some (111, true)) (IK.p (PK.iAddrS (Operand.tmp 113) (Operand.const (Value.int IntKind.i64 0)) 1)), It.mk (some 115) (some (111, true)) (IK.p (PK.load (Operand.tmp 114) 1 false)), It.mk (some 116) (some (111, true)) (IK.p (PK.mov (Operand.tmp 9))), It.mk (some 117) (some (111, true)) (IK.p (PK.bin BinOp.eql (Operand.tmp 115) (Operand.tmp 116))), It.mk (some 118) none (IK.p (PK.pick (Operand.tmp 111) (Operand.tmp 117) (Operand.const (Value.bool false)))), It.mk (some 119) none (IK.p (PK.mov (Operand.tmp 118))), It.mk (some 120) (some (119, true)) (IK.p (PK.fAddr (Operand.tmp 6) 3 34)), It.mk (some 121) (some (119, true)) (IK.p (PK.load (Operand.tmp 120) 1 false)), It.mk (some 122) (some (119, true)) (IK.p (PK.bin BinOp.eql (Operand.tmp 121) (Operand.const (Value.int IntKind.i64 0)))), It.mk (some 123) none (IK.p (PK.pick (Operand.tmp 119) (Operand.tmp 122) (Operand.const (Value.bool false)))), It.mk (some 124) none (IK.p (PK.mov (Operand.tmp 123))), It.mk (some 125) (some (124, true)) (IK.p (PK.fAddr (Operand.tmp 6) 2 33)), It.mk (some 126) (some (124, true)) (IK.p (PK.load (Operand.tmp 125) 1 false)), It.mk (some 127) (some (124, true)) (IK.p (PK.bin BinOp.eql (Operand.tmp 126) (Operand.const (Value.int IntKind.i64 0)))), It.mk (some 128) none (IK.p (PK.pick (Operand.tmp 124) (Operand.tmp 127) (Operand.const (Value.bool false)))), It.mk (some 129) none (IK.p (PK.mov (Operand.tmp 128))), It.mk (some 130) (some (129, true)) (IK.p (PK.fAddr (Operand.tmp 6) 1 1)), It.mk (some 131) (some (129, true)) (IK.p (PK.load (Operand.tmp 130) 32 true)), It.mk (some 132) (some (129, true)) (IK.p (PK.bld (CV.ar IntKind.u8 32 (List.replicate 32 0)) [(0, 1), (1, 1), (2, 1), (3, 1), (4, 1), (5, 1), (6, 1), (7, 1), (8, 1), (9, 1), (10, 1), (11, 1), (12, 1), (13, 1), (14, 1), (15, 1), (16, 1), (17, 1), (18, 1), (19, 1), (20, 1), (21, 1), (22, 1), (23, 1), (24, 1), (25, 1), (26, 1), (27, 1), (28, 1), (29, 1), (30, 1), (31, 1)] [])), It.mk (some 133) (some (129, true)) (IK.p (PK.eqA true 24 (Sh.a IntKind.u8 32) (Operand.tmp 131) (Operand.tmp 132))), It.mk (some 134) none (IK.p (PK.pick (Operand.tmp 129) (Operand.tmp 133) (Operand.const (Value.bool false)))), It.mk (some 135) none (IK.p (PK.mov (Operand.tmp 134))), It.mk (some 136) (some (135, true)) (IK.p (PK.fAddr (Operand.tmp 3) 1 1)), It.mk (some 137) (some (135, true)) (IK.p (PK.load (Operand.tmp 136) 1 false)), It.mk (some 138) (some (135, true)) (IK.p (PK.iAddrS (Operand.tmp 137) (Operand.const (Value.int IntKind.i64 1)) 2)), It.mk (some 139) (some (135, true)) (IK.p (PK.load (Operand.tmp 138) 2 true)), It.mk (some 140) (some (135, true)) (IK.p (PK.mov (Operand.tmp 9))), It.mk (some 141) (some (135, true)) (IK.call 24 [Operand.tmp 139, Operand.tmp 140]), It.mk (some 142) none (IK.p (PK.pick (Operand.tmp 135) (Operand.tmp 141) (Operand.const (Value.bool false))))] (by kernel_rfl) ?_
        refine apl_cut [It.mk (some 75) none (IK.p (PK.fAddr (Operand.tmp 5) 0 0)), It.mk (some 76) none (IK.p (PK.load (Operand.tmp 75) 1 false)), It.mk (some 77) none (IK.p (PK.len false (Operand.tmp 76))), It.mk (some 78) none (IK.p (PK.bin BinOp.eql (Operand.tmp 77) (Operand.const (Value.int IntKind.i64 1)))), It.mk (some 79) none (IK.p (PK.mov (Operand.tmp 78))), It.mk (some 80) (some (79, true)) (IK.p (PK.fAddr (Operand.tmp 5) 0 0)), It.mk (some 81) (some (79, true)) (IK.p (PK.load (Operand.tmp 80) 1 false)), It.mk (some 82) (some (79, true)) (IK.p (PK.iAddrS (Operand.tmp 81) (Operand.const (Value.int IntKind.i64 0)) 1)), It.mk (some 83) (some (79, true)) (IK.p (PK.load (Operand.tmp 82) 1 false)), It.mk (some 84) (some (79, true)) (IK.p (PK.mov (Operand.tmp 8))), It.mk (some 85) (some (79, true)) (IK.p (PK.bin BinOp.eql (Operand.tmp 83) (Operand.tmp 84))), It.mk (some 86) none (IK.p (PK.pick (Operand.tmp 79) (Operand.tmp 85) (Operand.const (Value.bool false)))), It.mk (some 87) none (IK.p (PK.mov (Operand.tmp 86))), It.mk (some 88) (some (87, true)) (IK.p (PK.fAddr (Operand.tmp 5) 3 34)), It.mk (some 89) (some (87, true)) (IK.p (PK.load (Operand.tmp 88) 1 false)), It.mk (some 90) (some (87, true)) (IK.p (PK.fAddr (Operand.tmp 2) 5 37)), It.mk (some 91) (some (87, true)) (IK.p (PK.load (Operand.tmp 90) 1 false)), It.mk (some 92) (some (87, true)) (IK.p (PK.bin BinOp.eql (Operand.tmp 89) (Operand.tmp 91))), It.mk (some 93) none (IK.p (PK.pick (Operand.tmp 87) (Operand.tmp 92) (Operand.const (Value.bool false)))), It.mk (some 94) none (IK.p (PK.mov (Operand.tmp 93))), It.mk (some 95) (some (94, true)) (IK.p (PK.fAddr (Operand.tmp 5) 2 33)), It.mk (some 96) (some (94, true)) (IK.p (PK.load (Operand.tmp 95) 1 false)), It.mk (some 97) (some (94, true)) (IK.p (PK.bin BinOp.eql (Operand.tmp 96) (Operand.const (Value.int IntKind.i64 0)))), It.mk (some 98) none (IK.p (PK.pick (Operand.tmp 94) (Operand.tmp 97) (Operand.const (Value.bool false)))), It.mk (some 99) none (IK.p (PK.mov (Operand.tmp 98))), It.mk (some 100) (some (99, true)) (IK.p (PK.fAddr (Operand.tmp 5) 1 1)), It.mk (some 101) (some (99, true)) (IK.p (PK.load (Operand.tmp 100) 32 true)), It.mk (some 102) (some (99, true)) (IK.p (PK.bld (CV.ar IntKind.u8 32 (List.replicate 32 0)) [(0, 1), (1, 1), (2, 1), (3, 1), (4, 1), (5, 1), (6, 1), (7, 1), (8, 1), (9, 1), (10, 1), (11, 1), (12, 1), (13, 1), (14, 1), (15, 1), (16, 1), (17, 1), (18, 1), (19, 1), (20, 1), (21, 1), (22, 1), (23, 1), (24, 1), (25, 1), (26, 1), (27, 1), (28, 1), (29, 1), (30, 1), (31, 1)] [])), It.mk (some 103) (some (99, true)) (IK.p (PK.eqA false 24 (Sh.a IntKind.u8 32) (Operand.tmp 101) (Operand.tmp 102))), It.mk (some 104) none (IK.p (PK.pick (Operand.tmp 99) (Operand.tmp 103) (Operand.const (Value.bool false)))), It.mk (some 105) none (IK.p (PK.mov (Operand.tmp 104))), It.mk (some 106) (some (105, true)) (IK.p (PK.fAddr (Operand.tmp 6) 0 0)), It.mk (some 107) (some (105, true)) (IK.p (PK.load (Operand.tmp 106) 1 false)), It.mk (some 108) (some (105, true)) (IK.p (PK.len false (Operand.tmp 107))), It.mk (some 109) (some (105, true)) (IK.p (PK.bin BinOp.eql (Operand.tmp 108) (Operand.const (Value.int IntKind.i64 1)))), It.mk (some 110) none (IK.p (PK.pick (Operand.tmp 105) (Operand.tmp 109) (Operand.const (Value.bool false)))), It.mk (some 111) none (IK.p (PK.mov (Operand.tmp 110))), It.mk (some 112) (some (111, true)) (IK.p (PK.fAddr (Operand.tmp 6) 0 0)), It.mk (some 113) (some (111, true)) (IK.p (PK.load (Operand.tmp 112) 1 false)), It.mk (some 114) (some (111, true)) (IK.p (PK.iAddrS (Operand.tmp 113) (Operand.const (Value.int IntKind.i64 0)) 1)), It.mk (some 115) (some (111, true)) (IK.p (PK.load (Operand.tmp 114) 1 false)), It.mk (some 116) (some (111, true)) (IK.p (PK.mov (Operand.tmp 9))), It.mk (some 117) (some (111, true)) (IK.p (PK.bin BinOp.eql (Operand.tmp 115) (Operand.tmp 116))), It.mk (some 118) none (IK.p (PK.pick (Operand.tmp 111) (Operand.tmp 117) (Operand.const (Value.bool false)))), It.mk (some 119) none (IK.p (PK.mov (Operand.tmp 118))), It.mk (some 120) (some (119, true)) (IK.p (PK.fAddr (Operand.tmp 6) 3 34)), It.mk (some 121) (some (119, true)) (IK.p (PK.load (Operand.tmp 120) 1 false)), It.mk (some 122) (some (119, true)) (IK.p (PK.bin BinOp.eql (Operand.tmp 121) (Operand.const (Value.int IntKind.i64 0)))), It.mk (some 123) none (IK.p (PK.pick (Operand.tmp 119) (Operand.tmp 122) (Operand.const (Value.bool false)))), It.mk (some 124) none (IK.p (PK.mov (Operand.tmp 123))), It.mk (some 125) (some (124, true)) (IK.p (PK.fAddr (Operand.tmp 6) 2 33)), It.mk (some 126) (some (124, true)) (IK.p (PK.load (Operand.tmp 125) 1 false)), It.mk (some 127) (some (124, true)) (IK.p (PK.bin BinOp.eql (Operand.tmp 126) (Operand.const (Value.int IntKind.i64 0)))), It.mk (some 128) none (IK.p (PK.pick (Operand.tmp 124) (Operand.tmp 127) (Operand.const (Value.bool false)))), It.mk (some 129) none (IK.p (PK.mov (Operand.tmp 128))), It.mk (some 130) (some (129, true)) (IK.p (PK.fAddr (Operand.tmp 6) 1 1)), It.mk (some 131) (some (129, true)) (IK.p (PK.load (Operand.tmp 130) 32 true)), It.mk (some 132) (some (129, true)) (IK.p (PK.bld (CV.ar IntKind.u8 32 (List.replicate 32 0)) [(0, 1), (1, 1), (2, 1), (3, 1), (4, 1), (5, 1), (6, 1), (7, 1), (8, 1), (9, 1), (10, 1), (11, 1), (12, 1), (13, 1), (14, 1), (15, 1), (16, 1), (17, 1), (18, 1), (19, 1), (20, 1), (21, 1), (22, 1), (23, 1), (24, 1), (25, 1), (26, 1), (27, 1), (28, 1), (29, 1), (30, 1), (31, 1)] [])), It.mk (some 133) (some (129, true)) (IK.p (PK.eqA true 24 (Sh.a IntKind.u8 32) (Operand.tmp 131) (Operand.tmp 132))), It.mk (some 134) none (IK.p (PK.pick (Operand.tmp 129) (Operand.tmp 133) (Operand.const (Value.bool false)))), It.mk (some 135) none (IK.p (PK.mov (Operand.tmp 134))), It.mk (some 136) (some (135, true)) (IK.p (PK.fAddr (Operand.tmp 3) 1 1)), It.mk (some 137) (some (135, true)) (IK.p (PK.load (Operand.tmp 136) 1 false)), It.mk (some 138) (some (135, true)) (IK.p (PK.iAddrS (Operand.tmp 137) (Operand.const (Value.int IntKind.i64 1)) 2)), It.mk (some 139) (some (135, true)) (IK.p (PK.load (Operand.tmp 138) 2 true)), It.mk (some 140) (some (135, true)) (IK.p (PK.mov (Operand.tmp 9)))] [It.mk (some 141) (some (135, true)) (IK.call 24 [Operand.tmp 139, Operand.tmp 140]), It.mk (some 142) none (IK.p (PK.pick (Operand.tmp 135) (Operand.tmp 141) (Operand.const (Value.bool false))))] (fun K39 hK39 => ?_)
        simp (maxSteps := 999999) (disch := omega) only [av1, av2, av3, eq_self, exists_const, forall_const, implies_true, storeOk, AS.gd, PK.more, PK.cond, PK.val, AV.get, CV.get, AV.ok, CV.ok, AV.off, CV.off, AV.set, CV.set, AV.fits, CV.fits, AV.size, AV.agg, CV.agg, AV.solid, AV.int?, AV.bool?, binOk, AV.els, CV.isByte, Sh.agg, Sh.fits, Sh.fitsL, Sh.fitsR, CV.eqv, CV.eqvs, AV.closed, rsAV, thenQ, AObj.lt, CV.numOf, Nat.reduceAdd, Nat.reduceLT, Nat.reduceMul, reduceCtorEq, ↓reduceIte, Nat.reduceEqDiff, Nat.reduceLeDiff, Nat.reduceSub, Nat.reduceBEq, Nat.reduceBNe, Int.reduceLT, Int.reduceEq, Int.reduceAdd, Int.reduceToNat, Int.reduceLE, Int.reduceBEq, Int.reduceBNe, enc1, cChan, cCSt, eqTy_Sum, eqTy_Ref, hx, hx2, ho, hi, hj]
        (repeat ((with_reducible refine And.intro ?_ ?_); (first | trivial | assumption | omega | (exact nf_imp _) | (exact fn_imp _) | (intro hq; exact ⟨hq, by omega⟩) | (simp; done) | (intro hq; simp [hq]; done) | (intro hq; refine ⟨hq, fun hq2 => ?_⟩; rw [hq, hq2]; rfl))))
        refine hK39 _ ?_
        (try clear hK39)
        refine apl_cut [It.mk (some 141) (some (135, true)) (IK.call 24 [Operand.tmp 139, Operand.tmp 140])] [It.mk (some 142) none (IK.p (PK.pick (Operand.tmp 135) (Operand.tmp 141) (Operand.const (Value.bool false))))] (fun K40 hK40 => ?_)
        simp (maxSteps := 999999) (disch := omega) only [av1, av2, av3, eq_self, exists_const, forall_const, implies_true, storeOk, AS.gd, PK.more, PK.cond, PK.val, AV.get, CV.get, AV.ok, CV.ok, AV.off, CV.off, AV.set, CV.set, AV.fits, CV.fits, AV.size, AV.agg, CV.agg, AV.solid, AV.int?, AV.bool?, binOk, AV.els, CV.isByte, Sh.agg, Sh.fits, Sh.fitsL, Sh.fitsR, CV.eqv, CV.eqvs, AV.closed, rsAV, thenQ, AObj.lt, CV.numOf, Nat.reduceAdd, Nat.reduceLT, Nat.reduceMul, reduceCtorEq, ↓reduceIte, Nat.reduceEqDiff, Nat.reduceLeDiff, Nat.reduceSub, Nat.reduceBEq, Nat.reduceBNe, Int.reduceLT, Int.reduceEq, Int.reduceAdd, Int.reduceToNat, Int.reduceLE, Int.reduceBEq, Int.reduceBNe, enc1, cChan, cCSt, eqTy_Sum, eqTy_Ref, hx, hx2, ho, hi, hj]
        apply Exists.intro
        apply And.intro
        · first | exact (lockSole_ap _ _ hb) | exact (fun _ => (lockSole_ap _ _ hb)) | exact (fun h => ⟨h, (lockSole_ap _ _ hb)⟩) | exact (fun h => ⟨by simp_all, (lockSole_ap _ _ hb)⟩)
        (try simp only [rsAV, List.map_cons, List.map_nil, thenQ])
        refine hK40 _ ?_
        (try clear hK40)
        simp (maxSteps := 999999) (disch := omega) only [av1, av2, av3, eq_self, exists_const, forall_const, implies_true, storeOk, AS.gd, PK.more, PK.cond, PK.val, AV.get, CV.get, AV.ok, CV.ok, AV.off, CV.off, AV.set, CV.set, AV.fits, CV.fits, AV.size, AV.agg, CV.agg, AV.solid, AV.int?, AV.bool?, binOk, AV.els, CV.isByte, Sh.agg, Sh.fits, Sh.fitsL, Sh.fitsR, CV.eqv, CV.eqvs, AV.closed, rsAV, thenQ, AObj.lt, CV.numOf, Nat.reduceAdd, Nat.reduceLT, Nat.reduceMul, reduceCtorEq, ↓reduceIte, Nat.reduceEqDiff, Nat.reduceLeDiff, Nat.reduceSub, Nat.reduceBEq, Nat.reduceBNe, Int.reduceLT, Int.reduceEq, Int.reduceAdd, Int.reduceToNat, Int.reduceLE, Int.reduceBEq, Int.reduceBNe, enc1, cChan, cCSt, eqTy_Sum, eqTy_Ref, hx, hx2, ho, hi, hj]
        (repeat ((with_reducible refine And.intro ?_ ?_); (first | trivial | assumption | omega | (exact nf_imp _) | (exact fn_imp _) | (intro hq; exact ⟨hq, by omega⟩) | (simp; done) | (intro hq; simp [hq]; done) | (intro hq; refine ⟨hq, fun hq2 => ?_⟩; rw [hq, hq2]; rfl))))
        refine hK38 _ ?_
        (try clear hK38)
        refine at_cond _ rfl rfl (fun h41 => ?_) (fun h41 => ?_)
        · have r41 := h41
          (try simp only [decide_eq_true_eq, decide_eq_false_iff_not, Bool.and_eq_true, Bool.or_eq_true, Bool.and_eq_false_iff, Bool.or_eq_false_iff, Bool.not_eq_true', Bool.not_eq_false', Bool.not_true, Bool.not_false, Int.not_lt, Int.not_le, Nat.not_lt, Nat.not_le, int_ofNat_lt, int_ofNat_le, beq_iff_eq, bne_iff_ne, ne_eq, gt_iff_lt, ge_iff_le, Bool.not_eq_true, beq_eq_false_iff_ne, bne_eq_false_iff_eq] at h41)
          refine at_seq fun K42 hK42 => ?_
          refine at_region [It.mk (some 143) none (IK.p (PK.mov (Operand.tmp 7))), It.mk (some 4) none (IK.p (PK.mov (Operand.tmp 143)))] (by kernel_rfl) ?_
          simp (maxSteps := 999999) (disch := omega) only [av1, av2, av3, eq_self, exists_const, forall_const, implies_true, storeOk, AS.gd, PK.more, PK.cond, PK.val, AV.get, CV.get, AV.ok, CV.ok, AV.off, CV.off, AV.set, CV.set, AV.fits, CV.fits, AV.size, AV.agg, CV.agg, AV.solid, AV.int?, AV.bool?, binOk, AV.els, CV.isByte, Sh.agg, Sh.fits, Sh.fitsL, Sh.fitsR, CV.eqv, CV.eqvs, AV.closed, rsAV, thenQ, AObj.lt, CV.numOf, Nat.reduceAdd, Nat.reduceLT, Nat.reduceMul, reduceCtorEq, ↓reduceIte, Nat.reduceEqDiff, Nat.reduceLeDiff, Nat.reduceSub, Nat.reduceBEq, Nat.reduceBNe, Int.reduceLT, Int.reduceEq, Int.reduceAdd, Int.reduceToNat, Int.reduceLE, Int.reduceBEq, Int.reduceBNe, enc1, cChan, cCSt, eqTy_Sum, eqTy_Ref, hx, hx2, ho, hi, hj]
          (repeat ((with_reducible refine And.intro ?_ ?_); (first | trivial | assumption | omega | (exact nf_imp _) | (exact fn_imp _) | (intro hq; exact ⟨hq, by omega⟩) | (simp; done) | (intro hq; simp [hq]; done) | (intro hq; refine ⟨hq, fun hq2 => ?_⟩; rw [hq, hq2]; rfl))))
          refine hK42 _ ?_
          (try clear hK42)
          refine at_ret ?_
          simp (maxSteps := 999999) (disch := omega) only [av1, av2, av3, eq_self, exists_const, forall_const, implies_true, storeOk, AS.gd, PK.more, PK.cond, PK.val, AV.get, CV.get, AV.ok, CV.ok, AV.off, CV.off, AV.set, CV.set, AV.fits, CV.fits, AV.size, AV.agg, CV.agg, AV.solid, AV.int?, AV.bool?, binOk, AV.els, CV.isByte, Sh.agg, Sh.fits, Sh.fitsL, Sh.fitsR, CV.eqv, CV.eqvs, AV.closed, rsAV, thenQ, AObj.lt, CV.numOf, Nat.reduceAdd, Nat.reduceLT, Nat.reduceMul, reduceCtorEq, ↓reduceIte, Nat.reduceEqDiff, Nat.reduceLeDiff, Nat.reduceSub, Nat.reduceBEq, Nat.reduceBNe, Int.reduceLT, Int.reduceEq, Int.reduceAdd, Int.reduceToNat, Int.reduceLE, Int.reduceBEq, Int.reduceBNe, enc1, cChan, cCSt, eqTy_Sum, eqTy_Ref, hx, hx2, ho, hi, hj, blockQ, retQ, RetOk, ResOk, AV.fin, AV.fins, CV.le, CV.les]
          first
            | (refine pv_int ?_; have e : ownAt c p q b k = true := by rw [ownAt_eq hi hj]; assumption
               exact ownerOf_hit hk.1 (by omega) hk.2 e)
            | (refine pv_int ?_; obtain rfl : k = 2 := by omega
               exact (ownerOf_none (hk.2 0 (by omega)) (hk.2 1 (by omega))).symm)
            | trace_state
        · have r41 := h41
          (try simp only [decide_eq_true_eq, decide_eq_false_iff_not, Bool.and_eq_true, Bool.or_eq_true, Bool.and_eq_false_iff, Bool.or_eq_false_iff, Bool.not_eq_true', Bool.not_eq_false', Bool.not_true, Bool.not_false, Int.not_lt, Int.not_le, Nat.not_lt, Nat.not_le, int_ofNat_lt, int_ofNat_le, beq_iff_eq, bne_iff_ne, ne_eq, gt_iff_lt, ge_iff_le, Bool.not_eq_true, beq_eq_false_iff_ne, bne_eq_false_iff_eq] at h41)
          refine at_skip ?_
          (try simp only [thenQ, blockQ])
          (try simp only [blockQ])
          refine hK35 _ ?_
          (try clear hK35)
          refine at_region [It.mk (some 144) none (IK.p (PK.bin BinOp.add (Operand.tmp 64) (Operand.const (Value.int IntKind.i64 1)))), It.mk (some 64) none (IK.p (PK.mov (Operand.tmp 144)))] (by kernel_rfl) ?_
          simp (maxSteps := 999999) (disch := omega) only [av1, av2, av3, eq_self, exists_const, forall_const, implies_true, storeOk, AS.gd, PK.more, PK.cond, PK.val, AV.get, CV.get, AV.ok, CV.ok, AV.off, CV.off, AV.set, CV.set, AV.fits, CV.fits, AV.size, AV.agg, CV.agg, AV.solid, AV.int?, AV.bool?, binOk, AV.els, CV.isByte, Sh.agg, Sh.fits, Sh.fitsL, Sh.fitsR, CV.eqv, CV.eqvs, AV.closed, rsAV, thenQ, AObj.lt, CV.numOf, Nat.reduceAdd, Nat.reduceLT, Nat.reduceMul, reduceCtorEq, ↓reduceIte, Nat.reduceEqDiff, Nat.reduceLeDiff, Nat.reduceSub, Nat.reduceBEq, Nat.reduceBNe, Int.reduceLT, Int.reduceEq, Int.reduceAdd, Int.reduceToNat, Int.reduceLE, Int.reduceBEq, Int.reduceBNe, enc1, cChan, cCSt, eqTy_Sum, eqTy_Ref, hx, hx2, ho, hi, hj]
          (repeat ((with_reducible refine And.intro ?_ ?_); (first | trivial | assumption | omega | (exact nf_imp _) | (exact fn_imp _) | (intro hq; exact ⟨hq, by omega⟩) | (simp; done) | (intro hq; simp [hq]; done) | (intro hq; refine ⟨hq, fun hq2 => ?_⟩; rw [hq, hq2]; rfl))))
          refine ⟨⟨k + 1, by omega, fun j hj => (by rcases Nat.lt_succ_iff_lt_or_eq.1 hj with h | h; exact hk.2 j h; (subst h; rw [ownAt_eq hi (by assumption)]; assumption))⟩, by (dsimp only; omega), ?_⟩
          refine Le.same rfl ?_
          (try simp (maxSteps := 999999) (disch := omega) only [av1, av2, av3, eq_self, exists_const, forall_const, implies_true, storeOk, AS.gd, PK.more, PK.cond, PK.val, AV.get, CV.get, AV.ok, CV.ok, AV.off, CV.off, AV.set, CV.set, AV.fits, CV.fits, AV.size, AV.agg, CV.agg, AV.solid, AV.int?, AV.bool?, binOk, AV.els, CV.isByte, Sh.agg, Sh.fits, Sh.fitsL, Sh.fitsR, CV.eqv, CV.eqvs, AV.closed, rsAV, thenQ, AObj.lt, CV.numOf, Nat.reduceAdd, Nat.reduceLT, Nat.reduceMul, reduceCtorEq, ↓reduceIte, Nat.reduceEqDiff, Nat.reduceLeDiff, Nat.reduceSub, Nat.reduceBEq, Nat.reduceBNe, Int.reduceLT, Int.reduceEq, Int.reduceAdd, Int.reduceToNat, Int.reduceLE, Int.reduceBEq, Int.reduceBNe, enc1, cChan, cCSt, eqTy_Sum, eqTy_Ref, hx, hx2, ho, hi, hj])
          repeat' (first | exact SubT.nil | refine SubT.cons ?_ ?_)
          all_goals (first | rfl | (simp only [look, Nat.reduceEqDiff, ↓reduceIte]; first | rfl | ((rw [wrap64 (by omega) (by omega)]; rfl))))
      · have r34 := h34
        (try simp only [decide_eq_true_eq, decide_eq_false_iff_not, Bool.and_eq_true, Bool.or_eq_true, Bool.and_eq_false_iff, Bool.or_eq_false_iff, Bool.not_eq_true', Bool.not_eq_false', Bool.not_true, Bool.not_false, Int.not_lt, Int.not_le, Nat.not_lt, Nat.not_le, int_ofNat_lt, int_ofNat_le, beq_iff_eq, bne_iff_ne, ne_eq, gt_iff_lt, ge_iff_le, Bool.not_eq_true, beq_eq_false_iff_ne, bne_eq_false_iff_eq] at h34)
        refine at_exit ?_
        simp only [thenQ, blockQ, if_true]
        refine hK30 _ ?_
        (try clear hK30)
        refine at_seq fun K43 hK43 => ?_
        refine at_region [It.mk (some 4) none (IK.p (PK.mov (Operand.const (Value.int IntKind.i64 (-1)))))] (by kernel_rfl) ?_
        simp (maxSteps := 999999) (disch := omega) only [av1, av2, av3, eq_self, exists_const, forall_const, implies_true, storeOk, AS.gd, PK.more, PK.cond, PK.val, AV.get, CV.get, AV.ok, CV.ok, AV.off, CV.off, AV.set, CV.set, AV.fits, CV.fits, AV.size, AV.agg, CV.agg, AV.solid, AV.int?, AV.bool?, binOk, AV.els, CV.isByte, Sh.agg, Sh.fits, Sh.fitsL, Sh.fitsR, CV.eqv, CV.eqvs, AV.closed, rsAV, thenQ, AObj.lt, CV.numOf, Nat.reduceAdd, Nat.reduceLT, Nat.reduceMul, reduceCtorEq, ↓reduceIte, Nat.reduceEqDiff, Nat.reduceLeDiff, Nat.reduceSub, Nat.reduceBEq, Nat.reduceBNe, Int.reduceLT, Int.reduceEq, Int.reduceAdd, Int.reduceToNat, Int.reduceLE, Int.reduceBEq, Int.reduceBNe, enc1, cChan, cCSt, eqTy_Sum, eqTy_Ref, hx, hx2, ho, hi, hj]
        (repeat ((with_reducible refine And.intro ?_ ?_); (first | trivial | assumption | omega | (exact nf_imp _) | (exact fn_imp _) | (intro hq; exact ⟨hq, by omega⟩) | (simp; done) | (intro hq; simp [hq]; done) | (intro hq; refine ⟨hq, fun hq2 => ?_⟩; rw [hq, hq2]; rfl))))
        refine hK43 _ ?_
        (try clear hK43)
        refine at_ret ?_
        simp (maxSteps := 999999) (disch := omega) only [av1, av2, av3, eq_self, exists_const, forall_const, implies_true, storeOk, AS.gd, PK.more, PK.cond, PK.val, AV.get, CV.get, AV.ok, CV.ok, AV.off, CV.off, AV.set, CV.set, AV.fits, CV.fits, AV.size, AV.agg, CV.agg, AV.solid, AV.int?, AV.bool?, binOk, AV.els, CV.isByte, Sh.agg, Sh.fits, Sh.fitsL, Sh.fitsR, CV.eqv, CV.eqvs, AV.closed, rsAV, thenQ, AObj.lt, CV.numOf, Nat.reduceAdd, Nat.reduceLT, Nat.reduceMul, reduceCtorEq, ↓reduceIte, Nat.reduceEqDiff, Nat.reduceLeDiff, Nat.reduceSub, Nat.reduceBEq, Nat.reduceBNe, Int.reduceLT, Int.reduceEq, Int.reduceAdd, Int.reduceToNat, Int.reduceLE, Int.reduceBEq, Int.reduceBNe, enc1, cChan, cCSt, eqTy_Sum, eqTy_Ref, hx, hx2, ho, hi, hj, blockQ, retQ, RetOk, ResOk, AV.fin, AV.fins, CV.le, CV.les]
        first
          | (refine pv_int ?_; have e : ownAt c p q b k = true := by rw [ownAt_eq hi hj]; assumption
             exact ownerOf_hit hk.1 (by omega) hk.2 e)
          | (refine pv_int ?_; obtain rfl : k = 2 := by omega
             exact (ownerOf_none (hk.2 0 (by omega)) (hk.2 1 (by omega))).symm)
          | trace_state
end Go.Proofs.Ytcghjnegaiiieaa

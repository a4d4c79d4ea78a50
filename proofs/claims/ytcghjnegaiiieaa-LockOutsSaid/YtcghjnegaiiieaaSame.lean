/- Outs that are alike (layer 7): the program's word. -/
import Derived.Test.YtcghjnegaiiieaaLock6
import Derived.Test.YtcghjnegaiiieaaRout
import Derived.Test.YtcghjnegaiiieaaRead
namespace Go.Proofs.Ytcghjnegaiiieaa
open Go.RowKit
set_option maxRecDepth 100000 in
set_option maxHeartbeats 8000000 in
theorem equal_ints (A B : Option Addr) (c d : Nat) (xs ys : List Int) (F : Nat → Prop) (w : World) (hx : Ints w F .i64 A c xs) (hy : Ints w F .i64 B d ys) :
    Calls Try.prog 89 #[.slice A xs.length c, .slice B ys.length d] w fun e w' => e = .returned (.bool (xs == ys)) ∧ Kept Nob w w' := by
  have HX := hidden hx
  have HY := hidden hy
  have l1 := hx.le
  have l2 := hx.max
  have l3 := hy.le
  have l4 := hy.max
  unfold maxLen at l2 l4
  clear hx hy
  by_cases hl : xs.length = ys.length
  · have e3 : ((xs.length : Int) != (ys.length : Int)) = false := by simp [hl]
    have HL := hidden hl
    clear hl
    go_enter Try.func89, Try.ntmps89
    go_wp2
    go_loopw [5, 13] (fun _ i wr => ∃ j : Nat, j ≤ xs.length ∧ i = .int .i64 j ∧ (xs.drop j == ys.drop j) = (xs == ys) ∧ Still w wr) (fun _ i _ => xs.length - (intOf i).toNat)
    case atStart => exact ⟨0, Nat.zero_le _, rfl, rfl, Still.refl _⟩
    case round =>
      obtain ⟨j, hj, rfl, he, hst⟩ := hrel
      have HE := hidden he
      have HST := hidden hst
      clear he hst
      by_cases hlt : j < xs.length
      · have hlt4 : j < ys.length := by rw [← HL.out]; exact hlt
        obtain ⟨kx, rfl, c1⟩ := HX.out.rd j hlt
        obtain ⟨ky, rfl, c2⟩ := HY.out.rd j hlt4
        have c1 := (HST.out.cell _).trans c1
        have c2 := (HST.out.cell _).trans c2
        have HEQ := hidden (eq_drop xs ys j hlt hlt4)
        generalize xs.getD j 0 = zx at c1 HEQ
        generalize ys.getD j 0 = zy at c2 HEQ
        by_cases hzz : zx = zy
        · have ez : (zx != zy) = false := by simp [hzz]
          have HZZ : Hid ((zx == zy) = true) := hidden (by simp [hzz])
          clear hzz
          go_wp2
          ((refine wp_region_quiet_lit (by kernel_rfl) (by kernel_rfl) ?_); (repeat (any_goals (first | go_big_quiet_step (fail) | quiet_step (fail) | (refine wpQuiet_step (fun K hK => ?_); go_simp; split <;> (refine hK _ ?_; clear hK K))))); (all_goals (refine wpQuiet_nil ?_; intro _ hw'; obtain ⟨nq, hw''⟩ := hw'; subst hw'')))
          go_wp2
          go_roundw
          case rel => exact ⟨j + 1, by omega, by go_num, by rw [← HE.out, HEQ.out, HZZ.out]; rfl, HST.out.drewN _⟩
          case measure => simp [intOf]; omega
        · have ez : (zx != zy) = true := by simp [hzz]
          have hz2 : (zx == zy) = false := by simpa using hzz
          have HFV : Hid ((xs == ys) = false) := hidden (by rw [← HE.out, HEQ.out, hz2]; rfl)
          clear hzz hz2
          go_wp2
          ((refine wp_region_quiet_lit (by kernel_rfl) (by kernel_rfl) ?_); (repeat (any_goals (first | go_big_quiet_step (fail) | quiet_step (fail) | (refine wpQuiet_step (fun K hK => ?_); go_simp; split <;> (refine hK _ ?_; clear hK K))))); (all_goals (refine wpQuiet_nil ?_; intro _ hw'; obtain ⟨nq, hw''⟩ := hw'; subst hw'')))
          go_wp2
          go_ret
          exact ⟨ret_bool HFV.out.symm, Kept.still (HST.out.drewN _)⟩
      · obtain rfl : j = xs.length := by omega
        have HT : Hid ((xs == ys) = true) := hidden (by rw [← HE.out, List.drop_length, List.drop_eq_nil_of_le (by rw [HL.out]; omega)]; rfl)
        go_wp2
        go_ret
        exact ⟨ret_bool HT.out.symm, Kept.still HST.out⟩
  · have e3 : ((xs.length : Int) != (ys.length : Int)) = true := by rw [bne_iff_ne]; omega
    have HF : Hid ((xs == ys) = false) := hidden (by
      cases hb : (xs == ys) with
      | false => rfl
      | true => exact absurd (by rw [eq_of_beq hb]) hl)
    clear hl
    go_enter Try.func89, Try.ntmps89
    go_wp2
    go_ret
    exact ⟨ret_bool HF.out.symm, Kept.refl _ _⟩
set_option maxRecDepth 100000 in
set_option maxHeartbeats 8000000 in
theorem same_way (x y : Way) (cs ds : List Value) (F : Nat → Prop) (w : World) (hx : RWay w F cs x) (hy : RWay w F ds y) :
    Calls Try.prog 88 #[.agg cs.toArray, .agg ds.toArray] w fun e w' => e = .returned (.bool (sameWay x y)) ∧ Kept Nob w w' := by
  obtain ⟨A, c, rfl, ix, okx⟩ := hx.open_
  obtain ⟨B, d, rfl, iy, oky⟩ := hy.open_
  obtain ⟨W, hW⟩ : ∃ W, (w.alloc (.cells (wayCells A c x).toArray 26)).alloc (.cells (wayCells B d y).toArray 26) = W := ⟨_, rfl⟩
  have hK : Kept Nob w W := by rw [← hW]; exact (by repeat (first | exact Kept.refl _ _ | apply Kept.alloc | apply Kept.drewN | apply Kept.drew))
  have hb0 : W.heap[w.heap.size]? = some (.cells (wayCells A c x).toArray 26 (0, 0)) := by rw [← hW]; exact blk_alloc (heap_alloc_new _ _) _
  have hb1 : W.heap[w.heap.size + 1]? = some (.cells (wayCells B d y).toArray 26 (0, 0)) := by rw [← hW]; exact blk_new_at (by simp)
  have x0 := row0 hb0
  have y0 := row0 hb1
  have HK := hidden hK
  have HEQ := hidden (equal_ints A B c d x.keys y.keys F W (ix.keep hK (fun _ _ h => h)) (iy.keep hK (fun _ _ h => h)))
  have HB0 := hidden hb0
  have HB1 := hidden hb1
  have OKX := hidden okx
  have OKY := hidden oky
  have HSW : Hid (sameWay x y = ((x.keys == y.keys) && (x.hash == y.hash) && (x.after == y.after) && (x.wait == y.wait))) := hidden (by
    unfold sameWay
    cases (x.keys == y.keys) <;> cases (x.hash == y.hash) <;> cases (x.after == y.after) <;> cases (x.wait == y.wait) <;> rfl)
  have eqh := eqlSum x.hash y.hash okx.hl oky.hl
  rw [HSW.out]
  clear hx hy ix iy okx oky hb0 hb1 hK HSW
  generalize (x.keys == y.keys) = b1 at *
  generalize (x.hash == y.hash) = b2 at *
  obtain ⟨b3, h3⟩ : ∃ b, (x.after == y.after) = b := ⟨_, rfl⟩
  obtain ⟨b4, h4⟩ : ∃ b, (x.wait == y.wait) = b := ⟨_, rfl⟩
  rw [h3, h4]
  cases b1
  · go_enter Try.func88, Try.ntmps88
    go_wp2_with (go_at_call 89; (with_reducible refine HEQ.out.mono ?_); rintro e w2 ⟨rfl, hk2⟩; have HK2 := hidden hk2; clear hk2; dsimp only)
    go_ret
    exact ⟨rfl, HK.out.trans HK2.out⟩
  · cases b2 <;> cases b3 <;> cases b4
    all_goals
      go_enter Try.func88, Try.ntmps88
      go_wp2_with (first
        | (go_at_call 89; (with_reducible refine HEQ.out.mono ?_); rintro e w2 ⟨rfl, hk2⟩; have r0 := hk2.blk HB0.out (fun h => h); have r1 := hk2.blk HB1.out (fun h => h); have x33 := row33 r0 OKX.out; have x34 := row34 r0 OKX.out; have y33 := row33 r1 OKY.out; have y34 := row34 r1 OKY.out; have HH0 := hidden (row_hash r0 OKX.out); have HH1 := hidden (row_hash r1 OKY.out); have HK2 := hidden hk2; clear hk2 r0 r1; dsimp only)
        | ((with_reducible refine load_lit aggSum (.tmp 11) ⟨w.heap.size, 1, none⟩ (nums .u8 x.hash) ?_ ?_ ?_ ?_ ?_); rfl; rfl; exact (nums_length _ _).trans OKX.out.hl; exact HH0.out)
        | ((with_reducible refine load_lit aggSum (.tmp 13) ⟨w.heap.size + 1, 1, none⟩ (nums .u8 y.hash) ?_ ?_ ?_ ?_ ?_); rfl; rfl; exact (nums_length _ _).trans OKY.out.hl; exact HH1.out))
      go_ret
      exact ⟨rfl, HK.out.trans HK2.out⟩
set_option maxRecDepth 100000 in
set_option maxHeartbeats 8000000 in
theorem equalFunc_ways (A B : Option Addr) (c d : Nat) (xs ys : List Way) (F : Nat → Prop) (w : World) (hx : Ways w F A c xs) (hy : Ways w F B d ys) :
    Calls Try.prog 87 #[.slice A xs.length c, .slice B ys.length d, .func (.func 88) #[] #[]] w fun e w' => e = .returned (.bool (sameWays xs ys)) ∧ Kept Nob w w' := by
  have HX := hidden hx
  have HY := hidden hy
  have l1 := hx.le
  have l2 := hx.max
  have l3 := hy.le
  have l4 := hy.max
  unfold maxLen at l2 l4
  clear hx hy
  by_cases hl : xs.length = ys.length
  · have e3 : ((xs.length : Int) != (ys.length : Int)) = false := by simp [hl]
    have HL := hidden hl
    clear hl
    go_enter Try.func87, Try.ntmps87
    go_wp2
    go_loopw [7, 8, 9, 17] (fun _ _ _ i wr => ∃ j : Nat, j ≤ xs.length ∧ i = .int .i64 j ∧ sameWays (xs.drop j) (ys.drop j) = sameWays xs ys ∧ Kept Nob w wr) (fun _ _ _ i _ => xs.length - (intOf i).toNat)
    case atStart => exact ⟨0, Nat.zero_le _, rfl, rfl, Kept.refl _ _⟩
    case round =>
      obtain ⟨j, hj, rfl, he, hkp⟩ := hrel
      have HE := hidden he
      have HKP := hidden hkp
      clear he hkp
      by_cases hlt : j < xs.length
      · have hlt2 : j < ys.length := by rw [← HL.out]; exact hlt
        obtain ⟨ax, es, rfl, hex, hcx, hrx⟩ := (HX.out.keep HKP.out (fun _ _ h => h)).cells j hlt
        obtain ⟨ay, ds, rfl, hey, hcy, hry⟩ := (HY.out.keep HKP.out (fun _ _ h => h)).cells j hlt2
        have HSD := hidden (sameWays_drop xs ys j hlt hlt2)
        generalize xs[j] = x at *
        generalize ys[j] = y at *
        have HEX := hidden hex
        have HEY := hidden hey
        have HCX := hidden hcx
        have HCY := hidden hcy
        have H1X := hidden (RWay.good.one hrx)
        have H1Y := hidden (RWay.good.one hry)
        have HRX := hidden hrx
        have HRY := hidden hry
        clear hex hey hcx hcy hrx hry
        by_cases hsb : sameWay x y = true
        · have HSB := hidden hsb
          rw [hsb, Bool.true_and] at HSD
          clear hsb
          go_wp2_with (first
            | ((with_reducible refine load_lit aggWay (.tmp 20) (ax.add (j * 35)) es ?_ ?_ ?_ ?_ ?_); rfl; rfl; exact HEX.out; exact HCX.out)
            | ((with_reducible refine store_litT aggWay (.tmp 8) (.tmp 21) wr.heap.size es 26 ?_ ?_ ?_ ?_ ?_ ?_ ?_); rfl; rfl; rfl; exact HEX.out; exact H1X.out; exact ⟨_, heap_alloc_new _ _, rfl⟩; intro W1 hW1 hkW1; have HB1 := hidden hW1; have HK1 : Hid (Kept Nob wr W1) := hidden (Kept.then (Kept.alloc (Kept.refl _ _) _) hkW1 (fun b hb h => by omega)); have hz1 := blk_lt hW1; have HCY1 : Hid (∀ j' u, ds[j']? = some u → W1.cell? ((ay.add (j * 35)).add j') = some u) := hidden (fun j' u hj' => HK1.out.at (HCY.out j' u hj') (fun h => h)); clear hW1 hkW1)
            | ((with_reducible refine load_lit aggWay (.tmp 24) (ay.add (j * 35)) ds ?_ ?_ ?_ ?_ ?_); rfl; rfl; exact HEY.out; exact HCY1.out)
            | ((with_reducible refine store_litT aggWay (.tmp 9) (.tmp 25) W1.heap.size ds 26 ?_ ?_ ?_ ?_ ?_ ?_ ?_); rfl; rfl; rfl; exact HEY.out; exact H1Y.out; exact ⟨_, heap_alloc_new _ _, rfl⟩; intro W2 hW2 hkW2; have HB2 := hidden hW2; have HK2 : Hid (Kept Nob W1 W2) := hidden (Kept.then (Kept.alloc (Kept.refl _ _) _) hkW2 (fun b hb h => by omega)); have HB12 := hidden (HK2.out.blk HB1.out (fun h => h)); have HSM := hidden (same_way x y es ds F W2 (RWay.good.keep (RWay.good.keep HRX.out HK1.out (fun _ _ h => h)) HK2.out (fun _ _ h => h)) (RWay.good.keep (RWay.good.keep HRY.out HK1.out (fun _ _ h => h)) HK2.out (fun _ _ h => h))); rw [HSB.out] at HSM; clear hW2 hkW2)
            | ((with_reducible refine load_lit aggWay (.tmp 8) ⟨wr.heap.size, 0, none⟩ es ?_ ?_ ?_ ?_ ?_); rfl; rfl; exact HEX.out; exact row_cells HB12.out)
            | ((with_reducible refine load_lit aggWay (.tmp 9) ⟨W1.heap.size, 0, none⟩ ds ?_ ?_ ?_ ?_ ?_); rfl; rfl; exact HEY.out; exact row_cells HB2.out)
            | (go_at_call 88; (with_reducible refine HSM.out.mono ?_); rintro e w3 ⟨rfl, hk3⟩; have HK3 := hidden ((HKP.out.trans (HK1.out.trans HK2.out)).trans hk3); clear hk3; dsimp only))
          go_roundw
          case rel => exact ⟨j + 1, by omega, by go_num, by rw [← HE.out, HSD.out], HK3.out⟩
          case measure => simp [intOf]; omega
        · have hsb : sameWay x y = false := by simpa using hsb
          have HSB := hidden hsb
          rw [hsb, Bool.false_and] at HSD
          clear hsb
          go_wp2_with (first
            | ((with_reducible refine load_lit aggWay (.tmp 20) (ax.add (j * 35)) es ?_ ?_ ?_ ?_ ?_); rfl; rfl; exact HEX.out; exact HCX.out)
            | ((with_reducible refine store_litT aggWay (.tmp 8) (.tmp 21) wr.heap.size es 26 ?_ ?_ ?_ ?_ ?_ ?_ ?_); rfl; rfl; rfl; exact HEX.out; exact H1X.out; exact ⟨_, heap_alloc_new _ _, rfl⟩; intro W1 hW1 hkW1; have HB1 := hidden hW1; have HK1 : Hid (Kept Nob wr W1) := hidden (Kept.then (Kept.alloc (Kept.refl _ _) _) hkW1 (fun b hb h => by omega)); have hz1 := blk_lt hW1; have HCY1 : Hid (∀ j' u, ds[j']? = some u → W1.cell? ((ay.add (j * 35)).add j') = some u) := hidden (fun j' u hj' => HK1.out.at (HCY.out j' u hj') (fun h => h)); clear hW1 hkW1)
            | ((with_reducible refine load_lit aggWay (.tmp 24) (ay.add (j * 35)) ds ?_ ?_ ?_ ?_ ?_); rfl; rfl; exact HEY.out; exact HCY1.out)
            | ((with_reducible refine store_litT aggWay (.tmp 9) (.tmp 25) W1.heap.size ds 26 ?_ ?_ ?_ ?_ ?_ ?_ ?_); rfl; rfl; rfl; exact HEY.out; exact H1Y.out; exact ⟨_, heap_alloc_new _ _, rfl⟩; intro W2 hW2 hkW2; have HB2 := hidden hW2; have HK2 : Hid (Kept Nob W1 W2) := hidden (Kept.then (Kept.alloc (Kept.refl _ _) _) hkW2 (fun b hb h => by omega)); have HB12 := hidden (HK2.out.blk HB1.out (fun h => h)); have HSM := hidden (same_way x y es ds F W2 (RWay.good.keep (RWay.good.keep HRX.out HK1.out (fun _ _ h => h)) HK2.out (fun _ _ h => h)) (RWay.good.keep (RWay.good.keep HRY.out HK1.out (fun _ _ h => h)) HK2.out (fun _ _ h => h))); rw [HSB.out] at HSM; clear hW2 hkW2)
            | ((with_reducible refine load_lit aggWay (.tmp 8) ⟨wr.heap.size, 0, none⟩ es ?_ ?_ ?_ ?_ ?_); rfl; rfl; exact HEX.out; exact row_cells HB12.out)
            | ((with_reducible refine load_lit aggWay (.tmp 9) ⟨W1.heap.size, 0, none⟩ ds ?_ ?_ ?_ ?_ ?_); rfl; rfl; exact HEY.out; exact row_cells HB2.out)
            | (go_at_call 88; (with_reducible refine HSM.out.mono ?_); rintro e w3 ⟨rfl, hk3⟩; have HK3 := hidden ((HKP.out.trans (HK1.out.trans HK2.out)).trans hk3); clear hk3; dsimp only))
          go_ret
          exact ⟨ret_bool (by rw [← HE.out, HSD.out]), HK3.out⟩
      · obtain rfl : j = xs.length := by omega
        have HT : Hid (sameWays xs ys = true) := hidden (by rw [← HE.out, List.drop_length, List.drop_eq_nil_of_le (by rw [HL.out]; omega)]; rfl)
        go_wp2
        go_ret
        exact ⟨ret_bool HT.out.symm, HKP.out⟩
  · have e3 : ((xs.length : Int) != (ys.length : Int)) = true := by rw [bne_iff_ne]; omega
    have HF := hidden (sameWays_length hl)
    clear hl
    go_enter Try.func87, Try.ntmps87
    go_wp2
    go_ret
    exact ⟨ret_bool HF.out.symm, Kept.refl _ _⟩
end Go.Proofs.Ytcghjnegaiiieaa

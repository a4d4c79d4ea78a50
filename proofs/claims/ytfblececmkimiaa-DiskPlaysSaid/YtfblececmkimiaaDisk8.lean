/- The disk (layer 22): the document's disk writes, sector by sector. -/
import Derived.Test.YtfblececmkimiaaDisk7
namespace Go.Proofs.Ytfblececmkimiaa
open Go.RowKit

theorem own_slice {w : World} {base n : Nat} {e : TypeId} {size : Nat} {v : Value} {xs : List Value} (h : w.ownsRow base e size v n xs) : ∃ A c, v = .slice A n c := by
  obtain ⟨_, ⟨rfl, rfl⟩ | ⟨r, c, _, rfl, _⟩⟩ := h
  · exact ⟨none, 0, rfl⟩
  · exact ⟨_, c, rfl⟩
theorem own_base {w : World} {base n k : Nat} {e : TypeId} {size : Nat} {v : Value} {xs : List Value} (h : w.ownsRow base e size v n xs) (hk : v.ownBlock = some k) : base ≤ k := by
  obtain ⟨_, ⟨rfl, rfl⟩ | ⟨r, c, _, rfl, hb, _⟩⟩ := h
  · simp [Value.ownBlock] at hk
  · simp [Value.ownBlock] at hk
    omega
theorem own_zero {w : World} {base n : Nat} {e : TypeId} {size : Nat} {v : Value} {xs : List Value} (h : w.ownsRow base e size v n xs) : w.ownsRow 0 e size v n xs := by
  obtain ⟨h1, h2 | ⟨r, c, cur, rfl, _, h3⟩⟩ := h
  · exact ⟨h1, .inl h2⟩
  · exact ⟨h1, .inr ⟨r, c, cur, rfl, Nat.zero_le _, h3⟩⟩
theorem RdInts.drop_src {w : World} {k : IntKind} {ad : Addr} {xs : List Int} (h : RdInts w k (some ad) xs) (i n : Nat) (j : Nat) (u : Value) (hj : (nums k ((xs.drop i).take n))[j]? = some u) : w.cell? ((ad.add i).add j) = some u := by
  have h1 := (nums_at _ _ _ _ hj).1
  obtain ⟨ad', e, hc⟩ := h.drop_at i n (by simp at h1; omega)
  obtain rfl : ad = ad' := Option.some.inj e
  exact hc j u hj
theorem PlainAt.put {w : World} {g : Nat} {v : Value} {P P' : Plain} (h : PlainAt w g v P) (i : Nat) (u : Value) (hb : P'.b = P.b) (hv : v.ownBlock ≠ some g)
    (hc : (#[v, .int .i64 P.fuse, .bool P.armed, .bool P.dead, .int .i64 P.wrote] : Array Value).setIfInBounds i u = #[v, .int .i64 P'.fuse, .bool P'.armed, .bool P'.dead, .int .i64 P'.wrote]) :
    PlainAt (w.setCell ⟨g, i, none⟩ u) g v P' :=
  ⟨by rw [blk_set h.blk i u, hc], by rw [hb]; exact ownsRow_setCell_other h.row (a := ⟨g, i, none⟩) hv u⟩

theorem own_new {w : World} {base n : Nat} {e : TypeId} {size : Nat} {v : Value} {xs : List Value} (h : w.ownsRow base e size v n xs) (hn : 0 < n) : ∃ b, v.ownBlock = some b ∧ base ≤ b := by
  obtain ⟨_, ⟨_, rfl⟩ | ⟨r, c, _, rfl, hb, _⟩⟩ := h
  · omega
  · exact ⟨r, rfl, hb⟩
theorem RdInts.tail_src {w : World} {k : IntKind} {ad : Addr} {xs : List Int} (h : RdInts w k (some ad) xs) (i : Nat) (j : Nat) (u : Value) (hj : (nums k (xs.drop i))[j]? = some u) : w.cell? ((ad.add i).add j) = some u :=
  h.drop_src i xs.length j u (by rwa [List.take_of_length_le (by simp)])
theorem Plain.made {wc : World} {g n base : Nat} {v v3 : Value} {P : Plain} {xs : List Int} (hP : PlainAt wc g v P) (ho : wc.ownsRow base 5 1 v3 n (nums .u8 xs)) (hg : g < base) (hn : n = xs.length) (x : Int) :
    PlainAt ((wc.setCell ⟨g, 0, none⟩ v3).setCell ⟨g, 4, none⟩ (.int .i64 x)) g v3 { P with b := xs, wrote := x } := by
  have hne : v3.ownBlock ≠ some g := fun e => by have := own_base ho e; omega
  refine ⟨by rw [blk_set (blk_set hP.blk 0 v3) 4 _]; rfl, ?_⟩
  subst hn
  exact ownsRow_setCell_other (ownsRow_setCell_other (own_zero ho) (a := ⟨g, 0, none⟩) hne _) (a := ⟨g, 4, none⟩) hne _

set_option maxRecDepth 100000 in
set_option maxHeartbeats 80000000 in
theorem plainWrite_go (g : Nat) (v : Value) (P : Plain) (D : Disk) (p : Nat) (A : Option Addr) (C n : Nat) (data : List Int) (w : World) (h : PlainAt w g v P) (hrel : Rel D P) (hn : P.b.length ≤ 2097152) (hdead : P.dead = false)
    (hlen : data.length = n * 64) (hfit : (p + n) * 64 ≤ P.b.length)
    (hR : RdInts w .u8 A data) (hC : data.length ≤ C) (hC2 : C ≤ maxLen) (hsep : ∀ ad, A = some ad → 0 < data.length → ad.block ≠ g)
    (f1 : P.fuse ≤ 9223372036854775807) (w0 : 0 ≤ P.wrote) (w1 : P.wrote ≤ 1125899906842624) :
    Calls Try.prog 69 #[.pointer (some ⟨g, 0, none⟩), .int .i64 p, .slice A data.length C] w fun e w' => e = .returned (.int .i64 (Disk.go p data n 0 D).1) ∧ ∃ v' P', PlainAt w' g v' P' ∧ Rel (Disk.go p data n 0 D).2 P' ∧
      Kept (fun k => k = g) w w' ∧ (v'.ownBlock = v.ownBlock ∨ ∃ b, v'.ownBlock = some b ∧ w.heap.size ≤ b) ∧ P'.fuse ≤ 9223372036854775807 := by
  have H := hidden h
  have HREL := hidden hrel
  have HR := hidden hR
  have HSEP := hidden hsep
  unfold maxLen at hC2
  obtain ⟨i0, hi0, hz0, hz1, hz2⟩ := info_parts Try.info5
  have e1 : (data.length : Int).tmod 64 = 0 := by rw [Int.tmod_eq_emod_of_nonneg (by omega)]; omega
  have e2 : (data.length : Int).tdiv 64 = (n : Int) := by rw [Int.tdiv_eq_ediv_of_nonneg (by omega)]; omega
  have e3 : IntKind.i64.wrap (n : Int) = (n : Int) := IntWalk.i64_in _ (by omega)
  have HWI := hidden (plainWithin_any g v P p n w h hn (by omega))
  rw [fits_yes (by omega) (by omega) (by omega)] at HWI
  have cd := (blk_cell h.blk 3).trans rfl
  rw [hdead] at cd
  have HLEN := hidden hlen
  clear h hrel hR hsep hlen
  go_enter Try.func69, Try.ntmps69
  go_wp2_with (go_at_call 68; refine HWI.out.mono ?_; rintro e w1 ⟨rfl, rfl⟩)
  go_loopw [7] (fun i wr => ∃ (k : Nat) (E : Disk) (Q : Plain) (u : Value), k ≤ n ∧ i = .int .i64 k ∧ PlainAt wr g u Q ∧ Rel E Q ∧ Q.b.length = P.b.length ∧ Kept (fun k => k = g) w wr ∧
    (u.ownBlock = v.ownBlock ∨ ∃ b, u.ownBlock = some b ∧ w.heap.size ≤ b) ∧ Disk.go p data (n - k) k E = Disk.go p data n 0 D ∧ Q.fuse ≤ 9223372036854775807 ∧ 0 ≤ Q.wrote ∧ Q.wrote ≤ 1125899906842624 + k) (fun i _ => n - (intOf i).toNat)
  case atStart => exact ⟨0, D, P, v, Nat.zero_le _, rfl, H.out, HREL.out, rfl, Kept.refl _ _, .inl rfl, rfl, f1, w0, by omega⟩
  case round =>
    obtain ⟨k, E, Q, u, hk, rfl, hd, hre, hl, hkp, hown, hgo, hf, hw0, hw1⟩ := hrel
    by_cases hlt : k < n
    · obtain ⟨r, c, rfl, hc1, hc2, hgr, hrlt, hrd⟩ := hd.open_ (by omega)
      unfold maxLen at hc2
      have HD := hidden hd
      have HRE := hidden hre
      have HK := hidden hkp
      have HGO := hidden hgo
      have HL := hidden hl
      have HOWN := hidden hown
      have HGR := hidden hgr
      have HRD := hidden hrd
      have c0 := (blk_cell hd.blk 0).trans rfl
      have c1 := (blk_cell hd.blk 1).trans rfl
      have c2 := (blk_cell hd.blk 2).trans rfl
      have c3 := (blk_cell hd.blk 3).trans rfl
      have z1 := blk_frozen hd.blk 1
      have z3 := blk_frozen hd.blk 3
      obtain ⟨m, hm⟩ : ∃ m, n - k = m + 1 := ⟨n - k - 1, by omega⟩
      have hgo : (if E.fuse = 0 then (19, { E with dead := true }) else Disk.go p data m (k + 1) (E.sector p data k)) = Disk.go p data n 0 D := by rw [← HGO.out, hm]; rfl
      have hgl := blk_lt hd.blk
      clear hd hre hkp hl hown hgr hrd cd
      obtain ⟨pk, hpk⟩ : ∃ pk, pk = p + k := ⟨_, rfl⟩
      obtain ⟨lo, hlo⟩ : ∃ lo, lo = pk * 64 := ⟨_, rfl⟩
      obtain ⟨ib, hib⟩ : ∃ ib, ib = k * 64 := ⟨_, rfl⟩
      obtain ⟨hi, hhi⟩ : ∃ hi, hi = ib + 64 := ⟨_, rfl⟩
      obtain ⟨lo2, hlo2⟩ : ∃ lo2, lo2 = lo + 64 := ⟨_, rfl⟩
      have b1 : lo2 ≤ Q.b.length := by rw [HL.out]; omega
      have b2 : hi ≤ data.length := by have := HLEN.out; omega
      have b3 : ¬ (C = ib) := by omega
      have b5 : ib ≤ hi := by omega
      have b6 : hi ≤ C := by omega
      have b7 : lo ≤ c := by omega
      have b9 : lo ≤ Q.b.length := by omega
      have b8 : Q.b.length ≤ 2097152 := by rw [HL.out]; omega
      have e4 : IntKind.i64.wrap ((p : Int) + (k : Int)) = (pk : Int) := by rw [IntWalk.i64_in _ (by omega)]; omega
      have e5 : IntKind.i64.wrap ((pk : Int) * 64) = (lo : Int) := by rw [IntWalk.i64_in _ (by omega)]; omega
      have e6 : IntKind.i64.wrap ((k : Int) * 64) = (ib : Int) := by rw [IntWalk.i64_in _ (by omega)]; omega
      have e7 : IntKind.i64.wrap ((ib : Int) + 64) = (hi : Int) := by rw [IntWalk.i64_in _ (by omega)]; omega
      have e8 : IntKind.i64.wrap ((lo : Int) + 64) = (lo2 : Int) := by rw [IntWalk.i64_in _ (by omega)]; omega
      have e9 : IntKind.i64.wrap (Q.wrote + 1) = Q.wrote + 1 := IntWalk.i64_in _ (by omega)
      have HPK := hidden hpk
      have HLO := hidden hlo
      have HIB := hidden hib
      have HHI := hidden hhi
      have HLO2 := hidden hlo2
      clear hpk hlo hib hhi hlo2
      obtain ⟨r1, r2, r3, r4⟩ := HRE.out
      have hcase : (Q.armed = true ∧ Q.fuse = 0 ∧ E.fuse = 0) ∨ (Q.armed = true ∧ 0 < Q.fuse ∧ E.fuse = Q.fuse) ∨ (Q.armed = false ∧ E.fuse = -1) := by
        rcases r4 with ⟨a, b, c⟩ | ⟨a, b⟩
        · by_cases hz : Q.fuse = 0
          · exact .inl ⟨a, hz, by omega⟩
          · exact .inr (.inl ⟨a, by omega, c⟩)
        · exact .inr (.inr ⟨a, b⟩)
      clear r1 r2 r3 r4
      rcases hcase with ⟨ha, hz, hez⟩ | ⟨ha, hz, hez⟩ | ⟨ha, hez⟩
      · rw [if_pos hez] at hgo
        have HG2 := hidden hgo
        have HP := hidden (HD.out.put (P' := { Q with dead := true }) 3 (.bool true) rfl (by simp [Value.ownBlock]; exact Ne.symm HGR.out) rfl)
        have HEZ := hidden hez
        rw [ha] at c2
        rw [hz] at c1
        clear hgo hez
        go_wp2_with fail
        go_ret
        rw [← HG2.out]
        obtain ⟨r1, r2, r3, r4⟩ := HRE.out
        exact ⟨rfl, _, _, HP.out, ⟨r1, rfl, r3, r4⟩, Kept.setCell HK.out (fun _ => rfl) _, HOWN.out, hf⟩
      · rw [if_neg (by omega)] at hgo
        have HG2 := hidden hgo
        have HEZ := hidden hez
        have HAR := hidden ha
        rw [ha] at c2
        clear hgo hez
        have y1 : (Q.fuse == 0) = false := by rw [beq_eq_false_iff_ne]; omega
        have e10 : IntKind.i64.wrap (Q.fuse - 1) = Q.fuse - 1 := IntWalk.i64_in _ (by omega)
        have HX : Hid (PlainAt (wr.setCell ⟨g, 1, none⟩ (.int .i64 (Q.fuse - 1))) g (.slice (some ⟨r, 0, none⟩) Q.b.length c) { Q with fuse := Q.fuse - 1 }) := hidden (HD.out.put 1 _ rfl (by simp [Value.ownBlock]; exact Ne.symm HGR.out) rfl)
        have HKX : Hid (Kept (fun k => k = g) w (wr.setCell ⟨g, 1, none⟩ (.int .i64 (Q.fuse - 1)))) := hidden (Kept.setCell HK.out (fun _ => rfl) _)
        have HRR : Hid (RdInts (wr.setCell ⟨g, 1, none⟩ (.int .i64 (Q.fuse - 1))) .u8 (some ⟨r, 0, none⟩) Q.b) := hidden (HRD.out.kept (Kept.setCell (Kept.refl (fun k => k = g) wr) (fun _ => rfl) _) (fun ad e hh => by injection e with e; subst e; exact HGR.out hh.symm))
        have hgX : g < (wr.setCell ⟨g, 1, none⟩ (.int .i64 (Q.fuse - 1))).heap.size := blk_lt HX.out.blk
        obtain ⟨ad, hA, _⟩ := HR.out ib (by have := HHI.out; omega)
        subst hA
        have HRX : Hid (RdInts (wr.setCell ⟨g, 1, none⟩ (.int .i64 (Q.fuse - 1))) .u8 (some ad) data) := hidden (HR.out.keptP HKX.out (fun ad e hp hh => HSEP.out ad e hp hh))
        have HCH : Hid (((data.drop ib).take 64).length = 64) := hidden (by rw [List.length_take, List.length_drop]; have := HHI.out; omega)
        have HXS : Hid (Q.b.take lo ++ (data.drop ib).take 64 ++ Q.b.drop lo2 = splice Q.b lo ((data.drop ib).take 64)) := hidden (by unfold splice; rw [HCH.out, ← HLO2.out, List.append_assoc])
        have cX0 := (blk_cell HX.out.blk 0).trans rfl
        have hsz := HKX.out.size
        by_cases hcc : lo2 = c
        · subst hcc
          go_wp2_with (first | (at_builtin; (refine wpList_append_own_wide _ rfl (.tmp 64) (.tmp 70) 55 rfl (wr.setCell ⟨g, 1, none⟩ (.int .i64 (Q.fuse - 1))).heap.size 5 i0 (.int .u8 0) 1 1 Try.underlying55 hi0 hz0 hz1 hz2 rfl (by omega) (.slice none 0 0) 0 (nums .u8 []) rfl ⟨rfl, .inl ⟨rfl, rfl⟩⟩ ⟨r, 0, none⟩ lo _ (nums .u8 (Q.b.take lo)) rfl (by rw [nums_length, List.length_take, Nat.mul_one]; omega) (fun j u hj => HRR.out.drop_src 0 lo j u hj) (nums_one _ _) (by unfold maxLen; have := HHI.out; omega) (by have := HHI.out; omega) (Nat.le_refl _) ?_); intro v1 wa ho1 hg1 hq1; rw [Nat.zero_add, ← nums_append, List.nil_append] at ho1; obtain ⟨A1, k1, rfl⟩ := own_slice ho1; have HO1 := hidden ho1; have HGA := hidden (Kept.grown (Kept.refl Nob _) hg1 (by simp [Value.ownBlock])); clear ho1 hg1 hq1) | (at_builtin; (refine wpList_append_own_wide _ rfl (.tmp 72) (.tmp 79) 55 rfl (wr.setCell ⟨g, 1, none⟩ (.int .i64 (Q.fuse - 1))).heap.size 5 i0 (.int .u8 0) 1 1 Try.underlying55 hi0 hz0 hz1 hz2 rfl (by omega) (.slice A1 lo k1) lo (nums .u8 (Q.b.take lo)) rfl HO1.out (ad.add ib) (hi - ib) _ (nums .u8 ((data.drop ib).take 64)) rfl (by rw [nums_length, HCH.out]; have := HHI.out; omega) (fun j u hj => (HRX.out.kept HGA.out (fun _ _ h => h)).drop_src ib 64 j u hj) (nums_one _ _) (by unfold maxLen; have := HHI.out; omega) (by have := HHI.out; omega) HGA.out.size ?_); intro v2 wb ho2 hg2 hq2; rw [← nums_append] at ho2; obtain ⟨A2, k2, rfl⟩ := own_slice ho2; have HO2 := hidden ho2; have HGB := hidden (Kept.grown HGA.out hg2 (fun k hk hlt => absurd (own_base HO1.out hk) (Nat.not_le.2 hlt))); have cB := (blk_cell (HX.out.kept HGB.out (fun h => h) (fun _ _ h => h)).blk 0).trans rfl; clear ho2 hg2 hq2) | (at_builtin; (refine wpList_append_own_wide _ rfl (.tmp 81) (.tmp 88) 55 rfl (wr.setCell ⟨g, 1, none⟩ (.int .i64 (Q.fuse - 1))).heap.size 5 i0 (.int .u8 0) 1 1 Try.underlying55 hi0 hz0 hz1 hz2 rfl (by omega) (.slice A2 (lo + (hi - ib)) k2) (lo + (hi - ib)) (nums .u8 (Q.b.take lo ++ (data.drop ib).take 64)) rfl HO2.out _ _ _ (nums .u8 (Q.b.drop lo2)) rfl (by rw [nums_length, List.length_drop, Nat.mul_one]; omega) (fun j u hj => by have q := (nums_at _ _ _ _ hj).1; rw [List.length_drop] at q; omega) (nums_one _ _) (by unfold maxLen; have := HHI.out; omega) (by have := HHI.out; omega) HGB.out.size ?_); intro v3 wc ho3 hg3 hq3; rw [← nums_append, HXS.out] at ho3; obtain ⟨A3, k3, rfl⟩ := own_slice ho3; have HO3 := hidden ho3; have HGC := hidden (Kept.grown HGB.out hg3 (fun k hk hlt => absurd (own_base HO2.out hk) (Nat.not_le.2 hlt))); have HPC := hidden (HX.out.kept HGC.out (fun h => h) (fun _ _ h => h)); have cC0 := (blk_cell HPC.out.blk 0).trans rfl; have zC0 := blk_frozen HPC.out.blk 0; have cC4 := (blk_cell HPC.out.blk 4).trans rfl; have zC4 := blk_frozen HPC.out.blk 4; clear ho3 hg3 hq3))
          go_roundw
          case rel =>
            refine ⟨k + 1, E.sector p data k, { { Q with fuse := Q.fuse - 1 } with b := splice Q.b lo ((data.drop ib).take 64), wrote := Q.wrote + 1 }, _, by omega, by go_num, Plain.made HPC.out HO3.out hgX (by rw [length_splice _ _ _ (by rw [HCH.out]; have := HLO2.out; omega)]; have := HHI.out; have := HLO2.out; omega) (Q.wrote + 1), ?_, (length_splice _ _ _ (by rw [HCH.out]; have := HLO2.out; omega)).trans HL.out, Kept.setCell (Kept.setCell (HKX.out.trans (HGC.out.mono (fun _ _ h => by cases h))) (fun _ => rfl) _) (fun _ => rfl) _, ?_, by rw [← HG2.out, show n - (k + 1) = m from by omega], by dsimp only; omega, by dsimp only; omega, by dsimp only; omega⟩
            · obtain ⟨r1, r2, r3, _⟩ := HRE.out
              refine ⟨?_, r2, ?_, .inl ⟨HAR.out, by dsimp only; omega, by unfold Disk.sector; dsimp only; rw [if_pos (by have := HEZ.out; omega), HEZ.out]⟩⟩
              · show splice Q.b lo ((data.drop ib).take 64) = splice E.b ((p + k) * 64) ((data.drop (k * 64)).take 64)
                rw [r1, HLO.out, HPK.out, HIB.out]
              · show Q.wrote + 1 = E.wrote + 1
                rw [r3]
            · obtain ⟨b, hb, hb2⟩ := own_new HO3.out (by have := HHI.out; omega)
              exact .inr ⟨b, hb, Nat.le_trans hsz hb2⟩
          case measure => simp [intOf]; omega
        · have hcc2 : ¬ (c = lo2) := fun e => hcc e.symm
          go_wp2_with (first | (at_builtin; (refine wpList_append_own_wide _ rfl (.tmp 64) (.tmp 70) 55 rfl (wr.setCell ⟨g, 1, none⟩ (.int .i64 (Q.fuse - 1))).heap.size 5 i0 (.int .u8 0) 1 1 Try.underlying55 hi0 hz0 hz1 hz2 rfl (by omega) (.slice none 0 0) 0 (nums .u8 []) rfl ⟨rfl, .inl ⟨rfl, rfl⟩⟩ ⟨r, 0, none⟩ lo _ (nums .u8 (Q.b.take lo)) rfl (by rw [nums_length, List.length_take, Nat.mul_one]; omega) (fun j u hj => HRR.out.drop_src 0 lo j u hj) (nums_one _ _) (by unfold maxLen; have := HHI.out; omega) (by have := HHI.out; omega) (Nat.le_refl _) ?_); intro v1 wa ho1 hg1 hq1; rw [Nat.zero_add, ← nums_append, List.nil_append] at ho1; obtain ⟨A1, k1, rfl⟩ := own_slice ho1; have HO1 := hidden ho1; have HGA := hidden (Kept.grown (Kept.refl Nob _) hg1 (by simp [Value.ownBlock])); clear ho1 hg1 hq1) | (at_builtin; (refine wpList_append_own_wide _ rfl (.tmp 72) (.tmp 79) 55 rfl (wr.setCell ⟨g, 1, none⟩ (.int .i64 (Q.fuse - 1))).heap.size 5 i0 (.int .u8 0) 1 1 Try.underlying55 hi0 hz0 hz1 hz2 rfl (by omega) (.slice A1 lo k1) lo (nums .u8 (Q.b.take lo)) rfl HO1.out (ad.add ib) (hi - ib) _ (nums .u8 ((data.drop ib).take 64)) rfl (by rw [nums_length, HCH.out]; have := HHI.out; omega) (fun j u hj => (HRX.out.kept HGA.out (fun _ _ h => h)).drop_src ib 64 j u hj) (nums_one _ _) (by unfold maxLen; have := HHI.out; omega) (by have := HHI.out; omega) HGA.out.size ?_); intro v2 wb ho2 hg2 hq2; rw [← nums_append] at ho2; obtain ⟨A2, k2, rfl⟩ := own_slice ho2; have HO2 := hidden ho2; have HGB := hidden (Kept.grown HGA.out hg2 (fun k hk hlt => absurd (own_base HO1.out hk) (Nat.not_le.2 hlt))); have cB := (blk_cell (HX.out.kept HGB.out (fun h => h) (fun _ _ h => h)).blk 0).trans rfl; clear ho2 hg2 hq2) | (at_builtin; (refine wpList_append_own_wide _ rfl (.tmp 81) (.tmp 88) 55 rfl (wr.setCell ⟨g, 1, none⟩ (.int .i64 (Q.fuse - 1))).heap.size 5 i0 (.int .u8 0) 1 1 Try.underlying55 hi0 hz0 hz1 hz2 rfl (by omega) (.slice A2 (lo + (hi - ib)) k2) (lo + (hi - ib)) (nums .u8 (Q.b.take lo ++ (data.drop ib).take 64)) rfl HO2.out ⟨r, lo2, none⟩ (Q.b.length - lo2) _ (nums .u8 (Q.b.drop lo2)) rfl (by rw [nums_length, List.length_drop, Nat.mul_one]) (fun j u hj => by have q := (HRR.out.kept HGB.out (fun _ _ h => h)).tail_src lo2 j u hj; rw [plain_add, Nat.zero_add] at q; exact q) (nums_one _ _) (by unfold maxLen; have := HHI.out; omega) (by have := HHI.out; omega) HGB.out.size ?_); intro v3 wc ho3 hg3 hq3; rw [← nums_append, HXS.out] at ho3; obtain ⟨A3, k3, rfl⟩ := own_slice ho3; have HO3 := hidden ho3; have HGC := hidden (Kept.grown HGB.out hg3 (fun k hk hlt => absurd (own_base HO2.out hk) (Nat.not_le.2 hlt))); have HPC := hidden (HX.out.kept HGC.out (fun h => h) (fun _ _ h => h)); have cC0 := (blk_cell HPC.out.blk 0).trans rfl; have zC0 := blk_frozen HPC.out.blk 0; have cC4 := (blk_cell HPC.out.blk 4).trans rfl; have zC4 := blk_frozen HPC.out.blk 4; clear ho3 hg3 hq3))
          go_roundw
          case rel =>
            refine ⟨k + 1, E.sector p data k, { { Q with fuse := Q.fuse - 1 } with b := splice Q.b lo ((data.drop ib).take 64), wrote := Q.wrote + 1 }, _, by omega, by go_num, Plain.made HPC.out HO3.out hgX (by rw [length_splice _ _ _ (by rw [HCH.out]; have := HLO2.out; omega)]; have := HHI.out; have := HLO2.out; omega) (Q.wrote + 1), ?_, (length_splice _ _ _ (by rw [HCH.out]; have := HLO2.out; omega)).trans HL.out, Kept.setCell (Kept.setCell (HKX.out.trans (HGC.out.mono (fun _ _ h => by cases h))) (fun _ => rfl) _) (fun _ => rfl) _, ?_, by rw [← HG2.out, show n - (k + 1) = m from by omega], by dsimp only; omega, by dsimp only; omega, by dsimp only; omega⟩
            · obtain ⟨r1, r2, r3, _⟩ := HRE.out
              refine ⟨?_, r2, ?_, .inl ⟨HAR.out, by dsimp only; omega, by unfold Disk.sector; dsimp only; rw [if_pos (by have := HEZ.out; omega), HEZ.out]⟩⟩
              · show splice Q.b lo ((data.drop ib).take 64) = splice E.b ((p + k) * 64) ((data.drop (k * 64)).take 64)
                rw [r1, HLO.out, HPK.out, HIB.out]
              · show Q.wrote + 1 = E.wrote + 1
                rw [r3]
            · obtain ⟨b, hb, hb2⟩ := own_new HO3.out (by have := HHI.out; omega)
              exact .inr ⟨b, hb, Nat.le_trans hsz hb2⟩
          case measure => simp [intOf]; omega
      · rw [if_neg (by omega)] at hgo
        have HG2 := hidden hgo
        have HEZ := hidden hez
        have HAR := hidden ha
        rw [ha] at c2
        clear hgo hez
        have HX : Hid (PlainAt wr g (.slice (some ⟨r, 0, none⟩) Q.b.length c) Q) := hidden (HD.out)
        have HKX : Hid (Kept (fun k => k = g) w wr) := hidden (HK.out)
        have HRR : Hid (RdInts wr .u8 (some ⟨r, 0, none⟩) Q.b) := hidden (HRD.out)
        have hgX : g < wr.heap.size := blk_lt HX.out.blk
        obtain ⟨ad, hA, _⟩ := HR.out ib (by have := HHI.out; omega)
        subst hA
        have HRX : Hid (RdInts wr .u8 (some ad) data) := hidden (HR.out.keptP HKX.out (fun ad e hp hh => HSEP.out ad e hp hh))
        have HCH : Hid (((data.drop ib).take 64).length = 64) := hidden (by rw [List.length_take, List.length_drop]; have := HHI.out; omega)
        have HXS : Hid (Q.b.take lo ++ (data.drop ib).take 64 ++ Q.b.drop lo2 = splice Q.b lo ((data.drop ib).take 64)) := hidden (by unfold splice; rw [HCH.out, ← HLO2.out, List.append_assoc])
        have cX0 := (blk_cell HX.out.blk 0).trans rfl
        have hsz := HKX.out.size
        by_cases hcc : lo2 = c
        · subst hcc
          go_wp2_with (first | (at_builtin; (refine wpList_append_own_wide _ rfl (.tmp 64) (.tmp 70) 55 rfl wr.heap.size 5 i0 (.int .u8 0) 1 1 Try.underlying55 hi0 hz0 hz1 hz2 rfl (by omega) (.slice none 0 0) 0 (nums .u8 []) rfl ⟨rfl, .inl ⟨rfl, rfl⟩⟩ ⟨r, 0, none⟩ lo _ (nums .u8 (Q.b.take lo)) rfl (by rw [nums_length, List.length_take, Nat.mul_one]; omega) (fun j u hj => HRR.out.drop_src 0 lo j u hj) (nums_one _ _) (by unfold maxLen; have := HHI.out; omega) (by have := HHI.out; omega) (Nat.le_refl _) ?_); intro v1 wa ho1 hg1 hq1; rw [Nat.zero_add, ← nums_append, List.nil_append] at ho1; obtain ⟨A1, k1, rfl⟩ := own_slice ho1; have HO1 := hidden ho1; have HGA := hidden (Kept.grown (Kept.refl Nob _) hg1 (by simp [Value.ownBlock])); clear ho1 hg1 hq1) | (at_builtin; (refine wpList_append_own_wide _ rfl (.tmp 72) (.tmp 79) 55 rfl wr.heap.size 5 i0 (.int .u8 0) 1 1 Try.underlying55 hi0 hz0 hz1 hz2 rfl (by omega) (.slice A1 lo k1) lo (nums .u8 (Q.b.take lo)) rfl HO1.out (ad.add ib) (hi - ib) _ (nums .u8 ((data.drop ib).take 64)) rfl (by rw [nums_length, HCH.out]; have := HHI.out; omega) (fun j u hj => (HRX.out.kept HGA.out (fun _ _ h => h)).drop_src ib 64 j u hj) (nums_one _ _) (by unfold maxLen; have := HHI.out; omega) (by have := HHI.out; omega) HGA.out.size ?_); intro v2 wb ho2 hg2 hq2; rw [← nums_append] at ho2; obtain ⟨A2, k2, rfl⟩ := own_slice ho2; have HO2 := hidden ho2; have HGB := hidden (Kept.grown HGA.out hg2 (fun k hk hlt => absurd (own_base HO1.out hk) (Nat.not_le.2 hlt))); have cB := (blk_cell (HX.out.kept HGB.out (fun h => h) (fun _ _ h => h)).blk 0).trans rfl; clear ho2 hg2 hq2) | (at_builtin; (refine wpList_append_own_wide _ rfl (.tmp 81) (.tmp 88) 55 rfl wr.heap.size 5 i0 (.int .u8 0) 1 1 Try.underlying55 hi0 hz0 hz1 hz2 rfl (by omega) (.slice A2 (lo + (hi - ib)) k2) (lo + (hi - ib)) (nums .u8 (Q.b.take lo ++ (data.drop ib).take 64)) rfl HO2.out _ _ _ (nums .u8 (Q.b.drop lo2)) rfl (by rw [nums_length, List.length_drop, Nat.mul_one]; omega) (fun j u hj => by have q := (nums_at _ _ _ _ hj).1; rw [List.length_drop] at q; omega) (nums_one _ _) (by unfold maxLen; have := HHI.out; omega) (by have := HHI.out; omega) HGB.out.size ?_); intro v3 wc ho3 hg3 hq3; rw [← nums_append, HXS.out] at ho3; obtain ⟨A3, k3, rfl⟩ := own_slice ho3; have HO3 := hidden ho3; have HGC := hidden (Kept.grown HGB.out hg3 (fun k hk hlt => absurd (own_base HO2.out hk) (Nat.not_le.2 hlt))); have HPC := hidden (HX.out.kept HGC.out (fun h => h) (fun _ _ h => h)); have cC0 := (blk_cell HPC.out.blk 0).trans rfl; have zC0 := blk_frozen HPC.out.blk 0; have cC4 := (blk_cell HPC.out.blk 4).trans rfl; have zC4 := blk_frozen HPC.out.blk 4; clear ho3 hg3 hq3))
          go_roundw
          case rel =>
            refine ⟨k + 1, E.sector p data k, { Q with b := splice Q.b lo ((data.drop ib).take 64), wrote := Q.wrote + 1 }, _, by omega, by go_num, Plain.made HPC.out HO3.out hgX (by rw [length_splice _ _ _ (by rw [HCH.out]; have := HLO2.out; omega)]; have := HHI.out; have := HLO2.out; omega) (Q.wrote + 1), ?_, (length_splice _ _ _ (by rw [HCH.out]; have := HLO2.out; omega)).trans HL.out, Kept.setCell (Kept.setCell (HKX.out.trans (HGC.out.mono (fun _ _ h => by cases h))) (fun _ => rfl) _) (fun _ => rfl) _, ?_, by rw [← HG2.out, show n - (k + 1) = m from by omega], by dsimp only; omega, by dsimp only; omega, by dsimp only; omega⟩
            · obtain ⟨r1, r2, r3, _⟩ := HRE.out
              refine ⟨?_, r2, ?_, .inr ⟨HAR.out, by unfold Disk.sector; dsimp only; rw [if_neg (by have := HEZ.out; omega), HEZ.out]⟩⟩
              · show splice Q.b lo ((data.drop ib).take 64) = splice E.b ((p + k) * 64) ((data.drop (k * 64)).take 64)
                rw [r1, HLO.out, HPK.out, HIB.out]
              · show Q.wrote + 1 = E.wrote + 1
                rw [r3]
            · obtain ⟨b, hb, hb2⟩ := own_new HO3.out (by have := HHI.out; omega)
              exact .inr ⟨b, hb, Nat.le_trans hsz hb2⟩
          case measure => simp [intOf]; omega
        · have hcc2 : ¬ (c = lo2) := fun e => hcc e.symm
          go_wp2_with (first | (at_builtin; (refine wpList_append_own_wide _ rfl (.tmp 64) (.tmp 70) 55 rfl wr.heap.size 5 i0 (.int .u8 0) 1 1 Try.underlying55 hi0 hz0 hz1 hz2 rfl (by omega) (.slice none 0 0) 0 (nums .u8 []) rfl ⟨rfl, .inl ⟨rfl, rfl⟩⟩ ⟨r, 0, none⟩ lo _ (nums .u8 (Q.b.take lo)) rfl (by rw [nums_length, List.length_take, Nat.mul_one]; omega) (fun j u hj => HRR.out.drop_src 0 lo j u hj) (nums_one _ _) (by unfold maxLen; have := HHI.out; omega) (by have := HHI.out; omega) (Nat.le_refl _) ?_); intro v1 wa ho1 hg1 hq1; rw [Nat.zero_add, ← nums_append, List.nil_append] at ho1; obtain ⟨A1, k1, rfl⟩ := own_slice ho1; have HO1 := hidden ho1; have HGA := hidden (Kept.grown (Kept.refl Nob _) hg1 (by simp [Value.ownBlock])); clear ho1 hg1 hq1) | (at_builtin; (refine wpList_append_own_wide _ rfl (.tmp 72) (.tmp 79) 55 rfl wr.heap.size 5 i0 (.int .u8 0) 1 1 Try.underlying55 hi0 hz0 hz1 hz2 rfl (by omega) (.slice A1 lo k1) lo (nums .u8 (Q.b.take lo)) rfl HO1.out (ad.add ib) (hi - ib) _ (nums .u8 ((data.drop ib).take 64)) rfl (by rw [nums_length, HCH.out]; have := HHI.out; omega) (fun j u hj => (HRX.out.kept HGA.out (fun _ _ h => h)).drop_src ib 64 j u hj) (nums_one _ _) (by unfold maxLen; have := HHI.out; omega) (by have := HHI.out; omega) HGA.out.size ?_); intro v2 wb ho2 hg2 hq2; rw [← nums_append] at ho2; obtain ⟨A2, k2, rfl⟩ := own_slice ho2; have HO2 := hidden ho2; have HGB := hidden (Kept.grown HGA.out hg2 (fun k hk hlt => absurd (own_base HO1.out hk) (Nat.not_le.2 hlt))); have cB := (blk_cell (HX.out.kept HGB.out (fun h => h) (fun _ _ h => h)).blk 0).trans rfl; clear ho2 hg2 hq2) | (at_builtin; (refine wpList_append_own_wide _ rfl (.tmp 81) (.tmp 88) 55 rfl wr.heap.size 5 i0 (.int .u8 0) 1 1 Try.underlying55 hi0 hz0 hz1 hz2 rfl (by omega) (.slice A2 (lo + (hi - ib)) k2) (lo + (hi - ib)) (nums .u8 (Q.b.take lo ++ (data.drop ib).take 64)) rfl HO2.out ⟨r, lo2, none⟩ (Q.b.length - lo2) _ (nums .u8 (Q.b.drop lo2)) rfl (by rw [nums_length, List.length_drop, Nat.mul_one]) (fun j u hj => by have q := (HRR.out.kept HGB.out (fun _ _ h => h)).tail_src lo2 j u hj; rw [plain_add, Nat.zero_add] at q; exact q) (nums_one _ _) (by unfold maxLen; have := HHI.out; omega) (by have := HHI.out; omega) HGB.out.size ?_); intro v3 wc ho3 hg3 hq3; rw [← nums_append, HXS.out] at ho3; obtain ⟨A3, k3, rfl⟩ := own_slice ho3; have HO3 := hidden ho3; have HGC := hidden (Kept.grown HGB.out hg3 (fun k hk hlt => absurd (own_base HO2.out hk) (Nat.not_le.2 hlt))); have HPC := hidden (HX.out.kept HGC.out (fun h => h) (fun _ _ h => h)); have cC0 := (blk_cell HPC.out.blk 0).trans rfl; have zC0 := blk_frozen HPC.out.blk 0; have cC4 := (blk_cell HPC.out.blk 4).trans rfl; have zC4 := blk_frozen HPC.out.blk 4; clear ho3 hg3 hq3))
          go_roundw
          case rel =>
            refine ⟨k + 1, E.sector p data k, { Q with b := splice Q.b lo ((data.drop ib).take 64), wrote := Q.wrote + 1 }, _, by omega, by go_num, Plain.made HPC.out HO3.out hgX (by rw [length_splice _ _ _ (by rw [HCH.out]; have := HLO2.out; omega)]; have := HHI.out; have := HLO2.out; omega) (Q.wrote + 1), ?_, (length_splice _ _ _ (by rw [HCH.out]; have := HLO2.out; omega)).trans HL.out, Kept.setCell (Kept.setCell (HKX.out.trans (HGC.out.mono (fun _ _ h => by cases h))) (fun _ => rfl) _) (fun _ => rfl) _, ?_, by rw [← HG2.out, show n - (k + 1) = m from by omega], by dsimp only; omega, by dsimp only; omega, by dsimp only; omega⟩
            · obtain ⟨r1, r2, r3, _⟩ := HRE.out
              refine ⟨?_, r2, ?_, .inr ⟨HAR.out, by unfold Disk.sector; dsimp only; rw [if_neg (by have := HEZ.out; omega), HEZ.out]⟩⟩
              · show splice Q.b lo ((data.drop ib).take 64) = splice E.b ((p + k) * 64) ((data.drop (k * 64)).take 64)
                rw [r1, HLO.out, HPK.out, HIB.out]
              · show Q.wrote + 1 = E.wrote + 1
                rw [r3]
            · obtain ⟨b, hb, hb2⟩ := own_new HO3.out (by have := HHI.out; omega)
              exact .inr ⟨b, hb, Nat.le_trans hsz hb2⟩
          case measure => simp [intOf]; omega
    · have hkn : k = n := by omega
      have hgo2 : (0, E) = Disk.go p data n 0 D := by rw [← hgo, hkn, Nat.sub_self]; rfl
      have HG2 := hidden hgo2
      have HD := hidden hd
      have HRE := hidden hre
      have HK := hidden hkp
      have HOWN := hidden hown
      clear hgo hgo2 hkn hd hre hkp hown hl
      go_wp2_with fail
      go_ret
      rw [← HG2.out]
      exact ⟨rfl, _, _, HD.out, HRE.out, HK.out, HOWN.out, hf⟩
end Go.Proofs.Ytfblececmkimiaa

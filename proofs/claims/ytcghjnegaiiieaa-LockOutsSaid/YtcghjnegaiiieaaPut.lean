/- An out is written (layer 7). -/
import Derived.Test.YtcghjnegaiiieaaPen
import Derived.Test.YtcghjnegaiiieaaLock11
namespace Go.Proofs.Ytcghjnegaiiieaa
open Go.RowKit
/-- The blocks of R that are there. -/
def Tw (w : World) (R : Nat → Prop) : Nat → Prop := fun b => R b ∧ b < w.heap.size
theorem OwnV.tight {w : World} {R : Nat → Prop} {e : TypeId} {size : Nat} {v : Value} {n : Nat} {xs : List Value} (h : OwnV w R e size v n xs) : OwnV w (Tw w R) e size v n xs := ⟨h.1, fun b hb => ⟨h.2 b hb, by
  obtain ⟨cs, fr, hh⟩ := own_cells h.1 hb
  exact blk_lt hh⟩⟩
theorem PenR.tight {w : World} {R : Nat → Prop} {g : Nat} {xs : List Int} (h : PenR w R g xs) : PenR w (Tw w R) g xs := by
  obtain ⟨h1, v, h2, h3⟩ := h
  exact ⟨fun h => h1 h.1, v, h2, OwnV.tight h3⟩
/-- A pen that writes on, where something besides was made. -/
theorem PenDoes.step {w wr W w3 : World} {R R1 : Nat → Prop} {g : Nat} {xs ys zs : List Int} (h : PenDoes w wr R g xs ys) (hk : Kept Nob wr W) (hR : ∀ b, R1 b → Gw w R b) (k : PenDoes W w3 R1 g (xs ++ ys) zs) : PenDoes w w3 R g xs (ys ++ zs) :=
  ⟨by
    rw [← List.append_assoc]
    exact k.pen.mono (fun b hb => hb.elim (hR b) (fun h' => .inr (Nat.le_trans (Nat.le_trans h.kept.size hk.size) h'))) h.pen.1,
   Kept.then (Kept.then h.kept hk (fun _ _ h => h.elim)) k.kept (fun b hb h' => h'.elim .inl (fun h2 => .inr (Gw.old hb (hR b h2))))⟩
theorem PenDoes.first {w W w3 : World} {R R1 : Nat → Prop} {g : Nat} {xs zs : List Int} (hg : PenR w R g xs) (hk : Kept Nob w W) (hR : ∀ b, R1 b → R b) (k : PenDoes W w3 R1 g xs zs) : PenDoes w w3 R g xs zs :=
  PenDoes.step (PenDoes.refl hg) hk (fun b hb => .inl (hR b hb)) (by rw [List.append_nil]; exact k)
theorem PenDoes.lt {w w' : World} {R : Nat → Prop} {g : Nat} {xs ys : List Int} (h : PenDoes w w' R g xs ys) : g < w'.heap.size := h.pen.lt
def wayBy (x : Way) : List Int := numsI [(x.keys.length : Int)] ++ numsI x.keys ++ x.hash ++ numsI [x.after, x.wait]
def outBy (o : Out) : List Int := numsI [o.amount, o.ways.length] ++ o.ways.flatMap wayBy
theorem numB_pos (n : Nat) : 1 ≤ (numB n).length := by rw [numB]; split <;> simp
theorem numsI_ge : ∀ (l : List Int), l.length ≤ (numsI l).length
  | [] => by simp
  | a :: l => by
    have := numsI_ge l
    have := numB_pos a.toNat
    simp only [numsI, List.flatMap_cons, List.length_append, List.length_cons] at *
    omega
theorem ints_two {w : World} {a b : Int} (e : TypeId) (ha : (Lit.int .i64 a).wf = true) (hb : (Lit.int .i64 b).wf = true) : Ints (w.alloc (.cells #[.int .i64 a, .int .i64 b] e)) (fun k => k = w.heap.size) .i64 (some ⟨w.heap.size, 0, none⟩) 2 [a, b] :=
  Ints.blk (xs := [a, b]) (heap_alloc_new _ _) rfl (by simp [maxLen]) (by simp [ha, hb])
theorem wayBy_take (l : List Way) (k : Nat) (hk : k < l.length) : (l.take (k + 1)).flatMap wayBy = (l.take k).flatMap wayBy ++ wayBy l[k] := by
  rw [List.take_succ_eq_append_getElem hk, List.flatMap_append]; simp
theorem flatMap_len_take {α : Type} (f : α → List Int) (l : List α) (k : Nat) : ((l.take k).flatMap f).length ≤ (l.flatMap f).length := by
  have e := congrArg (fun l => (l.flatMap f).length) (List.take_append_drop k l)
  simp only [List.flatMap_append, List.length_append] at e
  omega
set_option maxRecDepth 100000 in
set_option maxHeartbeats 8000000 in
theorem put_any (o : Out) (A : Option Addr) (c : Nat) (F R : Nat → Prop) (g : Nat) (xs : List Int) (w : World) (h : PenR w R g xs) (hw : Ways w F A c o.ways) (ha : (Lit.int .i64 o.amount).wf = true) (hF : ∀ b, F b → ¬ PS g R b ∧ b < w.heap.size) (hx : xs.length + 10 * (outBy o).length ≤ 90000000) :
    Calls Try.prog 29 #[.pointer (some ⟨g, 0, none⟩), .agg #[.int .i64 o.amount, .slice A o.ways.length c]] w fun e w' => e = .returned (.tuple #[]) ∧ PenDoes w w' R g xs (outBy o) := by
  have hgl := h.lt
  have hle := hw.le
  have hmx := hw.max
  unfold maxLen at hmx
  have HX : Hid (xs.length + 10 * (outBy o).length ≤ 90000000) := hidden hx
  have HOB : Hid (outBy o = numsI [o.amount, o.ways.length] ++ o.ways.flatMap wayBy) := hidden rfl
  generalize o.amount = am at *
  generalize o.ways = l at *
  have hlw : (Lit.int .i64 (l.length : Int)).wf = true := by simp [Lit.wf, IntKind.min, IntKind.max, IntKind.signed, IntKind.bits]; omega
  obtain ⟨W0, hW0⟩ : ∃ W0, (w.alloc (.cells #[.int .i64 am, .slice A l.length c] 38)).alloc (.cells #[.int .i64 am, .int .i64 l.length] 3) = W0 := ⟨_, rfl⟩
  have hK0 : Kept Nob w W0 := by rw [← hW0]; exact (by repeat (first | exact Kept.refl _ _ | apply Kept.alloc | apply Kept.drewN | apply Kept.drew))
  have HK0 := hidden hK0
  have HP := hidden h
  have hsz : W0.heap.size = w.heap.size + 2 := by rw [← hW0]; simp
  have HBOX : Hid (W0.heap[w.heap.size]? = some (.cells #[.int .i64 am, .slice A l.length c] 38 (0, 0))) := hidden (by rw [← hW0]; exact blk_alloc (heap_alloc_new _ _) _)
  have HI0 : Hid (Ints W0 (fun k => k = w.heap.size + 1) .i64 (some ⟨w.heap.size + 1, 0, none⟩) 2 [am, (l.length : Int)]) := hidden (by rw [← hW0]; have := ints_two (w := w.alloc (.cells #[.int .i64 am, .slice A l.length c] 38)) (a := am) (b := (l.length : Int)) 3 ha hlw; simpa using this)
  have HP0 := hidden (h.tight.keep hK0 (fun h => h) (fun _ _ h => h))
  have HNUMS : Hid (Calls Try.prog 34 #[.pointer (some ⟨g, 0, none⟩), .slice (some ⟨w.heap.size + 1, 0, none⟩) 2 2] W0 fun e w' => e = .returned (.pointer (some ⟨g, 0, none⟩)) ∧ PenDoes W0 w' (Tw w R) g xs (numsI [am, (l.length : Int)])) :=
    hidden (penr_nums [am, (l.length : Int)] _ 2 (fun k => k = w.heap.size + 1) (Tw w R) g xs W0 HP0.out HI0.out (fun b hb => ⟨fun h => h.elim (fun h' => by omega) (fun h' => by have := h'.2; omega), by omega⟩) (by have := HX.out; simp; omega))
  have HW := hidden (hw.keep hK0 (fun _ _ h => h))
  have HF : Hid (∀ b, F b → ¬ PS g R b ∧ b < w.heap.size) := hidden hF
  clear h hw hF hx hK0
  go_enter Try.func29, Try.ntmps29
  go_wp2_with (go_at_call 34; (with_reducible refine HNUMS.out.mono ?_); rintro e w1 ⟨rfl, hd1⟩; have b1 := hd1.kept.blk HBOX.out (fun h => h.elim (fun h' => by omega) (fun h' => by have := h'.2; omega)); have q1 : w1.cell? ⟨w.heap.size, 1, none⟩ = some (.slice A l.length c) := (blk_cell b1 1).trans rfl; have HD1 := hidden hd1; clear hd1 b1; dsimp only)
  clear HNUMS HI0
  go_loopw [5, 17] (fun _ i wr => ∃ k : Nat, k ≤ l.length ∧ i = .int .i64 k ∧ PenDoes W0 wr (Tw w R) g xs (numsI [am, (l.length : Int)] ++ (l.take k).flatMap wayBy)) (fun _ i _ => l.length - (intOf i).toNat)
  case atStart => exact ⟨0, Nat.zero_le _, rfl, by simpa using HD1.out⟩
  case round =>
    obtain ⟨k, hk, rfl, hd⟩ := hrel
    have HD := hidden hd
    by_cases hlt : k < l.length
    · obtain ⟨ad, B, d, hA, hFa, hc, hi, hok⟩ := (HW.out.keep hd.kept (fun b hb h => h.elim (fun h' => (HF.out b hb).1 (.inl h')) (fun h' => (HF.out b hb).1 (.inr h'.1)))).at_ k hlt
      have HTK := hidden (wayBy_take l k hlt)
      have HLN : Hid ((xs ++ (numsI [am, (l.length : Int)] ++ (l.take k).flatMap wayBy)).length + 10 * (wayBy l[k]).length ≤ 90000000) := hidden (by
        have h1 := HX.out
        have h2 := flatMap_len_take wayBy l (k + 1)
        rw [HOB.out] at h1
        rw [wayBy_take l k hlt] at h2
        simp only [List.length_append] at h1 h2 ⊢
        omega)
      generalize l[k] = x at hc hi hok HTK HLN
      subst hA
      obtain ⟨zs, hzs⟩ : ∃ zs, numsI [am, (l.length : Int)] ++ (l.take k).flatMap wayBy = zs := ⟨_, rfl⟩
      have HZS := hidden hzs
      rw [hzs] at hd HD HLN
      clear hzs
      have HC := hidden hc
      have HI := hidden hi
      have HOK := hidden hok
      obtain ⟨R1, hR1⟩ : ∃ R1, R1 = Tw wr (Gw W0 (Tw w R)) := ⟨_, rfl⟩
      have HPR : Hid (PenR wr R1 g (xs ++ zs)) := hidden (by rw [hR1]; exact hd.pen.tight)
      have HRA : Hid (∀ b, R1 b → Gw W0 (Tw w R) b) := hidden (fun b hb => by rw [hR1] at hb; exact hb.1)
      have HRB : Hid (∀ b, R1 b → b < wr.heap.size) := hidden (fun b hb => by rw [hR1] at hb; exact hb.2)
      clear hR1
      have hgr := hd.lt
      have HNF : Hid (∀ b, F b → b ≠ g ∧ ¬ Tw w R b ∧ b < W0.heap.size) := hidden (fun b hb => ⟨fun h => (HF.out b hb).1 (.inl h), fun h => (HF.out b hb).1 (.inr h.1), by have := (HF.out b hb).2; omega⟩)
      have hwsz := hd.kept.size
      have HFP : Hid (∀ W : World, wr.heap.size < W.heap.size → ∀ b, F b → ¬ PS g (Gw W R1) b ∧ b < wr.heap.size) := hidden (fun W hW b hb => by
        obtain ⟨n1, n2, n3⟩ := HNF.out b hb
        exact ⟨fun h => h.elim n1 (fun h' => n2 (Gw.old n3 (HRA.out b (Gw.old (by omega) h')))), by omega⟩)
      have HFQ : Hid (∀ b, F b → ¬ PS g R1 b) := hidden (fun b hb h => by
        obtain ⟨n1, n2, n3⟩ := HNF.out b hb
        exact h.elim n1 (fun h' => n2 (Gw.old n3 (HRA.out b h'))))
      have HNP : Hid (¬ PS g R1 wr.heap.size ∧ wr.heap.size ≠ g) := hidden ⟨fun h => h.elim (fun h' => by omega) (fun h' => by have := HRB.out _ h'; omega), by omega⟩
      have HKL : Hid (x.keys.length ≤ (numsI x.keys).length ∧ (wayBy x).length = (numB x.keys.length).length + (numsI x.keys).length + 32 + (numsI [x.after, x.wait]).length) := hidden ⟨numsI_ge _, by unfold wayBy; simp only [List.length_append, hok.hl]; simp [numsI]⟩
      have HL2 : Hid ((xs ++ zs ++ numB x.keys.length).length + 10 * x.keys.length ≤ 100000000 ∧ (xs ++ zs ++ (numB x.keys.length ++ numsI x.keys)).length ≤ 100000000 ∧ (xs ++ zs ++ (numB x.keys.length ++ numsI x.keys ++ x.hash)).length + 10 * [x.after, x.wait].length ≤ 100000000) := hidden (by
        have h1 := HLN.out
        have h2 := HKL.out
        have h3 := hok.hl
        simp only [List.length_append, List.length_cons, List.length_nil] at h1 ⊢
        omega)
      have hkm : x.keys.length < 9223372036854775808 := by have := hi.le; have := hi.max; unfold maxLen at this; omega
      clear hd hc hi hok hFa
      go_wp2_with (first
        | ((with_reducible refine load_lit aggWay (.tmp 19) (ad.add (k * 35)) (wayCells B d x) ?_ ?_ ?_ ?_ ?_); rfl; rfl; exact way_len HOK.out; exact HC.out)
        | ((with_reducible refine store_litT aggWay (.tmp 5) (.tmp 20) wr.heap.size (wayCells B d x) 26 ?_ ?_ ?_ ?_ ?_ ?_ ?_); rfl; rfl; rfl; exact way_len HOK.out; exact RWay.good.one (RWay.mk' HI.out HOK.out); exact ⟨_, heap_alloc_new _ _, rfl⟩; intro W hW hkW; have HB := hidden hW; have HKW : Hid (Kept Nob wr W) := hidden (Kept.then (Kept.alloc (Kept.refl _ _) _) hkW (fun b hb h => by omega)); have hsW : wr.heap.size < W.heap.size := blk_lt hW; have p0 := row0 hW; clear hW hkW)
        | (go_at_call 35; refine (penr_num x.keys.length R1 g (xs ++ zs) W (HPR.out.keep HKW.out (fun h => h) (fun _ _ h => h)) hkm (by have := HLN.out; omega)).mono ?_; rintro e w2 ⟨rfl, hd2⟩; have b2 := hd2.kept.blk HB.out HNP.out.1; have p2 := row0 b2; have HD2 := hidden hd2; have HI2 : Hid (Ints w2 F .i64 B d x.keys) := hidden ((HI.out.keep HKW.out (fun _ _ h => h)).keep hd2.kept HFQ.out); have HF2 : Hid (∀ b, F b → ¬ PS g (Gw W R1) b ∧ b < w2.heap.size) := hidden (fun b hb => ⟨((HFP.out W hsW) b hb).1, Nat.lt_of_lt_of_le ((HFP.out W hsW) b hb).2 (Nat.le_trans (Nat.le_of_lt hsW) hd2.kept.size)⟩); have HN2 := hidden (penr_nums x.keys B d F (Gw W R1) g (xs ++ zs ++ numB x.keys.length) w2 hd2.pen HI2.out HF2.out HL2.out.1); clear hd2 b2; dsimp only)
        | (go_at_call 34; (with_reducible refine HN2.out.mono ?_); rintro e w3 ⟨rfl, hd3⟩; have hd3' := HD2.out.trans hd3; have b3 := hd3'.kept.blk HB.out HNP.out.1; have HH3 := hidden (row_hash b3 HOK.out); have HD3 := hidden hd3'; have HS3 := hidden (penr_sum x.hash (Gw W R1) g (xs ++ zs ++ (numB x.keys.length ++ numsI x.keys)) w3 hd3'.pen HOK.out.hl HOK.out.hw HL2.out.2.1); clear hd3 hd3' b3; dsimp only)
        | ((with_reducible refine load_lit aggSum (.tmp 31) ⟨wr.heap.size, 1, none⟩ (nums .u8 x.hash) ?_ ?_ ?_ ?_ ?_); rfl; rfl; exact (nums_length _ _).trans HOK.out.hl; exact HH3.out)
        | (go_at_call 36; (with_reducible refine HS3.out.mono ?_); rintro e w4 ⟨rfl, hd4⟩; have hd4' := HD3.out.trans hd4; have b4 := hd4'.kept.blk HB.out HNP.out.1; have p33 := row33 b4 HOK.out; have p34 := row34 b4 HOK.out; have HD4 := hidden hd4'; have hs4 := hd4'.kept.size; have HN4 : Hid (Calls Try.prog 34 #[.pointer (some ⟨g, 0, none⟩), .slice (some ⟨w4.heap.size, 0, none⟩) 2 2] (w4.alloc (.cells #[.int .i64 x.after, .int .i64 x.wait] 3)) fun e w' => e = .returned (.pointer (some ⟨g, 0, none⟩)) ∧ PenDoes (w4.alloc (.cells #[.int .i64 x.after, .int .i64 x.wait] 3)) w' (Tw w4 (Gw W R1)) g (xs ++ zs ++ (numB x.keys.length ++ numsI x.keys ++ x.hash)) (numsI [x.after, x.wait])) := hidden (penr_nums [x.after, x.wait] (some ⟨w4.heap.size, 0, none⟩) 2 (fun b => b = w4.heap.size) (Tw w4 (Gw W R1)) g (xs ++ zs ++ (numB x.keys.length ++ numsI x.keys ++ x.hash)) (w4.alloc (.cells #[.int .i64 x.after, .int .i64 x.wait] 3)) (hd4'.pen.tight.keep (S := Nob) (Kept.alloc (Kept.refl _ _) _) (fun h => h) (fun _ _ h => h)) (ints_two 3 HOK.out.aw HOK.out.ww) (fun b hb => ⟨fun h => h.elim (fun h' => by have := hd4'.lt; omega) (fun h' => by have := h'.2; omega), by subst hb; simp⟩) HL2.out.2.2); clear hd4 hd4' b4; dsimp only)
        | (go_at_call 34; (with_reducible refine HN4.out.mono ?_); rintro e w5 ⟨rfl, hd5⟩; have HD5 := hidden (HD4.out.step (Kept.alloc (Kept.refl _ _) _) (fun b h => h.1) hd5); clear hd5; dsimp only))
      go_roundw
      case rel => exact ⟨k + 1, by omega, by go_num, by
        rw [HTK.out, ← List.append_assoc, HZS.out]
        have := HD.out.step HKW.out HRA.out HD5.out
        simpa [wayBy, numsI, List.append_assoc] using this⟩
      case measure => simp [intOf]; omega
    · obtain rfl : k = l.length := by omega
      go_wp2
      go_end0
      have := HD.out
      rw [List.take_length, ← HOB.out] at this
      exact ⟨rfl, PenDoes.first HP.out HK0.out (fun b hb => hb.1) this⟩
end Go.Proofs.Ytcghjnegaiiieaa

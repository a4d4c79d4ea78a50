/- An out is read (layer 7). -/
import Derived.Test.YtcghjnegaiiieaaGet
namespace Go.Proofs.Ytcghjnegaiiieaa
open Go.RowKit
theorem e64 : ElemT Try.prog 22 3 1 8 := ElemT.mk' Try.underlying22 (z := .int .i64 0) (by kernel_rfl) rfl (by decide)
theorem eWay : ∃ bytes, bytes ≤ 1000000 ∧ ElemT Try.prog 36 26 35 bytes := ⟨72, by decide, ElemT.mk' Try.underlying36 (z := .agg #[.slice none 0 0, .int .u8 0, .int .u8 0, .int .u8 0, .int .u8 0, .int .u8 0, .int .u8 0, .int .u8 0, .int .u8 0, .int .u8 0, .int .u8 0, .int .u8 0, .int .u8 0, .int .u8 0, .int .u8 0, .int .u8 0, .int .u8 0, .int .u8 0, .int .u8 0, .int .u8 0, .int .u8 0, .int .u8 0, .int .u8 0, .int .u8 0, .int .u8 0, .int .u8 0, .int .u8 0, .int .u8 0, .int .u8 0, .int .u8 0, .int .u8 0, .int .u8 0, .int .u8 0, .int .i64 0, .int .i64 0]) (by kernel_rfl) (by kernel_rfl) (by decide)⟩
def Own1 (v : Value) : Nat → Prop := fun b => v.ownBlock = some b
theorem OwnV.exact {w : World} {R : Nat → Prop} {e : TypeId} {size : Nat} {v : Value} {n : Nat} {xs : List Value} (h : OwnV w R e size v n xs) : OwnV w (Own1 v) e size v n xs := ⟨h.1, fun _ hb => hb⟩
theorem OwnV.lt {w : World} {R : Nat → Prop} {e : TypeId} {size : Nat} {v : Value} {n : Nat} {xs : List Value} (h : OwnV w R e size v n xs) : ∀ b, Own1 v b → b < w.heap.size := fun b hb => (h.tight.2 b hb).2
theorem OwnE.exact {α : Type} {R : Rl α} {size : Nat} {w : World} {Rb F : Nat → Prop} {e : TypeId} {v : Value} {xs : List α} (h : OwnE R size w Rb F e v xs) : OwnE R size w (Own1 v) F e v xs := by
  obtain ⟨cs, h1, h2, h3, h4⟩ := h
  exact ⟨cs, h1, h2, h3, h4.exact⟩
theorem OwnE.own {α : Type} {R : Rl α} {size : Nat} {w : World} {Rb F : Nat → Prop} {e : TypeId} {v : Value} {xs : List α} (h : OwnE R size w Rb F e v xs) : (∀ b, Own1 v b → Rb b) ∧ ∀ b, Own1 v b → b < w.heap.size := by
  obtain ⟨cs, h1, h2, h3, h4⟩ := h
  exact ⟨h4.2, h4.lt⟩
/-- Cells are stored at a place of a block. -/
theorem run_storeCells_at {P : Program} (g off : Nat) : ∀ (es : List Value) (i : Nat) (w : World), (storeCells ⟨g, off, none⟩ es i).run P w = (storeCells ⟨g, 0, none⟩ es (off + i)).run P w
  | [], _, _ => rfl
  | u :: es, i, w => by
    have e1 : (⟨g, off, none⟩ : Addr).add i = ⟨g, off + i, none⟩ := by unfold Addr.add; split <;> simp_all
    have e2 : (⟨g, 0, none⟩ : Addr).add (off + i) = ⟨g, off + i, none⟩ := by unfold Addr.add; split <;> simp_all
    rw [storeCells, storeCells, e1, e2, Sem.run_bind, Sem.run_bind]
    congr 1
    funext a w'
    rw [run_storeCells_at g off es (i + 1) w', Nat.add_assoc]
theorem store_off {P : Program} {w : World} {ops : Array Oper} {rest : List Oper} {dst : Option Tmp} {tyy : TypeId} {pos : String} {aft : Array Edge} {gd : Option (Nat × Bool)} {a : Act} {Q : Exit → Act → World → Prop} {n : Nat} {ty : TypeId} (hT : AggT P ty n) (x y : Operand)
    (g off : Nat) (es cs : List Value) (t : TypeId) (hgd : Region.wanted ⟨dst, .store ty x y, tyy, pos, aft, gd⟩ (yielded ops a.tmps) = true) (hx : a.eval x = .pointer (some ⟨g, off, none⟩)) (hy : a.eval y = .agg es.toArray) (hn : es.length = n) (h1 : ∀ u ∈ es, u.oneCell' = true)
    (hg : w.heap[g]? = some (.cells cs.toArray t (0, 0))) (hc : off + n ≤ cs.length)
    (h : ∀ w', w'.heap[g]? = some (.cells (cs.take off ++ es ++ cs.drop (off + n)).toArray t (0, 0)) → Kept (fun b => b = g) w w' → wpList P ops Q rest (a.put dst undef) w') : wpList P ops Q (⟨dst, .store ty x y, tyy, pos, aft, gd⟩ :: rest) a w :=
  wpList_now hgd fun _ hK => by
    obtain ⟨⟨d, hu, hd⟩, hi⟩ := hT
    obtain ⟨w', hr, hb, hk⟩ := run_storeCells_row (P := P) g t es off w cs.toArray hg (by simp; omega) h1
    have hr2 : (storeCells ⟨g, off, none⟩ es).run P w = .ok () w' := by rw [run_storeCells_at]; exact hr
    cases hq : P.info? ty with
    | none => simp [hq] at hi
    | some i =>
      have hs : i.size = n := by simpa [hq] using hi
      have hst : (storeVar ty ⟨g, off, none⟩ (.agg es.toArray)).run P w = .ok () w' := by
        simp [storeVar, Sem.run_bind, sizeOf, typeInfo, hq, hs, Value.cells, hn, hr2]
      unfold Oper.wp execOp
      simp only [hx, hy, Instr.storeAt, Instr.sureAddr, Sem.run_bind, Sem.run_pure, Result.andThen_ok, hst]
      exact hK _ _ (h w' (by rw [hb, hn]) hk)
theorem eye_uptoL (M : Int) (m : Nat) (hm : M = (m : Int)) (w : World) (F : Nat → Prop) (g : Nat) (s : ES) (h : EyeAt w F g s.1 s.2) (hF : ∀ b, F b → b ≠ g) :
    Calls Try.prog 82 #[.pointer (some ⟨g, 0, none⟩), .int .i64 M] w fun e w' => e = .returned (.int .i64 (uptoI m s).1) ∧ EyeAt w' F g (uptoI m s).2.1 (uptoI m s).2.2 ∧ Kept (fun b => b = g) w w' := by
  subst hm
  exact eye_upto w F g s m h hF
theorem uptoI_len (m : Nat) (s : ES) : (uptoI m s).2.1.length ≤ s.1.length := uptoS_len m s
theorem uptoI_nat (m : Nat) (s : ES) : 0 ≤ (uptoI m s).1 ∧ (uptoI m s).1 ≤ m := by
  have : (uptoS m s).1 ≤ m := by
    unfold uptoS
    split
    · split
      · simp
      · omega
    · simp
  exact ⟨Int.natCast_nonneg _, by unfold uptoI; dsimp only; omega⟩
theorem loopS_lenS {α : Type} (f : ES → α × ES) (hf : ∀ s, (f s).2.1.length ≤ s.1.length) : ∀ (n : Nat) (s : ES), (loopS f n s).2.1.length ≤ s.1.length
  | 0, s => Nat.le_refl _
  | n + 1, s => Nat.le_trans (hf _) (loopS_lenS f hf n s)
theorem sumS_len (s : ES) : (sumS s).2.1.length ≤ s.1.length := (rawS_len 32 s).1
theorem wayS_len (s : ES) : (wayS s).2.1.length ≤ s.1.length := by
  unfold wayS
  dsimp only
  exact Nat.le_trans (uptoI_len _ _) (Nat.le_trans (uptoI_len _ _) (Nat.le_trans (sumS_len _) (Nat.le_trans (loopS_lenS _ (uptoI_len _) _ _) (uptoS_len _ _))))
theorem loopS_wf (m : Nat) (hm : m ≤ 9223372036854775807) : ∀ (j : Nat) (s : ES), (loopS (uptoI m) j s).1.length = j ∧ ∀ x ∈ (loopS (uptoI m) j s).1, (Lit.int .i64 x).wf = true
  | 0, s => ⟨rfl, fun x hx => by simp [loopS] at hx⟩
  | j + 1, s => by
    obtain ⟨h1, h2⟩ := loopS_wf m hm j s
    refine ⟨by simp [loopS, h1], fun x hx => ?_⟩
    rcases List.mem_append.1 hx with h | h
    · exact h2 x h
    · have := uptoI_nat m (loopS (uptoI m) j s).2
      have e : x = (uptoI m (loopS (uptoI m) j s).2).1 := by simpa using h
      rw [e]
      simp [Lit.wf, IntKind.min, IntKind.max, IntKind.signed, IntKind.bits]; omega
theorem sumS_ok (s : ES) (hw : ∀ x ∈ s.1, (Lit.int .u8 x).wf = true) : (sumS s).1.length = 32 ∧ ∀ x ∈ (sumS s).1, (Lit.int .u8 x).wf = true := by
  unfold sumS
  split
  · rename_i h
    refine ⟨?_, rawS_lt 32 s hw⟩
    unfold rawS; rw [if_pos h.1, if_pos h.2, List.length_take]; omega
  · exact ⟨rfl, fun x hx => by simp [zero32] at hx; subst hx; decide⟩
theorem way_len0 {A : Option Addr} {c : Nat} {ks : List Int} : (wayCells A c ⟨ks, zero32, 0, 0⟩).length = 35 := by simp [wayCells, nums_length, zero32]
theorem way_put (A : Option Addr) (c : Nat) (ks hh : List Int) (hl : hh.length = 32) : (wayCells A c ⟨ks, zero32, 0, 0⟩).take 1 ++ nums .u8 hh ++ (wayCells A c ⟨ks, zero32, 0, 0⟩).drop (1 + 32) = wayCells A c ⟨ks, hh, 0, 0⟩ := by
  unfold wayCells
  have e : (1 + 32) = (nums .u8 zero32).length + 1 := by rw [nums_length]; rfl
  simp only [List.take_succ_cons, List.take_zero]
  rw [e, List.drop_succ_cons, List.drop_left]
  rfl
theorem wayOk0 {ks hh : List Int} (h : hh.length = 32) (hw : ∀ x ∈ hh, (Lit.int .u8 x).wf = true) : WayOk ⟨ks, hh, 0, 0⟩ := ⟨h, hw, (by show (Lit.int .i64 0).wf = true; decide), (by show (Lit.int .i64 0).wf = true; decide)⟩
theorem wayOkX {ks hh : List Int} {a b : Int} (h : hh.length = 32) (hw : ∀ x ∈ hh, (Lit.int .u8 x).wf = true) (ha : 0 ≤ a) (hb : 0 ≤ b) (ha' : a ≤ (1073741824 : Nat)) (hb' : b ≤ (1073741824 : Nat)) : WayOk ⟨ks, hh, a, b⟩ := ⟨h, hw, (by show (Lit.int .i64 a).wf = true; simp [Lit.wf, IntKind.min, IntKind.max, IntKind.signed, IntKind.bits]; omega), (by show (Lit.int .i64 b).wf = true; simp [Lit.wf, IntKind.min, IntKind.max, IntKind.signed, IntKind.bits]; omega)⟩
theorem way_set (A : Option Addr) (c : Nat) (ks hh : List Int) (a b : Int) (hl : hh.length = 32) : ((wayCells A c ⟨ks, hh, 0, 0⟩).toArray.setIfInBounds 33 (.int .i64 a)).setIfInBounds 34 (.int .i64 b) = (wayCells A c ⟨ks, hh, a, b⟩).toArray := by
  have hn : (nums IntKind.u8 hh).length = 32 := by rw [nums_length, hl]
  simp only [List.setIfInBounds_toArray]
  congr 1
  unfold wayCells
  dsimp only
  rw [List.set_cons_succ, List.set_cons_succ, List.set_append_right 32 _ (by omega), hn, List.set_append_right 33 _ (by omega), hn]
  rfl
theorem OwnV.ints {w : World} {R : Nat → Prop} {e : TypeId} {k : IntKind} {A : Option Addr} {n c : Nat} {ks : List Int} (h : OwnV w R e 1 (.slice A n c) n (nums k ks)) (hl : ks.length = n) (hw : ∀ x ∈ ks, (Lit.int k x).wf = true) : Ints w R k A c ks := by
  obtain ⟨A', c', hv, h1, h2, h3, h4, h5⟩ := h.slice
  cases hv
  refine ⟨fun i hi => ?_, fun ad e _ => h4 ad e, by omega, h2, fun e => ⟨List.eq_nil_of_length_eq_zero (by have := (h3 e).1; omega), (h3 e).2⟩, hw⟩
  obtain ⟨ad, e, hc⟩ := h5 i (.int k (ks.getD i 0)) (by simp [nums, hi, List.getD_eq_getElem?_getD])
  exact ⟨ad, e, hc⟩
theorem foldl_set_at : ∀ (es rest pre : List Value), rest.length = es.length → (es.zipIdx pre.length).foldl (fun cs x => cs.setIfInBounds x.snd x.fst) (pre ++ rest).toArray = (pre ++ es).toArray
  | [], rest, pre, h => by
    have : rest = [] := List.eq_nil_of_length_eq_zero (by simpa using h)
    simp [this]
  | e :: es, [], pre, h => by simp at h
  | e :: es, r :: rest, pre, h => by
    have ih := foldl_set_at es rest (pre ++ [e]) (by simpa using h)
    simp only [List.zipIdx_cons, List.foldl_cons, List.setIfInBounds_toArray, List.length_append, List.length_cons, List.length_nil, Nat.zero_add, List.append_assoc, List.cons_append, List.nil_append] at ih ⊢
    rw [← ih]
    congr 2
    rw [List.set_append_right _ _ (Nat.le_refl _), Nat.sub_self, List.set_cons_zero]
theorem foldl_set (es : List Value) (Z : Array Value) (h : Z.size = es.length) : List.foldl (fun (cs : Array Value) x => cs.setIfInBounds x.snd x.fst) Z es.zipIdx = es.toArray := by
  have := foldl_set_at es Z.toList [] (by simpa using h)
  simpa using this
set_option maxRecDepth 100000 in
set_option maxHeartbeats 8000000 in
theorem get_any (w : World) (F : Nat → Prop) (g : Nat) (s : ES) (h : EyeAt w F g s.1 s.2) (hG : EyeG w F g s.1) :
    Calls Try.prog 27 #[.pointer (some ⟨g, 0, none⟩)] w fun e w' => ∃ A c, e = .returned (.agg #[.int .i64 (outS s).1.amount, .slice A (outS s).1.ways.length c]) ∧ Ways w' (fun b => w.heap.size ≤ b) A c (outS s).1.ways ∧ EyeAt w' F g (outS s).2.1 (outS s).2.2 ∧ Kept (fun b => b = g) w w' := by
  have hgl := hG.gl
  obtain ⟨W0, hW0⟩ : ∃ W0, w.alloc (.cells #[.int .i64 0, .slice none 0 0] 38) = W0 := ⟨_, rfl⟩
  have hK0 : Kept Nob w W0 := by rw [← hW0]; exact (by repeat (first | exact Kept.refl _ _ | apply Kept.alloc | apply Kept.drewN | apply Kept.drew))
  have HB2 : Hid (W0.heap[w.heap.size]? = some (.cells #[.int .i64 0, .slice none 0 0] 38 (0, 0))) := hidden (by rw [← hW0]; exact heap_alloc_new _ _)
  have hsz : W0.heap.size = w.heap.size + 1 := by rw [← hW0]; simp
  have HG := hidden hG
  have HK0 := hidden hK0
  have HU1 := hidden (eye_uptoL 1125899906842624 1125899906842624 rfl W0 F g s (h.keep hK0 (fun h => h) (fun _ _ h => h)) hG.ne)
  have HWF : Hid ((Lit.int .i64 (uptoI 1125899906842624 s).1).wf = true) := hidden (by have := uptoI_nat 1125899906842624 s; simp [Lit.wf, IntKind.min, IntKind.max, IntKind.signed, IntKind.bits]; omega)
  have HLA := hidden (uptoI_len 1125899906842624 s)
  have HOS : Hid ((outS s).1 = ⟨(uptoI 1125899906842624 s).1, (loopS wayS (uptoS 16 (uptoI 1125899906842624 s).2).1 (uptoS 16 (uptoI 1125899906842624 s).2).2).1⟩ ∧ (outS s).2 = if outB (outS s).1 then (loopS wayS (uptoS 16 (uptoI 1125899906842624 s).2).1 (uptoS 16 (uptoI 1125899906842624 s).2).2).2 else failS 4 (loopS wayS (uptoS 16 (uptoI 1125899906842624 s).2).1 (uptoS 16 (uptoI 1125899906842624 s).2).2).2) := hidden ⟨rfl, rfl⟩
  generalize uptoI 1125899906842624 s = a1 at *
  obtain ⟨am, s1⟩ := a1
  dsimp only at HU1 HWF HLA HOS
  have HU2 : Hid (∀ W, EyeAt W F g s1.1 s1.2 → Calls Try.prog 82 #[.pointer (some ⟨g, 0, none⟩), .int .i64 16] W fun e w' => e = .returned (.int .i64 (uptoS 16 s1).1) ∧ EyeAt w' F g (uptoS 16 s1).2.1 (uptoS 16 s1).2.2 ∧ Kept (fun b => b = g) W w') := hidden (fun W hW => eye_upto W F g s1 16 hW hG.ne)
  have HN16 : Hid ((uptoS 16 s1).1 ≤ 16 ∧ (uptoS 16 s1).2.1.length ≤ s1.1.length) := hidden ⟨by have := (uptoI_nat 16 s1).2; unfold uptoI at this; dsimp only at this; omega, uptoS_len _ _⟩
  generalize uptoS 16 s1 = a2 at *
  obtain ⟨n, s2⟩ := a2
  dsimp only at HU2 HN16 HOS
  have HNL : Hid (s2.1.length ≤ s.1.length) := hidden (Nat.le_trans HN16.out.2 HLA.out)
  have hn16 := HN16.out.1
  clear h hG hK0
  go_enter Try.func27, Try.ntmps27
  go_wp2_with (first
    | (go_at_call 82; (with_reducible refine HU1.out.mono ?_); rintro e w1 ⟨rfl, he1, hk1⟩; have HE1 := hidden he1; have HK1 := hidden hk1; have hz1 := hk1.size; have HK2 : Hid (Kept Nob w1 (w1.alloc (.cells #[.int .i64 am, .slice none 0 0] 38))) := hidden (by repeat (first | exact Kept.refl _ _ | apply Kept.alloc | apply Kept.drewN | apply Kept.drew)); have HU3 := hidden (HU2.out (w1.alloc (.cells #[.int .i64 am, .slice none 0 0] 38)) (he1.keep HK2.out (fun h => h) (fun _ _ h => h))); clear he1 hk1; dsimp only)
    | (go_at_call 82; (with_reducible refine HU3.out.mono ?_); rintro e w3 ⟨rfl, he3, hk3⟩; have HE3 := hidden he3; have HK3 := hidden hk3; have hz3 := hk3.size; have HB3 : Hid (w3.heap[w1.heap.size]? = some (.cells #[.int .i64 am, .slice none 0 0] 38 (0, 0))) := hidden (hk3.blk (heap_alloc_new _ _) (fun h => by omega)); have hz2 := blk_lt HB3.out; have HK03 : Hid (Kept (fun b => b = g) W0 w3) := hidden (Kept.trans (Kept.then HK1.out HK2.out (fun _ _ h => h.elim)) hk3); clear he3 hk3; dsimp only))
  clear hW0
  go_loopw [4, 10, 14] (fun _ t10 _ wr => ∃ k : Nat, k ≤ n ∧ t10 = .int .i64 k ∧ ∃ (v : Value) (Fb : Nat → Prop), wr.heap[w1.heap.size]? = some (.cells #[.int .i64 am, v] 38 (0, 0)) ∧ OwnE RWay 35 wr (Own1 v) Fb 26 v (loopS wayS k s2).1 ∧ (∀ b, Fb b → w1.heap.size < b ∧ b < wr.heap.size ∧ ¬ Own1 v b) ∧ (∀ b, Own1 v b → w1.heap.size < b) ∧ EyeAt wr F g (loopS wayS k s2).2.1 (loopS wayS k s2).2.2 ∧ Kept (fun b => b = g) W0 wr) (fun _ t10 _ _ => n - (intOf t10).toNat)
  case atStart => exact ⟨0, Nat.zero_le _, rfl, _, Nob, HB3.out, OwnE.nil _ _ _ _ _ _, fun b hb => hb.elim, fun b hb => by simp [Own1, Value.ownBlock] at hb, HE3.out, HK03.out⟩
  case round =>
    obtain ⟨wo, rfl⟩ : ∃ wo : World, wo = wr := ⟨_, rfl⟩
    obtain ⟨k, hk, rfl, v, Fb, hb3, how, hfb, hvb, heye, hkw⟩ := hrel
    have HB3r := hidden hb3
    have HOW := hidden how
    have HFB := hidden hfb
    have HVB := hidden hvb
    have HER := hidden heye
    have HKR := hidden hkw
    have hzr := hkw.size
    have hn4 := blk_lt hb3
    obtain ⟨Aw, cw, hvw, hsl⟩ := how.sl RWay.good
    have HSL := hidden hsl
    clear hsl
    have HLW : Hid ((loopS wayS k s2).1.length = k) := hidden (loopS_len _ _ _)
    rw [HLW.out] at hvw
    by_cases hlt : k < n
    · have HSC : Hid ((loopS wayS (k + 1) s2).1 = (loopS wayS k s2).1 ++ [(wayS (loopS wayS k s2).2).1] ∧ (loopS wayS (k + 1) s2).2 = (wayS (loopS wayS k s2).2).2) := hidden ⟨rfl, rfl⟩
      have HLS : Hid ((loopS wayS k s2).2.1.length ≤ s.1.length) := hidden (Nat.le_trans (loopS_lenS wayS wayS_len k s2) HNL.out)
      generalize (loopS wayS k s2).1 = ws at *
      generalize (loopS wayS k s2).2 = st at *
      have HWS : Hid ((wayS st).1 = ⟨(loopS (uptoI 255) (uptoS 16 st).1 (uptoS 16 st).2).1, (sumS (loopS (uptoI 255) (uptoS 16 st).1 (uptoS 16 st).2).2).1, (uptoI 1073741824 (sumS (loopS (uptoI 255) (uptoS 16 st).1 (uptoS 16 st).2).2).2).1, (uptoI 1073741824 (uptoI 1073741824 (sumS (loopS (uptoI 255) (uptoS 16 st).1 (uptoS 16 st).2).2).2).2).1⟩ ∧ (wayS st).2 = (uptoI 1073741824 (uptoI 1073741824 (sumS (loopS (uptoI 255) (uptoS 16 st).1 (uptoS 16 st).2).2).2).2).2) := hidden ⟨rfl, rfl⟩
      have HU4 : Hid (∀ W, EyeAt W F g st.1 st.2 → Calls Try.prog 82 #[.pointer (some ⟨g, 0, none⟩), .int .i64 16] W fun e w' => e = .returned (.int .i64 (uptoS 16 st).1) ∧ EyeAt w' F g (uptoS 16 st).2.1 (uptoS 16 st).2.2 ∧ Kept (fun b => b = g) W w') := hidden (fun W hW => eye_upto W F g st 16 hW HG.out.ne)
      have HM16 : Hid ((uptoS 16 st).1 ≤ 16 ∧ (uptoS 16 st).2.1.length ≤ st.1.length) := hidden ⟨by have := (uptoI_nat 16 st).2; unfold uptoI at this; dsimp only at this; omega, uptoS_len _ _⟩
      generalize uptoS 16 st = a4 at *
      obtain ⟨m, st1⟩ := a4
      dsimp only at HU4 HM16 HWS
      have hm16 := HM16.out.1
      have HL4 : Hid (st1.1.length ≤ s.1.length) := hidden (Nat.le_trans HM16.out.2 HLS.out)
      have HK4 : Hid (Kept Nob wo (wo.alloc (.cells #[.slice none 0 0, .int .u8 0, .int .u8 0, .int .u8 0, .int .u8 0, .int .u8 0, .int .u8 0, .int .u8 0, .int .u8 0, .int .u8 0, .int .u8 0, .int .u8 0, .int .u8 0, .int .u8 0, .int .u8 0, .int .u8 0, .int .u8 0, .int .u8 0, .int .u8 0, .int .u8 0, .int .u8 0, .int .u8 0, .int .u8 0, .int .u8 0, .int .u8 0, .int .u8 0, .int .u8 0, .int .u8 0, .int .u8 0, .int .u8 0, .int .u8 0, .int .u8 0, .int .u8 0, .int .i64 0, .int .i64 0] 26))) := hidden (by repeat (first | exact Kept.refl _ _ | apply Kept.alloc | apply Kept.drewN | apply Kept.drew))
      have HU5 := hidden (HU4.out _ (HER.out.keep HK4.out (fun h => h) (fun _ _ h => h)))
      clear hb3 how hfb hvb heye hkw
      go_wp2_with (go_at_call 82; (with_reducible refine HU5.out.mono ?_); rintro e w4 ⟨rfl, he4, hk4⟩; have HE4 := hidden he4; have HK44 := hidden hk4; have hz4 := hk4.size; have HB4 : Hid (w4.heap[wo.heap.size]? = some (.cells #[.slice none 0 0, .int .u8 0, .int .u8 0, .int .u8 0, .int .u8 0, .int .u8 0, .int .u8 0, .int .u8 0, .int .u8 0, .int .u8 0, .int .u8 0, .int .u8 0, .int .u8 0, .int .u8 0, .int .u8 0, .int .u8 0, .int .u8 0, .int .u8 0, .int .u8 0, .int .u8 0, .int .u8 0, .int .u8 0, .int .u8 0, .int .u8 0, .int .u8 0, .int .u8 0, .int .u8 0, .int .u8 0, .int .u8 0, .int .u8 0, .int .u8 0, .int .u8 0, .int .u8 0, .int .i64 0, .int .i64 0] 26 (0, 0))) := hidden (hk4.blk (heap_alloc_new _ _) (fun h => by omega)); have hz5 := blk_lt HB4.out; clear he4 hk4; dsimp only)
      clear HU5 HU4
      go_loopw [14] (fun t14 wr => ∃ j : Nat, j ≤ m ∧ t14 = .int .i64 j ∧ ∃ vk : Value, wr.heap[wo.heap.size]? = some (.cells #[vk, .int .u8 0, .int .u8 0, .int .u8 0, .int .u8 0, .int .u8 0, .int .u8 0, .int .u8 0, .int .u8 0, .int .u8 0, .int .u8 0, .int .u8 0, .int .u8 0, .int .u8 0, .int .u8 0, .int .u8 0, .int .u8 0, .int .u8 0, .int .u8 0, .int .u8 0, .int .u8 0, .int .u8 0, .int .u8 0, .int .u8 0, .int .u8 0, .int .u8 0, .int .u8 0, .int .u8 0, .int .u8 0, .int .u8 0, .int .u8 0, .int .u8 0, .int .u8 0, .int .i64 0, .int .i64 0] 26 (0, 0)) ∧ OwnV wr (Own1 vk) 3 1 vk j (nums .i64 (loopS (uptoI 255) j st1).1) ∧ (∀ b, Own1 vk b → w4.heap.size ≤ b) ∧ EyeAt wr F g (loopS (uptoI 255) j st1).2.1 (loopS (uptoI 255) j st1).2.2 ∧ Kept (fun b => b = g ∨ b = wo.heap.size) w4 wr) (fun t14 _ => m - (intOf t14).toNat)
      case atStart => exact ⟨0, Nat.zero_le _, rfl, _, HB4.out, OwnV.nil _ _ _ _, fun b hb => by simp [Own1, Value.ownBlock] at hb, HE4.out, Kept.refl _ _⟩
      case round =>
        obtain ⟨j, hj, rfl, vk, hb4, hov, hvk, he5, hk5⟩ := hrel
        obtain ⟨Ak, ck, hvk2, hjc, hcm, _⟩ := hov.slice
        subst hvk2
        unfold maxLen at hcm
        have HB5 := hidden hb4
        have HOV := hidden hov
        have HVK := hidden hvk
        have HE5 := hidden he5
        have HK5 := hidden hk5
        have hz6 := hk5.size
        have q0 : wr.cell? ⟨wo.heap.size, 0, none⟩ = some (.slice Ak j ck) := (blk_cell hb4 0).trans rfl
        clear hb4 hov hvk he5 hk5
        by_cases hjm : j < m
        · have HS1 : Hid ((loopS (uptoI 255) (j + 1) st1).1 = (loopS (uptoI 255) j st1).1 ++ [(uptoI 255 (loopS (uptoI 255) j st1).2).1] ∧ (loopS (uptoI 255) (j + 1) st1).2 = (uptoI 255 (loopS (uptoI 255) j st1).2).2) := hidden ⟨rfl, rfl⟩
          generalize (loopS (uptoI 255) j st1).1 = ks at *
          generalize (loopS (uptoI 255) j st1).2 = sj at *
          have HUI := hidden (fun W hW => eye_uptoL 255 255 rfl W F g sj hW HG.out.ne)
          have HU7 := hidden (HUI.out wr.drew (HE5.out.keep (Kept.drew (Kept.refl Nob _)) (fun h => h) (fun _ _ h => h)))
          have hge := HG.out.gl
          go_wp2
          refine region_E 8 (fun y => y.cell? ⟨wo.heap.size, 0, none⟩ = some (.slice Ak j ck)) (by kernel_rfl) (by kernel_rfl) ?_ ?_
          · exact q0
          intro HS_
          all_goals (first | (refine GE.skip (i := 0) (oi := ?_) ?_ ?_ ?_ ?_ ?_ ?_; rotate_left; (simp only [List.getElem?_toArray, List.getElem?_cons_zero]; exact rfl); kernel_rfl; rfl; exact fun _ _ _ h => h; exact HS_.out; (try simp only [Act.put, List.setIfInBounds_toArray, List.set_cons_zero, List.set_cons_succ])) | (refine GE.univR (i := 0) (oi := ?_) (v := ?_) ?_ ?_ ?_ ?_ ?_ ?_ ?_; rotate_left; rotate_left; (simp only [List.getElem?_toArray, List.getElem?_cons_zero]; exact rfl); kernel_rfl; rfl; exact fun _ _ _ h => h; exact HS_.out; (intro x; go_simp; rfl); (try simp only [Act.put, List.setIfInBounds_toArray, List.set_cons_zero, List.set_cons_succ])) | (refine GE.takeR (i := 0) (oi := ?_) (v := ?_) ?_ ?_ ?_ ?_ ?_ ?_ ?_; rotate_left; rotate_left; (simp only [List.getElem?_toArray, List.getElem?_cons_zero]; exact rfl); kernel_rfl; rfl; exact fun _ _ _ h => h; exact HS_.out; (intro x hx; (try dsimp only at hx); go_split_ands; go_simp; rfl); (try simp only [Act.put, List.setIfInBounds_toArray, List.set_cons_zero, List.set_cons_succ])) | (refine GE.step (i := 0) (o := ?_) ?_ ?_ ?_; rotate_left; (simp only [List.getElem?_toArray, List.getElem?_cons_zero]; exact rfl); kernel_rfl; go_wp2_with (first | (go_at_call 82; (with_reducible refine HU7.out.mono ?_); rintro e w7 ⟨rfl, he7, hk7⟩; have c7 : w7.cell? ⟨wo.heap.size, 0, none⟩ = some (.slice Ak j ck) := hk7.at (show (World.drew wr).cell? _ = _ from q0) (fun h => by have h' : wo.heap.size = g := h; omega); have HE7 := hidden he7; have HK7 := hidden hk7; have hz7 : wr.heap.size ≤ w7.heap.size := hk7.size; have hk7' : Kept (fun b => b = g) wr (w7.alloc (.cells #[.int .i64 (uptoI 255 sj).1] 3)) := Kept.alloc (Kept.trans (Kept.drew (Kept.refl _ _)) hk7) _; have HOV7 := hidden (HOV.out.keep hk7' (fun b hb h => by have := HVK.out b hb; omega)); have HB7 := hidden (hk7'.blk HB5.out (fun h => by omega)); clear he7 hk7 hk7'; dsimp only) | (at_builtin; refine OwnV.app e64 rfl (.tmp 17) (.tmp 20) rfl (Own1 (.slice Ak j ck)) _ j (nums .i64 ks) rfl HOV7.out (some ⟨w7.heap.size, 0, none⟩) 1 1 [.int .i64 (uptoI 255 sj).1] rfl rfl (src_one _ _ _) (fun e => by cases e) (by simp [Value.oneCell']) (by unfold maxLen; omega) (by omega) ?_; intro v8 w8 ho8 hk8; obtain ⟨A8, d8, hv8, _, _, _⟩ := ho8.slice; subst hv8; have HV8 : Hid (∀ b, Own1 (.slice A8 (j + 1) d8) b → w4.heap.size ≤ b) := hidden (fun b hb => (ho8.2 b hb).elim (fun h => HVK.out b h) (fun h => by simp at h; omega)); have b8 := hk8.blk HB7.out (fun h => by have := HVK.out _ h; omega); have c8 : w8.cell? ⟨wo.heap.size, 0, none⟩ = some (.slice Ak j ck) := (blk_cell b8 0).trans rfl; have f8 : w8.frozen? ⟨wo.heap.size, 0, none⟩ = false := blk_frozen b8 0; have HB8 := hidden b8; have HO8 := hidden ho8; have HK8 := hidden hk8; clear b8 ho8 hk8; dsimp only)); ))
          all_goals (first | (refine GE.skip (i := 1) (oi := ?_) ?_ ?_ ?_ ?_ ?_ ?_; rotate_left; (simp only [List.getElem?_toArray, List.getElem?_cons_succ, List.getElem?_cons_zero]; exact rfl); kernel_rfl; rfl; exact fun _ _ _ h => h; exact HS_.out; (try simp only [Act.put, List.setIfInBounds_toArray, List.set_cons_zero, List.set_cons_succ])) | (refine GE.univR (i := 1) (oi := ?_) (v := ?_) ?_ ?_ ?_ ?_ ?_ ?_ ?_; rotate_left; rotate_left; (simp only [List.getElem?_toArray, List.getElem?_cons_succ, List.getElem?_cons_zero]; exact rfl); kernel_rfl; rfl; exact fun _ _ _ h => h; exact HS_.out; (intro x; go_simp; rfl); (try simp only [Act.put, List.setIfInBounds_toArray, List.set_cons_zero, List.set_cons_succ])) | (refine GE.takeR (i := 1) (oi := ?_) (v := ?_) ?_ ?_ ?_ ?_ ?_ ?_ ?_; rotate_left; rotate_left; (simp only [List.getElem?_toArray, List.getElem?_cons_succ, List.getElem?_cons_zero]; exact rfl); kernel_rfl; rfl; exact fun _ _ _ h => h; exact HS_.out; (intro x hx; (try dsimp only at hx); go_split_ands; go_simp; rfl); (try simp only [Act.put, List.setIfInBounds_toArray, List.set_cons_zero, List.set_cons_succ])) | (refine GE.step (i := 1) (o := ?_) ?_ ?_ ?_; rotate_left; (simp only [List.getElem?_toArray, List.getElem?_cons_succ, List.getElem?_cons_zero]; exact rfl); kernel_rfl; go_wp2_with (first | (go_at_call 82; (with_reducible refine HU7.out.mono ?_); rintro e w7 ⟨rfl, he7, hk7⟩; have c7 : w7.cell? ⟨wo.heap.size, 0, none⟩ = some (.slice Ak j ck) := hk7.at (show (World.drew wr).cell? _ = _ from q0) (fun h => by have h' : wo.heap.size = g := h; omega); have HE7 := hidden he7; have HK7 := hidden hk7; have hz7 : wr.heap.size ≤ w7.heap.size := hk7.size; have hk7' : Kept (fun b => b = g) wr (w7.alloc (.cells #[.int .i64 (uptoI 255 sj).1] 3)) := Kept.alloc (Kept.trans (Kept.drew (Kept.refl _ _)) hk7) _; have HOV7 := hidden (HOV.out.keep hk7' (fun b hb h => by have := HVK.out b hb; omega)); have HB7 := hidden (hk7'.blk HB5.out (fun h => by omega)); clear he7 hk7 hk7'; dsimp only) | (at_builtin; refine OwnV.app e64 rfl (.tmp 17) (.tmp 20) rfl (Own1 (.slice Ak j ck)) _ j (nums .i64 ks) rfl HOV7.out (some ⟨w7.heap.size, 0, none⟩) 1 1 [.int .i64 (uptoI 255 sj).1] rfl rfl (src_one _ _ _) (fun e => by cases e) (by simp [Value.oneCell']) (by unfold maxLen; omega) (by omega) ?_; intro v8 w8 ho8 hk8; obtain ⟨A8, d8, hv8, _, _, _⟩ := ho8.slice; subst hv8; have HV8 : Hid (∀ b, Own1 (.slice A8 (j + 1) d8) b → w4.heap.size ≤ b) := hidden (fun b hb => (ho8.2 b hb).elim (fun h => HVK.out b h) (fun h => by simp at h; omega)); have b8 := hk8.blk HB7.out (fun h => by have := HVK.out _ h; omega); have c8 : w8.cell? ⟨wo.heap.size, 0, none⟩ = some (.slice Ak j ck) := (blk_cell b8 0).trans rfl; have f8 : w8.frozen? ⟨wo.heap.size, 0, none⟩ = false := blk_frozen b8 0; have HB8 := hidden b8; have HO8 := hidden ho8; have HK8 := hidden hk8; clear b8 ho8 hk8; dsimp only)); ))
          all_goals (first | (refine GE.skip (i := 2) (oi := ?_) ?_ ?_ ?_ ?_ ?_ ?_; rotate_left; (simp only [List.getElem?_toArray, List.getElem?_cons_succ, List.getElem?_cons_zero]; exact rfl); kernel_rfl; rfl; exact fun _ _ _ h => h; exact HS_.out; (try simp only [Act.put, List.setIfInBounds_toArray, List.set_cons_zero, List.set_cons_succ])) | (refine GE.univR (i := 2) (oi := ?_) (v := ?_) ?_ ?_ ?_ ?_ ?_ ?_ ?_; rotate_left; rotate_left; (simp only [List.getElem?_toArray, List.getElem?_cons_succ, List.getElem?_cons_zero]; exact rfl); kernel_rfl; rfl; exact fun _ _ _ h => h; exact HS_.out; (intro x; go_simp; rfl); (try simp only [Act.put, List.setIfInBounds_toArray, List.set_cons_zero, List.set_cons_succ])) | (refine GE.takeR (i := 2) (oi := ?_) (v := ?_) ?_ ?_ ?_ ?_ ?_ ?_ ?_; rotate_left; rotate_left; (simp only [List.getElem?_toArray, List.getElem?_cons_succ, List.getElem?_cons_zero]; exact rfl); kernel_rfl; rfl; exact fun _ _ _ h => h; exact HS_.out; (intro x hx; (try dsimp only at hx); go_split_ands; go_simp; rfl); (try simp only [Act.put, List.setIfInBounds_toArray, List.set_cons_zero, List.set_cons_succ])) | (refine GE.step (i := 2) (o := ?_) ?_ ?_ ?_; rotate_left; (simp only [List.getElem?_toArray, List.getElem?_cons_succ, List.getElem?_cons_zero]; exact rfl); kernel_rfl; go_wp2_with (first | (go_at_call 82; (with_reducible refine HU7.out.mono ?_); rintro e w7 ⟨rfl, he7, hk7⟩; have c7 : w7.cell? ⟨wo.heap.size, 0, none⟩ = some (.slice Ak j ck) := hk7.at (show (World.drew wr).cell? _ = _ from q0) (fun h => by have h' : wo.heap.size = g := h; omega); have HE7 := hidden he7; have HK7 := hidden hk7; have hz7 : wr.heap.size ≤ w7.heap.size := hk7.size; have hk7' : Kept (fun b => b = g) wr (w7.alloc (.cells #[.int .i64 (uptoI 255 sj).1] 3)) := Kept.alloc (Kept.trans (Kept.drew (Kept.refl _ _)) hk7) _; have HOV7 := hidden (HOV.out.keep hk7' (fun b hb h => by have := HVK.out b hb; omega)); have HB7 := hidden (hk7'.blk HB5.out (fun h => by omega)); clear he7 hk7 hk7'; dsimp only) | (at_builtin; refine OwnV.app e64 rfl (.tmp 17) (.tmp 20) rfl (Own1 (.slice Ak j ck)) _ j (nums .i64 ks) rfl HOV7.out (some ⟨w7.heap.size, 0, none⟩) 1 1 [.int .i64 (uptoI 255 sj).1] rfl rfl (src_one _ _ _) (fun e => by cases e) (by simp [Value.oneCell']) (by unfold maxLen; omega) (by omega) ?_; intro v8 w8 ho8 hk8; obtain ⟨A8, d8, hv8, _, _, _⟩ := ho8.slice; subst hv8; have HV8 : Hid (∀ b, Own1 (.slice A8 (j + 1) d8) b → w4.heap.size ≤ b) := hidden (fun b hb => (ho8.2 b hb).elim (fun h => HVK.out b h) (fun h => by simp at h; omega)); have b8 := hk8.blk HB7.out (fun h => by have := HVK.out _ h; omega); have c8 : w8.cell? ⟨wo.heap.size, 0, none⟩ = some (.slice Ak j ck) := (blk_cell b8 0).trans rfl; have f8 : w8.frozen? ⟨wo.heap.size, 0, none⟩ = false := blk_frozen b8 0; have HB8 := hidden b8; have HO8 := hidden ho8; have HK8 := hidden hk8; clear b8 ho8 hk8; dsimp only)); ))
          all_goals (first | (refine GE.skip (i := 3) (oi := ?_) ?_ ?_ ?_ ?_ ?_ ?_; rotate_left; (simp only [List.getElem?_toArray, List.getElem?_cons_succ, List.getElem?_cons_zero]; exact rfl); kernel_rfl; rfl; exact fun _ _ _ h => h; exact HS_.out; (try simp only [Act.put, List.setIfInBounds_toArray, List.set_cons_zero, List.set_cons_succ])) | (refine GE.univR (i := 3) (oi := ?_) (v := ?_) ?_ ?_ ?_ ?_ ?_ ?_ ?_; rotate_left; rotate_left; (simp only [List.getElem?_toArray, List.getElem?_cons_succ, List.getElem?_cons_zero]; exact rfl); kernel_rfl; rfl; exact fun _ _ _ h => h; exact HS_.out; (intro x; go_simp; rfl); (try simp only [Act.put, List.setIfInBounds_toArray, List.set_cons_zero, List.set_cons_succ])) | (refine GE.takeR (i := 3) (oi := ?_) (v := ?_) ?_ ?_ ?_ ?_ ?_ ?_ ?_; rotate_left; rotate_left; (simp only [List.getElem?_toArray, List.getElem?_cons_succ, List.getElem?_cons_zero]; exact rfl); kernel_rfl; rfl; exact fun _ _ _ h => h; exact HS_.out; (intro x hx; (try dsimp only at hx); go_split_ands; go_simp; rfl); (try simp only [Act.put, List.setIfInBounds_toArray, List.set_cons_zero, List.set_cons_succ])) | (refine GE.step (i := 3) (o := ?_) ?_ ?_ ?_; rotate_left; (simp only [List.getElem?_toArray, List.getElem?_cons_succ, List.getElem?_cons_zero]; exact rfl); kernel_rfl; go_wp2_with (first | (go_at_call 82; (with_reducible refine HU7.out.mono ?_); rintro e w7 ⟨rfl, he7, hk7⟩; have c7 : w7.cell? ⟨wo.heap.size, 0, none⟩ = some (.slice Ak j ck) := hk7.at (show (World.drew wr).cell? _ = _ from q0) (fun h => by have h' : wo.heap.size = g := h; omega); have HE7 := hidden he7; have HK7 := hidden hk7; have hz7 : wr.heap.size ≤ w7.heap.size := hk7.size; have hk7' : Kept (fun b => b = g) wr (w7.alloc (.cells #[.int .i64 (uptoI 255 sj).1] 3)) := Kept.alloc (Kept.trans (Kept.drew (Kept.refl _ _)) hk7) _; have HOV7 := hidden (HOV.out.keep hk7' (fun b hb h => by have := HVK.out b hb; omega)); have HB7 := hidden (hk7'.blk HB5.out (fun h => by omega)); clear he7 hk7 hk7'; dsimp only) | (at_builtin; refine OwnV.app e64 rfl (.tmp 17) (.tmp 20) rfl (Own1 (.slice Ak j ck)) _ j (nums .i64 ks) rfl HOV7.out (some ⟨w7.heap.size, 0, none⟩) 1 1 [.int .i64 (uptoI 255 sj).1] rfl rfl (src_one _ _ _) (fun e => by cases e) (by simp [Value.oneCell']) (by unfold maxLen; omega) (by omega) ?_; intro v8 w8 ho8 hk8; obtain ⟨A8, d8, hv8, _, _, _⟩ := ho8.slice; subst hv8; have HV8 : Hid (∀ b, Own1 (.slice A8 (j + 1) d8) b → w4.heap.size ≤ b) := hidden (fun b hb => (ho8.2 b hb).elim (fun h => HVK.out b h) (fun h => by simp at h; omega)); have b8 := hk8.blk HB7.out (fun h => by have := HVK.out _ h; omega); have c8 : w8.cell? ⟨wo.heap.size, 0, none⟩ = some (.slice Ak j ck) := (blk_cell b8 0).trans rfl; have f8 : w8.frozen? ⟨wo.heap.size, 0, none⟩ = false := blk_frozen b8 0; have HB8 := hidden b8; have HO8 := hidden ho8; have HK8 := hidden hk8; clear b8 ho8 hk8; dsimp only)); refine QE.keep c7 ?_; intro HS_))
          all_goals (first | (refine GE.skip (i := 4) (oi := ?_) ?_ ?_ ?_ ?_ ?_ ?_; rotate_left; (simp only [List.getElem?_toArray, List.getElem?_cons_succ, List.getElem?_cons_zero]; exact rfl); kernel_rfl; rfl; exact fun _ _ _ h => h; exact HS_.out; (try simp only [Act.put, List.setIfInBounds_toArray, List.set_cons_zero, List.set_cons_succ])) | (refine GE.univR (i := 4) (oi := ?_) (v := ?_) ?_ ?_ ?_ ?_ ?_ ?_ ?_; rotate_left; rotate_left; (simp only [List.getElem?_toArray, List.getElem?_cons_succ, List.getElem?_cons_zero]; exact rfl); kernel_rfl; rfl; exact fun _ _ _ h => h; exact HS_.out; (intro x; go_simp; rfl); (try simp only [Act.put, List.setIfInBounds_toArray, List.set_cons_zero, List.set_cons_succ])) | (refine GE.takeR (i := 4) (oi := ?_) (v := ?_) ?_ ?_ ?_ ?_ ?_ ?_ ?_; rotate_left; rotate_left; (simp only [List.getElem?_toArray, List.getElem?_cons_succ, List.getElem?_cons_zero]; exact rfl); kernel_rfl; rfl; exact fun _ _ _ h => h; exact HS_.out; (intro x hx; (try dsimp only at hx); go_split_ands; go_simp; rfl); (try simp only [Act.put, List.setIfInBounds_toArray, List.set_cons_zero, List.set_cons_succ])) | (refine GE.step (i := 4) (o := ?_) ?_ ?_ ?_; rotate_left; (simp only [List.getElem?_toArray, List.getElem?_cons_succ, List.getElem?_cons_zero]; exact rfl); kernel_rfl; go_wp2_with (first | (go_at_call 82; (with_reducible refine HU7.out.mono ?_); rintro e w7 ⟨rfl, he7, hk7⟩; have c7 : w7.cell? ⟨wo.heap.size, 0, none⟩ = some (.slice Ak j ck) := hk7.at (show (World.drew wr).cell? _ = _ from q0) (fun h => by have h' : wo.heap.size = g := h; omega); have HE7 := hidden he7; have HK7 := hidden hk7; have hz7 : wr.heap.size ≤ w7.heap.size := hk7.size; have hk7' : Kept (fun b => b = g) wr (w7.alloc (.cells #[.int .i64 (uptoI 255 sj).1] 3)) := Kept.alloc (Kept.trans (Kept.drew (Kept.refl _ _)) hk7) _; have HOV7 := hidden (HOV.out.keep hk7' (fun b hb h => by have := HVK.out b hb; omega)); have HB7 := hidden (hk7'.blk HB5.out (fun h => by omega)); clear he7 hk7 hk7'; dsimp only) | (at_builtin; refine OwnV.app e64 rfl (.tmp 17) (.tmp 20) rfl (Own1 (.slice Ak j ck)) _ j (nums .i64 ks) rfl HOV7.out (some ⟨w7.heap.size, 0, none⟩) 1 1 [.int .i64 (uptoI 255 sj).1] rfl rfl (src_one _ _ _) (fun e => by cases e) (by simp [Value.oneCell']) (by unfold maxLen; omega) (by omega) ?_; intro v8 w8 ho8 hk8; obtain ⟨A8, d8, hv8, _, _, _⟩ := ho8.slice; subst hv8; have HV8 : Hid (∀ b, Own1 (.slice A8 (j + 1) d8) b → w4.heap.size ≤ b) := hidden (fun b hb => (ho8.2 b hb).elim (fun h => HVK.out b h) (fun h => by simp at h; omega)); have b8 := hk8.blk HB7.out (fun h => by have := HVK.out _ h; omega); have c8 : w8.cell? ⟨wo.heap.size, 0, none⟩ = some (.slice Ak j ck) := (blk_cell b8 0).trans rfl; have f8 : w8.frozen? ⟨wo.heap.size, 0, none⟩ = false := blk_frozen b8 0; have HB8 := hidden b8; have HO8 := hidden ho8; have HK8 := hidden hk8; clear b8 ho8 hk8; dsimp only)); refine QE.keep ((Kept.alloc (Kept.refl Nob w7) _).at c7 (fun h => h)) ?_; intro HS_))
          all_goals (first | (refine GE.skip (i := 5) (oi := ?_) ?_ ?_ ?_ ?_ ?_ ?_; rotate_left; (simp only [List.getElem?_toArray, List.getElem?_cons_succ, List.getElem?_cons_zero]; exact rfl); kernel_rfl; rfl; exact fun _ _ _ h => h; exact HS_.out; (try simp only [Act.put, List.setIfInBounds_toArray, List.set_cons_zero, List.set_cons_succ])) | (refine GE.univR (i := 5) (oi := ?_) (v := ?_) ?_ ?_ ?_ ?_ ?_ ?_ ?_; rotate_left; rotate_left; (simp only [List.getElem?_toArray, List.getElem?_cons_succ, List.getElem?_cons_zero]; exact rfl); kernel_rfl; rfl; exact fun _ _ _ h => h; exact HS_.out; (intro x; go_simp; rfl); (try simp only [Act.put, List.setIfInBounds_toArray, List.set_cons_zero, List.set_cons_succ])) | (refine GE.takeR (i := 5) (oi := ?_) (v := ?_) ?_ ?_ ?_ ?_ ?_ ?_ ?_; rotate_left; rotate_left; (simp only [List.getElem?_toArray, List.getElem?_cons_succ, List.getElem?_cons_zero]; exact rfl); kernel_rfl; rfl; exact fun _ _ _ h => h; exact HS_.out; (intro x hx; (try dsimp only at hx); go_split_ands; go_simp; rfl); (try simp only [Act.put, List.setIfInBounds_toArray, List.set_cons_zero, List.set_cons_succ])) | (refine GE.step (i := 5) (o := ?_) ?_ ?_ ?_; rotate_left; (simp only [List.getElem?_toArray, List.getElem?_cons_succ, List.getElem?_cons_zero]; exact rfl); kernel_rfl; go_wp2_with (first | (go_at_call 82; (with_reducible refine HU7.out.mono ?_); rintro e w7 ⟨rfl, he7, hk7⟩; have c7 : w7.cell? ⟨wo.heap.size, 0, none⟩ = some (.slice Ak j ck) := hk7.at (show (World.drew wr).cell? _ = _ from q0) (fun h => by have h' : wo.heap.size = g := h; omega); have HE7 := hidden he7; have HK7 := hidden hk7; have hz7 : wr.heap.size ≤ w7.heap.size := hk7.size; have hk7' : Kept (fun b => b = g) wr (w7.alloc (.cells #[.int .i64 (uptoI 255 sj).1] 3)) := Kept.alloc (Kept.trans (Kept.drew (Kept.refl _ _)) hk7) _; have HOV7 := hidden (HOV.out.keep hk7' (fun b hb h => by have := HVK.out b hb; omega)); have HB7 := hidden (hk7'.blk HB5.out (fun h => by omega)); clear he7 hk7 hk7'; dsimp only) | (at_builtin; refine OwnV.app e64 rfl (.tmp 17) (.tmp 20) rfl (Own1 (.slice Ak j ck)) _ j (nums .i64 ks) rfl HOV7.out (some ⟨w7.heap.size, 0, none⟩) 1 1 [.int .i64 (uptoI 255 sj).1] rfl rfl (src_one _ _ _) (fun e => by cases e) (by simp [Value.oneCell']) (by unfold maxLen; omega) (by omega) ?_; intro v8 w8 ho8 hk8; obtain ⟨A8, d8, hv8, _, _, _⟩ := ho8.slice; subst hv8; have HV8 : Hid (∀ b, Own1 (.slice A8 (j + 1) d8) b → w4.heap.size ≤ b) := hidden (fun b hb => (ho8.2 b hb).elim (fun h => HVK.out b h) (fun h => by simp at h; omega)); have b8 := hk8.blk HB7.out (fun h => by have := HVK.out _ h; omega); have c8 : w8.cell? ⟨wo.heap.size, 0, none⟩ = some (.slice Ak j ck) := (blk_cell b8 0).trans rfl; have f8 : w8.frozen? ⟨wo.heap.size, 0, none⟩ = false := blk_frozen b8 0; have HB8 := hidden b8; have HO8 := hidden ho8; have HK8 := hidden hk8; clear b8 ho8 hk8; dsimp only)); refine QE.drop (fun _ => True) (by kernel_rfl) trivial ?_; intro HS_))
          all_goals (first | (refine GE.skip (i := 6) (oi := ?_) ?_ ?_ ?_ ?_ ?_ ?_; rotate_left; (simp only [List.getElem?_toArray, List.getElem?_cons_succ, List.getElem?_cons_zero]; exact rfl); kernel_rfl; rfl; exact fun _ _ _ h => h; exact HS_.out; (try simp only [Act.put, List.setIfInBounds_toArray, List.set_cons_zero, List.set_cons_succ])) | (refine GE.univR (i := 6) (oi := ?_) (v := ?_) ?_ ?_ ?_ ?_ ?_ ?_ ?_; rotate_left; rotate_left; (simp only [List.getElem?_toArray, List.getElem?_cons_succ, List.getElem?_cons_zero]; exact rfl); kernel_rfl; rfl; exact fun _ _ _ h => h; exact HS_.out; (intro x; go_simp; rfl); (try simp only [Act.put, List.setIfInBounds_toArray, List.set_cons_zero, List.set_cons_succ])) | (refine GE.takeR (i := 6) (oi := ?_) (v := ?_) ?_ ?_ ?_ ?_ ?_ ?_ ?_; rotate_left; rotate_left; (simp only [List.getElem?_toArray, List.getElem?_cons_succ, List.getElem?_cons_zero]; exact rfl); kernel_rfl; rfl; exact fun _ _ _ h => h; exact HS_.out; (intro x hx; (try dsimp only at hx); go_split_ands; go_simp; rfl); (try simp only [Act.put, List.setIfInBounds_toArray, List.set_cons_zero, List.set_cons_succ])) | (refine GE.step (i := 6) (o := ?_) ?_ ?_ ?_; rotate_left; (simp only [List.getElem?_toArray, List.getElem?_cons_succ, List.getElem?_cons_zero]; exact rfl); kernel_rfl; go_wp2_with (first | (go_at_call 82; (with_reducible refine HU7.out.mono ?_); rintro e w7 ⟨rfl, he7, hk7⟩; have c7 : w7.cell? ⟨wo.heap.size, 0, none⟩ = some (.slice Ak j ck) := hk7.at (show (World.drew wr).cell? _ = _ from q0) (fun h => by have h' : wo.heap.size = g := h; omega); have HE7 := hidden he7; have HK7 := hidden hk7; have hz7 : wr.heap.size ≤ w7.heap.size := hk7.size; have hk7' : Kept (fun b => b = g) wr (w7.alloc (.cells #[.int .i64 (uptoI 255 sj).1] 3)) := Kept.alloc (Kept.trans (Kept.drew (Kept.refl _ _)) hk7) _; have HOV7 := hidden (HOV.out.keep hk7' (fun b hb h => by have := HVK.out b hb; omega)); have HB7 := hidden (hk7'.blk HB5.out (fun h => by omega)); clear he7 hk7 hk7'; dsimp only) | (at_builtin; refine OwnV.app e64 rfl (.tmp 17) (.tmp 20) rfl (Own1 (.slice Ak j ck)) _ j (nums .i64 ks) rfl HOV7.out (some ⟨w7.heap.size, 0, none⟩) 1 1 [.int .i64 (uptoI 255 sj).1] rfl rfl (src_one _ _ _) (fun e => by cases e) (by simp [Value.oneCell']) (by unfold maxLen; omega) (by omega) ?_; intro v8 w8 ho8 hk8; obtain ⟨A8, d8, hv8, _, _, _⟩ := ho8.slice; subst hv8; have HV8 : Hid (∀ b, Own1 (.slice A8 (j + 1) d8) b → w4.heap.size ≤ b) := hidden (fun b hb => (ho8.2 b hb).elim (fun h => HVK.out b h) (fun h => by simp at h; omega)); have b8 := hk8.blk HB7.out (fun h => by have := HVK.out _ h; omega); have c8 : w8.cell? ⟨wo.heap.size, 0, none⟩ = some (.slice Ak j ck) := (blk_cell b8 0).trans rfl; have f8 : w8.frozen? ⟨wo.heap.size, 0, none⟩ = false := blk_frozen b8 0; have HB8 := hidden b8; have HO8 := hidden ho8; have HK8 := hidden hk8; clear b8 ho8 hk8; dsimp only)); ))
          all_goals (first | (refine GE.skip (i := 7) (oi := ?_) ?_ ?_ ?_ ?_ ?_ ?_; rotate_left; (simp only [List.getElem?_toArray, List.getElem?_cons_succ, List.getElem?_cons_zero]; exact rfl); kernel_rfl; rfl; exact fun _ _ _ h => h; exact HS_.out; (try simp only [Act.put, List.setIfInBounds_toArray, List.set_cons_zero, List.set_cons_succ])) | (refine GE.univR (i := 7) (oi := ?_) (v := ?_) ?_ ?_ ?_ ?_ ?_ ?_ ?_; rotate_left; rotate_left; (simp only [List.getElem?_toArray, List.getElem?_cons_succ, List.getElem?_cons_zero]; exact rfl); kernel_rfl; rfl; exact fun _ _ _ h => h; exact HS_.out; (intro x; go_simp; rfl); (try simp only [Act.put, List.setIfInBounds_toArray, List.set_cons_zero, List.set_cons_succ])) | (refine GE.takeR (i := 7) (oi := ?_) (v := ?_) ?_ ?_ ?_ ?_ ?_ ?_ ?_; rotate_left; rotate_left; (simp only [List.getElem?_toArray, List.getElem?_cons_succ, List.getElem?_cons_zero]; exact rfl); kernel_rfl; rfl; exact fun _ _ _ h => h; exact HS_.out; (intro x hx; (try dsimp only at hx); go_split_ands; go_simp; rfl); (try simp only [Act.put, List.setIfInBounds_toArray, List.set_cons_zero, List.set_cons_succ])) | (refine GE.step (i := 7) (o := ?_) ?_ ?_ ?_; rotate_left; (simp only [List.getElem?_toArray, List.getElem?_cons_succ, List.getElem?_cons_zero]; exact rfl); kernel_rfl; go_wp2_with (first | (go_at_call 82; (with_reducible refine HU7.out.mono ?_); rintro e w7 ⟨rfl, he7, hk7⟩; have c7 : w7.cell? ⟨wo.heap.size, 0, none⟩ = some (.slice Ak j ck) := hk7.at (show (World.drew wr).cell? _ = _ from q0) (fun h => by have h' : wo.heap.size = g := h; omega); have HE7 := hidden he7; have HK7 := hidden hk7; have hz7 : wr.heap.size ≤ w7.heap.size := hk7.size; have hk7' : Kept (fun b => b = g) wr (w7.alloc (.cells #[.int .i64 (uptoI 255 sj).1] 3)) := Kept.alloc (Kept.trans (Kept.drew (Kept.refl _ _)) hk7) _; have HOV7 := hidden (HOV.out.keep hk7' (fun b hb h => by have := HVK.out b hb; omega)); have HB7 := hidden (hk7'.blk HB5.out (fun h => by omega)); clear he7 hk7 hk7'; dsimp only) | (at_builtin; refine OwnV.app e64 rfl (.tmp 17) (.tmp 20) rfl (Own1 (.slice Ak j ck)) _ j (nums .i64 ks) rfl HOV7.out (some ⟨w7.heap.size, 0, none⟩) 1 1 [.int .i64 (uptoI 255 sj).1] rfl rfl (src_one _ _ _) (fun e => by cases e) (by simp [Value.oneCell']) (by unfold maxLen; omega) (by omega) ?_; intro v8 w8 ho8 hk8; obtain ⟨A8, d8, hv8, _, _, _⟩ := ho8.slice; subst hv8; have HV8 : Hid (∀ b, Own1 (.slice A8 (j + 1) d8) b → w4.heap.size ≤ b) := hidden (fun b hb => (ho8.2 b hb).elim (fun h => HVK.out b h) (fun h => by simp at h; omega)); have b8 := hk8.blk HB7.out (fun h => by have := HVK.out _ h; omega); have c8 : w8.cell? ⟨wo.heap.size, 0, none⟩ = some (.slice Ak j ck) := (blk_cell b8 0).trans rfl; have f8 : w8.frozen? ⟨wo.heap.size, 0, none⟩ = false := blk_frozen b8 0; have HB8 := hidden b8; have HO8 := hidden ho8; have HK8 := hidden hk8; clear b8 ho8 hk8; dsimp only)); refine QE.drop (fun _ => True) (by kernel_rfl) trivial ?_; intro HS_))
          all_goals refine GE.done (by kernel_rfl) ?_
          all_goals
            go_wp2
            go_roundw
            case rel =>
              refine ⟨j + 1, by omega, by go_num, _, blk_set HB8.out 0 _, ?_, ?_, ?_, ?_⟩
              · have h1 := HO8.out.exact.keep (Kept.setCell (S := fun b => b = wo.heap.size) (Kept.refl _ _) (p := ⟨wo.heap.size, 0, none⟩) (fun _ => rfl) (.slice A8 (j + 1) d8)) (fun b hb h => by have := HV8.out b hb; omega)
                rw [HS1.out.1, nums_append]
                exact h1
              · exact HV8.out
              · rw [HS1.out.2]
                have h1 := (((HE7.out.keep (Kept.alloc (Kept.refl Nob w7) _) (fun h => h) (fun _ _ h => h)).keep HK8.out (fun h => by have := HVK.out _ h; omega) (fun b hb h => by have := HVK.out _ h; have := HG.out.lt b hb; omega)))
                exact h1.keep (Kept.setCell (S := fun b => b = wo.heap.size) (Kept.refl _ _) (p := ⟨wo.heap.size, 0, none⟩) (fun _ => rfl) _) (fun h => by omega) (fun b hb h => by have := HG.out.lt b hb; omega)
              · exact Kept.setCell (Kept.then (Kept.then HK5.out (Kept.trans (Kept.drew (Kept.refl _ _)) HK7.out) (fun b hb h => .inl h)) (Kept.trans (Kept.alloc (Kept.refl (Own1 (.slice Ak j ck)) _) _) HK8.out) (fun b hb h => by have := HVK.out b h; omega)) (p := ⟨wo.heap.size, 0, none⟩) (fun _ => .inr rfl) _
            case measure => simp [intOf]; omega
        · obtain rfl : j = m := by omega
          have HKI := hidden (loopS_wf 255 (by decide) j st1)
          have HSI := hidden (sumS_ok (loopS (uptoI 255) j st1).2 HE5.out.wf)
          have HKG : Hid (Kept (fun b => b = g) w wr) := hidden (Kept.then (S := fun b => b = g) ((HK0.out.mono (fun _ _ h => h.elim)).trans HKR.out) (Kept.then (Kept.trans (Kept.alloc (Kept.refl _ wo) _) HK44.out) HK5.out (fun b hb h => h.elim id (fun h' => by omega))) (fun _ _ h => h))
          have HSM := hidden (eye_sum wr F g (loopS (uptoI 255) j st1).2 HE5.out (HG.out.kept HKG.out (Nat.le_trans (loopS_lenS _ (uptoI_len _) _ _) HL4.out)))
          generalize (loopS (uptoI 255) j st1).1 = ks at *
          generalize (loopS (uptoI 255) j st1).2 = sj at *
          generalize sumS sj = a5 at *
          obtain ⟨hh, s5⟩ := a5
          dsimp only at HSM HWS HSI
          have HUA := hidden (fun W hW => eye_uptoL 1073741824 1073741824 rfl W F g s5 hW HG.out.ne)
          have HAI := hidden (uptoI_nat 1073741824 s5)
          generalize uptoI 1073741824 s5 = a6 at *
          obtain ⟨xa, s6⟩ := a6
          dsimp only at HUA HWS HAI
          have HUB := hidden (fun W hW => eye_uptoL 1073741824 1073741824 rfl W F g s6 hW HG.out.ne)
          have HBI := hidden (uptoI_nat 1073741824 s6)
          generalize uptoI 1073741824 s6 = a7 at *
          obtain ⟨xb, s7⟩ := a7
          dsimp only at HUB HWS HBI
          have HKA : Hid (Kept (fun b => b = g) wo wr) := hidden (Kept.then (Kept.trans (Kept.alloc (Kept.refl _ wo) _) HK44.out) HK5.out (fun b hb h => h.elim id (fun h' => by omega)))
          subst hvw
          have HFX : Hid (∀ b, (Fb b ∨ Own1 (.slice Ak j ck) b) → ¬ Own1 (.slice Aw k cw) b) := hidden (fun b hb h => hb.elim (fun h' => (HFB.out b h').2.2 h) (fun h' => by have := HVK.out b h'; have := HOW.out.own.2 b h; omega))
          obtain ⟨bW, hbW⟩ := eWay
          have HEW := hidden hbW
          clear hbW
          have hne1 : ¬ (w1.heap.size = wo.heap.size) := by omega
          have hne2 : ¬ (wo.heap.size = w1.heap.size) := by omega
          go_wp2_with (first
            | (go_at_call 83; (with_reducible refine HSM.out.mono ?_); rintro e w6 ⟨rfl, he6, hk6⟩; have HK6 := hidden hk6; have hz6' := hk6.size; have HU6 := hidden (HUA.out w6 he6); clear he6 hk6; dsimp only)
            | (go_at_call 82; (with_reducible refine HU6.out.mono ?_); rintro e w7 ⟨rfl, he7, hk7⟩; have HK7 := hidden hk7; have hz7' := hk7.size; have HU7 := hidden (HUB.out w7 he7); clear he7 hk7; dsimp only)
            | (go_at_call 82; (with_reducible refine HU7.out.mono ?_); rintro e w8 ⟨rfl, he8, hk8⟩; have hk8' := (HK6.out.trans HK7.out).trans hk8; have HK8 := hidden hk8'; have hz8 := hk8'.size; have HE8 := hidden he8; have HB8 : Hid (w8.heap[wo.heap.size]? = some (.cells (wayCells Ak ck ⟨ks, zero32, 0, 0⟩).toArray 26 (0, 0))) := hidden (by have := hk8'.blk HB5.out (fun h => by omega); rw [this]; unfold wayCells; rw [HKI.out.1]; rfl); clear he8 hk8 hk8'; dsimp only)
            | ((with_reducible refine store_off aggSum (.tmp 30) (.tmp 25) wo.heap.size 1 (nums .u8 hh) (wayCells Ak ck ⟨ks, zero32, 0, 0⟩) 26 ?_ ?_ ?_ ?_ ?_ ?_ ?_ ?_); rfl; rfl; rfl; exact (nums_length _ _).trans HSI.out.1; exact nums_oneC _ _; exact HB8.out; (rw [way_len0]; decide); intro w9 hb9 hk9; have c3 : w9.cell? ⟨w1.heap.size, 1, none⟩ = some (.slice Aw k cw) := (blk_cell (hk9.blk (HK8.out.blk (HKA.out.blk HB3r.out (fun h => by omega)) (fun h => by omega)) (fun h => by omega)) 1).trans rfl; rw [way_put _ _ _ _ HSI.out.1] at hb9; have HB9 := hidden hb9; have HK9 := hidden hk9; have c33 := row33 hb9 (wayOk0 HSI.out.1 HSI.out.2); have c34 := row34 hb9 (wayOk0 HSI.out.1 HSI.out.2); have f33 : w9.frozen? ⟨wo.heap.size, 33, none⟩ = false := blk_frozen hb9 33; have f34 : w9.frozen? ⟨wo.heap.size, 34, none⟩ = false := blk_frozen hb9 34; clear hb9 hk9)
            | ((with_reducible refine load_lit aggWay (.tmp 4) ⟨wo.heap.size, 0, none⟩ (wayCells Ak ck ⟨ks, hh, xa, xb⟩) ?_ ?_ ?_ ?_ ?_); rfl; rfl; exact way_len (wayOkX HSI.out.1 HSI.out.2 HAI.out.1 HBI.out.1 HAI.out.2 HBI.out.2); exact row_cells (by rw [← way_set Ak ck ks hh xa xb HSI.out.1]; exact blk_set (blk_set HB9.out 33 _) 34 _); obtain ⟨wx, hwx⟩ : ∃ wx, (w9.setCell ⟨wo.heap.size, 33, none⟩ (.int .i64 xa)).setCell ⟨wo.heap.size, 34, none⟩ (.int .i64 xb) = wx := ⟨_, rfl⟩; have hk9x : Kept (fun b => b = wo.heap.size) w9 wx := (by rw [← hwx]; exact Kept.setCell (S := fun b => b = wo.heap.size) (Kept.setCell (S := fun b => b = wo.heap.size) (Kept.refl _ _) (p := ⟨wo.heap.size, 33, none⟩) (fun _ => rfl) _) (p := ⟨wo.heap.size, 34, none⟩) (fun _ => rfl) _); have hkx9 := HK9.out.trans hk9x; have HKX := hidden hkx9; have hkwx : Kept (fun b => b = g) wo wx := Kept.then (HKA.out.trans HK8.out) hkx9 (fun b hb h => by omega); have HKWX := hidden hkwx; have hzx := hkwx.size; have HEX : Hid (EyeAt wx F g s7.1 s7.2) := hidden (HE8.out.keep hkx9 (fun h => by omega) (fun b hb h => by have := HG.out.lt b hb; omega)); have HBX : Hid (wx.heap[wo.heap.size]? = some (.cells (wayCells Ak ck ⟨ks, hh, xa, xb⟩).toArray 26 (0, 0))) := hidden (by rw [← way_set Ak ck ks hh xa xb HSI.out.1, ← hwx]; exact blk_set (blk_set HB9.out 33 _) 34 _); have hka : Kept Nob wx (wx.alloc (.cells (wayCells Ak ck ⟨ks, hh, xa, xb⟩).toArray 26)) := Kept.alloc (Kept.refl _ _) _; have HOWX : Hid (OwnE RWay 35 (wx.alloc (.cells (wayCells Ak ck ⟨ks, hh, xa, xb⟩).toArray 26)) (Own1 (.slice Aw k cw)) (fun b => Fb b ∨ Own1 (.slice Ak j ck) b) 26 (.slice Aw k cw) ws) := hidden (((HOW.out.keep RWay.good hkwx (fun b hb h => by have := HVB.out b hb; omega) (fun b hb h => by have := (HFB.out b hb).1; omega)).keep RWay.good hka (fun _ _ h => h) (fun _ _ h => h)).mono RWay.good (fun _ h => h) (fun _ h => .inl h)); have HRX : Hid (RWay (wx.alloc (.cells (wayCells Ak ck ⟨ks, hh, xa, xb⟩).toArray 26)) (fun b => Fb b ∨ Own1 (.slice Ak j ck) b) (wayCells Ak ck ⟨ks, hh, xa, xb⟩) ⟨ks, hh, xa, xb⟩) := hidden (RWay.mk' (((((HOV.out.ints HKI.out.1 HKI.out.2).keep (S := fun b => b = g) HK8.out (fun b hb h => by have := HVK.out b hb; omega)).keep hkx9 (fun b hb h => by have := HVK.out b hb; omega)).keep hka (fun _ _ h => h)).mono (fun _ h => .inr h)) (wayOkX HSI.out.1 HSI.out.2 HAI.out.1 HBI.out.1 HAI.out.2 HBI.out.2)); have HB3X : Hid ((wx.alloc (.cells (wayCells Ak ck ⟨ks, hh, xa, xb⟩).toArray 26)).heap[w1.heap.size]? = some (.cells #[.int .i64 am, .slice Aw k cw] 38 (0, 0))) := hidden (hka.blk (hkwx.blk HB3r.out (fun h => by omega)) (fun h => h)); have hwl : (wayCells Ak ck ⟨ks, hh, xa, xb⟩).length = 35 := way_len (wayOkX HSI.out.1 HSI.out.2 HAI.out.1 HBI.out.1 HAI.out.2 HBI.out.2); have hfw : List.foldl (fun (cs : Array Value) x => cs.setIfInBounds x.snd x.fst) #[.slice none 0 0, .int .u8 0, .int .u8 0, .int .u8 0, .int .u8 0, .int .u8 0, .int .u8 0, .int .u8 0, .int .u8 0, .int .u8 0, .int .u8 0, .int .u8 0, .int .u8 0, .int .u8 0, .int .u8 0, .int .u8 0, .int .u8 0, .int .u8 0, .int .u8 0, .int .u8 0, .int .u8 0, .int .u8 0, .int .u8 0, .int .u8 0, .int .u8 0, .int .u8 0, .int .u8 0, .int .u8 0, .int .u8 0, .int .u8 0, .int .u8 0, .int .u8 0, .int .u8 0, .int .i64 0, .int .i64 0] (wayCells Ak ck ⟨ks, hh, xa, xb⟩).zipIdx = (wayCells Ak ck ⟨ks, hh, xa, xb⟩).toArray := foldl_set _ _ (way_len (wayOkX HSI.out.1 HSI.out.2 HAI.out.1 HBI.out.1 HAI.out.2 HBI.out.2)).symm; rw [hwx]; clear hwx hk9x hkx9 hkwx hka)
            | (at_builtin; refine OwnE.app RWay.good HEW.out.2 rfl (.tmp 34) (.tmp 36) rfl (Own1 (.slice Aw k cw)) (fun b => Fb b ∨ Own1 (.slice Ak j ck) b) _ ws rfl HOWX.out HFX.out wx.heap.size 1 (wayCells Ak ck ⟨ks, hh, xa, xb⟩) ⟨ks, hh, xa, xb⟩ rfl 26 (0, 0) (heap_alloc_new _ _) HRX.out (by rw [HLW.out]; omega) HEW.out.1 ?_; intro v10 w10 ho10 hk10; obtain ⟨A10, c10, hv10, _⟩ := ho10.sl RWay.good; subst hv10; have b10 := hk10.blk HB3X.out (fun h => by have := HVB.out _ h; omega); have d10 : w10.cell? ⟨w1.heap.size, 1, none⟩ = some (.slice Aw k cw) := (blk_cell b10 1).trans rfl; have f10 : w10.frozen? ⟨w1.heap.size, 1, none⟩ = false := blk_frozen b10 1; have HB10 := hidden b10; have HO10 := hidden ho10; have HK10 := hidden hk10; clear b10 ho10 hk10))
          have HV10 : Hid (∀ b, Own1 (.slice A10 (ws.length + 1) c10) b → w1.heap.size < b ∧ ¬ (Fb b ∨ Own1 (.slice Ak j ck) b)) := hidden (fun b hb => by
            have h0 := HO10.out.own.1
            rw [List.length_append, List.length_cons, List.length_nil, Nat.zero_add] at h0
            have h1 : Gw (wx.alloc (.cells (wayCells Ak ck ⟨ks, hh, xa, xb⟩).toArray 26)) (Own1 (.slice Aw k cw)) b := h0 b hb
            have zx := HKX.out.size
            rcases h1 with h1 | h1
            · exact ⟨HVB.out b h1, fun h => HFX.out b h h1⟩
            · have h2 : wx.heap.size + 1 ≤ b := by simpa using h1
              refine ⟨by omega, fun h => h.elim (fun h' => by have := (HFB.out b h').2.1; omega) (fun h' => by have := HOV.out.lt b h'; omega)⟩)
          have HKS : Hid (Kept (fun b => b = w1.heap.size) w10 (w10.setCell ⟨w1.heap.size, 1, none⟩ (.slice A10 (ws.length + 1) c10))) := hidden (Kept.setCell (S := fun b => b = w1.heap.size) (Kept.refl _ _) (p := ⟨w1.heap.size, 1, none⟩) (fun _ => rfl) _)
          have HFW : Hid (∀ b, (Fb b ∨ Own1 (.slice Ak j ck) b) → w1.heap.size < b ∧ b < wx.heap.size) := hidden (fun b hb => by
            have zx := HKX.out.size
            exact hb.elim (fun h => by have := HFB.out b h; omega) (fun h => by have := HOV.out.lt b h; have := HVK.out b h; omega))
          have HK1X : Hid (Kept (Own1 (.slice Aw k cw)) wx w10) := hidden (Kept.trans (Kept.alloc (Kept.refl _ _) _) HK10.out)
          go_roundw
          case rel =>
            refine ⟨k + 1, by omega, by go_num, _, fun b => Fb b ∨ Own1 (.slice Ak j ck) b, blk_set HB10.out 1 _, ?_, ?_, ?_, ?_, ?_⟩
            · rw [HSC.out.1, HWS.out.1]
              have h1 := HO10.out.exact
              rw [List.length_append, List.length_cons, List.length_nil, Nat.zero_add] at h1
              exact h1.keep RWay.good HKS.out (fun b hb h => by have := (HV10.out b hb).1; omega) (fun b hb h => by have := (HFW.out b hb).1; omega)
            · intro b hb
              exact ⟨(HFW.out b hb).1, Nat.lt_of_lt_of_le (HFW.out b hb).2 (Nat.le_trans HK1X.out.size HKS.out.size), fun h => (HV10.out b h).2 hb⟩
            · exact fun b hb => (HV10.out b hb).1
            · rw [HSC.out.2, HWS.out.2]
              exact (HEX.out.keep HK1X.out (fun h => by have := HVB.out _ h; omega) (fun b hb h => by have := HVB.out b h; have := HG.out.lt b hb; omega)).keep HKS.out (fun h => by omega) (fun b hb h => by have := HG.out.lt b hb; omega)
            · exact Kept.then (Kept.then (Kept.trans HKR.out HKWX.out) HK1X.out (fun b hb h => by have := HVB.out b h; omega)) HKS.out (fun b hb h => by omega)
          case measure => simp [intOf]; omega
    · obtain rfl : k = n := by omega
      subst hvw
      have HWY : Hid (Ways wo (fun b => w1.heap.size < b) Aw cw (loopS wayS k s2).1) := hidden ⟨HSL.out.2.2.2.mono RWay.good (fun b hb => hb.elim (fun h => by have := HVB.out b h; omega) (fun h => by have := (HFB.out b h).1; omega)), HSL.out.1, HSL.out.2.1, HSL.out.2.2.1⟩
      have HRO : Hid (Calls Try.prog 32 #[.agg #[.int .i64 am, .slice Aw k cw]] wo fun e w' => e = .returned (.bool (outB (outS s).1)) ∧ Kept Nob wo w') := hidden (by
        have := rightOut_any (outS s).1 Aw cw (fun b => w1.heap.size < b) wo (by rw [HOS.out.1]; exact HWY.out)
        rw [HOS.out.1] at this ⊢
        dsimp only at this
        rw [HLW.out] at this
        exact this)
      have HBR := hidden (HKR.out.blk HB2.out (fun h => by omega))
      have q0 : wo.cell? ⟨w1.heap.size, 0, none⟩ = some (.int .i64 am) := (blk_cell HB3r.out 0).trans rfl
      have q1 : wo.cell? ⟨w1.heap.size, 1, none⟩ = some (.slice Aw k cw) := (blk_cell HB3r.out 1).trans rfl
      have hne1 : ¬ (w1.heap.size = w.heap.size) := by omega
      have hne2 : ¬ (w.heap.size = w1.heap.size) := by omega
      clear hb3 how hfb hvb heye hkw
      have HKW0 : Hid (Kept (fun b => b = g) w wo) := hidden ((HK0.out.mono (fun _ _ h => h.elim)).trans HKR.out)
      by_cases hob : outB (outS s).1 = true
      · have HE2 : Hid ((outS s).2 = (loopS wayS k s2).2) := hidden (by rw [HOS.out.2, if_pos hob])
        rw [hob] at HRO
        go_wp2_with (go_at_call 32; (with_reducible refine HRO.out.mono ?_); rintro e w11 ⟨rfl, hk11⟩; have b3 := hk11.blk HB3r.out (fun h => h); have q0 : w11.cell? ⟨w1.heap.size, 0, none⟩ = some (.int .i64 am) := (blk_cell b3 0).trans rfl; have q1 : w11.cell? ⟨w1.heap.size, 1, none⟩ = some (.slice Aw k cw) := (blk_cell b3 1).trans rfl; have b2 := hk11.blk HBR.out (fun h => h); have r0 : w11.cell? ⟨w.heap.size, 0, none⟩ = some (.int .i64 0) := (blk_cell b2 0).trans rfl; have r1 : w11.cell? ⟨w.heap.size, 1, none⟩ = some (.slice none 0 0) := (blk_cell b2 1).trans rfl; have g0 : w11.frozen? ⟨w.heap.size, 0, none⟩ = false := blk_frozen b2 0; have g1 : w11.frozen? ⟨w.heap.size, 1, none⟩ = false := blk_frozen b2 1; have HB11 := hidden b2; have HK11 := hidden hk11; clear hk11 b3 b2; dsimp only)
        have HWY2 := hidden (HWY.out.keep HK11.out (fun _ _ h => h))
        refine bodyPost_ret (results_cell_row rfl _ _ w.heap.size _ _ _ _ rfl (blk_set (blk_set HB11.out 0 _) 1 _) Try.underlying38 rfl (by kernel_rfl)) rfl ⟨Aw, cw, ?_, ?_, ?_, ?_⟩
        · rw [HOS.out.1]
          dsimp only
          rw [HLW.out]
          rfl
        · rw [HOS.out.1]
          exact (HWY2.out.keep (Kept.setCell (S := fun b => b = w.heap.size) (Kept.setCell (S := fun b => b = w.heap.size) (Kept.refl _ _) (p := ⟨w.heap.size, 0, none⟩) (fun _ => rfl) _) (p := ⟨w.heap.size, 1, none⟩) (fun _ => rfl) _) (fun b hb h => by omega)).mono (fun b hb => by omega)
        · rw [HE2.out]
          exact (HER.out.keep HK11.out (fun h => h) (fun _ _ h => h)).keep (Kept.setCell (S := fun b => b = w.heap.size) (Kept.setCell (S := fun b => b = w.heap.size) (Kept.refl _ _) (p := ⟨w.heap.size, 0, none⟩) (fun _ => rfl) _) (p := ⟨w.heap.size, 1, none⟩) (fun _ => rfl) _) (fun h => by omega) (fun b hb h => by have := HG.out.lt b hb; omega)
        · exact Kept.then (Kept.then HKW0.out HK11.out (fun _ _ h => h.elim)) (Kept.setCell (S := fun b => b = w.heap.size) (Kept.setCell (S := fun b => b = w.heap.size) (Kept.refl _ _) (p := ⟨w.heap.size, 0, none⟩) (fun _ => rfl) _) (p := ⟨w.heap.size, 1, none⟩) (fun _ => rfl) _) (fun b hb h => by omega)
      · have HE2 : Hid ((outS s).2 = failS 4 (loopS wayS k s2).2) := hidden (by rw [HOS.out.2, if_neg hob])
        rw [show outB (outS s).1 = false from by simpa using hob] at HRO
        go_wp2_with (first
          | (go_at_call 32; (with_reducible refine HRO.out.mono ?_); rintro e w11 ⟨rfl, hk11⟩; have b3 := hk11.blk HB3r.out (fun h => h); have q0 : w11.cell? ⟨w1.heap.size, 0, none⟩ = some (.int .i64 am) := (blk_cell b3 0).trans rfl; have q1 : w11.cell? ⟨w1.heap.size, 1, none⟩ = some (.slice Aw k cw) := (blk_cell b3 1).trans rfl; have b2 := hk11.blk HBR.out (fun h => h); have r0 : w11.cell? ⟨w.heap.size, 0, none⟩ = some (.int .i64 0) := (blk_cell b2 0).trans rfl; have r1 : w11.cell? ⟨w.heap.size, 1, none⟩ = some (.slice none 0 0) := (blk_cell b2 1).trans rfl; have g0 : w11.frozen? ⟨w.heap.size, 0, none⟩ = false := blk_frozen b2 0; have g1 : w11.frozen? ⟨w.heap.size, 1, none⟩ = false := blk_frozen b2 1; have HB11 := hidden b2; have HK11 := hidden hk11; have HF11 := hidden (eye_fail w11 F g _ _ 4 (HER.out.keep hk11 (fun h => h) (fun _ _ h => h)) HG.out.ne); have HB3b := hidden b3; clear hk11 b3 b2; dsimp only)
          | (go_at_call 84; (with_reducible refine HF11.out.mono ?_); rintro e w12 ⟨rfl, he12, hk12⟩; have b3 := hk12.blk HB3b.out (fun h => by omega); have q0 : w12.cell? ⟨w1.heap.size, 0, none⟩ = some (.int .i64 am) := (blk_cell b3 0).trans rfl; have q1 : w12.cell? ⟨w1.heap.size, 1, none⟩ = some (.slice Aw k cw) := (blk_cell b3 1).trans rfl; have b2 := hk12.blk HB11.out (fun h => by omega); have r0 : w12.cell? ⟨w.heap.size, 0, none⟩ = some (.int .i64 0) := (blk_cell b2 0).trans rfl; have r1 : w12.cell? ⟨w.heap.size, 1, none⟩ = some (.slice none 0 0) := (blk_cell b2 1).trans rfl; have g0 : w12.frozen? ⟨w.heap.size, 0, none⟩ = false := blk_frozen b2 0; have g1 : w12.frozen? ⟨w.heap.size, 1, none⟩ = false := blk_frozen b2 1; have HB12 := hidden b2; have HE12 := hidden he12; have HK12 := hidden hk12; clear he12 hk12 b3 b2; dsimp only))
        have HWY2 := hidden ((HWY.out.keep HK11.out (fun _ _ h => h)).keep HK12.out (fun b hb h => by omega))
        refine bodyPost_ret (results_cell_row rfl _ _ w.heap.size _ _ _ _ rfl (blk_set (blk_set HB12.out 0 _) 1 _) Try.underlying38 rfl (by kernel_rfl)) rfl ⟨Aw, cw, ?_, ?_, ?_, ?_⟩
        · rw [HOS.out.1]
          dsimp only
          rw [HLW.out]
          rfl
        · rw [HOS.out.1]
          exact (HWY2.out.keep (Kept.setCell (S := fun b => b = w.heap.size) (Kept.setCell (S := fun b => b = w.heap.size) (Kept.refl _ _) (p := ⟨w.heap.size, 0, none⟩) (fun _ => rfl) _) (p := ⟨w.heap.size, 1, none⟩) (fun _ => rfl) _) (fun b hb h => by omega)).mono (fun b hb => by omega)
        · rw [HE2.out]
          exact HE12.out.keep (Kept.setCell (S := fun b => b = w.heap.size) (Kept.setCell (S := fun b => b = w.heap.size) (Kept.refl _ _) (p := ⟨w.heap.size, 0, none⟩) (fun _ => rfl) _) (p := ⟨w.heap.size, 1, none⟩) (fun _ => rfl) _) (fun h => by omega) (fun b hb h => by have := HG.out.lt b hb; omega)
        · exact Kept.then (Kept.trans (Kept.then HKW0.out HK11.out (fun _ _ h => h.elim)) HK12.out) (Kept.setCell (S := fun b => b = w.heap.size) (Kept.setCell (S := fun b => b = w.heap.size) (Kept.refl _ _) (p := ⟨w.heap.size, 0, none⟩) (fun _ => rfl) _) (p := ⟨w.heap.size, 1, none⟩) (fun _ => rfl) _) (fun b hb h => by omega)
end Go.Proofs.Ytcghjnegaiiieaa

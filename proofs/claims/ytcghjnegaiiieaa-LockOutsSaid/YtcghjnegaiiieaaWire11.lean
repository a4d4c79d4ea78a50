/- An eye reads a sum (layer 1). -/
import Derived.Test.YtcghjnegaiiieaaWire10
namespace Go.Proofs.Ytcghjnegaiiieaa
set_option linter.unusedSimpArgs false
open Go.RowKit
theorem wpList_copy_none {P : Program} {ops : Array Oper} {rest : List Oper} {o : Oper} {a : Act} {w : World} {Q : Exit → Act → World → Prop} (hgd : o.guard = none) (d s : Operand) (dT sT : TypeId)
    (ho : o.op = .call { callee := .builtin .copy, args := #[d, s], argTypes := #[dT, sT] }) (elem : TypeId) (hu : P.underlying dT = some (.slice elem)) (size : Nat) (hsz : (P.info? elem).map (·.size) = some size) (ad : Addr) (dLen dCap sCap : Nat)
    (hd : a.eval d = .slice (some ad) dLen dCap) (hs : a.eval s = .slice none 0 sCap) (hK : wpList P ops Q rest (a.put o.dst (goInt 0)) w) : wpList P ops Q (o :: rest) a w := by
  refine wpList_plain hgd fun _ hN => ?_
  unfold Oper.wp execOp
  cases hq : P.info? elem with
  | none => rw [hq] at hsz; simp at hsz
  | some i =>
    have hr : (Builtin.copy_ #[dT, sT] o.type #[.slice (some ad) dLen dCap, .slice none 0 sCap]).run P w = .ok (goInt 0) w := by
      simp [Builtin.copy_, run_underlying hu, Builtin.lenOf, sizeOf, typeInfo, hq, Builtin.firstCells, storeCells]
    simp only [ho, resolve, invoke, builtin, Sem.run_bind, Sem.run_pure, Result.andThen_ok, List.map_toArray, List.map_cons, List.map_nil, hd, hs, hr]
    exact hN _ _ hK
theorem src_row {w : World} {r : Nat} {k : IntKind} {xs : List Int} {n : Nat} (hn : xs.length = n) (h : ∀ i : Nat, i < n → w.cell? ⟨r, i, none⟩ = some (.int k (xs.getD i 0))) (j : Nat) (v : Value) (hj : (nums k xs)[j]? = some v) : w.cell? ((⟨r, 0, none⟩ : Addr).add j) = some v := by
  have ea : (⟨r, 0, none⟩ : Addr).add j = ⟨r, j, none⟩ := by unfold Addr.add; split <;> simp_all
  have hl : j < xs.length := by have := (List.getElem?_eq_some_iff.1 hj).1; rwa [nums_length] at this
  rw [ea, h j (by omega), ← hj]
  simp [nums, hl, List.getD_eq_getElem?_getD]
set_option maxRecDepth 100000 in
set_option maxHeartbeats 8000000 in
theorem eye_rawS (w : World) (F : Nat → Prop) (g : Nat) (xs : List Int) (n : Nat) (h : EyeAt w F g xs 0) (hF : ∀ b, F b → b ≠ g) (hlt : xs.length < n) :
    Calls Try.prog 126 #[.pointer (some ⟨g, 0, none⟩), .int .i64 n] w fun e w' => e = .returned (.slice none 0 0) ∧ EyeAt w' F g xs 2 ∧ Kept (fun b => b = g) w w' := by
  have HERR := hidden (eye_err w F g xs 0 h)
  have HFAIL : Hid (Calls Try.prog 84 #[.pointer (some ⟨g, 0, none⟩), .int .i64 2] w fun e w' => e = .returned (.tuple #[]) ∧ EyeAt w' F g xs 2 ∧ Kept (fun b => b = g) w w') := hidden (eye_fail w F g xs 0 2 h hF)
  obtain ⟨A, c, hb, hi⟩ := h
  have q0 : w.cell? ⟨g, 0, none⟩ = some (.slice A xs.length c) := blk_cell hb 0
  have hle := hi.le
  have hmx := hi.max
  unfold maxLen at hmx
  have hn0 : ¬ ((n : Int) < 0) := by omega
  clear hb hi hF
  go_enter Try.func126, Try.ntmps126
  go_wp2_with (first
    | (go_at_call 28; (with_reducible refine HERR.out.mono ?_); rintro e w1 ⟨rfl, rfl⟩; dsimp only)
    | (go_at_call 84; (with_reducible refine HFAIL.out.mono ?_); rintro e w2 ⟨rfl, he2, hk2⟩; have HE2 := hidden he2; have HK2 := hidden hk2; clear he2 hk2; dsimp only))
  go_ret
  exact ⟨rfl, HE2.out, HK2.out⟩
theorem eye_rawN (w : World) (F : Nat → Prop) (g : Nat) (s : ES) (n : Nat) (h : EyeAt w F g s.1 s.2) (hF : ∀ b, F b → b ≠ g) (hn : ¬ (s.2 = 0 ∧ n ≤ s.1.length)) :
    Calls Try.prog 126 #[.pointer (some ⟨g, 0, none⟩), .int .i64 n] w fun e w' => e = .returned (.slice none 0 0) ∧ EyeAt w' F g (rawS n s).2.1 (rawS n s).2.2 ∧ Kept (fun b => b = g) w w' := by
  obtain ⟨xs, er⟩ := s
  dsimp only at h hn
  by_cases h0 : er = 0
  · subst h0
    have e : rawS n (xs, 0) = ([], (xs, 2)) := by unfold rawS; simp only [if_true]; rw [if_neg (fun h => hn ⟨rfl, h⟩)]
    rw [e]
    exact eye_rawS w F g xs n h hF (by have := fun h => hn ⟨rfl, h⟩; omega)
  · have e : rawS n (xs, er) = ([], (xs, er)) := if_neg h0
    rw [e]
    exact (eye_rawE w F g xs er n h h0).mono fun e w' ⟨h1, h2⟩ => ⟨h1, by subst h2; exact h, by subst h2; exact Kept.refl _ _⟩
set_option maxRecDepth 100000 in
set_option maxHeartbeats 8000000 in
theorem eye_sum (w : World) (F : Nat → Prop) (g : Nat) (s : ES) (h : EyeAt w F g s.1 s.2) (hG : EyeG w F g s.1) :
    Calls Try.prog 83 #[.pointer (some ⟨g, 0, none⟩)] w fun e w' => e = .returned (.agg (nums .u8 (sumS s).1).toArray) ∧ EyeAt w' F g (sumS s).2.1 (sumS s).2.2 ∧ Kept (fun b => b = g) w w' := by
  obtain ⟨W, hW⟩ : ∃ W, (w.alloc (.cells #[.int .u8 0, .int .u8 0, .int .u8 0, .int .u8 0, .int .u8 0, .int .u8 0, .int .u8 0, .int .u8 0, .int .u8 0, .int .u8 0, .int .u8 0, .int .u8 0, .int .u8 0, .int .u8 0, .int .u8 0, .int .u8 0, .int .u8 0, .int .u8 0, .int .u8 0, .int .u8 0, .int .u8 0, .int .u8 0, .int .u8 0, .int .u8 0, .int .u8 0, .int .u8 0, .int .u8 0, .int .u8 0, .int .u8 0, .int .u8 0, .int .u8 0, .int .u8 0] 24)).alloc (.cells #[.int .u8 0, .int .u8 0, .int .u8 0, .int .u8 0, .int .u8 0, .int .u8 0, .int .u8 0, .int .u8 0, .int .u8 0, .int .u8 0, .int .u8 0, .int .u8 0, .int .u8 0, .int .u8 0, .int .u8 0, .int .u8 0, .int .u8 0, .int .u8 0, .int .u8 0, .int .u8 0, .int .u8 0, .int .u8 0, .int .u8 0, .int .u8 0, .int .u8 0, .int .u8 0, .int .u8 0, .int .u8 0, .int .u8 0, .int .u8 0, .int .u8 0, .int .u8 0] 24) = W := ⟨_, rfl⟩
  have hKW : Kept Nob w W := by rw [← hW]; exact (by repeat (first | exact Kept.refl _ _ | apply Kept.alloc | apply Kept.drewN | apply Kept.drew))
  have HKW := hidden hKW
  have HRZ : Hid (W.heap[w.heap.size]? = some (.cells (nums .u8 zero32).toArray 24 (0, 0))) := hidden (by rw [← hW]; exact blk_alloc (heap_alloc_new _ _) _)
  have HCZ : Hid (W.heap[w.heap.size + 1]? = some (.cells (nums .u8 zero32).toArray 24 (0, 0))) := hidden (by rw [← hW]; exact blk_new_at (by simp))
  have hsz : W.heap.size = w.heap.size + 2 := by rw [← hW]; simp
  have hg := hG.gl
  have HE : Hid (∀ y, Kept Nob W y → EyeAt y F g s.1 s.2) := hidden (fun y hy => h.keep (hKW.trans hy) (fun h => h) (fun _ _ h => h))
  have HG := hidden (fun y (hy : Kept Nob W y) => hG.kept (ys := s.1) (hKW.trans hy) (Nat.le_refl _))
  clear hKW
  have HFB : Hid (∀ b, F b → b < w.heap.size) := hidden hG.lt
  by_cases hc : s.2 = 0 ∧ 32 ≤ s.1.length
  · have HS : Hid ((sumS s).1 = (rawS 32 s).1 ∧ (sumS s).2 = (rawS 32 s).2) := hidden ⟨if_pos hc, rfl⟩
    have HL : Hid ((rawS 32 s).1.length = 32) := hidden (by unfold rawS; rw [if_pos hc.1, if_pos hc.2, List.length_take]; omega)
    have HR : Hid (∀ y, Kept Nob W y → Calls Try.prog 126 #[.pointer (some ⟨g, 0, none⟩), .int .i64 32] y fun e w' => ∃ v, e = .returned v ∧ OwnB w' y.heap.size v (rawS 32 s).1 ∧ EyeAt w' F g (rawS 32 s).2.1 (rawS 32 s).2.2 ∧ Kept (fun b => b = g) y w') := hidden (fun y hy => eye_raw y F g s 32 (HE.out y hy) (HG.out y hy))
    clear HE HG hc hG h
    rw [HS.out.1, HS.out.2]
    generalize (rawS 32 s).2 = t at *
    generalize (rawS 32 s).1 = xs at *
    go_enter Try.func83, Try.ntmps83
    go_wp2
    clear hW
    refine region_plan (.seg [0] (.seg [1] (.eff 2 false (.eff 3 false .nil)))) (by kernel_rfl) ?_
    all_goals (refine plan_one (o := ?_) ?_ ?_ ?_; rotate_left; (simp only [List.getElem?_toArray, List.getElem?_cons_zero]; exact rfl); rfl; intro NX; (repeat' (first | go_step | go_upon)); all_goals (refine seg_end (by kernel_rfl) ?_; clear NX))
    all_goals (refine plan_one (o := ?_) ?_ ?_ ?_; rotate_left; (simp only [List.getElem?_toArray, List.getElem?_cons_succ, List.getElem?_cons_zero]; exact rfl); rfl; intro NX; (repeat' (first | go_step | go_upon)); all_goals (refine seg_end (by kernel_rfl) ?_; clear NX))
    all_goals (refine plan_eff (o := ?_) ?_ ?_; rotate_left; (simp only [List.getElem?_toArray, List.getElem?_cons_succ, List.getElem?_cons_zero]; exact rfl); intro NX)
    all_goals ((go_wp2_with (go_at_call 126; refine (HR.out _ (by repeat (first | exact Kept.refl _ _ | apply Kept.alloc | apply Kept.drewN | apply Kept.drew))).mono ?_; rintro e w2 ⟨v2, rfl, ho2, he2, hk2⟩; obtain ⟨r, c2, hv2, _, _, hbr, _, hcs2⟩ := own_at ho2 (by rw [HL.out]; decide); rw [HL.out] at hv2 hcs2; subst hv2; have HCS := hidden hcs2; have HE2 := hidden he2; have HK2 := hidden hk2; have HBR : Hid (W.heap.size ≤ r) := hidden hbr; clear ho2 he2 hk2 hcs2 hbr; dsimp only)))
    all_goals refine eff_free ?_
    all_goals (refine plan_eff (o := ?_) ?_ ?_; rotate_left; (simp only [List.getElem?_toArray, List.getElem?_cons_succ, List.getElem?_cons_zero]; exact rfl); intro NX)
    all_goals ((refine wpList_copy_nums rfl (.tmp 4) (.tmp 6) 27 27 rfl 5 Try.underlying27 (by kernel_rfl) (w.heap.size + 1) 0 32 32 32 c2 ⟨r, 0, none⟩ rfl rfl .u8 zero32 24 (HK2.out.blk HCZ.out (fun h => by omega)) xs HL.out (fun j v hj => src_row HL.out HCS.out j v hj) (by rw [HL.out]; decide) ?_; intro w4 hb4 hk4; have HC4 := hidden hb4; have HK4' := hidden hk4; clear hb4 hk4; go_wp2))
    all_goals refine eff_free ?_
    all_goals refine plan_nil ?_
    have HK4 : Hid (Kept (fun b => b = g ∨ b = w.heap.size + 1) W w4) := hidden (Kept.trans (Kept.mono (Kept.trans (Kept.drew (Kept.refl _ _)) HK2.out) (fun b hb h => .inl h)) (HK4'.out.mono (fun b hb h => .inr h)))
    have HE4 := hidden (HE2.out.keep HK4'.out (fun h => by omega) (fun b hb h => by have := HFB.out b hb; omega))
    have HC4' : Hid (w4.heap[w.heap.size + 1]? = some (.cells (nums .u8 xs).toArray 24 (0, 0))) := hidden (by
      have h1 := HC4.out
      rw [List.take_zero, List.nil_append, HL.out, List.drop_eq_nil_of_le (by simp [zero32]), List.append_nil] at h1
      exact h1)
    have HC4 := HC4'
    have HZ4 : Hid (w4.heap[w.heap.size]? = some (.cells (nums .u8 zero32).toArray 24 (0, 0))) := hidden (HK4.out.blk HRZ.out (fun h => by rcases h with h | h <;> omega))
    go_wp2_with (first
      | ((with_reducible refine load_lit aggSum (.tmp 3) ⟨w.heap.size + 1, 0, none⟩ (nums .u8 xs) ?_ ?_ ?_ ?_ ?_); rfl; rfl; exact (nums_length _ _).trans HL.out; exact row_cells HC4.out)
      | ((with_reducible refine store_litT aggSum (.tmp 2) (.tmp 8) w.heap.size (nums .u8 xs) 24 ?_ ?_ ?_ ?_ ?_ ?_ ?_); rfl; rfl; rfl; exact (nums_length _ _).trans HL.out; exact nums_oneC _ _; exact ⟨_, HZ4.out, rfl⟩; intro w9 hb9 hk9; have HB9 := hidden hb9; have HK9 := hidden hk9; clear hb9 hk9))
    refine bodyPost_ret (results_cell_row rfl _ _ w.heap.size _ _ _ _ rfl HB9.out Try.underlying24 rfl (by rw [show (nums IntKind.u8 xs).toArray.size = 32 by simp [nums_length, HL.out]]; kernel_rfl)) rfl ⟨rfl, ?_, ?_⟩
    · exact HE4.out.keep HK9.out (fun h => by omega) (fun b hb h => by have := HFB.out b hb; omega)
    · exact Kept.then (Kept.then (S := fun b => b = g) (HKW.out.mono (fun _ _ h => h.elim)) HK4.out (fun b hb h => by omega)) HK9.out (fun b hb h => by omega)
  · have HS : Hid ((sumS s).1 = zero32 ∧ (sumS s).2 = (rawS 32 s).2) := hidden ⟨if_neg hc, rfl⟩
    have HR : Hid (∀ y, Kept Nob W y → Calls Try.prog 126 #[.pointer (some ⟨g, 0, none⟩), .int .i64 32] y fun e w' => e = .returned (.slice none 0 0) ∧ EyeAt w' F g (rawS 32 s).2.1 (rawS 32 s).2.2 ∧ Kept (fun b => b = g) y w') := hidden (fun y hy => eye_rawN y F g s 32 (HE.out y hy) (HG.out y hy).ne hc)
    clear HE HG hc hG h
    rw [HS.out.1, HS.out.2]
    generalize (rawS 32 s).2 = t at *
    go_enter Try.func83, Try.ntmps83
    go_wp2
    clear hW
    refine region_plan (.seg [0] (.seg [1] (.eff 2 false (.eff 3 false .nil)))) (by kernel_rfl) ?_
    all_goals (refine plan_one (o := ?_) ?_ ?_ ?_; rotate_left; (simp only [List.getElem?_toArray, List.getElem?_cons_zero]; exact rfl); rfl; intro NX; (repeat' (first | go_step | go_upon)); all_goals (refine seg_end (by kernel_rfl) ?_; clear NX))
    all_goals (refine plan_one (o := ?_) ?_ ?_ ?_; rotate_left; (simp only [List.getElem?_toArray, List.getElem?_cons_succ, List.getElem?_cons_zero]; exact rfl); rfl; intro NX; (repeat' (first | go_step | go_upon)); all_goals (refine seg_end (by kernel_rfl) ?_; clear NX))
    all_goals (refine plan_eff (o := ?_) ?_ ?_; rotate_left; (simp only [List.getElem?_toArray, List.getElem?_cons_succ, List.getElem?_cons_zero]; exact rfl); intro NX)
    all_goals ((go_wp2_with (go_at_call 126; refine (HR.out _ (by repeat (first | exact Kept.refl _ _ | apply Kept.alloc | apply Kept.drewN | apply Kept.drew))).mono ?_; rintro e w2 ⟨rfl, he2, hk2⟩; have HE2 := hidden he2; have HK2 := hidden hk2; clear he2 hk2; dsimp only)))
    all_goals refine eff_free ?_
    all_goals (refine plan_eff (o := ?_) ?_ ?_; rotate_left; (simp only [List.getElem?_toArray, List.getElem?_cons_succ, List.getElem?_cons_zero]; exact rfl); intro NX)
    all_goals ((refine wpList_copy_none rfl (.tmp 4) (.tmp 6) 27 27 rfl 5 Try.underlying27 1 (by kernel_rfl) ⟨w.heap.size + 1, 0, none⟩ 32 32 0 rfl rfl ?_; go_wp2))
    all_goals refine eff_free ?_
    all_goals refine plan_nil ?_
    have HE4 := HE2
    have HK4 : Hid (Kept (fun b => b = g) W w2) := hidden (Kept.trans (Kept.drew (Kept.refl _ _)) HK2.out)
    have HC4 : Hid (w2.heap[w.heap.size + 1]? = some (.cells (nums .u8 zero32).toArray 24 (0, 0))) := hidden (HK4.out.blk HCZ.out (fun h => by omega))
    have HZ4 : Hid (w2.heap[w.heap.size]? = some (.cells (nums .u8 zero32).toArray 24 (0, 0))) := hidden (HK4.out.blk HRZ.out (fun h => by omega))
    go_wp2_with (first
      | ((with_reducible refine load_lit aggSum (.tmp 3) ⟨w.heap.size + 1, 0, none⟩ (nums .u8 zero32) ?_ ?_ ?_ ?_ ?_); rfl; rfl; exact (nums_length _ _).trans rfl; exact row_cells HC4.out)
      | ((with_reducible refine store_litT aggSum (.tmp 2) (.tmp 8) w.heap.size (nums .u8 zero32) 24 ?_ ?_ ?_ ?_ ?_ ?_ ?_); rfl; rfl; rfl; exact (nums_length _ _).trans rfl; exact nums_oneC _ _; exact ⟨_, HZ4.out, rfl⟩; intro w9 hb9 hk9; have HB9 := hidden hb9; have HK9 := hidden hk9; clear hb9 hk9))
    refine bodyPost_ret (results_cell_row rfl _ _ w.heap.size _ _ _ _ rfl HB9.out Try.underlying24 rfl (by rw [show (nums IntKind.u8 zero32).toArray.size = 32 by simp [nums_length, zero32]]; kernel_rfl)) rfl ⟨rfl, ?_, ?_⟩
    · exact HE4.out.keep HK9.out (fun h => by omega) (fun b hb h => by have := HFB.out b hb; omega)
    · exact Kept.then (Kept.then (S := fun b => b = g) (HKW.out.mono (fun _ _ h => h.elim)) HK4.out (fun b hb h => by omega)) HK9.out (fun b hb h => by omega)
end Go.Proofs.Ytcghjnegaiiieaa

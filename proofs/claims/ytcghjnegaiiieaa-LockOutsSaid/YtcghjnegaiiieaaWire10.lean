/- An eye reads a number (layer 1). -/
import Derived.Test.YtcghjnegaiiieaaWire9
namespace Go.Proofs.Ytcghjnegaiiieaa
open Go.RowKit
theorem Ints.drop {w : World} {F : Nat → Prop} {k : IntKind} {A : Option Addr} {c : Nat} {xs : List Int} (h : Ints w F k A c xs) (n : Nat) (hn : n ≤ xs.length) : Ints w F k (if c = n then A else A.map (·.add (n * 1))) (c - n) (xs.drop n) := by
  by_cases e : c = n
  · have hx : xs.drop n = [] := List.drop_eq_nil_of_le (by have := h.le; omega)
    rw [if_pos e, hx, e, Nat.sub_self]
    refine ⟨fun i hi => by simp at hi, fun _ _ hp => by simp at hp, by simp, by simp, fun hA => ⟨rfl, rfl⟩, fun x hx => by simp at hx⟩
  · rw [if_neg e]
    refine ⟨fun i hi => ?_, fun ad ea hp => ?_, ?_, ?_, fun hA => ?_, fun x hx => h.wf x (List.mem_of_mem_drop hx)⟩
    · obtain ⟨ad, ea, hc⟩ := h.rd (n + i) (by rw [List.length_drop] at hi; omega)
      refine ⟨ad.add (n * 1), by rw [ea]; rfl, ?_⟩
      have e1 : (ad.add (n * 1)).add i = ad.add (n + i) := by rw [Nat.mul_one]; exact Go.Addr.add_add ad n i
      rw [e1, hc]
      simp [List.getD_eq_getElem?_getD, List.getElem?_drop]
    · rcases A with _ | ad'
      · simp at ea
      · simp at ea
        subst ea
        rw [add_block]
        exact h.inF ad' rfl (by simp at hp; omega)
    · rw [List.length_drop]; have := h.le; omega
    · exact Nat.le_trans (Nat.sub_le _ _) h.max
    · rcases A with _ | ad'
      · obtain ⟨e1, e2⟩ := h.nil rfl
        subst e1; simp at hn; subst hn; omega
      · simp at hA
theorem EyeAt.cut {w : World} {F : Nat → Prop} {g : Nat} {xs : List Int} {er : Int} {A : Option Addr} {c : Nat} {v : Value} (hb : w.heap[g]? = some (.cells #[.slice A xs.length c, .int .i64 er] 134 (0, 0))) (hi : Ints w F .u8 A c xs) (hF : ∀ b, F b → b ≠ g)
    (n : Nat) (hn : n ≤ xs.length) (hv : .slice (if c = n then A else A.map (·.add (n * 1))) (xs.length - n) (c - n) = v) : EyeAt (w.setCell ⟨g, 0, none⟩ v) F g (xs.drop n) er := by
  subst hv
  refine ⟨_, c - n, ?_, (hi.drop n hn).keep (Kept.setCell (S := fun b => b = g) (Kept.refl _ _) (p := ⟨g, 0, none⟩) (fun _ => rfl) _) (fun b hb h => hF b hb h)⟩
  rw [List.length_drop]
  exact blk_set hb 0 _
set_option maxRecDepth 100000 in
set_option maxHeartbeats 8000000 in
theorem eye_num0 (w : World) (F : Nat → Prop) (g : Nat) (xs : List Int) (h : EyeAt w F g xs 0) (hF : ∀ b, F b → b ≠ g) :
    Calls Try.prog 125 #[.pointer (some ⟨g, 0, none⟩)] w fun e w' => e = .returned (.int .i64 (numS (xs, 0)).1) ∧ EyeAt w' F g (numS (xs, 0)).2.1 (numS (xs, 0)).2.2 ∧ Kept (fun b => b = g) w w' := by
  have HE := hidden h
  have HF := hidden hF
  have HERR := hidden (eye_err w F g xs 0 h)
  have HFAIL := hidden (fun c => eye_fail w F g xs 0 c h hF)
  obtain ⟨A, c, hb, hi⟩ := h
  have HB := hidden hb
  have q0 : w.cell? ⟨g, 0, none⟩ = some (.slice A xs.length c) := blk_cell hb 0
  have f0 : w.frozen? ⟨g, 0, none⟩ = false := blk_frozen hb 0
  have HI := hidden hi
  have hle := hi.le
  have hmx := hi.max
  unfold maxLen at hmx
  clear hb hi hF
  go_enter Try.func125, Try.ntmps125
  go_wp2_with (go_at_call 28; (with_reducible refine HERR.out.mono ?_); rintro e w1 ⟨rfl, rfl⟩; dsimp only)
  go_loopw [3, 4, 5, 9] (fun t3 _ _ t9 wr => ∃ k v : Nat, k ≤ 9 ∧ t9 = .int .i64 k ∧ t3 = .int .u64 v ∧ v < 128 ^ k ∧ numR (xs.drop k) k v = numR xs 0 0 ∧ wr = w) (fun _ _ _ i _ => 9 - (intOf i).toNat)
  case atStart => exact ⟨0, 0, by omega, rfl, rfl, by simp, rfl, rfl⟩
  case round =>
    obtain ⟨k, v, hk, rfl, rfl, hv, hN, rfl⟩ := hrel
    have HV := hidden hv
    have HN := hidden hN
    clear hv hN
    by_cases h9 : k < 9
    · by_cases hlt : k < xs.length
      · obtain ⟨ad, hA, hc⟩ := HI.out.rd k hlt
        subst hA
        have hcb := byte_getD HI.out.wf k
        have HD := hidden (numR_drop xs k v hlt h9)
        generalize xs.getD k 0 = z at hc hcb HD
        obtain ⟨y, hy⟩ : ∃ y : Nat, z % 128 = y := ⟨(z % 128).toNat, by omega⟩
        have ha : bits BinOp.and IntKind.u8 z 127 = (y : Int) := by rw [and127 z hcb, hy]
        have hy8 : y < 128 := by omega
        have HVN := hidden (show v + y * 128 ^ k < 128 ^ (k + 1) by
          have := HV.out
          have hm := Nat.mul_le_mul_right (128 ^ k) (show y + 1 ≤ 128 by omega)
          rw [Nat.add_mul] at hm
          rw [Nat.pow_succ]; omega)
        have hV63 : v + y * 128 ^ k < 9223372036854775808 := Nat.lt_of_lt_of_le HVN.out (Nat.pow_le_pow_right (by omega) (show k + 1 ≤ 9 by omega))
        have hor : bits BinOp.or IntKind.u64 (v : Int) (IntKind.u64.wrap ((y : Int) * 2 ^ (7 * k))) = ((v + y * 128 ^ k : Nat) : Int) := by
          have hp : (128 : Nat) ^ k = 2 ^ (7 * k) := by rw [Nat.pow_mul]
          have e : ((y : Int) * 2 ^ (7 * k)) = ((y * 2 ^ (7 * k) : Nat) : Int) := by simp
          rw [show IntKind.u64.wrap ((y : Int) * 2 ^ (7 * k)) = (y : Int) * 2 ^ (7 * k) from by
            rw [e]
            refine IntWalk.u64_in _ ⟨?_, ?_⟩ <;> (rw [← hp]; omega)]
          exact or_shift v y k HV.out hy8 (by omega)
        have HN2 : Hid (128 ≤ z → numR (xs.drop (k + 1)) (k + 1) (v + y * 128 ^ k) = numR xs 0 0) := hidden (fun h => by rw [← HN.out, HD.out, if_neg (by omega), show z.toNat - 128 = y from by omega])
        have HN3 : Hid (z < 128 → ¬ (z = 0 ∧ 0 < k) → numS (xs, 0) = (v + y * 128 ^ k, (xs.drop (k + 1), 0))) := hidden (fun h h' => by unfold numS; simp only [if_true]; rw [← HN.out, HD.out, if_pos h, if_neg h', show z.toNat = y from by omega])
        have HN4 : Hid (z = 0 → 0 < k → numS (xs, 0) = (0, (xs, 4))) := hidden (fun h h' => by unfold numS; simp only [if_true]; rw [← HN.out, HD.out, if_pos (by omega), if_pos ⟨h, h'⟩])
        have HF4 : Hid (Calls Try.prog 84 #[.pointer (some ⟨g, 0, none⟩), .int .i64 4] wr fun e w' => e = .returned (.tuple #[]) ∧ EyeAt w' F g xs 4 ∧ Kept (fun b => b = g) wr w') := hidden (HFAIL.out 4)
        have HID := hidden (HI.out.drop (k + 1) (by omega))
        generalize v + y * 128 ^ k = V at *
        clear HD hy
        go_wp2_with (go_at_call 84; (with_reducible refine HF4.out.mono ?_); rintro e w2 ⟨rfl, he2, hk2⟩; have HE2 := hidden he2; have HK2 := hidden hk2; clear he2 hk2; dsimp only)
        · go_ret
          rw [HN4.out (by omega) (by omega)]
          exact ⟨rfl, HE2.out, HK2.out⟩
        · go_ret
          rw [HN3.out (by omega) (by omega)]
          have hcc : c = k + 1 := by assumption
          refine ⟨rfl, EyeAt.cut HB.out HI.out HF.out (k + 1) (by omega) ?_, Kept.setCell (S := fun b => b = g) (Kept.refl _ _) (p := ⟨g, 0, none⟩) (fun _ => rfl) _⟩
          rw [if_pos hcc, hcc, Nat.sub_self]
        · go_ret
          rw [HN3.out (by omega) (by omega)]
          have hcc : ¬ c = k + 1 := by assumption
          refine ⟨rfl, EyeAt.cut HB.out HI.out HF.out (k + 1) (by omega) ?_, Kept.setCell (S := fun b => b = g) (Kept.refl _ _) (p := ⟨g, 0, none⟩) (fun _ => rfl) _⟩
          rw [if_neg hcc, Nat.mul_one]
          show Value.slice (some (ad.add (k + 1))) _ _ = _
          rw [add_off ad (k + 1) (by omega)]
        · go_ret
          rw [HN3.out (by omega) (by omega)]
          have hcc : c = k + 1 := by assumption
          refine ⟨rfl, EyeAt.cut HB.out HI.out HF.out (k + 1) (by omega) ?_, Kept.setCell (S := fun b => b = g) (Kept.refl _ _) (p := ⟨g, 0, none⟩) (fun _ => rfl) _⟩
          rw [if_pos hcc, hcc, Nat.sub_self]
        · go_ret
          rw [HN3.out (by omega) (by omega)]
          have hcc : ¬ c = k + 1 := by assumption
          refine ⟨rfl, EyeAt.cut HB.out HI.out HF.out (k + 1) (by omega) ?_, Kept.setCell (S := fun b => b = g) (Kept.refl _ _) (p := ⟨g, 0, none⟩) (fun _ => rfl) _⟩
          rw [if_neg hcc, Nat.mul_one]
          show Value.slice (some (ad.add (k + 1))) _ _ = _
          rw [add_off ad (k + 1) (by omega)]
        · go_roundw
          case rel => exact ⟨k + 1, V, by omega, by go_num, rfl, HVN.out, HN2.out (by omega), trivial⟩
          case measure => simp [intOf]; omega
      · have HNS : Hid (numS (xs, 0) = (0, (xs, 2))) := hidden (by unfold numS; simp only [if_true]; rw [← HN.out, List.drop_eq_nil_of_le (by omega)]; simp [numR, h9])
        have HF2 : Hid (Calls Try.prog 84 #[.pointer (some ⟨g, 0, none⟩), .int .i64 2] wr fun e w' => e = .returned (.tuple #[]) ∧ EyeAt w' F g xs 2 ∧ Kept (fun b => b = g) wr w') := hidden (HFAIL.out 2)
        go_wp2_with (go_at_call 84; (with_reducible refine HF2.out.mono ?_); rintro e w2 ⟨rfl, he2, hk2⟩; have HE2 := hidden he2; have HK2 := hidden hk2; clear he2 hk2; dsimp only)
        go_ret
        rw [HNS.out]
        exact ⟨rfl, HE2.out, HK2.out⟩
    · have HNS : Hid (numS (xs, 0) = (0, (xs, 5))) := hidden (by
        unfold numS; simp only [if_true]; rw [← HN.out]
        cases hd : xs.drop k with
        | nil => simp [numR, h9]
        | cons c ys => simp only [numR]; rw [if_pos (by omega)])
      have HF5 : Hid (Calls Try.prog 84 #[.pointer (some ⟨g, 0, none⟩), .int .i64 5] wr fun e w' => e = .returned (.tuple #[]) ∧ EyeAt w' F g xs 5 ∧ Kept (fun b => b = g) wr w') := hidden (HFAIL.out 5)
      go_wp2_with (go_at_call 84; (with_reducible refine HF5.out.mono ?_); rintro e w2 ⟨rfl, he2, hk2⟩; have HE2 := hidden he2; have HK2 := hidden hk2; clear he2 hk2; dsimp only)
      go_ret
      rw [HNS.out]
      exact ⟨rfl, HE2.out, HK2.out⟩
set_option maxRecDepth 100000 in
set_option maxHeartbeats 8000000 in
theorem eye_numE (w : World) (F : Nat → Prop) (g : Nat) (xs : List Int) (er : Int) (h : EyeAt w F g xs er) (h0 : er ≠ 0) :
    Calls Try.prog 125 #[.pointer (some ⟨g, 0, none⟩)] w fun e w' => e = .returned (.int .i64 0) ∧ w = w' := by
  have HERR := hidden (eye_err w F g xs er h)
  have e1 : (er != 0) = true := by simpa using h0
  have e2 : (er == 0) = false := by simpa using h0
  clear h
  go_enter Try.func125, Try.ntmps125
  go_wp2_with (go_at_call 28; (with_reducible refine HERR.out.mono ?_); rintro e w1 ⟨rfl, rfl⟩; dsimp only)
  go_ret
  exact ⟨rfl, rfl⟩
theorem eye_num (w : World) (F : Nat → Prop) (g : Nat) (s : ES) (h : EyeAt w F g s.1 s.2) (hF : ∀ b, F b → b ≠ g) :
    Calls Try.prog 125 #[.pointer (some ⟨g, 0, none⟩)] w fun e w' => e = .returned (.int .i64 (numS s).1) ∧ EyeAt w' F g (numS s).2.1 (numS s).2.2 ∧ Kept (fun b => b = g) w w' := by
  obtain ⟨xs, er⟩ := s
  by_cases h0 : er = 0
  · subst h0
    exact eye_num0 w F g xs h hF
  · have e : numS (xs, er) = (0, (xs, er)) := if_neg h0
    rw [e]
    exact (eye_numE w F g xs er h h0).mono fun e w' ⟨h1, h2⟩ => ⟨h1, by subst h2; exact h, by subst h2; exact Kept.refl _ _⟩
theorem numS_er {s : ES} (h : s.2 ≠ 0) : numS s = (0, s) := if_neg h
theorem numS_lt {s : ES} (hw : ∀ x ∈ s.1, (Lit.int .u8 x).wf = true) : (numS s).1 < 9223372036854775808 := by
  unfold numS
  split
  · cases hn : numR s.1 0 0 with
    | error c => simp
    | ok p => exact (numR_ok hw (r := p.2) hn).2
  · simp
set_option maxRecDepth 100000 in
set_option maxHeartbeats 8000000 in
theorem eye_upto (w : World) (F : Nat → Prop) (g : Nat) (s : ES) (m : Nat) (h : EyeAt w F g s.1 s.2) (hF : ∀ b, F b → b ≠ g) :
    Calls Try.prog 82 #[.pointer (some ⟨g, 0, none⟩), .int .i64 m] w fun e w' => e = .returned (.int .i64 (uptoS m s).1) ∧ EyeAt w' F g (uptoS m s).2.1 (uptoS m s).2.2 ∧ Kept (fun b => b = g) w w' := by
  have HNUM := hidden (eye_num w F g s h hF)
  have HF := hidden hF
  have HU : Hid (((numS s).2.2 ≠ 0 → uptoS m s = (0, (numS s).2)) ∧ ((numS s).2.2 = 0 → m < (numS s).1 → uptoS m s = (0, ((numS s).2.1, 5))) ∧ ((numS s).2.2 = 0 → ¬ m < (numS s).1 → uptoS m s = ((numS s).1, ((numS s).2.1, 0)))) :=
    hidden ⟨fun h => if_neg h, fun h h2 => by unfold uptoS; rw [if_pos h, if_pos h2], fun h h2 => by unfold uptoS; rw [if_pos h, if_neg h2]; exact Prod.ext rfl (Prod.ext rfl h)⟩
  have HZ : Hid ((numS s).2.2 ≠ 0 → (numS s).1 = 0) := hidden (by
    unfold numS
    split
    · cases numR s.1 0 0 <;> simp
    · simp)
  clear h hF
  generalize numS s = p at *
  obtain ⟨n, ys, er⟩ := p
  dsimp only at HNUM HU HZ
  go_enter Try.func82, Try.ntmps82
  go_wp2_with (first
    | (go_at_call 125; (with_reducible refine HNUM.out.mono ?_); rintro e w1 ⟨rfl, he1, hk1⟩; have HE1 := hidden he1; have HK1 := hidden hk1; have HERR := hidden (eye_err w1 F g ys er he1); have HFL := hidden (eye_fail w1 F g ys er 5 he1 HF.out); clear he1 hk1; dsimp only)
    | (go_at_call 84; (with_reducible refine HFL.out.mono ?_); rintro e w2 ⟨rfl, he2, hk2⟩; have HE2 := hidden he2; have HK2 := hidden hk2; have HERR2 := hidden (eye_err w2 F g ys _ he2); clear he2 hk2; dsimp only)
    | (go_at_call 28; (with_reducible refine HERR2.out.mono ?_); rintro e w3 ⟨rfl, rfl⟩; dsimp only)
    | (go_at_call 28; (with_reducible refine HERR.out.mono ?_); rintro e w3 ⟨rfl, rfl⟩; dsimp only))
  iterate 2
    · have h0 : er = 0 := by
        by_cases h : er = 0
        · exact h
        · have := HZ.out h
          omega
      subst h0
      go_ret
      rw [HU.out.2.1 rfl (by omega)]
      exact ⟨rfl, HE2.out, HK1.out.trans HK2.out⟩
  · have h0 : er ≠ 0 := by simpa using ‹(er != 0) = true›
    go_ret
    rw [HU.out.1 h0]
    exact ⟨rfl, HE1.out, HK1.out⟩
  · have h0 : er = 0 := by simpa using ‹(er != 0) = false›
    subst h0
    go_ret
    rw [HU.out.2.2 rfl (by omega)]
    exact ⟨rfl, HE1.out, HK1.out⟩
theorem OwnB.base {w : World} {base base' : Nat} {v : Value} {xs : List Int} (h : OwnB w base v xs) (hb : base' ≤ base) : OwnB w base' v xs := by
  obtain ⟨h1, h2 | ⟨r, c, cur, h3, h4, h5⟩⟩ := h
  · exact ⟨h1, .inl h2⟩
  · exact ⟨h1, .inr ⟨r, c, cur, h3, Nat.le_trans hb h4, h5⟩⟩
theorem rawS_lt (n : Nat) (s : ES) (hw : ∀ x ∈ s.1, (Lit.int .u8 x).wf = true) : ∀ x ∈ (rawS n s).1, (Lit.int .u8 x).wf = true := by
  unfold rawS
  split
  · split
    · exact fun x hx => hw x (List.mem_of_mem_take hx)
    · simp
  · simp
theorem Ints.take {w : World} {F : Nat → Prop} {k : IntKind} {A : Option Addr} {c : Nat} {xs : List Int} (h : Ints w F k A c xs) (n : Nat) : Ints w F k A c (xs.take n) :=
  ⟨h.rd.take n, fun ad e hp => h.inF ad e (by simp at hp; omega), by have := h.le; rw [List.length_take]; omega, h.max, fun e => by obtain ⟨e1, e2⟩ := h.nil e; exact ⟨by rw [e1]; simp, e2⟩, fun x hx => h.wf x (List.mem_of_mem_take hx)⟩
set_option maxRecDepth 100000 in
set_option maxHeartbeats 8000000 in
theorem eye_raw0 (w : World) (F : Nat → Prop) (g : Nat) (xs : List Int) (n : Nat) (h : EyeAt w F g xs 0) (hF : ∀ b, F b → b ≠ g) (hx : xs.length ≤ 140737488355328) (hg : g < w.heap.size) (hFb : ∀ b, F b → b < w.heap.size) :
    Calls Try.prog 126 #[.pointer (some ⟨g, 0, none⟩), .int .i64 n] w fun e w' => ∃ v, e = .returned v ∧ OwnB w' w.heap.size v (rawS n (xs, 0)).1 ∧ EyeAt w' F g (rawS n (xs, 0)).2.1 (rawS n (xs, 0)).2.2 ∧ Kept (fun b => b = g) w w' := by
  have HE := hidden h
  have HF := hidden hF
  have HERR := hidden (eye_err w F g xs 0 h)
  have HFAIL : Hid (Calls Try.prog 84 #[.pointer (some ⟨g, 0, none⟩), .int .i64 2] w fun e w' => e = .returned (.tuple #[]) ∧ EyeAt w' F g xs 2 ∧ Kept (fun b => b = g) w w') := hidden (eye_fail w F g xs 0 2 h hF)
  obtain ⟨A, c, hb, hi⟩ := h
  have HB := hidden hb
  have q0 : w.cell? ⟨g, 0, none⟩ = some (.slice A xs.length c) := blk_cell hb 0
  have f0 : w.frozen? ⟨g, 0, none⟩ = false := blk_frozen hb 0
  have HI := hidden hi
  have hle := hi.le
  have hmx := hi.max
  have HNIL := hidden hi.nil
  unfold maxLen at hmx
  have hn0 : ¬ ((n : Int) < 0) := by omega
  clear hb hi hF
  by_cases hlt : xs.length < n
  · have HR : Hid (rawS n (xs, 0) = ([], (xs, 2))) := hidden (by unfold rawS; simp only [if_true]; rw [if_neg (by omega)])
    go_enter Try.func126, Try.ntmps126
    go_wp2_with (first
      | (go_at_call 28; (with_reducible refine HERR.out.mono ?_); rintro e w1 ⟨rfl, rfl⟩; dsimp only)
      | (go_at_call 84; (with_reducible refine HFAIL.out.mono ?_); rintro e w2 ⟨rfl, he2, hk2⟩; have HE2 := hidden he2; have HK2 := hidden hk2; clear he2 hk2; dsimp only))
    go_ret
    rw [HR.out]
    exact ⟨_, rfl, OwnB.nil _ _, HE2.out, HK2.out⟩
  · have HR : Hid (rawS n (xs, 0) = (xs.take n, (xs.drop n, 0))) := hidden (by unfold rawS; simp only [if_true]; rw [if_pos (by omega)])
    have hnc : n ≤ c := by omega
    have HTL : Hid ((xs.take n).length = n) := hidden (by rw [List.length_take]; omega)
    have HIT := hidden (HI.out.take n)
    go_enter Try.func126, Try.ntmps126
    go_wp2_with (first
      | (go_at_call 28; (with_reducible refine HERR.out.mono ?_); rintro e w1 ⟨rfl, rfl⟩; dsimp only)
      | (at_builtin; refine OwnB.app rfl (.const (.slice none 0 0)) (.tmp 27) rfl w.heap.size _ [] rfl (OwnB.nil _ _) A c (xs.take n) (congrArg (Value.slice A · c) HTL.out.symm) HIT.out.rd (fun e => (HIT.out.nil e).1) (by rw [HTL.out, List.length_nil]; omega) (Nat.le_refl _) ?_; intro v1 w1 ho1 hk1; have q1 : w1.cell? ⟨g, 0, none⟩ = some (.slice A xs.length c) := blk_cell (hk1.blk HB.out (fun h => by omega)) 0; have f1 : w1.frozen? ⟨g, 0, none⟩ = false := blk_frozen (hk1.blk HB.out (fun h => by omega)) 0; have HO1 := hidden ho1; have HK1 := hidden hk1; clear ho1 hk1; dsimp only))
    · have hcc : c = n := by first | assumption | rfl
      go_ret
      rw [HR.out]
      refine ⟨_, rfl, HO1.out.keep (Kept.setCell (S := fun b => b = g) (Kept.refl _ _) (p := ⟨g, 0, none⟩) (fun _ => rfl) _) (fun b hb h => by omega), EyeAt.cut (HK1.out.blk HB.out (fun h => by omega)) (HI.out.keep HK1.out (fun b hb h => by have := hFb b hb; omega)) HF.out n (by omega) ?_, Kept.setCell (S := fun b => b = g) (HK1.out.mono (fun b hb h => by omega)) (p := ⟨g, 0, none⟩) (fun _ => rfl) _⟩
      rw [if_pos hcc, hcc, Nat.sub_self]
    · have hcc : ¬ c = n := by assumption
      go_ret
      rw [HR.out]
      refine ⟨_, rfl, HO1.out.keep (Kept.setCell (S := fun b => b = g) (Kept.refl _ _) (p := ⟨g, 0, none⟩) (fun _ => rfl) _) (fun b hb h => by omega), EyeAt.cut (HK1.out.blk HB.out (fun h => by omega)) (HI.out.keep HK1.out (fun b hb h => by have := hFb b hb; omega)) HF.out n (by omega) ?_, Kept.setCell (S := fun b => b = g) (HK1.out.mono (fun b hb h => by omega)) (p := ⟨g, 0, none⟩) (fun _ => rfl) _⟩
      rw [if_neg hcc, Nat.mul_one]
set_option maxRecDepth 100000 in
set_option maxHeartbeats 8000000 in
theorem eye_rawE (w : World) (F : Nat → Prop) (g : Nat) (xs : List Int) (er : Int) (v : Int) (h : EyeAt w F g xs er) (h0 : er ≠ 0) :
    Calls Try.prog 126 #[.pointer (some ⟨g, 0, none⟩), .int .i64 v] w fun e w' => e = .returned (.slice none 0 0) ∧ w = w' := by
  have HERR := hidden (eye_err w F g xs er h)
  have e1 : (er != 0) = true := by simpa using h0
  have e2 : (er == 0) = false := by simpa using h0
  clear h
  go_enter Try.func126, Try.ntmps126
  go_wp2_with (go_at_call 28; (with_reducible refine HERR.out.mono ?_); rintro e w1 ⟨rfl, rfl⟩; dsimp only)
  go_ret
  exact ⟨rfl, rfl⟩
/-- What an eye needs to be read: its block is old, and no byte lies in it. -/
structure EyeG (w : World) (F : Nat → Prop) (g : Nat) (xs : List Int) : Prop where
  ne : ∀ b, F b → b ≠ g
  lt : ∀ b, F b → b < w.heap.size
  gl : g < w.heap.size
  len : xs.length ≤ 140737488355328
theorem EyeG.kept {w w' : World} {F : Nat → Prop} {g : Nat} {xs ys : List Int} {S : Nat → Prop} (h : EyeG w F g xs) (hk : Kept S w w') (hl : ys.length ≤ xs.length) : EyeG w' F g ys :=
  ⟨h.ne, fun b hb => by have := h.lt b hb; have := hk.size; omega, by have := h.gl; have := hk.size; omega, by have := h.len; omega⟩
theorem EyeAt.wf {w : World} {F : Nat → Prop} {g : Nat} {xs : List Int} {er : Int} (h : EyeAt w F g xs er) : ∀ x ∈ xs, (Lit.int .u8 x).wf = true := by
  obtain ⟨_, _, _, hi⟩ := h
  exact hi.wf
theorem eye_raw (w : World) (F : Nat → Prop) (g : Nat) (s : ES) (n : Nat) (h : EyeAt w F g s.1 s.2) (hG : EyeG w F g s.1) :
    Calls Try.prog 126 #[.pointer (some ⟨g, 0, none⟩), .int .i64 n] w fun e w' => ∃ v, e = .returned v ∧ OwnB w' w.heap.size v (rawS n s).1 ∧ EyeAt w' F g (rawS n s).2.1 (rawS n s).2.2 ∧ Kept (fun b => b = g) w w' := by
  obtain ⟨xs, er⟩ := s
  by_cases h0 : er = 0
  · subst h0
    exact eye_raw0 w F g xs n h hG.ne hG.len hG.gl hG.lt
  · have e : rawS n (xs, er) = ([], (xs, er)) := if_neg h0
    rw [e]
    exact (eye_rawE w F g xs er n h h0).mono fun e w' ⟨h1, h2⟩ => ⟨_, h1, OwnB.nil _ _, by subst h2; exact h, by subst h2; exact Kept.refl _ _⟩
theorem numR_len : ∀ (xs : List Int) (i v : Nat) (p : Nat × List Int), numR xs i v = .ok p → p.2.length ≤ xs.length
  | [], _, _, _, h => by simp [numR] at h
  | c :: xs, i, v, p, h => by
    unfold numR at h
    split at h
    · cases h
    · split at h
      · split at h
        · cases h
        · simp only [Except.ok.injEq] at h; subst h; simp
      · have := numR_len xs _ _ p h
        simp; omega
theorem numS_len (s : ES) : (numS s).2.1.length ≤ s.1.length := by
  unfold numS
  split
  · cases hn : numR s.1 0 0 with
    | error c => exact Nat.le_refl _
    | ok p => exact numR_len _ _ _ p hn
  · exact Nat.le_refl _
theorem uptoS_len (m : Nat) (s : ES) : (uptoS m s).2.1.length ≤ s.1.length := by
  have := numS_len s
  unfold uptoS
  split
  · split <;> exact this
  · exact this
theorem rawS_len (n : Nat) (s : ES) : (rawS n s).2.1.length ≤ s.1.length ∧ (rawS n s).1.length ≤ n := by
  unfold rawS
  split
  · split
    · simp; omega
    · simp
  · simp
set_option maxRecDepth 100000 in
set_option maxHeartbeats 8000000 in
theorem eye_text (w : World) (F : Nat → Prop) (g : Nat) (s : ES) (m : Nat) (h : EyeAt w F g s.1 s.2) (hG : EyeG w F g s.1) :
    Calls Try.prog 117 #[.pointer (some ⟨g, 0, none⟩), .int .i64 m] w fun e w' => ∃ v, e = .returned v ∧ OwnB w' w.heap.size v (textS m s).1 ∧ EyeAt w' F g (textS m s).2.1 (textS m s).2.2 ∧ Kept (fun b => b = g) w w' := by
  have HU := hidden (eye_upto w F g s m h hG.ne)
  have HR := hidden (fun w1 he hk => eye_raw w1 F g (uptoS m s).2 (uptoS m s).1 he (hG.kept (S := fun b => b = g) (w' := w1) hk (uptoS_len m s)))
  have HT : Hid (textS m s = rawS (uptoS m s).1 (uptoS m s).2) := hidden rfl
  clear h hG
  rw [HT.out]
  generalize uptoS m s = p at *
  obtain ⟨n, t⟩ := p
  dsimp only at HU HR ⊢
  generalize rawS n t = q at *
  clear HT
  go_enter Try.func117, Try.ntmps117
  go_wp2_with (first
    | (go_at_call 82; (with_reducible refine HU.out.mono ?_); rintro e w1 ⟨rfl, he1, hk1⟩; have HK1 := hidden hk1; have HR1 := hidden (HR.out w1 he1 hk1); clear he1 hk1; dsimp only)
    | (go_at_call 126; (with_reducible refine HR1.out.mono ?_); rintro e w2 ⟨v2, rfl, ho2, he2, hk2⟩; have HO2 := hidden ho2; have HE2 := hidden he2; have HK2 := hidden hk2; clear ho2 he2 hk2; dsimp only))
  go_ret
  exact ⟨_, rfl, OwnB.base HO2.out HK1.out.size, HE2.out, HK1.out.trans HK2.out⟩
end Go.Proofs.Ytcghjnegaiiieaa

/- Part 3 of the texts that LawCommitBuilds needs, pruned and joined. -/
import Derived.Test.YtcghjnegaiiieaaCB2
set_option linter.unusedSimpArgs false
namespace Go.Proofs.Ytcghjnegaiiieaa
open Go Go.RowKit
section
variable {P : Program} {w : World} {F : Nat → Prop} {ε : Nat → Value} {H : List AObj} {ρ : Operand → Value} {ev : Operand → AV}
theorem valEqB_sound {a b : Value} (h : valEqB a b = true) : a = b ∧ a.oneCell' = true := by
  unfold valEqB at h
  split at h <;> first
    | (simp at h; done)
    | (simp only [Bool.and_eq_true, decide_eq_true_eq] at h; obtain ⟨rfl, rfl⟩ := h; exact ⟨rfl, rfl⟩)
    | (simp only [beq_iff_eq] at h; subst h; exact ⟨rfl, rfl⟩)
    | exact ⟨rfl, rfl⟩
    | skip
  · rename_i a b
    simp only [Bool.and_eq_true, beq_iff_eq] at h
    obtain ⟨h1, h2⟩ := h
    cases a with
    | mk x => cases b with
      | mk y =>
        have e1 : x = #[] := Array.eq_empty_of_size_eq_zero h1
        have e2 : y = #[] := Array.eq_empty_of_size_eq_zero h2
        subst e1; subst e2; exact ⟨rfl, rfl⟩
theorem valsEqB_sound : ∀ {a b : List Value}, valsEqB a b = true → a = b ∧ ∀ u ∈ a, u.oneCell' = true
  | [], [], _ => ⟨rfl, fun u hu => by cases hu⟩
  | a :: l, b :: m, h => by
    simp only [valsEqB, Bool.and_eq_true] at h
    obtain ⟨rfl, h1⟩ := valEqB_sound h.1
    obtain ⟨rfl, h2⟩ := valsEqB_sound h.2
    refine ⟨rfl, fun u hu => ?_⟩
    rcases List.mem_cons.1 hu with rfl | hu
    · exact h1
    · exact h2 u hu
  | [], _ :: _, h => by cases h
  | _ :: _, [], h => by cases h
mutual
theorem CV.flat_rep : ∀ (z : CV) (l : List Value), z.flat = some l → (∀ u ∈ l, u.oneCell' = true) → z.rep w F l
  | .pv v, l, h, h1 => by simp only [CV.flat, Option.some.injEq] at h; subst h; simp only [CV.rep, true_and]; exact h1 v (by simp)
  | .ar k n xs, l, h, h1 => by
    simp only [CV.flat] at h
    split at h
    · rename_i e; cases h; simp only [CV.rep, true_and]; exact e
    · cases h
  | .st fs, l, h, h1 => by simp only [CV.flat] at h; simp only [CV.rep]; exact CV.flats_rep fs l h h1
  | .sl _ _, l, h, _ => by simp [CV.flat] at h
theorem CV.flats_rep : ∀ (fs : List CV) (l : List Value), CV.flats fs = some l → (∀ u ∈ l, u.oneCell' = true) → CV.reps w F fs l
  | [], l, h, _ => by simp only [CV.flats, Option.some.injEq] at h; subst h; simp only [CV.reps]
  | a :: fs, l, h, h1 => by
    simp only [CV.flats] at h
    split at h
    · rename_i x y hx hy
      cases h
      simp only [CV.reps]
      exact ⟨x, y, rfl, CV.flat_rep a x hx (fun u hu => h1 u (by simp [hu])), CV.flats_rep fs y hy (fun u hu => h1 u (by simp [hu]))⟩
    · cases h
end
theorem tZero_run {t : TypeId} {z : CV} (h : tZero P t = some z) : ∃ v, (∀ x, (zeroValue t).run P x = .ok v x) ∧ ∀ w F, z.rep w F v.cells.toList := by
  unfold tZero at h
  split at h
  · rename_i z' v hz hv
    split at h
    · rename_i l hl
      split at h
      · rename_i he
        cases h
        obtain ⟨rfl, h1⟩ := valsEqB_sound he
        cases hi : P.info? t with
        | none => rw [hi] at hv; cases hv
        | some i =>
          rw [hi] at hv
          simp only [Option.bind_some] at hv
          exact ⟨v, fun x => by simp [zeroValue, typeInfo, hi, hv], fun w F => CV.flat_rep _ _ hl h1⟩
      · cases h
    · cases h
  · cases h
theorem foldl_set_off (c d e d' : List Value) (h : d'.length = d.length) : (d'.toArray.zipIdx.foldl (fun (cs : Array Value) (x : Value × Nat) => cs.setIfInBounds (c.length + x.2) x.1) (c ++ d ++ e).toArray) = (c ++ d' ++ e).toArray := by
  rw [← Array.foldl_toList, Array.toList_zipIdx]
  have key : ∀ (es rest pre : List Value), rest.length = es.length → (es.zipIdx pre.length).foldl (fun (cs : Array Value) (x : Value × Nat) => cs.setIfInBounds (c.length + x.2) x.1) (c ++ (pre ++ rest) ++ e).toArray = (c ++ (pre ++ es) ++ e).toArray := by
    intro es
    induction es with
    | nil =>
      intro rest pre hl
      have : rest = [] := List.eq_nil_of_length_eq_zero hl
      subst this
      simp
    | cons u es ih =>
      intro rest pre hl
      cases rest with
      | nil => simp at hl
      | cons r rest =>
        rw [List.zipIdx_cons, List.foldl_cons]
        have e1 : (c ++ (pre ++ r :: rest) ++ e).toArray.setIfInBounds (c.length + pre.length) u = (c ++ ((pre ++ [u]) ++ rest) ++ e).toArray := by
          rw [List.setIfInBounds_toArray]
          congr 1
          rw [show c ++ (pre ++ r :: rest) ++ e = (c ++ pre) ++ (r :: (rest ++ e)) from by simp, show c.length + pre.length = (c ++ pre).length from by simp, List.set_append_right _ _ (Nat.le_refl _)]
          simp
        rw [e1]
        have := ih rest (pre ++ [u]) (by simpa using hl)
        simpa using this
  have := key d' d [] h.symm
  simpa using this
theorem solid_rep {x : AV} {v : Value} (h : x.repV w F ε v) (hs : x.solid = true) : x.rep w F ε v.cells.toList := AV.rep_of_repV h (fun n e => by subst e; cases hs) (fun l e => by subst e; cases hs)
theorem fill_rep {place : Nat → Option (Nat × Nat)} {pl : List (Nat × Nat)} (hpl : ∀ i p, pl[i]? = some p → place i = some p) : ∀ (parts : List (Nat × Operand)) (acc : AV) (cells : Array Value), acc.rep w F ε cells.toList → bldOk ev pl acc parts → (∀ p ∈ parts, (ev p.2).repV w F ε (ρ p.2)) →
    ∃ cells', Instr.fill place cells (parts.map fun p => (p.1, ρ p.2)) = some cells' ∧ (bldV ev acc parts).rep w F ε cells'.toList
  | [], acc, cells, h, _, _ => ⟨cells, rfl, h⟩
  | (i, x) :: l, acc, cells, h, ho, hr => by
    simp only [bldOk] at ho
    obtain ⟨h1, h2⟩ := ho
    cases hp : pl[i]? with
    | none => rw [hp] at h1; exact h1.elim
    | some p =>
      obtain ⟨off, sz⟩ := p
      rw [hp] at h1
      dsimp only at h1
      obtain ⟨hok, hoff, hsz, hsx, hfit, hsol⟩ := h1
      obtain ⟨c, d, e, he, hl, hd, hset⟩ := AV.rep_part [i] acc _ h hok
      have hx := solid_rep (hr (i, x) (by simp)) hsol
      have lx := AV.rep_len _ _ hx
      have ld := AV.rep_len _ _ hd
      have hc : cells = (c ++ d ++ e).toArray := by rw [← he]
      obtain ⟨cells', h3, h4⟩ := fill_rep hpl l (acc.set [i] (ev x)) (c ++ (ρ x).cells.toList ++ e).toArray (hset _ _ hfit hx) h2 (fun p hp => hr p (by simp [hp]))
      refine ⟨cells', ?_, by rw [bldV]; exact h4⟩
      simp only [List.map_cons, Instr.fill, hpl i _ hp]
      have e1 : (ρ x).cells.size = sz := by rw [← hsx, ← lx]; simp
      rw [if_neg]
      · rw [← h3]
        congr 1
        rw [← hoff, ← hl, hc]
        have := foldl_set_off c d e (ρ x).cells.toList (by rw [lx, hsx, ld, hsz])
        simpa using this
      · simp only [e1, ne_eq, not_true_eq_false, decide_false, Bool.false_or, decide_eq_true_eq]
        have : cells.size = c.length + d.length + e.length := by rw [hc]; simp; omega
        omega
theorem fields_run : ∀ (fs : List Field) (pl : List (Nat × Nat)), (fs.mapM fun f => (tSz P f.type).map fun n => (f.offset, n)) = some pl → ∀ x, (fs.mapM (m := Sem) fun f => do pure (f.offset, ← sizeOf f.type)).run P x = .ok pl x
  | [], pl, h, x => by simp at h; subst h; rfl
  | f :: fs, pl, h, x => by
    simp only [List.mapM_cons, Option.bind_eq_bind] at h
    cases hz : tSz P f.type with
    | none => rw [hz] at h; simp at h
    | some n =>
      rw [hz] at h
      simp only [Option.map_some, Option.bind_some] at h
      cases hr : (fs.mapM fun f => (tSz P f.type).map fun n => (f.offset, n)) with
      | none => rw [hr] at h; simp at h
      | some r =>
        rw [hr] at h
        simp at h
        subst h
        have ih := fields_run fs r hr x
        rw [List.mapM_cons, Sem.run_bind, Sem.run_bind, tSz_run hz]
        simp only [Result.andThen_ok, Sem.run_pure]
        rw [Sem.run_bind, ih]
        rfl
theorem sound_bld {t : TypeId} {z : CV} {pl : List (Nat × Nat)} {parts : List (Nat × Operand)} (hz : tZero P t = some z) (hp : tPlaces P t = some pl) (hi : ∀ p ∈ parts, p.1 < pl.length) (hr : ∀ p ∈ parts, (ev p.2).repV w F ε (ρ p.2)) (hk : (PK.bld z pl parts).cond P ev H) :
    ∃ v, ((PK.bld z pl parts).val ev H).repV w F ε v ∧ ∀ x, (Instr.build t (parts.map fun p => (p.1, ρ p.2)).toArray).run P x = .ok v x := by
  simp only [PK.cond] at hk
  obtain ⟨hk, hag⟩ := hk
  simp only [PK.val]
  obtain ⟨v0, hv0, hz0⟩ := tZero_run hz
  have hz1 : (AV.c z).rep w F ε v0.cells.toList := by simp only [AV.rep]; exact hz0 w F
  have fin : ∀ cells' : Array Value, (bldV ev (.c z) parts).rep w F ε cells'.toList → (bldV ev (.c z) parts).repV w F ε (.agg cells') := fun cells' h => by
    have := AV.repV_of_rep h
    rw [hag] at this
    simpa [mkv] using this
  unfold tPlaces at hp
  split at hp
  · rename_i fs hu
    obtain ⟨cells', h3, h4⟩ := fill_rep (place := fun i => pl.toArray[i]?) (pl := pl) (fun i p h => by simpa using h) parts _ _ hz1 hk hr
    refine ⟨.agg cells', fin _ h4, fun x => ?_⟩
    unfold Instr.build
    rw [Sem.run_bind, hv0]
    simp only [Result.andThen_ok]
    rw [Sem.run_bind, run_underlying hu]
    simp only [Result.andThen_ok]
    have hf := fields_run fs.toList pl hp
    rw [Sem.run_bind]
    have hfa : (fs.mapM (m := Sem) fun f => do pure (f.offset, ← sizeOf f.type)).run P x = .ok pl.toArray x := by
      rw [Array.mapM_eq_mapM_toList, map_eq_pure_bind, Sem.run_bind, hf x]
      rfl
    rw [hfa]
    simp only [Result.andThen_ok]
    rw [h3]
    rfl
  · rename_i n e hu
    cases hk' : tSz P e with
    | none => rw [hk'] at hp; cases hp
    | some k =>
      rw [hk'] at hp
      simp only [Option.map_some, Option.some.injEq] at hp
      subst hp
      obtain ⟨cells', h3, h4⟩ := fill_rep (place := fun i => some (i * k, k)) (pl := (List.range n).map fun i => (i * k, k)) (fun i p h => by
        simp only [List.getElem?_map, List.getElem?_range] at h
        cases hr : (List.range n)[i]? with
        | none => rw [hr] at h; cases h
        | some j =>
          rw [hr] at h
          have : j = i := by
            have := List.getElem?_eq_some_iff.1 hr
            obtain ⟨h1, h2⟩ := this
            simpa using h2.symm
          subst this
          simpa using h) parts _ _ hz1 hk hr
      refine ⟨.agg cells', fin _ h4, fun x => ?_⟩
      unfold Instr.build
      rw [Sem.run_bind, hv0]
      simp only [Result.andThen_ok]
      rw [Sem.run_bind, run_underlying hu]
      simp only [Result.andThen_ok]
      rw [Sem.run_bind, tSz_run hk']
      simp only [Result.andThen_ok]
      rw [h3]
      rfl
  · cases hp
theorem sound_str {s t e : TypeId} {y : Operand} {n : Nat} (hs : Sim w F ε H) (ht : tSlice P s = some (e, n)) (he : P.underlying e = some (.int .u8)) (hd : P.underlying t = some .string) (hr : (ev y).repV w F ε (ρ y)) (hk : (PK.str y).cond P ev H) :
    ∃ v, ((PK.str y).val ev H).repV w F ε v ∧ ∀ x, Same w F ε H x → (convert s t (ρ y)).run P x = .ok v x := by
  obtain ⟨hu, hz⟩ := tSlice_run ht
  simp only [PK.cond, PK.val] at hk ⊢
  split at hk
  · rename_i sz es hx
    obtain ⟨A, c, hv, h1, h2, h3, h4⟩ := els_rep hs hx hr
    refine ⟨_, repV_pv' rfl, fun x hsame => ?_⟩
    rw [hv]
    cases A with
    | none =>
      obtain ⟨rfl, rfl⟩ := h3 rfl
      exact run_convert_bytes_nil x _ _ hu he _ 0 _ hd
    | some ad =>
      have hbyte : ∀ i (hi : i < es.length), ∃ m, es[i] = .pv (.int .u8 m) := fun i hi => by
        have := hk es[i] (List.getElem_mem hi)
        unfold CV.isByte at this
        split at this
        · exact ⟨_, by assumption⟩
        · exact this.elim
      by_cases h0 : es = []
      · subst h0
        rw [run_convert_bytes_string x _ _ _ _ _ _ hu he hd]
        show (Conv.bytesToString (.slice (some ad) 0 c)).run P x = _
        rw [run_bytesToString x ad 0 c [] (by simpa using run_loadCells_list (P := P) x ad [] (by simp))]
        rfl
      · have hcell : ∀ i, i < es.length → x.cell? (ad.add i) = some (.int .u8 ((es.map CV.numOf).getD i 0)) ∧ sz = 1 := fun i hi => by
          obtain ⟨ad', cs, e1, hrep, hl, hcell, hb⟩ := h4 i hi
          obtain rfl := Option.some.inj e1
          obtain ⟨m, hm⟩ := hbyte i hi
          rw [hm] at hrep
          simp only [CV.rep] at hrep
          obtain ⟨rfl, _⟩ := hrep
          have hsz : sz = 1 := by rw [← hl]; rfl
          subst hsz
          have := hcell 0 _ rfl
          refine ⟨?_, rfl⟩
          rw [hsame.cell (by rw [add_block]; exact hb)]
          rw [Go.Addr.add_add, Nat.mul_one, Nat.add_zero] at this
          rw [this]
          simp [hi, hm, CV.numOf]
        have hpos : 0 < es.length := List.length_pos_iff.2 h0
        have hc' : x.cell? ad = _ := (hcell 0 hpos).1
        obtain ⟨b, o, e2⟩ := addr_plain hc'
        rw [e2] at hcell ⊢
        exact run_convert_bytes_arg x _ _ hu he b o es.length c (es.map CV.numOf) (by simp) (fun i hi => by
          have := (hcell i (by simpa using hi)).1
          rw [plain_add] at this
          exact this) _ hd
  · exact hk.elim
theorem repVs_map (l : List Operand) (h : ∀ x ∈ l, (ev x).repV w F ε (ρ x)) : AV.repVs w F ε (l.map ev) (l.map ρ) := by
  induction l with
  | nil => simp only [List.map_nil, AV.repVs]
  | cons a l ih => simp only [List.map_cons, AV.repVs]; exact ⟨_, _, rfl, h a (by simp), ih fun x hx => h x (by simp [hx])⟩
theorem repVs_at : ∀ (l : List AV) (us : List Value) (i : Nat) (h : i < l.length), AV.repVs w F ε l us → ∃ u, us[i]? = some u ∧ (l.getD i default).repV w F ε u
  | [], _, i, h, _ => by simp at h
  | a :: l, us, i, h, hr => by
    simp only [AV.repVs] at hr
    obtain ⟨v, us', rfl, h1, h2⟩ := hr
    cases i with
    | zero => exact ⟨v, rfl, h1⟩
    | succ i =>
      obtain ⟨u, h3, h4⟩ := repVs_at l us' i (by simpa using h) h2
      exact ⟨u, by simpa using h3, by simpa using h4⟩
theorem tZ_int {t s : TypeId} {k k' : IntKind} {y : Operand} (h1 : tInt P s = some k') (h2 : tInt P t = some k) (hr : (ev y).repV w F ε (ρ y)) (hk : (PK.cvt k y).cond P ev H) :
    ∃ v, ((PK.cvt k y).val ev H).repV w F ε v ∧ ∀ x, (convert s t (ρ y)).run P x = .ok v x := by
  simp only [PK.cond, PK.val] at hk ⊢
  obtain ⟨⟨kk, n⟩, h⟩ := hk
  rw [h]
  refine ⟨_, bi_rep _ _, fun x => ?_⟩
  rw [int_of h hr]
  simp [convert, run_underlying (tInt_run h1), run_underlying (tInt_run h2), Conv.intToInt]
theorem sound_eqA {op : BinOp} {ng : Bool} {t : TypeId} {sh : Sh} {y z : Operand} (hop : op = bif ng then .neq else .eql) (hg : P.eqGuardType P.depth t = false) (hmm : sh.depth ≤ 10000) (hr : (ev y).repV w F ε (ρ y)) (hi : (ev z).repV w F ε (ρ z)) (hk : (PK.eqA ng t sh y z).cond P ev H) :
    ∃ v, ((PK.eqA ng t sh y z).val ev H).repV w F ε v ∧ ∀ x, (do eqGuard op t y z (ρ y) (ρ z); binOp op t (ρ y) (ρ z) : Sem Value).run P x = .ok v x := by
  simp only [PK.cond] at hk
  obtain ⟨hag, hE, hk⟩ := hk
  split at hk
  · rename_i a b h1 h2
    simp only [PK.val, h1, h2]
    rw [h1] at hr
    rw [h2] at hi
    simp only [AV.repV, CV.repV] at hr hi
    obtain ⟨cs, r1, e1⟩ := hr
    obtain ⟨ds, r2, e2⟩ := hi
    obtain ⟨_, _, a1, a2⟩ := hE.len _ _ hk
    refine ⟨_, bb_rep _, fun x => ?_⟩
    have hm := hE.run
    rw [e1, e2, a1, a2, hag]
    simp only [mkv, if_true]
    rw [Sem.run_bind, run_eqGuard_agg x _ _ _ _ _ _ hg]
    simp only [Result.andThen_ok]
    have := hm 10000 hmm w F a b cs ds hk r1 r2 x
    rw [hag] at this
    simp only [mkv, if_true] at this
    subst hop
    cases ng
    · rw [show (bif false then BinOp.neq else BinOp.eql) = .eql from rfl, run_eql_struct, this]; simp
    · rw [show (bif true then BinOp.neq else BinOp.eql) = .neq from rfl, run_neq_struct, this]; simp
  · exact hk.elim
end
end Go.Proofs.Ytcghjnegaiiieaa
namespace Go.Proofs.Ytcghjnegaiiieaa
open Go Go.RowKit
section
variable {P : Program} {w : World} {F : Nat → Prop} {ε : Nat → Value} {H : List AObj} {ρ : Operand → Value} {ev : Operand → AV}
def PK.more (ev : Operand → AV) (R : Operand → Prop) : PK → Prop
  | .pick c a b => ((ev c).boolOf = true → R a) ∧ ((ev c).boolOf = false → R b)
  | _ => True
theorem boolOf_some {x : AV} {t : Bool} (h : x.bool? = some t) : x.boolOf = t := by simp [AV.boolOf, h]
theorem pk_sound {o : Oper} {k : PK} (hs : Sim w F ε H) (hc : conv P o.op = some k) (hr : ∀ x ∈ k.uses, (ev x).repV w F ε (ρ x)) (hm : k.more ev fun x => (ev x).repV w F ε (ρ x)) (hk : k.cond P ev H) :
    ∃ v, (k.val ev H).repV w F ε v ∧ ∀ x, Same w F ε H x → (execOp ρ o).run P x = .ok (.value v) x := by
  obtain ⟨dst, op, ty, pos, aft, gd⟩ := o
  have lift : ∀ {s : Sem Value} {v : AV}, (∃ u, v.repV w F ε u ∧ ∀ x, s.run P x = .ok u x) → ∃ u, v.repV w F ε u ∧ ∀ x, Same w F ε H x → (do Pure.pure (Next.value (← s)) : Sem Next).run P x = .ok (.value u) x := fun ⟨u, h1, h2⟩ => ⟨u, h1, fun x _ => run_v (h2 x)⟩
  cases op <;> (try simp only [conv] at hc) <;> (try (cases hc; done))
  case move x =>
    cases hc
    exact ⟨ρ x, hr x (by simp [PK.uses]), fun _ _ => rfl⟩
  case assign x =>
    cases hc
    exact ⟨ρ x, hr x (by simp [PK.uses]), fun _ _ => rfl⟩
  case pick c a b =>
    cases hc
    simp only [PK.cond, PK.val, PK.more] at hk hm ⊢
    obtain ⟨⟨t, h1⟩, h2, h3⟩ := hk
    have hc := bool_of h1 (hr c (by simp [PK.uses]))
    have ht := boolOf_some h1
    rw [ht] at h2 h3 hm ⊢
    cases t with
    | true =>
      obtain ⟨ta, h4⟩ := h2 rfl
      have ha := bool_of h4 (hm.1 rfl)
      refine ⟨.bool ta, by rw [cond_true, boolOf_some h4]; exact bb_rep _, fun x _ => ?_⟩
      simp [execOp, hc, ha, asBool]
    | false =>
      obtain ⟨tb, h4⟩ := h3 rfl
      have hb := bool_of h4 (hm.2 rfl)
      refine ⟨.bool tb, by rw [cond_false, boolOf_some h4]; exact bb_rep _, fun x _ => ?_⟩
      simp [execOp, hc, hb, asBool]
  case build t parts =>
    split at hc
    · rename_i z pl hz hp
      split at hc
      · rename_i hall
        cases hc
        refine lift ?_
        obtain ⟨v, h1, h2⟩ := sound_bld (parts := parts.toList) hz hp (fun p hp => by have := Array.all_eq_true_iff_forall_mem.1 hall p (by simpa using hp); exact of_decide_eq_true this) (fun p hp => hr p.2 (List.mem_map.2 ⟨p, hp, rfl⟩)) hk
        refine ⟨v, h1, fun x => ?_⟩
        have e : (parts.map fun p => (p.1, ρ p.2)) = (parts.toList.map fun p => (p.1, ρ p.2)).toArray := by rw [← Array.toList_map]
        show (Instr.build t (parts.map fun p => (p.1, ρ p.2))).run P x = _
        rw [e]
        exact h2 x
      · cases hc
    · cases hc
  case load t x =>
    split at hc
    · rename_i n g hz hg
      split at hc
      · rename_i h1
        cases hc
        obtain ⟨v, h2, h3⟩ := sound_load hs hz hg (fun e => by subst e; simpa using h1) (hr x (by simp [PK.uses])) hk
        exact ⟨v, h2, fun y hy => run_v (h3 y hy)⟩
      · cases hc
    · cases hc
  case nilCheck x =>
    cases hc
    simp only [PK.cond, PK.val] at hk ⊢
    have hx := hr x (by simp [PK.uses])
    refine ⟨ρ x, hx, fun y _ => ?_⟩
    simp only [execOp]
    split at hk
    · rename_i he
      rw [he] at hx
      simp only [AV.repV] at hx
      obtain ⟨b, _, e⟩ := hx
      rw [e]; rfl
    · rename_i he
      rw [he] at hx
      simp only [AV.repV] at hx
      obtain ⟨b, e, _⟩ := hx
      rw [e]; rfl
    · rename_i he
      rw [he] at hx
      simp only [AV.repV] at hx
      obtain ⟨vs, us, e, _⟩ := hx
      rw [e]; rfl
    · exact hk.elim
  case binOp op t x y ty' =>
    have hn : ∀ (kd : Nat) (d : TypeDesc), P.underlying t = some d → nilKind d = some kd → convNil kd op x y = some k → ∃ v, (k.val ev H).repV w F ε v ∧ ∀ x_1, Same w F ε H x_1 → (do Pure.pure (Next.value (← (do eqGuard op t x y (ρ x) (ρ y); binOp op t (ρ x) (ρ y) : Sem Value))) : Sem Next).run P x_1 = .ok (.value v) x_1 := fun kd d hu hd hc => by
      unfold convNil at hc
      split at hc <;> first
        | (cases hc; done)
        | (cases hc; exact lift (sound_eqNil rfl hu hd (hr x (by simp [PK.uses])) (hr y (by simp [PK.uses])) hk))
    have ha : convAgg P op t x y = some k → ∃ v, (k.val ev H).repV w F ε v ∧ ∀ x_1, Same w F ε H x_1 → (do Pure.pure (Next.value (← (do eqGuard op t x y (ρ x) (ρ y); binOp op t (ρ x) (ρ y) : Sem Value))) : Sem Next).run P x_1 = .ok (.value v) x_1 := fun hc => by
      unfold convAgg at hc
      split at hc
      · cases hc
      · rename_i hg
        split at hc
        · split at hc
          · rename_i hmm
            split at hc <;> first
              | (cases hc; done)
              | (cases hc; exact lift (sound_eqA rfl (by simpa using hg) hmm (hr x (by simp [PK.uses])) (hr y (by simp [PK.uses])) hk))
          · cases hc
        · cases hc
    unfold convBin at hc
    split at hc
    · cases hc
      exact lift (sound_bin (hr x (by simp [PK.uses])) (hr y (by simp [PK.uses])) hk)
    · unfold convStr at hc
      split at hc <;> first
        | (cases hc; done)
        | (cases hc; exact lift (sound_strEq rfl (hr x (by simp [PK.uses])) (hr y (by simp [PK.uses])) hk))
    · rename_i hu
      unfold convB at hc
      split at hc <;> first
        | (cases hc; done)
        | (cases hc; exact lift (sound_eqB rfl hu (hr x (by simp [PK.uses])) (hr y (by simp [PK.uses])) hk))
    · rename_i hu
      exact hn 0 _ hu rfl hc
    · rename_i hu
      exact hn 1 _ hu rfl hc
    · rename_i hu
      exact hn 2 _ hu rfl hc
    · exact ha hc
    · exact ha hc
    · cases hc
  case unOp op t x =>
    unfold convUn at hc
    split at hc
    · cases hc
      simp only [PK.cond, PK.val] at hk ⊢
      obtain ⟨t', h⟩ := hk
      refine ⟨_, bb_rep _, fun y _ => ?_⟩
      have hx := bool_of h (hr x (by simp [PK.uses]))
      simp [execOp, hx, Op.unary, boolOf_some h]
    · cases hc
      simp only [PK.cond, PK.val] at hk ⊢
      obtain ⟨⟨k, n⟩, h⟩ := hk
      rw [h]
      refine ⟨_, bi_rep _ _, fun y _ => ?_⟩
      have hx := int_of h (hr x (by simp [PK.uses]))
      simp [execOp, hx, Op.unary, Op.intArith]
    · cases hc
  case convert s t x =>
    split at hc
    · rename_i k' k h1 h2
      cases hc
      exact lift (tZ_int h1 h2 (hr x (by simp [PK.uses])) hk)
    · split at hc
      · rename_i e n ht hd
        split at hc
        · rename_i he
          cases hc
          obtain ⟨v, h1, h2⟩ := sound_str hs ht (tInt_run he) hd (hr x (by simp [PK.uses])) hk
          exact ⟨v, h1, fun y hy => run_v (h2 y hy)⟩
        · cases hc
      · cases hc
  case makeFunc f fi ca =>
    cases hc
    simp only [PK.val]
    refine ⟨.func f (fi.map ρ) (ca.map ρ), ?_, fun y _ => rfl⟩
    simp only [AV.repV]
    exact ⟨fi.toList.map ρ, ca.toList.map ρ, by rw [← Array.toList_map, ← Array.toList_map], repVs_map _ (fun x hx => hr x (by simp only [PK.uses, List.mem_append]; exact .inl hx)), repVs_map _ (fun x hx => hr x (by simp only [PK.uses, List.mem_append]; exact .inr hx))⟩
  case slice t x lo hi mx =>
    cases mx with
    | some _ => cases hc
    | none =>
      unfold convSlc at hc
      dsimp only at hc
      have hlo : ∀ k : PK, (k.uses = x :: (lo.toList ++ hi.toList)) → (∀ z ∈ k.uses, (ev z).repV w F ε (ρ z)) → (∀ z, lo = some z → (ev z).repV w F ε (ρ z)) ∧ (∀ z, hi = some z → (ev z).repV w F ε (ρ z)) := fun k e h =>
        ⟨fun z hz => h z (by rw [e, hz]; simp), fun z hz => h z (by rw [e, hz]; simp)⟩
      split at hc
      · rename_i ht
        cases hc
        obtain ⟨h1, h2⟩ := hlo _ rfl hr
        exact lift (sound_slc ht (hr x (by simp [PK.uses])) h1 h2 hk)
      · split at hc
        · rename_i ht
          cases hc
          obtain ⟨h1, h2⟩ := hlo _ rfl hr
          exact lift (sound_slcA ht (hr x (by simp [PK.uses])) h1 h2 hk)
        · split at hc
          · rename_i ht
            cases hc
            obtain ⟨h1, h2⟩ := hlo _ rfl hr
            exact lift (sound_slcT ht (hr x (by simp [PK.uses])) h1 h2 hk)
          · cases hc
  case fieldAddr s x f =>
    split at hc
    · rename_i off t ht
      split at hc
      · rename_i hz
        cases hc
        exact lift (sound_fAddr ht hz (hr x (by simp [PK.uses])) hk)
      · cases hc
    · cases hc
  case field s x f =>
    split at hc
    · rename_i off t ht
      split at hc
      · rename_i hz hg
        split at hc
        · rename_i h1
          cases hc
          exact lift (sound_fld ht hz hg (fun e => by subst e; simpa using h1) (hr x (by simp [PK.uses])) hk)
        · cases hc
      · cases hc
    · cases hc
  case indexAddr t x i =>
    split at hc
    · rename_i ht
      cases hc
      exact lift (sound_iAddrS hs ht (hr x (by simp [PK.uses])) (hr i (by simp [PK.uses])) hk)
    · split at hc
      · rename_i ht
        cases hc
        exact lift (sound_iAddrA ht (hr x (by simp [PK.uses])) (hr i (by simp [PK.uses])) hk)
      · cases hc
  case index t x i =>
    split at hc
    · rename_i ht
      split at hc
      · rename_i hg
        split at hc
        · rename_i h1
          cases hc
          exact lift (sound_idxA ht hg (fun e => by subst e; simpa using h1) (hr x (by simp [PK.uses])) (hr i (by simp [PK.uses])) hk)
        · cases hc
      · cases hc
    · cases hc
  case extract x i =>
    cases hc
    simp only [PK.cond, PK.val] at hk ⊢
    have hx := hr x (by simp [PK.uses])
    split at hk
    · rename_i l he
      rw [he] at hx
      simp only [AV.repV] at hx
      obtain ⟨us, e, h1⟩ := hx
      obtain ⟨u, h2, h3⟩ := repVs_at l us i hk h1
      refine ⟨u, h3, fun y _ => ?_⟩
      simp [execOp, e, Instr.extract, h2]
    · exact hk.elim
  case call c =>
    obtain ⟨callee, args, ats⟩ := c
    cases callee with
    | value f => cases hc
    | invoke r m => cases hc
    | builtin b =>
      unfold convCall at hc
      cases b <;> dsimp only at hc <;> (try (cases hc; done))
      case len =>
        unfold convLen at hc
        split at hc
        · rename_i x t ha ht
          have ea : args = #[x] := by rw [← Array.toArray_toList (xs := args), ha]
          have et : ats = #[t] := by rw [← Array.toArray_toList (xs := ats), ht]
          subst ea; subst et
          split at hc
          · rename_i hu
            cases hc
            obtain ⟨v, h1, h2⟩ := sound_len (ty := ty) hs (.inl ⟨rfl, _, hu⟩) (hr x (by simp [PK.uses])) hk
            exact ⟨v, h1, fun y _ => by simp [execOp, resolve, invoke, builtin, h2 y]⟩
          · rename_i hu
            cases hc
            obtain ⟨v, h1, h2⟩ := sound_len (ty := ty) hs (.inr ⟨rfl, hu⟩) (hr x (by simp [PK.uses])) hk
            exact ⟨v, h1, fun y _ => by simp [execOp, resolve, invoke, builtin, h2 y]⟩
          · cases hc
        · cases hc
      case max =>
        split at hc
        · rename_i x y ha
          have ea : args = #[x, y] := by rw [← Array.toArray_toList (xs := args), ha]
          subst ea
          cases hc
          simp only [PK.cond, PK.val] at hk ⊢
          obtain ⟨⟨⟨k, a⟩, h1⟩, ⟨k', b⟩, h2⟩ := hk
          rw [h1, h2]
          refine ⟨_, bi_rep _ _, fun z _ => ?_⟩
          have e1 := int_of h1 (hr x (by simp [PK.uses]))
          have e2 := int_of h2 (hr y (by simp [PK.uses]))
          simp [execOp, resolve, invoke, builtin, e1, e2, Builtin.max_, Builtin.max2]
        · cases hc
      case min =>
        split at hc
        · rename_i x y ha
          have ea : args = #[x, y] := by rw [← Array.toArray_toList (xs := args), ha]
          subst ea
          cases hc
          simp only [PK.cond, PK.val] at hk ⊢
          obtain ⟨⟨⟨k, a⟩, h1⟩, ⟨k', b⟩, h2⟩ := hk
          rw [h1, h2]
          refine ⟨_, bi_rep _ _, fun z _ => ?_⟩
          have e1 := int_of h1 (hr x (by simp [PK.uses]))
          have e2 := int_of h2 (hr y (by simp [PK.uses]))
          simp [execOp, resolve, invoke, builtin, e1, e2, Builtin.min_, Builtin.min2]
        · cases hc
end
end Go.Proofs.Ytcghjnegaiiieaa
namespace Go.Proofs.Ytcghjnegaiiieaa
open Go Go.RowKit
def RV (w : World) (F : Nat → Prop) : List CV → Value → Prop
  | [x], v => x.repV w F v
  | l, v => ∃ us, v = .tuple us.toArray ∧ AV.repVs w F (fun _ => undef) (l.map .c) us
def Enters (P : Program) (f : FuncId) : Prop := ∀ (args : Array Value) (w : World), (callFunc f args).run P w = .ok (.enter f args) w
def AP (P : Program) (f : FuncId) (xs rs : List CV) : Prop :=
  Enters P f ∧ ∀ (w : World) (F : Nat → Prop) (vs : List Value), (∀ b, F b → b < w.heap.size) → AV.repVs w F (fun _ => undef) (xs.map .c) vs →
    Calls P f vs.toArray w fun e w' => ∃ v F', e = .returned v ∧ RV w' F' rs v ∧ Kept Nob w w' ∧ (∀ b, F b → F' b) ∧ (∀ b, F' b → F b ∨ w.heap.size ≤ b) ∧ (∀ b, F' b → b < w'.heap.size)
def rsAV : List CV → AV
  | [x] => .c x
  | l => .tup (l.map .c)
mutual
def AV.closed : AV → Option CV
  | .c x => some x
  | .st fs => match AV.closeds fs with | some l => some (.st l) | none => none
  | _ => none
def AV.closeds : List AV → Option (List CV)
  | [] => some []
  | a :: l => match a.closed, AV.closeds l with | some x, some y => some (x :: y) | _, _ => none
end
def AS.ev (s : AS) : Operand → AV
  | .tmp t => (look s.T t).2
  | .const v => if v.oneCell' then .c (.pv v) else .junk 1
  | .global _ => .junk 1
  | .func f => .fn (.func f) [] []
def AS.gd (s : AS) : Operand → Bool
  | .tmp t => (look s.T t).1
  | _ => true
def AS.put (s : AS) (d : Option Nat) (g : Bool) (x : AV) : AS := match d with
  | none => s
  | some d => ⟨(d, g, x) :: s.T, s.H⟩
def gv (s : AS) (g : Option (Nat × Bool)) : Bool := match g with
  | none => true
  | some (t, want) => (look s.T t).1 && ((look s.T t).2.boolOf == want)
def gOk (s : AS) (g : Option (Nat × Bool)) : Prop := match g with
  | none => True
  | some (t, _) => (look s.T t).1 = true → ∃ b, (look s.T t).2.bool? = some b
def dOk (N : Nat) (d : Option Nat) : Prop := match d with
  | none => True
  | some d => d < N
inductive IK where
  | p (k : PK)
  | alloc (z : CV)
  | box (x : Operand)
  | store (x v : Operand) (sz : Nat)
  | lit (sz : Nat) (xs : List Operand)
  | call (f : FuncId) (xs : List Operand)
structure It where
  d : Option Nat
  g : Option (Nat × Bool)
  k : IK
def storeOk (s : AS) (v : Operand) (sz : Nat) (K : AS → Prop) : AV → Prop
  | .ptr q p o => match s.H[q]? with
    | some (.cell a) => a.ok p ∧ a.off p = o ∧ (a.get p).size = sz ∧ (s.ev v).size = sz ∧ a.fits p (s.ev v) ∧ (s.ev v).solid = true ∧ K ⟨s.T, s.H.set q (.cell (a.set p (s.ev v)))⟩
    | _ => False
  | _ => False
def apl (P : Program) (N : Nat) : List It → AS → (AS → Prop) → Prop
  | [], s, K => K s
  | ⟨d, g, k⟩ :: l, s, K => gOk s g ∧ dOk N d ∧ match k with
    | .p k => (gv s g = true → (k.uses.all s.gd) = true ∧ k.more s.ev (fun x => s.gd x = true) ∧ k.cond P s.ev s.H) ∧ apl P N l (s.put d (gv s g) (k.val s.ev s.H)) K
    | .alloc z => g = none ∧ apl P N l (AS.put ⟨s.T, s.H ++ [.cell (.c z)]⟩ d true (.ptr s.H.length [] 0)) K
    | .box x => g = none ∧ s.gd x = true ∧ (s.ev x).solid = true ∧ apl P N l (AS.put ⟨s.T, s.H ++ [.cell (s.ev x)]⟩ d true (.ptr s.H.length [] 0)) K
    | .store x v sz => g = none ∧ d = none ∧ s.gd x = true ∧ s.gd v = true ∧ storeOk s v sz (fun s => apl P N l s K) (s.ev x)
    | .lit sz xs => (gv s g = true → (xs.all s.gd) = true ∧ ∃ cs, AV.closeds (xs.map s.ev) = some cs ∧ ∀ c ∈ cs, c.size = sz) ∧ apl P N l (s.put d (gv s g) (.c (.sl sz ((AV.closeds (xs.map s.ev)).getD [])))) K
    | .call f xs => ∃ rs, (gv s g = true → (xs.all s.gd) = true ∧ ∃ cs, AV.closeds (xs.map s.ev) = some cs ∧ AP P f cs rs) ∧ apl P N l (s.put d (gv s g) (rsAV rs)) K
def convI (P : Program) (op : Op) : Option IK := match op with
  | .alloc t => (tZero P t).map .alloc
  | .box _ x => some (.box x)
  | .store t x v => (tSz P t).map (.store x v)
  | .buildSlice t n ps => match tSlice P t with
    | some (e, sz) => match tZero P e with
      | some z => if ps.toList.map (·.1) = List.range n ∧ n * sz ≤ 16777216 ∧ n ≤ 16777216 ∧ z.size = sz then some (.lit sz (ps.toList.map (·.2))) else none
      | none => none
    | none => none
  | .call { callee := .value (.func f), args, .. } => some (.call f args.toList)
  | op => (conv P op).map .p
def convG (ops : Array Oper) (g : Option (Nat × Bool)) : Option (Option (Nat × Bool)) := match g with
  | none => some none
  | some (j, want) => ((ops[j]?).bind (·.dst)).map fun t => some (t, want)
def lkI (P : Program) (ops : Array Oper) (o : Oper) : Option It := match convI P o.op, convG ops o.guard with
  | some k, some g => some ⟨o.dst, g, k⟩
  | _, _ => none
section
variable {P : Program} {B : Bs} {s : AS} {a : Act} {w : World} {F : Nat → Prop} {ε : Nat → Value} {ops : Array Oper}
theorem SatX.at (h : SatX B s a w F ε) (x : Operand) (hg : s.gd x = true) : (s.ev x).repV w F ε (a.eval x) := by
  cases x with
  | tmp t => exact (h.tm t).1 hg
  | const v =>
    simp only [AS.ev]
    split
    · exact repV_pv' ‹_›
    · simp only [AV.repV]
  | global g => simp only [AS.ev, AV.repV]
  | func f => simp only [AS.ev, AV.repV, Act.eval]; exact ⟨[], [], rfl, by simp only [AV.repVs], by simp only [AV.repVs]⟩
theorem wanted_of (h : SatX B s a w F ε) {o : Oper} {g : Option (Nat × Bool)} (hg : convG ops o.guard = some g) (hk : gOk s g) : Region.wanted o (yielded ops a.tmps) = gv s g := by
  unfold convG at hg
  cases ho : o.guard with
  | none =>
    rw [ho] at hg
    cases hg
    simp [Region.wanted, ho, gv]
  | some jw =>
    obtain ⟨j, want⟩ := jw
    rw [ho] at hg
    dsimp only at hg
    cases ht : (ops[j]?).bind (·.dst) with
    | none => rw [ht] at hg; cases hg
    | some t =>
      rw [ht] at hg
      cases hg
      have hs := h.tm t
      have hy : yielded ops a.tmps j = match a.tmps.getD t undef with | .bool b => some b | _ => none := by
        unfold yielded
        rw [ht]
        simp only [Option.bind_some, Array.getD_eq_getD_getElem?]
        cases hv : a.tmps[t]? with
        | none => simp [undef]
        | some v => cases v <;> rfl
      simp only [Region.wanted, ho, gv]
      rw [hy]
      simp only [gOk] at hk
      cases hl : (look s.T t).1 with
      | false =>
        rw [hs.2 hl]
        simp [undef]
      | true =>
        obtain ⟨b, hb⟩ := hk hl
        have := bool_of hb (hs.1 hl)
        rw [this, boolOf_some hb]
        cases b <;> cases want <;> rfl
theorem SatX.putD (h : SatX B s a w F ε) (d : Option Nat) (e : Bool × AV) (v : Value) (hv : Shows w F ε e v) (hd : dOk B.N d) : SatX B (s.put d e.1 e.2) (a.put d v) w F ε := by
  cases d with
  | none => exact h
  | some d => exact h.put d e v hv hd
theorem SatX.skip (h : SatX B s a w F ε) (d : Option Nat) (x : AV) (hd : dOk B.N d) {g : Bool} (hg : g = false) : SatX B (s.put d g x) (a.put d undef) w F ε :=
  h.putD d (g, x) undef ⟨fun h => absurd (hg.symm.trans h) (by decide), fun _ => rfl⟩ hd
theorem SatX.val (h : SatX B s a w F ε) (d : Option Nat) (x : AV) (v : Value) (hv : x.repV w F ε v) (hd : dOk B.N d) {g : Bool} (hg : g = true) : SatX B (s.put d g x) (a.put d v) w F ε :=
  h.putD d (g, x) v ⟨fun _ => hv, fun h => absurd (hg.symm.trans h) (by decide)⟩ hd
theorem wpList_wanted {rest : List Oper} {o : Oper} {Q : Exit → Act → World → Prop} (hw : Region.wanted o (yielded ops a.tmps) = true) (v : Value) {w' : World} (hx : (execOp a.eval o).run P w = .ok (.value v) w')
    (h : wpList P ops Q rest (a.put o.dst v) w') : wpList P ops Q (o :: rest) a w := by
  refine wpList_now hw fun K hK => ?_
  unfold Oper.wp
  rw [hx]
  exact hK _ _ h
theorem wpList_skipped {rest : List Oper} {o : Oper} {Q : Exit → Act → World → Prop} (hw : Region.wanted o (yielded ops a.tmps) = false)
    (h : wpList P ops Q rest (a.put o.dst undef) w) : wpList P ops Q (o :: rest) a w := by
  unfold wpList
  rw [if_neg (by rw [hw]; simp)]
  exact h
mutual
theorem AV.closed_repV : ∀ (x : AV) (y : CV) (v : Value), x.closed = some y → x.repV w F ε v → y.repV w F v
  | .c x, y, v, h, hr => by simp only [AV.closed, Option.some.injEq] at h; subst h; simpa only [AV.repV] using hr
  | .st fs, y, v, h, hr => by
    simp only [AV.closed] at h
    split at h
    · rename_i l hl
      cases h
      simp only [AV.repV] at hr
      obtain ⟨cs, h1, rfl⟩ := hr
      exact ⟨cs, by simp only [CV.rep]; exact AV.closeds_reps fs l cs hl h1, rfl⟩
    · cases h
  | .os q, y, v, h, _ => by simp [AV.closed] at h
  | .ptr q p o, y, v, h, _ => by simp [AV.closed] at h
  | .fp x, y, v, h, _ => by simp [AV.closed] at h
  | .fn f fi ca, y, v, h, _ => by simp [AV.closed] at h
  | .tup l, y, v, h, _ => by simp [AV.closed] at h
  | .junk n, y, v, h, _ => by simp [AV.closed] at h
theorem AV.closed_rep : ∀ (x : AV) (y : CV) (cs : List Value), x.closed = some y → x.rep w F ε cs → y.rep w F cs
  | .c x, y, cs, h, hr => by simp only [AV.closed, Option.some.injEq] at h; subst h; simpa only [AV.rep] using hr
  | .st fs, y, cs, h, hr => by
    simp only [AV.closed] at h
    split at h
    · rename_i l hl
      cases h
      simp only [AV.rep] at hr
      simp only [CV.rep]
      exact AV.closeds_reps fs l cs hl hr
    · cases h
  | .os q, y, v, h, _ => by simp [AV.closed] at h
  | .ptr q p o, y, v, h, _ => by simp [AV.closed] at h
  | .fp x, y, v, h, _ => by simp [AV.closed] at h
  | .fn f fi ca, y, v, h, _ => by simp [AV.closed] at h
  | .tup l, y, v, h, _ => by simp [AV.closed] at h
  | .junk n, y, v, h, _ => by simp [AV.closed] at h
theorem AV.closeds_reps : ∀ (l : List AV) (m : List CV) (cs : List Value), AV.closeds l = some m → AV.reps w F ε l cs → CV.reps w F m cs
  | [], m, cs, h, hr => by simp only [AV.closeds, Option.some.injEq] at h; subst h; simpa only [AV.reps, CV.reps] using hr
  | a :: l, m, cs, h, hr => by
    simp only [AV.closeds] at h
    split at h
    · rename_i x y hx hy
      cases h
      simp only [AV.reps] at hr
      simp only [CV.reps]
      obtain ⟨c, d, e, h1, h2⟩ := hr
      exact ⟨c, d, e, AV.closed_rep a x c hx h1, AV.closeds_reps l y d hy h2⟩
    · cases h
end
theorem AV.closeds_repVs : ∀ (l : List AV) (m : List CV) (vs : List Value), AV.closeds l = some m → AV.repVs w F ε l vs → AV.repVs w F (fun _ => undef) (m.map .c) vs
  | [], m, vs, h, hr => by simp only [AV.closeds, Option.some.injEq] at h; subst h; simpa only [List.map_nil, AV.repVs] using hr
  | a :: l, m, vs, h, hr => by
    simp only [AV.closeds] at h
    split at h
    · rename_i x y hx hy
      cases h
      simp only [AV.repVs] at hr
      simp only [List.map_cons, AV.repVs]
      obtain ⟨v, us, e, h1, h2⟩ := hr
      exact ⟨v, us, e, by simp only [AV.repV]; exact AV.closed_repV a x v hx h1, AV.closeds_repVs l y us hy h2⟩
    · cases h
theorem repVs_c {ε' : Nat → Value} : ∀ (m : List CV) (vs : List Value), AV.repVs w F ε (m.map .c) vs → AV.repVs w F ε' (m.map .c) vs
  | [], vs, h => by simpa only [List.map_nil, AV.repVs] using h
  | a :: l, vs, h => by
    simp only [List.map_cons, AV.repVs] at h ⊢
    obtain ⟨v, us, e, h1, h2⟩ := h
    exact ⟨v, us, e, by simpa only [AV.repV] using h1, repVs_c l us h2⟩
theorem rsAV_rep {rs : List CV} {v : Value} (h : RV w F rs v) : (rsAV rs).repV w F ε v := by
  unfold RV at h
  split at h
  · simp only [rsAV, AV.repV]; exact h
  · rename_i l _ hne
    obtain ⟨us, e, h1⟩ := h
    have : rsAV rs = .tup (rs.map .c) := by
      unfold rsAV
      split
      · exact absurd rfl (hne _)
      · rfl
    rw [this]
    simp only [AV.repV]
    exact ⟨us, e, repVs_c _ _ h1⟩
end
end Go.Proofs.Ytcghjnegaiiieaa
namespace Go.Proofs.Ytcghjnegaiiieaa
open Go Go.RowKit
section
variable {P : Program} {B : Bs} {s : AS} {a : Act} {w w' : World} {F F' : Nat → Prop} {ε : Nat → Value} {ops : Array Oper}
theorem run_v' {x : Sem Value} {v : Value} {w w' : World} (h : x.run P w = .ok v w') : (do Pure.pure (Next.value (← x)) : Sem Next).run P w = .ok (.value v) w' := by rw [Sem.run_bind, h]; rfl
theorem run_newRow (t : TypeId) (cs : Array Value) (w : World) : (newRow t cs).run P w = .ok ⟨w.heap.size, 0, none⟩ (w.alloc (.cells cs t)) := rfl
theorem SatX.fresh (h : SatX B s a w F ε) : ¬ F w.heap.size ∧ (∀ q, ¬ OB ε s.H q w.heap.size) ∧ B.w0.heap.size ≤ w.heap.size :=
  ⟨fun hf => by have := h.sim.old _ hf; omega, fun q hq => by have := (h.sim.free q _ hq).2; omega, h.kept.size⟩
theorem SatX.box (h : SatX B s a w F ε) (x : AV) (t : TypeId) (cs : List Value) (hx : x.rep w F ε cs) :
    SatX B ⟨s.T, s.H ++ [.cell x]⟩ a (w.alloc (.cells cs.toArray t)) F (upd ε s.H.length (.pointer (some ⟨w.heap.size, 0, none⟩))) := by
  have hk : Kept Nob w (w.alloc (.cells cs.toArray t)) := Kept.alloc (Kept.refl _ _) _
  obtain ⟨h1, h2, h3⟩ := h.fresh
  have hm := h.more hk (fun _ h => h) (fun _ h => .inl h) (fun b hb => by have := h.sim.old b hb; simp; omega)
  have he : ∀ q, ([] : List Nat).contains q = false → ε q ≠ undef → upd ε s.H.length (.pointer (some ⟨w.heap.size, 0, none⟩)) q = ε q := fun q _ hq => upd_ne (fun e => hq (h.sim.out q (by omega)))
  refine hm.add (.cell x) _ ⟨w.heap.size, t, cs, upd_same _ _ _, heap_alloc_new _ _, AV.rep_keep hk (fun _ _ h => h) (fun _ h => h) he x cs (AV.free_nil x) hx⟩ (fun b hb => ?_)
  have e : w.heap.size = b := by simpa [blkOf] using hb
  subst e
  exact ⟨h1, by simp, h2, .inr h3⟩
theorem new_ptr (ε : Nat → Value) (n b : Nat) : (AV.ptr n [] 0).repV w F (upd ε n (.pointer (some ⟨b, 0, none⟩))) (.pointer (some ⟨b, 0, none⟩)) := by
  simp only [AV.repV, upd_same]
  exact ⟨b, rfl, rfl⟩
theorem run_storeCells_mid (g : Nat) (t : TypeId) : ∀ (es : List Value) (c d e : List Value) (w : World) (i off : Nat), w.heap[g]? = some (.cells (c ++ d ++ e).toArray t (0, 0)) → es.length = d.length → off + i = c.length → (∀ u ∈ es, u.oneCell' = true) →
    ∃ w', (storeCells ⟨g, off, none⟩ es i).run P w = .ok () w' ∧ w'.heap[g]? = some (.cells (c ++ es ++ e).toArray t (0, 0)) ∧ Kept (fun b => b = g) w w'
  | [], c, d, e, w, i, off, hg, hl, _, _ => by
    have : d = [] := List.eq_nil_of_length_eq_zero hl.symm
    subst this
    exact ⟨w, rfl, hg, Kept.refl _ _⟩
  | u :: es, c, d, e, w, i, off, hg, hl, ho, h1 => by
    cases d with
    | nil => simp at hl
    | cons v d =>
      have hadd : (⟨g, off, none⟩ : Addr).add i = ⟨g, c.length, none⟩ := by rw [plain_add', ho]
      have hc : w.cell? ⟨g, c.length, none⟩ = some v := by rw [blk_cell hg]; simp
      have hst : (store ⟨g, c.length, none⟩ u).run P w = .ok () (w.setCell ⟨g, c.length, none⟩ u) := by
        rw [run_store P w _ u _ (h1 u (by simp))]
        simp [stored, hc, blk_frozen hg c.length]
      have hb := blk_set hg c.length u
      have hset : (c ++ v :: d ++ e).toArray.setIfInBounds c.length u = ((c ++ [u]) ++ d ++ e).toArray := by
        rw [List.setIfInBounds_toArray]
        congr 1
        rw [List.append_assoc, List.set_append_right _ _ (Nat.le_refl _)]
        simp
      rw [hset] at hb
      obtain ⟨w', hr, hb', hk⟩ := run_storeCells_mid g t es (c ++ [u]) d e (w.setCell ⟨g, c.length, none⟩ u) (i + 1) off hb (by simpa using hl) (by simp; omega) (fun v hv => h1 v (by simp [hv]))
      refine ⟨w', ?_, by simpa using hb', Kept.trans (Kept.setCell (Kept.refl (fun b => b = g) w) (p := ⟨g, c.length, none⟩) (fun _ => rfl) u) hk⟩
      rw [storeCells, hadd, Sem.run_bind, hst]
      exact hr
theorem sound_store {t : TypeId} {x v : Operand} {sz : Nat} {K : AS → Prop} (h : SatX B s a w F ε) (hz : tSz P t = some sz) (hx : (s.ev x).repV w F ε (a.eval x)) (hv : (s.ev v).repV w F ε (a.eval v)) (hk : storeOk s v sz K (s.ev x)) :
    ∃ w' s', (Instr.storeAt t (a.eval x) (a.eval v)).run P w = .ok () w' ∧ K s' ∧ SatX B s' a w' F ε ∧ ∃ q b, (∀ q' p o, s.ev x = .ptr q' p o → q' = q) ∧ OB ε s.H q b ∧ ((∀ q', q' ≠ q → s'.H[q']? = s.H[q']?) ∧ ∃ p o, s.ev x = .ptr q p o) ∧ Kept (fun c => c = b) w w' := by
  unfold storeOk at hk
  split at hk
  · rename_i q p o he
    rw [he] at hx
    simp only [AV.repV] at hx
    obtain ⟨b, hb, hxv⟩ := hx
    split at hk
    · rename_i A hq
      obtain ⟨hok, hoff, hsz, hsv, hfit, hsol, hK⟩ := hk
      obtain ⟨b', ty, cs, hb', hh, hr⟩ := h.sim.obj q _ hq
      have e : b' = b := by rw [hb'] at hb; simpa [blkOf] using hb
      subst e
      obtain ⟨c, d, e', rfl, hl, hd, hset⟩ := AV.rep_part p A cs hr hok
      have hvr := solid_rep hv hsol
      have lv := AV.rep_len _ _ hvr
      have ld := AV.rep_len _ _ hd
      obtain ⟨w', h1, h2, h3⟩ := run_storeCells_mid (P := P) b' ty (a.eval v).cells.toList c d e' w 0 o hh (by rw [lv, hsv, ld, hsz]) (by rw [hl, hoff, Nat.add_zero]) (AV.rep_one _ _ hvr)
      refine ⟨w', _, ?_, hK, ?_, q, b', fun q' p' o' e => (by rw [he] at e; cases e; rfl), ⟨_, hq, by simp, hb⟩, ⟨fun q' hne => List.getElem?_set_ne (fun e => hne e.symm), p, o, he⟩, h3⟩
      · rw [hxv]
        simp only [Instr.storeAt, Instr.sureAddr, Sem.run_bind, Sem.run_pure, Result.andThen_ok, storeVar]
        rw [tSz_run hz]
        simp only [Result.andThen_ok]
        rw [if_neg (by have : (a.eval v).cells.size = sz := by rw [← hsv, ← lv]; simp
                       omega)]
        exact h1
      · have hFS : ∀ b, F b → ¬ b = b' := fun b hf e => by subst e; exact (h.sim.free q b ⟨_, hq, by simp, hb⟩).1 hf
        have hrk : ∀ {y : AV} {cs : List Value}, y.rep w F ε cs → y.rep w' F ε cs := fun {y cs} hy => AV.rep_keep (Z := []) h3 hFS (fun _ h => h) (fun _ _ _ => rfl) y cs (AV.free_nil y) hy
        exact h.wrote hq (by simp) h3 (fun b e => by rw [e]; exact hb) ⟨b', ty, _, hb', h2, hrk (hset _ _ hfit hvr)⟩
    · exact hk.elim
  · exact hk.elim
theorem fill_lit (sz : Nat) : ∀ (vs : List Value) (k : Nat) (pre rest : List Value), pre.length = k * sz → rest.length = vs.length * sz → (∀ v ∈ vs, v.cells.size = sz) →
    Instr.fill (fun i => some (i * sz, sz)) (pre ++ rest).toArray ((List.range' k vs.length).zip vs) = some (pre ++ (vs.map fun v => v.cells.toList).flatten).toArray
  | [], k, pre, rest, _, hr, _ => by
    have : rest = [] := List.eq_nil_of_length_eq_zero (by simpa using hr)
    subst this
    simp [Instr.fill]
  | v :: vs, k, pre, rest, hp, hr, hv => by
    have h1 := hv v (by simp)
    have hr' : rest.length = sz + vs.length * sz := by rw [hr, List.length_cons, Nat.add_mul]; omega
    obtain ⟨d, e, rfl, hd, he⟩ : ∃ d e, rest = d ++ e ∧ d.length = sz ∧ e.length = vs.length * sz := ⟨rest.take sz, rest.drop sz, (List.take_append_drop _ _).symm, by simp; omega, by simp; omega⟩
    rw [List.length_cons, List.range'_succ, List.zip_cons_cons]
    simp only [Instr.fill]
    rw [if_neg (by simp only [h1, ne_eq, not_true_eq_false, decide_false, Bool.false_or, decide_eq_true_eq, List.size_toArray, List.length_append]; omega)]
    have hf := foldl_set_off pre d e v.cells.toList (by simp [h1, hd])
    have e1 : (v.cells.zipIdx.foldl (fun cs x => match x with | (c, j) => cs.setIfInBounds (k * sz + j) c) (pre ++ (d ++ e)).toArray) = ((pre ++ v.cells.toList) ++ e).toArray := by
      rw [← hp, ← List.append_assoc]
      simpa using hf
    rw [e1, fill_lit sz vs (k + 1) (pre ++ v.cells.toList) e (by simp [hp, h1, Nat.add_mul]) he (fun u hu => hv u (by simp [hu]))]
    simp
theorem repVs_cells {xs : List AV} {cs : List CV} {vs : List Value} {sz : Nat} (hc : AV.closeds xs = some cs) (hr : AV.repVs w F ε xs vs) (hsz : ∀ c ∈ cs, c.size = sz) :
    vs.length = cs.length ∧ (∀ v ∈ vs, v.cells.size = sz) ∧ ∀ i (h : i < cs.length) (h' : i < vs.length), cs[i].rep w F vs[i].cells.toList := by
  have h1 := AV.closeds_repVs xs cs vs hc hr
  clear hc hr
  have key : ∀ (cs : List CV) (vs : List Value), (∀ c ∈ cs, c.size = sz) → AV.repVs w F (fun _ => undef) (cs.map .c) vs → vs.length = cs.length ∧ (∀ v ∈ vs, v.cells.size = sz) ∧ ∀ i (h : i < cs.length) (h' : i < vs.length), cs[i].rep w F vs[i].cells.toList := by
    intro cs
    induction cs with
    | nil =>
      intro vs _ h
      simp only [List.map_nil, AV.repVs] at h
      subst h
      exact ⟨rfl, fun v hv => (by cases hv), fun i h => absurd h (by simp)⟩
    | cons c cs ih =>
      intro vs hs h
      simp only [List.map_cons, AV.repVs] at h
      obtain ⟨v, us, rfl, h2, h3⟩ := h
      obtain ⟨i1, i2, i3⟩ := ih us (fun c hc => hs c (by simp [hc])) h3
      have hv := solid_rep h2 rfl
      simp only [AV.rep] at hv
      refine ⟨by simp [i1], fun u hu => ?_, fun i hi hi' => ?_⟩
      · rcases List.mem_cons.1 hu with rfl | hu
        · have := CV.rep_len _ _ hv; rw [hs c (by simp)] at this; simpa using this
        · exact i2 u hu
      · cases i with
        | zero => exact hv
        | succ i => exact i3 i _ _
  exact key cs vs hsz h1
theorem sound_lit {t e : TypeId} {sz n : Nat} {z : CV} {ps : Array (Nat × Operand)} {ρ : Operand → Value} {cs : List CV} (h : SatX B s a w F ε) (ht : tSlice P t = some (e, sz)) (hz : tZero P e = some z) (hn : ps.toList.map (·.1) = List.range n) (hlim : n * sz ≤ 16777216) (hnl : n ≤ 16777216) (hzs : z.size = sz)
    {xs : List AV} (hcl : AV.closeds xs = some cs) (hsz : ∀ c ∈ cs, c.size = sz) (hr : AV.repVs w F ε xs (ps.toList.map fun p => ρ p.2)) :
    ∃ v w' F', (Instr.buildSlice t n (ps.map fun p => (p.1, ρ p.2))).run P w = .ok v w' ∧ Kept Nob w w' ∧ (∀ b, F b → F' b) ∧ (∀ b, F' b → F b ∨ w.heap.size ≤ b) ∧ (∀ b, F' b → b < w'.heap.size) ∧ (CV.sl sz cs).repV w' F' v := by
  obtain ⟨hu, hzz⟩ := tSlice_run ht
  obtain ⟨v0, hv0, hz0⟩ := tZero_run hz
  obtain ⟨l1, l2, l3⟩ := repVs_cells hcl hr hsz
  have hpn : ps.toList.length = n := by have := congrArg List.length hn; simpa using this
  have hvl : (ps.toList.map fun p => ρ p.2).length = n := by rw [List.length_map, hpn]
  have hcn : cs.length = n := by omega
  have v0n : v0.cells.size = sz := by have := CV.rep_len _ _ (hz0 w F); rw [hzs] at this; simpa using this
  have hzip : (ps.map fun p => (p.1, ρ p.2)).toList = (List.range' 0 (ps.toList.map fun p => ρ p.2).length).zip (ps.toList.map fun p => ρ p.2) := by
    rw [hvl, ← List.range_eq_range', ← hn, Array.toList_map]
    generalize ps.toList = l
    induction l with
    | nil => rfl
    | cons p l ih => simp [ih]
  have hfill := fill_lit sz (ps.toList.map fun p => ρ p.2) 0 [] (((Array.range (n * sz)).map (fun i => (if n * sz = 0 then (#[] : Array Value) else v0.cells)[i % (if n * sz = 0 then (#[] : Array Value) else v0.cells).size]!)).toList) (by simp) (by simp [hvl]) l2
  rw [← hzip] at hfill
  refine ⟨.slice (some ⟨w.heap.size, 0, none⟩) n n, w.alloc (.cells ((ps.toList.map fun p => ρ p.2).map fun v => v.cells.toList).flatten.toArray e), fun b => F b ∨ b = w.heap.size, ?_, Kept.alloc (Kept.refl _ _) _, fun b hb => .inl hb, fun b hb => hb.elim .inl (fun e => .inr (by omega)), fun b hb => by simp; rcases hb with hb | hb; (have := h.sim.old b hb; omega); omega, ?_⟩
  · unfold Instr.buildSlice
    rw [Sem.run_bind, run_underlying hu]
    simp only [Result.andThen_ok]
    rw [Sem.run_bind, tSz_run hzz]
    simp only [Result.andThen_ok]
    rw [if_neg (by omega)]
    simp only [List.nil_append, Array.toArray_toList] at hfill
    by_cases h0 : n * sz = 0
    · simp only [h0, if_true, Sem.run_bind, Sem.run_pure, Result.andThen_ok] at hfill ⊢
      rw [hfill]
      simp only [Sem.run_bind, run_newRow, Result.andThen_ok, Sem.run_pure]
    · simp only [h0, if_false, Sem.run_bind, Sem.run_pure, Result.andThen_ok, hv0] at hfill ⊢
      rw [hfill]
      simp only [Sem.run_bind, run_newRow, Result.andThen_ok, Sem.run_pure]
  · have hk : Kept Nob w (w.alloc (.cells ((ps.toList.map fun p => ρ p.2).map fun v => v.cells.toList).flatten.toArray e)) := Kept.alloc (Kept.refl _ _) _
    have := sl_rep' (w := w.alloc (.cells ((ps.toList.map fun p => ρ p.2).map fun v => v.cells.toList).flatten.toArray e)) (F := fun b => F b ∨ b = w.heap.size) (ε := fun _ => undef) (sz := sz) (es := cs) (A := some ⟨w.heap.size, 0, none⟩) (c := n) (by omega) (by unfold maxLen; omega) (fun e => by cases e) (CV.repE_of _ 0 fun i hi => ?_)
    · rw [hcn] at this
      simpa only [AV.repV] using this
    · have hi' : i < (ps.toList.map fun p => ρ p.2).length := by omega
      refine ⟨_, rfl, hsz _ (List.getElem_mem hi), ?_, _, fun j u hj => ?_, CV.rep_keep hk (fun _ _ h => h) (fun _ h => .inl h) _ _ (l3 i hi hi')⟩
      · rw [add_block]; exact .inr rfl
      · rw [plain_add', plain_add', blk_cell (heap_alloc_new _ _)]
        have := flatten_at sz ((ps.toList.map fun p => ρ p.2).map fun v => v.cells.toList) i (by rw [List.length_map]; exact hi') j u (fun c hc => by
          obtain ⟨v, hv, rfl⟩ := List.mem_map.1 hc
          simpa using l2 v hv) (by simpa using hj)
        simpa using this
end
end Go.Proofs.Ytcghjnegaiiieaa
namespace Go.Proofs.Ytcghjnegaiiieaa
open Go Go.RowKit
section
variable {P : Program} {B : Bs} {s : AS} {a : Act} {w w' : World} {F F' : Nat → Prop} {ε : Nat → Value} {ops : Array Oper} {K : AS → Prop} {Q : Exit → Act → World → Prop}
theorem repVs_ev (h : SatX B s a w F ε) (xs : List Operand) (hg : (xs.all s.gd) = true) : AV.repVs w F ε (xs.map s.ev) (xs.map a.eval) :=
  repVs_map xs fun x hx => h.at x (List.all_eq_true.1 hg x hx)
theorem lkI_inv {o : Oper} {it : It} (h : lkI P ops o = some it) : convI P o.op = some it.k ∧ convG ops o.guard = some it.g ∧ o.dst = it.d := by
  unfold lkI at h
  split at h
  · rename_i h1 h2; cases h; exact ⟨h1, h2, rfl⟩
  · cases h
def ConvIs (P : Program) (op : Op) : IK → Prop
  | .p k => conv P op = some k
  | .alloc z => ∃ t, op = .alloc t ∧ tZero P t = some z
  | .box x => ∃ t, op = .box t x
  | .store x v sz => ∃ t, op = .store t x v ∧ tSz P t = some sz
  | .lit sz xs => ∃ t n ps e z, op = .buildSlice t n ps ∧ tSlice P t = some (e, sz) ∧ tZero P e = some z ∧ ps.toList.map (·.1) = List.range n ∧ n * sz ≤ 16777216 ∧ n ≤ 16777216 ∧ z.size = sz ∧ xs = ps.toList.map (·.2)
  | .call f xs => ∃ args ats, op = .call { callee := .value (.func f), args, argTypes := ats } ∧ xs = args.toList
theorem convI_is {op : Op} {k : IK} (h : convI P op = some k) : ConvIs P op k := by
  unfold convI at h
  split at h
  · rename_i t
    cases hz : tZero P t with
    | none => rw [hz] at h; cases h
    | some z => rw [hz] at h; cases h; exact ⟨t, rfl, hz⟩
  · cases h; exact ⟨_, rfl⟩
  · rename_i t x v
    cases hz : tSz P t with
    | none => rw [hz] at h; cases h
    | some z => rw [hz] at h; cases h; exact ⟨t, rfl, hz⟩
  · split at h
    · rename_i ht
      split at h
      · rename_i hz
        split at h
        · rename_i hc
          cases h
          exact ⟨_, _, _, _, _, rfl, ht, hz, hc.1, hc.2.1, hc.2.2.1, hc.2.2.2, rfl⟩
        · cases h
      · cases h
    · cases h
  · cases h; exact ⟨_, _, rfl, rfl⟩
  · cases hc : conv P op with
    | none => rw [hc] at h; cases h
    | some k' => rw [hc] at h; cases h; exact hc
def IK.target (s : AS) : IK → Option Nat
  | .store x _ _ => match s.ev x with | .ptr q _ _ => some q | _ => none
  | _ => none
structure Frm (st : Option Nat) (w : World) (F : Nat → Prop) (ε : Nat → Value) (H : List AObj) (w' : World) (F' : Nat → Prop) (ε' : Nat → Value) (H' : List AObj) : Prop where
  fr : ∀ b, F b → F' b ∧ w'.heap[b]? = w.heap[b]?
  ob : ∀ q b, st ≠ some q → OB ε H q b → OB ε' H' q b ∧ w'.heap[b]? = w.heap[b]?
theorem Frm.more {st : Option Nat} {H : List AObj} (hs : Sim w F ε H) (hk : Kept Nob w w') (hF : ∀ b, F b → F' b) : Frm st w F ε H w' F' ε H :=
  ⟨fun b hb => ⟨hF b hb, hk.block b (hs.old b hb) (fun h => h)⟩, fun q b _ hq => ⟨hq, hk.block b (hs.free q b hq).2 (fun h => h)⟩⟩
theorem Frm.add {st : Option Nat} {H : List AObj} {o : AObj} {v : Value} (hs : Sim w F ε H) (hk : Kept Nob w w') : Frm st w F ε H w' F (upd ε H.length v) (H ++ [o]) :=
  ⟨fun b hb => ⟨hb, hk.block b (hs.old b hb) (fun h => h)⟩, fun q b _ hq => ⟨by
    have hl := hq.lt
    obtain ⟨o', h1, h2, h3⟩ := hq
    exact ⟨o', by rw [List.getElem?_append_left hl]; exact h1, h2, by rw [upd_ne (by omega)]; exact h3⟩, hk.block b (hs.free q b hq).2 (fun h => h)⟩⟩
theorem AS.put_H (s : AS) (d : Option Nat) (g : Bool) (x : AV) : (s.put d g x).H = s.H := by cases d <;> rfl
theorem sound_store' {t : TypeId} {x v : Operand} {sz : Nat} {K : AS → Prop} (h : SatX B s a w F ε) (hz : tSz P t = some sz) (hx : (s.ev x).repV w F ε (a.eval x)) (hv : (s.ev v).repV w F ε (a.eval v)) (hk : storeOk s v sz K (s.ev x)) :
    ∃ w' s', (Instr.storeAt t (a.eval x) (a.eval v)).run P w = .ok () w' ∧ K s' ∧ SatX B s' a w' F ε ∧ Frm (IK.target s (.store x v sz)) w F ε s.H w' F ε s'.H := by
  obtain ⟨w', s', h1, h2, h3, q, b, he, hq, hs', hk'⟩ := sound_store h hz hx hv hk
  refine ⟨w', s', h1, h2, h3, fun b' hb' => ⟨hb', ?_⟩, fun q' b' hne hq' => ?_⟩
  · refine hk'.block b' (h.sim.old b' hb') (fun e => ?_)
    subst e
    exact (h.sim.free q b' hq).1 hb'
  · have hqq : q' ≠ q := by
      rintro rfl
      simp only [IK.target] at hne
      split at hne
      · rename_i he'; exact hne (congrArg some (he _ _ _ he'))
      · rename_i he'; obtain ⟨p, o, e⟩ := hs'.2; exact he' _ _ _ e
    refine ⟨?_, hk'.block b' (h.sim.free q' b' hq').2 (fun e => ?_)⟩
    · obtain ⟨o, g1, g2, g3⟩ := hq'
      refine ⟨o, ?_, g2, g3⟩
      rw [hs'.1 q' hqq]; exact g1
    · subst e
      exact hqq (h.sim.apart q' q b' hq' hq)
theorem item_sound {it : It} {o : Oper} {l : List It} {os : List Oper} (hx : SatX B s a w F ε) (h1 : lkI P ops o = some it) (hk : apl P B.N (it :: l) s K)
    (hn : ∀ s' a' w' F' ε', apl P B.N l s' K → SatX B s' a' w' F' ε' → Frm (it.k.target s) w F ε s.H w' F' ε' s'.H → wpList P ops Q os a' w') : wpList P ops Q (o :: os) a w := by
  obtain ⟨hop, hgd, hd⟩ := lkI_inv h1
  obtain ⟨d, g, k⟩ := it
  dsimp only at hop hgd hd hn
  have hop := convI_is hop
  subst hd
  unfold apl at hk
  obtain ⟨hgk, hdk, hk⟩ := hk
  have hw := wanted_of hx hgd hgk
  cases k with
  | p k =>
    dsimp only at hk
    obtain ⟨h2, h3⟩ := hk
    cases hg : gv s g with
    | false =>
      rw [hg] at hw h3
      exact wpList_skipped hw (hn _ _ _ F ε h3 (hx.skip _ _ hdk rfl) (by rw [AS.put_H]; exact Frm.more hx.sim (Kept.refl _ _) (fun _ h => h)))
    | true =>
      rw [hg] at hw h3
      obtain ⟨hu, hm, hc⟩ := h2 hg
      obtain ⟨v, hv, hrun⟩ := pk_sound (o := o) (ρ := a.eval) (ev := s.ev) hx.sim hop (fun x hx' => hx.at x (List.all_eq_true.1 hu x hx')) (by
        cases k <;> simp only [PK.more] at hm ⊢
        exact ⟨fun h => hx.at _ (hm.1 h), fun h => hx.at _ (hm.2 h)⟩) hc
      exact wpList_wanted hw v (hrun w Same.refl) (hn _ _ _ F ε h3 (hx.val _ _ _ hv hdk rfl) (by rw [AS.put_H]; exact Frm.more hx.sim (Kept.refl _ _) (fun _ h => h)))
  | alloc z =>
    dsimp only at hk
    obtain ⟨rfl, h3⟩ := hk
    obtain ⟨t, ho, hz⟩ := hop
    obtain ⟨v0, hv0, hz0⟩ := tZero_run hz
    have hb := hx.box (.c z) t v0.cells.toList (by simp only [AV.rep]; exact hz0 w F)
    refine wpList_wanted hw (.pointer (some ⟨w.heap.size, 0, none⟩)) ?_ (hn _ _ _ F _ h3 (hb.val _ _ _ (new_ptr _ _ _) hdk rfl) (by rw [AS.put_H]; exact Frm.add hx.sim (Kept.alloc (Kept.refl _ _) _)))
    unfold execOp
    rw [ho]
    simp [Instr.alloc, hv0, newVar, run_newRow]
  | box x =>
    dsimp only at hk
    obtain ⟨rfl, hgx, hsol, h3⟩ := hk
    obtain ⟨t, ho⟩ := hop
    have hb := hx.box (s.ev x) t (a.eval x).cells.toList (solid_rep (hx.at x hgx) hsol)
    refine wpList_wanted hw (.pointer (some ⟨w.heap.size, 0, none⟩)) ?_ (hn _ _ _ F _ h3 (hb.val _ _ _ (new_ptr _ _ _) hdk rfl) (by rw [AS.put_H]; exact Frm.add hx.sim (Kept.alloc (Kept.refl _ _) _)))
    unfold execOp
    rw [ho]
    simp [Instr.box, newVar, run_newRow]
  | store x v sz =>
    dsimp only at hk
    obtain ⟨rfl, hdn, hgx, hgv, h3⟩ := hk
    obtain ⟨t, ho, hz⟩ := hop
    obtain ⟨w', s', hrun, hK, hx', hfr⟩ := sound_store' hx hz (hx.at x hgx) (hx.at v hgv) h3
    refine wpList_now (hw.trans rfl) fun K' hK' => ?_
    unfold Oper.wp execOp
    rw [ho]
    simp only [Sem.run_bind, hrun, Result.andThen_ok, Sem.run_pure]
    refine hK' _ _ ?_
    rw [hdn]
    exact hn _ _ _ F ε hK hx' hfr
  | lit sz xs =>
    dsimp only at hk
    obtain ⟨h2, h3⟩ := hk
    cases hg : gv s g with
    | false =>
      rw [hg] at hw h3
      exact wpList_skipped hw (hn _ _ _ F ε h3 (hx.skip _ _ hdk rfl) (by rw [AS.put_H]; exact Frm.more hx.sim (Kept.refl _ _) (fun _ h => h)))
    | true =>
      rw [hg] at hw h3
      obtain ⟨hu, cs, hcs, hcsz⟩ := h2 hg
      rw [hcs] at h3
      obtain ⟨t, n, ps, e, z, ho, ht, hz, hnn, hlim, hnl, hzs, rfl⟩ := hop
      have hev := repVs_ev hx _ hu
      rw [List.map_map (g := a.eval)] at hev
      obtain ⟨v, w', F', hrun, hkk, hF, hF2, hF3, hv⟩ := sound_lit (ρ := a.eval) hx ht hz hnn hlim hnl hzs hcs hcsz (by simpa [Function.comp_def] using hev)
      refine wpList_wanted hw v ?_ (hn _ _ _ F' ε h3 ((hx.more hkk hF hF2 hF3).val _ _ _ (by simp only [AV.repV, Option.getD_some]; exact hv) hdk rfl) (by rw [AS.put_H]; exact Frm.more hx.sim hkk hF))
      unfold execOp
      rw [ho]
      exact run_v' hrun
  | call f xs =>
    dsimp only at hk
    obtain ⟨rs, h2, h3⟩ := hk
    cases hg : gv s g with
    | false =>
      rw [hg] at hw h3
      exact wpList_skipped hw (hn _ _ _ F ε h3 (hx.skip _ _ hdk rfl) (by rw [AS.put_H]; exact Frm.more hx.sim (Kept.refl _ _) (fun _ h => h)))
    | true =>
      rw [hg] at hw h3
      obtain ⟨hu, cs, hcs, hent, hAP⟩ := h2 hg
      obtain ⟨args, ats, ho, rfl⟩ := hop
      have hexec : (execOp a.eval o).run P w = .ok (.enter f (args.map a.eval)) w := by
        unfold execOp
        rw [ho]
        simp [resolve, Act.eval, Deferred.ofValue, invoke]
        exact hent _ _
      refine wpList_now hw fun K' hK' => ?_
      unfold Oper.wp
      rw [hexec, Oper.upon_enter]
      have hc := hAP w F (args.toList.map a.eval) hx.sim.old (AV.closeds_repVs _ _ _ hcs (repVs_ev hx _ hu))
      have e1 : (args.toList.map a.eval).toArray = args.map a.eval := by rw [← Array.toList_map]
      rw [e1] at hc
      refine hc.mono fun e w' he => ?_
      obtain ⟨v, F', rfl, hv, hkk, hF, hF2, hF3⟩ := he
      exact hK' _ _ (hn _ _ _ F' ε h3 ((hx.more hkk hF hF2 hF3).val _ _ _ (rsAV_rep hv) hdk rfl) (by rw [AS.put_H]; exact Frm.more hx.sim hkk hF))
theorem apl_sound (hQ : ∀ s a w, K s → Sat B s a w → Q .normal a w) : ∀ (l : List It) (os : List Oper), os.map (lkI P ops) = l.map some → ∀ (s : AS) (a : Act) (w : World), apl P B.N l s K → Sat B s a w → wpList P ops Q os a w := by
  intro l
  induction l with
  | nil =>
    intro os hl s a w hk hs
    have : os = [] := by simpa using hl
    subst this
    unfold wpList
    exact hQ s a w (by simpa only [apl] using hk) hs
  | cons it l ih =>
    intro os hl s a w hk hs
    cases os with
    | nil => simp at hl
    | cons o os =>
      simp only [List.map_cons, List.cons.injEq] at hl
      obtain ⟨F, ε, hx⟩ := hs
      exact item_sound hx hl.1 hk fun s' a' w' F' ε' h1 h2 _ => ih os hl.2 s' a' w' h1 ⟨F', ε', h2⟩
end
end Go.Proofs.Ytcghjnegaiiieaa
namespace Go.Proofs.Ytcghjnegaiiieaa
open Go Go.RowKit
mutual
def CV.le : CV → CV → Prop
  | .pv v, .sl _ es => v = .slice none 0 0 ∧ es = []
  | .st fs, .st ys => CV.les fs ys
  | .sl sz es, .sl sz' ys => sz = sz' ∧ (es = ys ∨ CV.les es ys)
  | x, y => x = y
def CV.les : List CV → List CV → Prop
  | [], [] => True
  | x :: xs, y :: ys => CV.le x y ∧ CV.les xs ys
  | _, _ => False
end
mutual
def AV.fin (H : List AObj) : AV → CV → Prop
  | .c x, y => x.le y
  | .st fs, .st ys => AV.fins H fs ys
  | .os q, .sl sz es => ∃ e, H[q]? = some (.row e sz es)
  | _, _ => False
def AV.fins (H : List AObj) : List AV → List CV → Prop
  | [], [] => True
  | x :: xs, y :: ys => AV.fin H x y ∧ AV.fins H xs ys
  | _, _ => False
end
structure RZ where
  t : Nat
  cell : Option (Nat × Bool)
def convR (P : Program) : ResultVar → Option RZ
  | .tmp t => some ⟨t, none⟩
  | .cell t ty => match tSz P ty, tAgg P ty with
    | some n, some g => if g || n == 1 then some ⟨t, some (n, g)⟩ else none
    | _, _ => none
def ResOk (s : AS) (r : RZ) (y : CV) : Prop := s.gd (.tmp r.t) = true ∧ match r.cell with
  | none => (s.ev (.tmp r.t)).fin s.H y
  | some (n, g) => match s.ev (.tmp r.t) with
    | .ptr q p o => match s.H[q]? with
      | some (.cell a) => a.ok p ∧ a.off p = o ∧ (a.get p).size = n ∧ (a.get p).agg = g ∧ (a.get p).fin s.H y
      | _ => False
    | _ => False
def RetOk (s : AS) : List RZ → List CV → Prop
  | [], [] => True
  | r :: rs, y :: ys => ResOk s r y ∧ RetOk s rs ys
  | _, _ => False
section
variable {w : World} {F : Nat → Prop} {ε : Nat → Value} {H : List AObj}
mutual
theorem CV.le_rep : ∀ (x y : CV) (cs : List Value), x.le y → x.rep w F cs → y.rep w F cs
  | .pv v, .sl sz es, cs, h, hr => by
    simp only [CV.le] at h
    obtain ⟨rfl, rfl⟩ := h
    simp only [CV.rep] at hr ⊢
    exact ⟨none, 0, hr.1, Nat.le_refl _, by decide, (fun _ => by simp), by simp only [CV.repE]⟩
  | .st fs, .st ys, cs, h, hr => by simp only [CV.le] at h; simp only [CV.rep] at hr ⊢; exact CV.les_reps fs ys cs h hr
  | .sl sz es, .sl sz' ys, cs, h, hr => by
    simp only [CV.le] at h
    obtain ⟨rfl, h⟩ := h
    by_cases he : es = ys
    · subst he; exact hr
    · have h := h.resolve_left he
      simp only [CV.rep] at hr ⊢
      obtain ⟨A, c, e, h1, h2, h3, h4⟩ := hr
      have hl := CV.les_len es ys h
      exact ⟨A, c, by rw [← hl]; exact e, by omega, h2, fun hA => ⟨List.eq_nil_of_length_eq_zero (by rw [← hl, (h3 hA).1]; rfl), (h3 hA).2⟩, CV.les_repE A sz es ys 0 h h4⟩
  | .pv v, .pv u, cs, h, hr => by simp only [CV.le] at h; rw [← h]; exact hr
  | .pv v, .st _, cs, h, hr => by simp [CV.le] at h
  | .pv v, .ar _ _ _, cs, h, hr => by simp [CV.le] at h
  | .ar k n xs, y, cs, h, hr => by
    have : CV.ar k n xs = y := by cases y <;> first | (simp [CV.le] at h; done) | simpa [CV.le] using h
    rw [← this]; exact hr
  | .st _, .pv _, cs, h, hr => by simp [CV.le] at h
  | .st _, .ar _ _ _, cs, h, hr => by simp [CV.le] at h
  | .st _, .sl _ _, cs, h, hr => by simp [CV.le] at h
  | .sl _ _, .pv _, cs, h, hr => by simp [CV.le] at h
  | .sl _ _, .ar _ _ _, cs, h, hr => by simp [CV.le] at h
  | .sl _ _, .st _, cs, h, hr => by simp [CV.le] at h
theorem CV.les_reps : ∀ (l m : List CV) (cs : List Value), CV.les l m → CV.reps w F l cs → CV.reps w F m cs
  | [], [], cs, _, hr => hr
  | x :: xs, y :: ys, cs, h, hr => by
    simp only [CV.les] at h
    simp only [CV.reps] at hr ⊢
    obtain ⟨c, d, e, h1, h2⟩ := hr
    exact ⟨c, d, e, CV.le_rep x y c h.1 h1, CV.les_reps xs ys d h.2 h2⟩
  | [], _ :: _, cs, h, _ => by simp [CV.les] at h
  | _ :: _, [], cs, h, _ => by simp [CV.les] at h
theorem CV.les_repE (A : Option Addr) (sz : Nat) : ∀ (l m : List CV) (i : Nat), CV.les l m → CV.repE w F A sz l i → CV.repE w F A sz m i
  | [], [], i, _, hr => hr
  | x :: xs, y :: ys, i, h, hr => by
    simp only [CV.les] at h
    simp only [CV.repE] at hr ⊢
    obtain ⟨⟨ad, e, hb, hs, cs, hc, h1⟩, h2⟩ := hr
    exact ⟨⟨ad, e, hb, by rw [← CV.le_size x y h.1]; exact hs, cs, hc, CV.le_rep x y cs h.1 h1⟩, CV.les_repE A sz xs ys (i + 1) h.2 h2⟩
  | [], _ :: _, _, h, _ => by simp [CV.les] at h
  | _ :: _, [], _, h, _ => by simp [CV.les] at h
theorem CV.les_len : ∀ (l m : List CV), CV.les l m → l.length = m.length
  | [], [], _ => rfl
  | x :: xs, y :: ys, h => by simp only [CV.les] at h; simp [CV.les_len xs ys h.2]
  | [], _ :: _, h => by simp [CV.les] at h
  | _ :: _, [], h => by simp [CV.les] at h
theorem CV.le_size : ∀ (x y : CV), x.le y → x.size = y.size
  | .pv v, .sl sz es, _ => rfl
  | .st fs, .st ys, h => by simp only [CV.le] at h; simp only [CV.size]; exact CV.les_sizes fs ys h
  | .sl sz es, .sl sz' ys, _ => rfl
  | .pv v, .pv u, _ => rfl
  | .pv v, .st _, h => by simp [CV.le] at h
  | .pv v, .ar _ _ _, h => by simp [CV.le] at h
  | .ar k n xs, y, h => by
    have : CV.ar k n xs = y := by cases y <;> first | (simp [CV.le] at h; done) | simpa [CV.le] using h
    rw [← this]
  | .st _, .pv _, h => by simp [CV.le] at h
  | .st _, .ar _ _ _, h => by simp [CV.le] at h
  | .st _, .sl _ _, h => by simp [CV.le] at h
  | .sl _ _, .pv _, h => by simp [CV.le] at h
  | .sl _ _, .ar _ _ _, h => by simp [CV.le] at h
  | .sl _ _, .st _, h => by simp [CV.le] at h
theorem CV.les_sizes : ∀ (l m : List CV), CV.les l m → CV.sizes l = CV.sizes m
  | [], [], _ => rfl
  | x :: xs, y :: ys, h => by simp only [CV.les] at h; simp only [CV.sizes]; rw [CV.le_size x y h.1, CV.les_sizes xs ys h.2]
  | [], _ :: _, h => by simp [CV.les] at h
  | _ :: _, [], h => by simp [CV.les] at h
end
theorem CV.le_agg {x y : CV} (h : x.le y) : x.agg = y.agg := by
  cases x <;> cases y <;> first | rfl | (simp [CV.le] at h; done)
def FF (F : Nat → Prop) (ε : Nat → Value) (H : List AObj) : Nat → Prop := fun b => F b ∨ ∃ q, OB ε H q b
theorem os_fin {q : Nat} {e : TypeId} {sz : Nat} {es : List CV} {v : Value} (hs : Sim w F ε H) (hq : H[q]? = some (.row e sz es)) (hv : (AV.os q).repV w F ε v) : (CV.sl sz es).repV w (FF F ε H) v := by
  obtain ⟨A, c, hv', h1, h2, h3, h4⟩ := els_rep hs (x := .os q) (sz := sz) (es := es) (by simp [AV.els, hq]) hv
  have hz : ∀ x ∈ es, x.size = sz := (hs.obj q _ hq).choose_spec.2.1
  have := sl_rep' (w := w) (F := FF F ε H) (ε := ε) (sz := sz) (es := es) (A := A) (c := c) h1 h2 h3 (CV.repE_of _ 0 fun i hi => by
    obtain ⟨ad, cs, e1, hr, hl, hcell, hb⟩ := h4 i hi
    refine ⟨ad, e1, hz _ (List.getElem_mem hi), by rw [add_block]; exact hb, cs, fun j u hj => ?_, CV.rep_keep (Kept.refl Nob w) (fun _ _ h => h) (fun _ h => .inl h) _ _ hr⟩
    rw [Nat.zero_add]; exact hcell j u hj)
  rw [hv']
  simpa only [AV.repV] using this
mutual
theorem AV.fin_rep (hs : Sim w F ε H) : ∀ (x : AV) (y : CV) (cs : List Value), x.fin H y → x.rep w F ε cs → y.rep w (FF F ε H) cs
  | .c x, y, cs, h, hr => by
    simp only [AV.fin] at h
    simp only [AV.rep] at hr
    exact CV.rep_keep (Kept.refl Nob w) (fun _ _ h => h) (fun _ h => .inl h) _ _ (CV.le_rep x y cs h hr)
  | .st fs, .st ys, cs, h, hr => by
    simp only [AV.fin] at h
    simp only [AV.rep] at hr
    simp only [CV.rep]
    exact AV.fins_reps hs fs ys cs h hr
  | .os q, .sl sz es, cs, h, hr => by
    simp only [AV.fin] at h
    obtain ⟨e, hq⟩ := h
    simp only [AV.rep] at hr
    obtain ⟨v, rfl, h1, h2⟩ := hr
    obtain ⟨cs', h3, h4⟩ := os_fin hs hq (by simp only [AV.repV]; exact ⟨h1, h2⟩)
    have hl := CV.rep_len _ _ h3
    simp only [CV.size] at hl
    match cs', hl with
    | [u], _ =>
      simp [mkv, CV.agg] at h4
      rw [h4]
      exact h3
  | .st _, .pv _, _, h, _ => by simp [AV.fin] at h
  | .st _, .ar _ _ _, _, h, _ => by simp [AV.fin] at h
  | .st _, .sl _ _, _, h, _ => by simp [AV.fin] at h
  | .os _, .pv _, _, h, _ => by simp [AV.fin] at h
  | .os _, .ar _ _ _, _, h, _ => by simp [AV.fin] at h
  | .os _, .st _, _, h, _ => by simp [AV.fin] at h
  | .ptr _ _ _, _, _, h, _ => by simp [AV.fin] at h
  | .fp _, _, _, h, _ => by simp [AV.fin] at h
  | .fn _ _ _, _, _, h, _ => by simp [AV.fin] at h
  | .tup _, _, _, h, _ => by simp [AV.fin] at h
  | .junk _, _, _, h, _ => by simp [AV.fin] at h
theorem AV.fins_reps (hs : Sim w F ε H) : ∀ (l : List AV) (m : List CV) (cs : List Value), AV.fins H l m → AV.reps w F ε l cs → CV.reps w (FF F ε H) m cs
  | [], [], cs, _, hr => by simp only [AV.reps] at hr; simp only [CV.reps]; exact hr
  | x :: xs, y :: ys, cs, h, hr => by
    simp only [AV.fins] at h
    simp only [AV.reps] at hr
    simp only [CV.reps]
    obtain ⟨c, d, e, h1, h2⟩ := hr
    exact ⟨c, d, e, AV.fin_rep hs x y c h.1 h1, AV.fins_reps hs xs ys d h.2 h2⟩
  | [], _ :: _, _, h, _ => by simp [AV.fins] at h
  | _ :: _, [], _, h, _ => by simp [AV.fins] at h
end
theorem AV.fin_solid {x : AV} {y : CV} (h : x.fin H y) : x.solid = true ∧ x.agg = y.agg := by
  cases x with
  | c x => simp only [AV.fin] at h; exact ⟨rfl, CV.le_agg h⟩
  | st fs => cases y <;> first | exact ⟨rfl, rfl⟩ | simp [AV.fin] at h
  | os q => cases y <;> first | exact ⟨rfl, rfl⟩ | simp [AV.fin] at h
  | _ => simp [AV.fin] at h
theorem AV.fin_repV (hs : Sim w F ε H) {x : AV} {y : CV} {v : Value} (h : x.fin H y) (hr : x.repV w F ε v) : y.repV w (FF F ε H) v := by
  obtain ⟨h1, h2⟩ := AV.fin_solid h
  have hc := solid_rep hr h1
  have hy := AV.fin_rep hs x y _ h hc
  refine ⟨_, hy, ?_⟩
  rw [← h2]
  cases x with
  | c x => simp only [AV.repV] at hr; obtain ⟨cs, h3, rfl⟩ := hr; rw [cells_of_rep h3]; rfl
  | st fs => simp only [AV.repV] at hr; obtain ⟨cs, h3, rfl⟩ := hr; rfl
  | os q => simp only [AV.repV] at hr; obtain ⟨_, h3⟩ := hr; cases v <;> first | rfl | simp [Value.oneCell'] at h3
  | _ => simp [AV.fin] at h
variable {P : Program} {B : Bs} {s : AS} {a : Act} {ops : Array Oper} {Q : Exit → AS → Prop}
def AT (P : Program) (B : Bs) (c : Code) (s : AS) (Q : Exit → AS → Prop) : Prop := ∀ a w, Sat B s a w → c.wp P (fun e a w => ∃ s', Q e s' ∧ Sat B s' a w) a w
theorem AT.mono {c : Code} {Q' : Exit → AS → Prop} (h : AT P B c s Q) (hq : ∀ e s, Q e s → Q' e s) : AT P B c s Q' := fun a w hs => wp_mono (h a w hs) fun _ _ _ ⟨s', h1, h2⟩ => ⟨s', hq _ _ h1, h2⟩
def thenQ (K : AS → Prop) (Q : Exit → AS → Prop) : Exit → AS → Prop
  | .normal, s => K s
  | e, s => Q e s
theorem at_seq {x y : Code} (h : ∀ K : AS → Prop, (∀ s, AT P B y s Q → K s) → AT P B x s (thenQ K Q)) : AT P B (.seq x y) s Q := fun a w hs => by
  refine wp_seq (wp_mono (h (fun s => AT P B y s Q) (fun _ h => h) a w hs) fun e a w he => ?_)
  obtain ⟨s', h1, h2⟩ := he
  cases e with
  | normal => exact h1 a w h2
  | _ => exact ⟨s', h1, h2⟩
theorem at_skip (h : Q .normal s) : AT P B .skip s Q := fun _ _ hs => wp_skip ⟨s, h, hs⟩
theorem at_ret (h : Q .ret s) : AT P B .ret s Q := fun _ _ hs => wp_ret ⟨s, h, hs⟩
theorem at_exit {id : Nat} (h : Q (.exit id) s) : AT P B (.exit id) s Q := fun _ _ hs => wp_exit ⟨s, h, hs⟩
def blockQ (id : Nat) (Q : Exit → AS → Prop) : Exit → AS → Prop
  | .exit id', s => if id' = id then Q .normal s else Q (.exit id') s
  | e, s => Q e s
theorem at_block {id : Nat} {c : Code} (h : AT P B c s (blockQ id Q)) : AT P B (.block id c) s Q := fun a w hs => by
  refine wp_block (wp_mono (h a w hs) fun e a w he => ?_)
  obtain ⟨s', h1, h2⟩ := he
  cases e with
  | exit id' =>
    simp only [blockQ] at h1
    simp only [Exit.inBlock]
    split
    · rename_i e; rw [if_pos e] at h1; exact ⟨s', h1, h2⟩
    · rename_i e; rw [if_neg e] at h1; exact ⟨s', h1, h2⟩
  | _ => exact ⟨s', h1, h2⟩
theorem at_cond {c : Operand} {x y : Code} (b : Bool) (hg : s.gd c = true) (hb : (s.ev c).bool? = some b) (h1 : b = true → AT P B x s Q) (h2 : b = false → AT P B y s Q) : AT P B (.cond c x y) s Q := fun a w hs => by
  obtain ⟨F, ε, hx⟩ := hs
  exact wp_cond_split (bool_of hb (hx.at c hg)) (fun h => h1 h a w ⟨F, ε, hx⟩) (fun h => h2 h a w ⟨F, ε, hx⟩)
theorem at_region {id : Nat} (l : List It) (hl : ops.toList.map (lkI P ops) = l.map some) (h : apl P B.N l s (Q .normal)) : AT P B (.region id ops false) s Q := fun a w hs =>
  wp_region_list (apl_sound (ops := ops) (fun s a w hk hs => ⟨s, hk, hs⟩) l ops.toList hl s a w h hs)
def Le (B : Bs) (s s' : AS) : Prop := ∀ a w, Sat B s a w → Sat B s' a w
theorem at_loop {c : Code} {α : Type} (st : α → AS) (m : α → Nat) (x0 : α) (h0 : Le B s (st x0)) (hr : ∀ x, AT P B c (st x) (thenQ (fun s' => ∃ x', m x' < m x ∧ Le B s' (st x')) Q)) : AT P B (.loop c) s Q := fun a w hs => by
  refine wp_loop_ghost (fun n a w => ∃ x, m x = n ∧ Sat B (st x) a w) (m x0) ⟨x0, rfl, h0 a w hs⟩ fun n a w hI => ?_
  obtain ⟨x, rfl, hx⟩ := hI
  refine wp_mono (hr x a w hx) fun e a w he => ?_
  obtain ⟨s', h1, h2⟩ := he
  cases e with
  | normal =>
    obtain ⟨x', h3, h4⟩ := h1
    exact ⟨m x', h3, x', rfl, h4 a w h2⟩
  | _ => exact ⟨s', h1, h2⟩
def argT : Nat → List AV → Tm
  | _, [] => []
  | k, x :: l => (k, true, x) :: argT (k + 1) l
theorem look_argT : ∀ (l : List AV) (k t : Nat), look (argT k l) t = if h : k ≤ t ∧ t < k + l.length then (true, l[t - k]'(by omega)) else (true, .junk 1)
  | [], k, t => by rw [argT, look, dif_neg (by simp)]
  | x :: l, k, t => by
    rw [argT, look]
    by_cases e : k = t
    · subst e; simp
    · rw [if_neg e, look_argT l (k + 1) t]
      by_cases h : k ≤ t ∧ t < k + (x :: l).length
      · rw [dif_pos h, dif_pos (by simp at h; omega)]
        congr 1
        have : t - k = (t - (k + 1)) + 1 := by omega
        simp [this]
      · rw [dif_neg h, dif_neg (by simp at h; omega)]
theorem res_ok {r : ResultVar} {z : RZ} {y : CV} (hx : SatX B s a w F ε) (hz : convR P r = some z) (h : ResOk s z y) :
    ∃ v, (match r with | .tmp t => Pure.pure (a.tmps.getD t undef) | .cell x t => do loadVar t (← asAddr (a.tmps.getD x undef)) : Sem Value).run P w = .ok v w ∧ y.repV w (FF F ε s.H) v := by
  obtain ⟨hg, h⟩ := h
  have hv := hx.at _ hg
  unfold convR at hz
  split at hz
  · rename_i t
    cases hz
    exact ⟨_, rfl, AV.fin_repV hx.sim h hv⟩
  · rename_i t ty
    split at hz
    · rename_i n g h1 h2
      split at hz
      · rename_i hng
        cases hz
        dsimp only at h hv
        split at h
        · rename_i q p o he
          split at h
          · rename_i A hq
            obtain ⟨hok, hoff, hsz, hag, hfin⟩ := h
            rw [he] at hv
            obtain ⟨v, hv1, hv2⟩ := sound_load (P := P) (ρ := a.eval) (ev := s.ev) (y := .tmp t) hx.sim h1 h2 (fun e => by subst e; simpa using hng) (by rw [he]; exact hv) (by simp only [PK.cond, he, hq]; exact ⟨hok, hoff, hsz, hag⟩)
            simp only [PK.val, he, hq] at hv1
            refine ⟨v, ?_, AV.fin_repV hx.sim hfin hv1⟩
            have := hv2 w Same.refl
            simp only [AV.repV] at hv
            obtain ⟨b, _, hvv⟩ := hv
            simp only [Act.eval] at hvv this
            rw [hvv] at this ⊢
            simpa [asAddr, Instr.loadAt, Instr.sureAddr] using this
          · exact h.elim
        · exact h.elim
      · cases hz
    · cases hz
theorem results_list (hx : SatX B s a w F ε) : ∀ (rs : List ResultVar) (zs : List RZ) (ys : List CV), rs.map (convR P) = zs.map some → RetOk s zs ys →
    ∃ vs, (rs.mapM (m := Sem) fun r => match r with | .tmp t => Pure.pure (a.tmps.getD t undef) | .cell x t => do loadVar t (← asAddr (a.tmps.getD x undef))).run P w = .ok vs w ∧ AV.repVs w (FF F ε s.H) (fun _ => undef) (ys.map .c) vs
  | [], zs, ys, hz, h => by
    have : zs = [] := by simpa using hz.symm
    subst this
    cases ys with
    | nil => exact ⟨[], rfl, by simp only [List.map_nil, AV.repVs]⟩
    | cons y ys => simp [RetOk] at h
  | r :: rs, zs, ys, hz, h => by
    cases zs with
    | nil => simp at hz
    | cons z zs =>
      cases ys with
      | nil => simp [RetOk] at h
      | cons y ys =>
        simp only [List.map_cons, List.cons.injEq] at hz
        simp only [RetOk] at h
        obtain ⟨v, h1, h2⟩ := res_ok hx hz.1 h.1
        obtain ⟨vs, h3, h4⟩ := results_list hx rs zs ys hz.2 h.2
        refine ⟨v :: vs, ?_, by simp only [List.map_cons, AV.repVs, AV.repV]; exact ⟨v, vs, rfl, h2, h4⟩⟩
        rw [List.mapM_cons, Sem.run_bind, h1]
        simp only [Result.andThen_ok]
        rw [Sem.run_bind, h3]
        rfl
theorem repVs_len : ∀ (l : List AV) (vs : List Value), AV.repVs w F ε l vs → vs.length = l.length
  | [], vs, h => by simp only [AV.repVs] at h; rw [h]; rfl
  | a :: l, vs, h => by
    simp only [AV.repVs] at h
    obtain ⟨v, us, rfl, _, h2⟩ := h
    simp [repVs_len l us h2]
theorem repVs_nth : ∀ (l : List AV) (vs : List Value) (i : Nat) (h : i < l.length) (h' : i < vs.length), AV.repVs w F ε l vs → (l[i]).repV w F ε vs[i]
  | a :: l, vs, i, h, h', hr => by
    simp only [AV.repVs] at hr
    obtain ⟨v, us, rfl, h1, h2⟩ := hr
    cases i with
    | zero => exact h1
    | succ i => exact repVs_nth l us i (by simpa using h) (by simpa using h') h2
theorem results_ok {fn : Func} (hx : SatX B s a w F ε) {zs : List RZ} {ys : List CV} (hz : fn.results.toList.map (convR P) = zs.map some) (h : RetOk s zs ys) : ∃ v, (results fn a.tmps).run P w = .ok v w ∧ RV w (FF F ε s.H) ys v := by
  obtain ⟨vs, h1, h2⟩ := results_list hx _ zs ys hz h
  have hl := repVs_len _ _ h2
  rw [List.length_map] at hl
  refine ⟨if h : vs.toArray.size = 1 then vs.toArray[0] else .tuple vs.toArray, ?_, ?_⟩
  · unfold results
    rw [Sem.run_bind, Array.mapM_eq_mapM_toList]
    simp only [Sem.run_map]
    exact congrArg (fun r : Result (List Value) => (r.andThen fun a w' => Result.ok a.toArray w').andThen fun a w' => Sem.run P (Pure.pure (if h : a.size = 1 then a[0] else Value.tuple a)) w') h1
  · match ys, h2, hl with
    | [], h2, hl =>
      have : vs = [] := List.eq_nil_of_length_eq_zero hl
      subst this
      exact ⟨[], rfl, h2⟩
    | [y], h2, hl =>
      simp only [List.map_cons, List.map_nil, AV.repVs] at h2
      obtain ⟨v, us, rfl, h3, rfl⟩ := h2
      simp only [AV.repV] at h3
      exact h3
    | y :: y' :: ys, h2, hl =>
      rw [dif_neg (by simp at hl ⊢; omega)]
      exact ⟨vs, rfl, h2⟩
def B0 (w : World) (F : Nat → Prop) (N : Nat) : Bs := ⟨w, F, Nob, fun _ => undef, [], N⟩
def retQ (zs : List RZ) (rs : List CV) : Exit → AS → Prop
  | .normal, s => RetOk s zs rs
  | .ret, s => RetOk s zs rs
  | _, _ => False
theorem ap_of {f : FuncId} {fn : Func} {c : Code} {N : Nat} {xs rs : List CV} {zs : List RZ} (hent : Enters P f) (hf : P.funcs[f]? = some fn) (hb : fn.body = some c) (hN : fn.ntmps = N) (hn : xs.length ≤ N) (hz : fn.results.toList.map (convR P) = zs.map some)
    (h : ∀ w F, AT P (B0 w F N) c ⟨argT 0 (xs.map .c), []⟩ (retQ zs rs)) : AP P f xs rs := by
  refine ⟨hent, fun w F vs hF hvs => calls_of_wp hf hb ?_⟩
  have hl := repVs_len _ _ hvs
  rw [List.length_map] at hl
  subst hN
  have hx : SatX (B0 w F fn.ntmps) ⟨argT 0 (xs.map .c), []⟩ { tmps := vs.toArray ++ Array.replicate (fn.ntmps - vs.toArray.size) undef, defers := [] } w F (fun _ => undef) := by
    refine ⟨⟨fun q o hq => by simp at hq, fun q q' b hq => by obtain ⟨o, h, _⟩ := hq; simp at h, fun q b hq => by obtain ⟨o, h, _⟩ := hq; simp at h, hF, fun _ _ => rfl⟩, fun t => ?_, rfl, ?_, Kept.refl _ _, fun _ h => h, fun b hb => .inl hb, fun q b hq => by obtain ⟨o, h, _⟩ := hq; simp at h, fun q hq => by simp [B0] at hq, fun q hq => by simp [B0] at hq⟩
    · rw [look_argT]
      split
      · rename_i ht
        simp only [List.length_map, Nat.zero_le, Nat.zero_add, true_and] at ht
        refine ⟨fun _ => ?_, fun h => by cases h⟩
        have := repVs_nth _ _ t (by simpa using ht) (by omega) hvs
        simp only [Nat.sub_zero]
        have e : (vs.toArray ++ Array.replicate (fn.ntmps - vs.toArray.size) undef).getD t undef = vs[t]'(by omega) := by
          rw [Array.getD_eq_getD_getElem?, Array.getElem?_append_left (by simp; omega)]
          simp [show t < vs.length by omega]
        rw [e]
        exact this
      · exact ⟨fun _ => by simp only [AV.repV], fun h => by cases h⟩
    · simp [B0]; omega
  refine wp_mono (h w F _ w ⟨_, _, hx⟩) fun e a w' he => ?_
  obtain ⟨s', h1, F', ε', h2⟩ := he
  have hfin : RetOk s' zs rs → a.defers = [] ∧ ∃ v, (results fn a.tmps).run P w' = .ok v w' ∧ ∃ v' F', Ending.returned v = .returned v' ∧ RV w' F' rs v' ∧ Kept Nob w w' ∧ (∀ b, F b → F' b) ∧ (∀ b, F' b → F b ∨ w.heap.size ≤ b) ∧ (∀ b, F' b → b < w'.heap.size) := fun hr => by
    obtain ⟨v, h3, h4⟩ := results_ok h2 hz hr
    refine ⟨h2.df, v, h3, v, FF F' ε' s'.H, rfl, h4, h2.kept, fun b hb => .inl (h2.f0 b hb), fun b hb => ?_, fun b hb => ?_⟩
    · rcases hb with hb | ⟨q, hb⟩
      · rcases h2.fn b hb with h | h | h
        · exact .inl h
        · exact h.elim
        · exact .inr h
      · rcases h2.ob q b hb with h | h
        · exact h.elim
        · exact .inr h
    · rcases hb with hb | ⟨q, hb⟩
      · exact h2.sim.old b hb
      · exact (h2.sim.free q b hb).2
  cases e with
  | normal => exact hfin h1
  | ret => exact hfin h1
  | _ => exact h1.elim
end
end Go.Proofs.Ytcghjnegaiiieaa
namespace Go.Proofs.Ytcghjnegaiiieaa
open Go Go.RowKit
mutual
def AV.lt (n : Nat) : AV → Bool
  | .st fs => AV.lts n fs
  | .os q => decide (q < n)
  | .ptr q _ _ => decide (q < n)
  | .fn _ fi ca => AV.lts n fi && AV.lts n ca
  | .tup l => AV.lts n l
  | .c _ => true
  | .fp _ => true
  | .junk _ => true
def AV.lts (n : Nat) : List AV → Bool
  | [] => true
  | a :: l => AV.lt n a && AV.lts n l
end
def AObj.lt (n : Nat) : AObj → Bool
  | .cell a => a.lt n
  | _ => true
def keepT (ids : List Nat) : Tm → Tm
  | [] => []
  | (t, e) :: l => if ids.contains t then (t, e) :: keepT (ids.filter (· != t)) l else keepT ids l
section
variable {P : Program} {B : Bs} {s s' : AS} {a : Act} {w : World} {F : Nat → Prop} {ε ε' : Nat → Value} {N : Nat} {K : AS → Prop} {Q : Exit → AS → Prop}
mutual
theorem AV.lt_repV {n : Nat} (he : ∀ q, q < n → ε' q = ε q) : ∀ (x : AV) (v : Value), x.lt n = true → x.repV w F ε v → x.repV w F ε' v
  | .c x, v, _, h => by simp only [AV.repV] at h ⊢; exact h
  | .st fs, v, hz, h => by
    simp only [AV.repV] at h ⊢
    obtain ⟨cs, h1, h2⟩ := h
    exact ⟨cs, AV.lts_reps he fs cs (by simpa only [AV.lt] using hz) h1, h2⟩
  | .os q, v, hz, h => by simp only [AV.repV] at h ⊢; rw [he q (by simpa [AV.lt] using hz)]; exact h
  | .ptr q _ off, v, hz, h => by simp only [AV.repV] at h ⊢; rw [he q (by simpa [AV.lt] using hz)]; exact h
  | .fp x, v, _, h => by simp only [AV.repV] at h ⊢; exact h
  | .fn f fi ca, v, hz, h => by
    simp only [AV.repV] at h ⊢
    simp only [AV.lt, Bool.and_eq_true] at hz
    obtain ⟨vs, us, e, h1, h2⟩ := h
    exact ⟨vs, us, e, AV.lts_repVs he fi vs hz.1 h1, AV.lts_repVs he ca us hz.2 h2⟩
  | .tup l, v, hz, h => by
    simp only [AV.repV] at h ⊢
    obtain ⟨us, e, h1⟩ := h
    exact ⟨us, e, AV.lts_repVs he l us (by simpa only [AV.lt] using hz) h1⟩
  | .junk _, _, _, _ => by simp only [AV.repV]
theorem AV.lts_repVs {n : Nat} (he : ∀ q, q < n → ε' q = ε q) : ∀ (l : List AV) (vs : List Value), AV.lts n l = true → AV.repVs w F ε l vs → AV.repVs w F ε' l vs
  | [], vs, _, h => by simp only [AV.repVs] at h ⊢; exact h
  | a :: l, vs, hz, h => by
    simp only [AV.repVs] at h ⊢
    simp only [AV.lts, Bool.and_eq_true] at hz
    obtain ⟨v, us, e, h1, h2⟩ := h
    exact ⟨v, us, e, AV.lt_repV he a v hz.1 h1, AV.lts_repVs he l us hz.2 h2⟩
theorem AV.lt_rep {n : Nat} (he : ∀ q, q < n → ε' q = ε q) : ∀ (x : AV) (cs : List Value), x.lt n = true → x.rep w F ε cs → x.rep w F ε' cs
  | .c x, cs, _, h => by simp only [AV.rep] at h ⊢; exact h
  | .st fs, cs, hz, h => by simp only [AV.rep] at h ⊢; exact AV.lts_reps he fs cs (by simpa only [AV.lt] using hz) h
  | .os q, v, hz, h => by simp only [AV.rep] at h ⊢; rw [he q (by simpa [AV.lt] using hz)]; exact h
  | .ptr q _ off, v, hz, h => by simp only [AV.rep] at h ⊢; rw [he q (by simpa [AV.lt] using hz)]; exact h
  | .fp x, cs, _, h => by simp only [AV.rep] at h ⊢; exact h
  | .fn f fi ca, cs, hz, h => by
    simp only [AV.rep] at h ⊢
    simp only [AV.lt, Bool.and_eq_true] at hz
    obtain ⟨v, e0, vs, us, e, h1, h2⟩ := h
    exact ⟨v, e0, vs, us, e, AV.lts_repVs he fi vs hz.1 h1, AV.lts_repVs he ca us hz.2 h2⟩
  | .tup l, cs, _, h => by simp only [AV.rep] at h
  | .junk _, _, _, h => by simp only [AV.rep] at h ⊢; exact h
theorem AV.lts_reps {n : Nat} (he : ∀ q, q < n → ε' q = ε q) : ∀ (l : List AV) (cs : List Value), AV.lts n l = true → AV.reps w F ε l cs → AV.reps w F ε' l cs
  | [], vs, _, h => by simp only [AV.reps] at h ⊢; exact h
  | a :: l, cs, hz, h => by
    simp only [AV.reps] at h ⊢
    simp only [AV.lts, Bool.and_eq_true] at hz
    obtain ⟨c, d, e, h1, h2⟩ := h
    exact ⟨c, d, e, AV.lt_rep he a c hz.1 h1, AV.lts_reps he l d hz.2 h2⟩
end
def SubT (T' T : Tm) : Prop := ∀ e ∈ T', look T e.1 = e.2
theorem look_mem : ∀ (T : Tm) (t : Nat), look T t = (true, .junk 1) ∨ (t, look T t) ∈ T
  | [], t => .inl rfl
  | (u, e) :: l, t => by
    simp only [look]
    split
    · rename_i h; subst h; exact .inr (by simp)
    · rcases look_mem l t with h | h
      · exact .inl h
      · exact .inr (by simp [h])
theorem TRep.sub {T T' : Tm} (h : TRep w F ε T a) (hs : SubT T' T) : TRep w F ε T' a := fun t => by
  rcases look_mem T' t with e | e
  · rw [e]; exact ⟨fun _ => by simp only [AV.repV], fun h => by cases h⟩
  · have := hs _ e
    dsimp only at this
    rw [← this]
    exact h t
theorem Le.refl : Le B s s := fun _ _ h => h
theorem Le.same (hH : s.H = s'.H) (hT : SubT s'.T s.T) : Le B s s' := fun a w ⟨F, ε, h⟩ => by
  obtain ⟨T', H'⟩ := s'
  dsimp only at hH hT
  subst hH
  exact ⟨F, ε, h.sim, h.tm.sub hT, h.df, h.sz, h.kept, h.f0, h.fn, h.ob, h.fix, h.fxl⟩
theorem Le.drop (n : Nat) (hn : n ≤ s.H.length) (hH : s.H.take n = s'.H) (hHl : ∀ o ∈ s'.H, o.lt n = true) (hT : SubT s'.T s.T) (hTl : ∀ e ∈ s'.T, e.2.2.lt n = true) (hfx : ∀ q ∈ B.fx, q < n) : Le B s s' := fun a w ⟨F, ε, h⟩ => by
  obtain ⟨T', H'⟩ := s'
  dsimp only at hH hHl hT hTl
  subst hH
  have hlen : (s.H.take n).length = n := by simp; omega
  have he : ∀ q, q < n → (fun q => if q < n then ε q else undef) q = ε q := fun q hq => by simp [hq]
  have hob : ∀ q b, OB (fun q => if q < n then ε q else undef) (s.H.take n) q b → OB ε s.H q b := fun q b ho => by
    obtain ⟨o, h1, h2, h3⟩ := ho
    have hq : q < n := by have := (List.getElem?_eq_some_iff.1 h1).1; omega
    rw [he q hq] at h3
    rw [List.getElem?_take_of_lt hq] at h1
    exact ⟨o, h1, h2, h3⟩
  refine ⟨F, fun q => if q < n then ε q else undef, ⟨fun q o hq => ?_, fun q q' b h1 h2 => h.sim.apart q q' b (hob q b h1) (hob q' b h2), fun q b h1 => h.sim.free q b (hob q b h1), h.sim.old, fun q hq => by rw [hlen] at hq; simp [show ¬ q < n by omega]⟩, fun t => ?_, h.df, h.sz, h.kept, h.f0, h.fn, fun q b h1 => h.ob q b (hob q b h1), fun q hq => by simp only [hfx q hq, if_true]; exact h.fix q hq, fun q hq => by simp only [hlen]; exact hfx q hq⟩
  · have hqn : q < n := by
      have : q < (s.H.take n).length := (List.getElem?_eq_some_iff.1 hq).1
      omega
    have hl := hHl o (List.mem_of_getElem? hq)
    rw [List.getElem?_take_of_lt hqn] at hq
    have ho := h.sim.obj q o hq
    cases o with
    | gone => trivial
    | cell x =>
      obtain ⟨b, ty, cs, h1, h2, h3⟩ := ho
      exact ⟨b, ty, cs, (he q hqn).trans h1, h2, AV.lt_rep he x cs hl h3⟩
    | row e sz es =>
      obtain ⟨cs, h1, h2, h3⟩ := ho
      refine ⟨cs, h1, h2, ?_⟩
      simp only [hqn, if_true]
      exact h3
  · have := h.tm.sub hT t
    refine ⟨fun hg => ?_, this.2⟩
    rcases look_mem T' t with e | e
    · rw [e]; simp only [AV.repV]
    · exact AV.lt_repV he _ _ (hTl _ e) (this.1 hg)
theorem AT.le {c : Code} (h : Le B s s') (h2 : AT P B c s' Q) : AT P B c s Q := fun a w hs => h2 a w (h a w hs)
theorem apl_cut (l1 l2 : List It) (h : ∀ K' : AS → Prop, (∀ s, apl P N l2 s K → K' s) → apl P N l1 s K') : apl P N (l1 ++ l2) s K := by
  have key : ∀ (l1 : List It) (s : AS), apl P N l1 s (fun s => apl P N l2 s K) → apl P N (l1 ++ l2) s K := by
    intro l1
    induction l1 with
    | nil => intro s h; simpa only [apl, List.nil_append] using h
    | cons i l ih =>
      intro s h
      obtain ⟨d, g, k⟩ := i
      unfold apl at h
      rw [List.cons_append]
      unfold apl
      obtain ⟨h1, h2, h3⟩ := h
      refine ⟨h1, h2, ?_⟩
      cases k with
      | p k => exact ⟨h3.1, ih _ h3.2⟩
      | alloc z => exact ⟨h3.1, ih _ h3.2⟩
      | box x => exact ⟨h3.1, h3.2.1, h3.2.2.1, ih _ h3.2.2.2⟩
      | store x v sz =>
        refine ⟨h3.1, h3.2.1, h3.2.2.1, h3.2.2.2.1, ?_⟩
        have h4 := h3.2.2.2.2
        unfold storeOk at h4 ⊢
        split at h4
        · split at h4
          · obtain ⟨g1, g2, g3, g4, g5, g6, g7⟩ := h4
            exact ⟨g1, g2, g3, g4, g5, g6, ih _ g7⟩
          · exact h4.elim
        · exact h4.elim
      | lit sz xs => exact ⟨h3.1, ih _ h3.2⟩
      | call f xs =>
        obtain ⟨rs, h4, h5⟩ := h3
        exact ⟨rs, h4, ih _ h5⟩
  exact key l1 s (h _ fun _ h => h)
theorem at_loopK {c : Code} {α : Type} (ids : List Nat) (nt : α → Tm) (m : α → Nat) (x0 : α) (h0 : SubT (nt x0 ++ keepT ids s.T) s.T)
    (hr : ∀ x, AT P B c ⟨nt x ++ keepT ids s.T, s.H⟩ (thenQ (fun s' => ∃ x', m x' < m x ∧ Le B s' ⟨nt x' ++ keepT ids s.T, s.H⟩) Q)) : AT P B (.loop c) s Q :=
  at_loop (fun x => ⟨nt x ++ keepT ids s.T, s.H⟩) m x0 (Le.same rfl h0) hr
theorem SubT.nil {T : Tm} : SubT [] T := fun _ h => by cases h
theorem SubT.cons {T T' : Tm} {e : Nat × Bool × AV} (h : look T e.1 = e.2) (h2 : SubT T' T) : SubT (e :: T') T := fun x hx => by
  rcases List.mem_cons.1 hx with rfl | hx
  · exact h
  · exact h2 x hx
end
end Go.Proofs.Ytcghjnegaiiieaa
namespace Go.Proofs.Ytcghjnegaiiieaa
open Go Go.RowKit
theorem and_cond_f (a b : Bool) : (bif a then b else false) = (a && b) := by cases a <;> rfl
theorem or_cond_t (a b : Bool) : (bif a then true else b) = (a || b) := by cases a <;> rfl
theorem cond_same (a b : Bool) : (bif a then b else b) = b := by cases a <;> rfl
theorem beq_true_b (a : Bool) : (a == true) = a := by cases a <;> rfl
theorem beq_false_b (a : Bool) : (a == false) = !a := by cases a <;> rfl
theorem pick_f (a : Bool) (p q : Prop) : (a = true → p) = (a = true → p) := rfl
theorem pick_t (a : Bool) (p q : Prop) : (a = true → p) = (a = true → p) := rfl
theorem B0_N (w : World) (F : Nat → Prop) (N : Nat) : (B0 w F N).N = N := rfl
theorem bool_xor_false (a : Bool) : xor false a = a := by cases a <;> rfl
theorem bool_xor_true (a : Bool) : xor true a = !a := by cases a <;> rfl
theorem int_ofNat_lt (a b : Nat) : ((a : Int) < (b : Int)) = (a < b) := by simp
theorem int_ofNat_le (a b : Nat) : ((a : Int) ≤ (b : Int)) = (a ≤ b) := by simp
theorem nf_imp (a : Bool) : (!a) = false → a = true := by cases a <;> simp
theorem fn_imp (a : Bool) : a = false → (!a) = true := by cases a <;> simp
theorem nf_imp_t (a : Bool) : ((!a) = false → a = true) = True := by cases a <;> simp
theorem fn_imp_t (a : Bool) : (a = false → (!a) = true) = True := by cases a <;> simp
theorem cast_one : ((1 : Nat) : Int) = 1 := rfl
theorem cast_zero : ((0 : Nat) : Int) = 0 := rfl
theorem lits_le : True := trivial
theorem lits_lt : True := trivial
theorem List.forall_mem_cons_av {α : Type} {p : α → Prop} {a : α} {l : List α} : (∀ x ∈ a :: l, p x) = (p a ∧ ∀ x ∈ l, p x) := by simp
end Go.Proofs.Ytcghjnegaiiieaa
namespace Go.Proofs.Ytcghjnegaiiieaa
open Go Go.RowKit
def IK.pure : IK → Bool
  | .p _ => true
  | _ => false
section
variable {P : Program} {B : Bs} {s s' : AS} {a : Act} {w : World} {F : Nat → Prop} {ε ε' : Nat → Value} {K : AS → Prop} {Q : Exit → AS → Prop} {ops : Array Oper}
def hideZ (Z : List Nat) : Nat → List AObj → List AObj
  | _, [] => []
  | i, o :: l => (if Z.contains i then .gone else o) :: hideZ Z (i + 1) l
theorem hideZ_len (Z : List Nat) : ∀ (l : List AObj) (i : Nat), (hideZ Z i l).length = l.length
  | [], _ => rfl
  | o :: l, i => by simp [hideZ, hideZ_len Z l (i + 1)]
theorem hideZ_nil : ∀ (l : List AObj) (i : Nat), hideZ [] i l = l
  | [], _ => rfl
  | o :: l, i => by simp [hideZ, hideZ_nil l (i + 1)]
theorem hideZ_at (Z : List Nat) : ∀ (l : List AObj) (i q : Nat) (o : AObj), (hideZ Z i l)[q]? = some o → o = .gone ∨ (l[q]? = some o ∧ Z.contains (i + q) = false)
  | [], _, q, o, h => by simp [hideZ] at h
  | x :: l, i, 0, o, h => by
    simp only [hideZ, List.getElem?_cons_zero, Option.some.injEq] at h
    split at h
    · exact .inl h.symm
    · rename_i hz; exact .inr ⟨by simp [h], by simpa using hz⟩
  | x :: l, i, q + 1, o, h => by
    simp only [hideZ, List.getElem?_cons_succ] at h
    rcases hideZ_at Z l (i + 1) q o h with h | ⟨h1, h2⟩
    · exact .inl h
    · exact .inr ⟨by simpa using h1, by rw [show i + (q + 1) = i + 1 + q from by omega]; exact h2⟩
theorem hide_ob {Z : List Nat} {H : List AObj} {q b : Nat} (h : OB ε (hideZ Z 0 H) q b) : OB ε H q b ∧ Z.contains q = false := by
  obtain ⟨o, h1, h2, h3⟩ := h
  rcases hideZ_at Z H 0 q o h1 with h | ⟨h4, h5⟩
  · exact absurd h h2
  · exact ⟨⟨o, h4, h2, h3⟩, by simpa using h5⟩
theorem hide_of {Z : List Nat} {H : List AObj} {q b : Nat} (h : OB ε H q b) (hz : Z.contains q = false) : OB ε (hideZ Z 0 H) q b := by
  have key : ∀ (l : List AObj) (i q : Nat) (o : AObj), l[q]? = some o → Z.contains (i + q) = false → (hideZ Z i l)[q]? = some o := by
    intro l
    induction l with
    | nil => intro i q o h; simp at h
    | cons x l ih =>
      intro i q o h hz
      cases q with
      | zero => simp only [hideZ, List.getElem?_cons_zero]; rw [if_neg (by rw [Nat.add_zero] at hz; rw [hz]; simp)]; simpa using h
      | succ q => simp only [hideZ, List.getElem?_cons_succ]; exact ih (i + 1) q o (by simpa using h) (by rw [show i + 1 + q = i + (q + 1) from by omega]; exact hz)
  obtain ⟨o, h1, h2, h3⟩ := h
  exact ⟨o, key H 0 q o h1 (by rw [Nat.zero_add]; exact hz), h2, h3⟩
theorem SatX.hide (h : SatX B s a w F ε) (Z : List Nat) : SatX B ⟨s.T, hideZ Z 0 s.H⟩ a w F ε := by
  refine ⟨⟨fun q o hq => ?_, fun q q' b h1 h2 => h.sim.apart q q' b (hide_ob h1).1 (hide_ob h2).1, fun q b h1 => h.sim.free q b (hide_ob h1).1, h.sim.old, fun q hq => h.sim.out q (by rw [hideZ_len] at hq; exact hq)⟩, h.tm, h.df, h.sz, h.kept, h.f0, h.fn, fun q b h1 => h.ob q b (hide_ob h1).1, h.fix, fun q hq => by rw [hideZ_len]; exact h.fxl q hq⟩
  rcases hideZ_at Z s.H 0 q o hq with rfl | ⟨h1, _⟩
  · trivial
  · exact h.sim.obj q o h1
theorem pure_yields {it : It} {o : Oper} (hs : SatX B s a w F ε) (ho : lkI P ops o = some it) (hp : it.k.pure = true) (hk : apl P B.N [it] s K) :
    ∃ v s', YieldsIf P ops (Same w F ε s.H) o v a ∧ K s' ∧ SatX B s' (a.put o.dst v) w F ε := by
  obtain ⟨hop, hgd, hd⟩ := lkI_inv ho
  obtain ⟨d, g, k⟩ := it
  dsimp only at hop hgd hd hp
  have hop := convI_is hop
  subst hd
  cases k with
  | p k =>
    unfold apl at hk
    obtain ⟨hgk, hdk, h2, h3⟩ := hk
    have hw := wanted_of hs hgd hgk
    cases hg : gv s g with
    | false =>
      rw [hg] at hw h3
      exact ⟨undef, _, .inr ⟨hw, rfl⟩, by simpa only [apl] using h3, hs.skip _ _ hdk rfl⟩
    | true =>
      rw [hg] at hw h3
      obtain ⟨hu, hm, hc⟩ := h2 hg
      obtain ⟨v, hv, hrun⟩ := pk_sound (o := o) (ρ := a.eval) (ev := s.ev) hs.sim hop (fun x hx' => hs.at x (List.all_eq_true.1 hu x hx')) (by
        cases k <;> simp only [PK.more] at hm ⊢
        exact ⟨fun h => hs.at _ (hm.1 h), fun h => hs.at _ (hm.2 h)⟩) hc
      exact ⟨v, _, .inl ⟨hw, fun x hx => hrun x hx⟩, by simpa only [apl] using h3, hs.val _ _ _ hv hdk rfl⟩
  | _ => cases hp
def AG (P : Program) (B : Bs) (ops : Array Oper) (Z : List Nat) (fuel : Nat) (R : List Nat) (listed : Array Bool) (s : AS) (K : AS → Prop) : Prop :=
  ∀ a w F ε, SatX B s a w F ε → GE P .any ops (Exit.then (fun a w => ∃ s', K s' ∧ Sat B s' a w) noExit) fuel (Same w F ε (hideZ Z 0 s.H)) R listed a w
variable {Z : List Nat}
theorem ag_done {fuel : Nat} {R : List Nat} {listed : Array Bool} (hr : Region.ready .any ops listed = []) (h : K s) : AG P B ops Z fuel R listed s K := fun _ _ _ _ hs => GE.done hr ⟨s, h, _, _, hs⟩
def takes (ops : Array Oper) : List Nat → Array Bool → Bool
  | [], _ => true
  | i :: is, listed => takeB .any ops listed i && takes ops is (listed.setIfInBounds i true)
def seen (listed : Array Bool) (is : List Nat) : Array Bool := is.foldl (fun l i => l.setIfInBounds i true) listed
theorem ag_pure {fuel : Nat} {K' : AS → Prop} {H0 : List AObj} : ∀ (is : List Nat) (l : List It) (R : List Nat) (listed : Array Bool) (T : Tm), is.map (fun i => (ops[i]?).bind (lkI P ops)) = l.map some → (l.all fun i => i.k.pure) = true → takes ops is listed = true →
    apl P B.N l ⟨T, hideZ Z 0 H0⟩ K' → (∀ T', K' ⟨T', hideZ Z 0 H0⟩ → AG P B ops Z fuel (is.reverse ++ R) (seen listed is) ⟨T', H0⟩ K) → AG P B ops Z (fuel + is.length) R listed ⟨T, H0⟩ K
  | [], l, R, listed, T, hl, _, _, h, hK => by
    have : l = [] := by simpa using hl.symm
    subst this
    exact hK T (by simpa only [apl] using h)
  | i :: is, l, R, listed, T, hl, hp, ht, h, hK => by
    cases l with
    | nil => simp at hl
    | cons it l =>
      simp only [List.map_cons, List.cons.injEq] at hl
      obtain ⟨hi, hl⟩ := hl
      cases ho : ops[i]? with
      | none => rw [ho] at hi; cases hi
      | some o =>
        rw [ho] at hi
        simp only [Option.bind_some] at hi
        simp only [List.all_cons, Bool.and_eq_true] at hp
        simp only [takes, Bool.and_eq_true] at ht
        intro a w F ε hx
        have h' : apl P B.N [it] ⟨T, hideZ Z 0 H0⟩ (fun s => s.H = hideZ Z 0 H0 ∧ apl P B.N l s K') := by
          obtain ⟨d, g, k⟩ := it
          cases k with
          | p k =>
            unfold apl at h ⊢
            refine ⟨h.1, h.2.1, h.2.2.1, ?_⟩
            unfold apl
            exact ⟨AS.put_H _ _ _ _, h.2.2.2⟩
          | _ => cases hp.1
        obtain ⟨v, s', hy, ⟨hH, hk'⟩, hx'⟩ := pure_yields (hx.hide Z) hi hp.1 h'
        obtain ⟨T', H'⟩ := s'
        dsimp only at hH
        subst hH
        have hx2 : SatX B ⟨T', H0⟩ (a.put o.dst v) w F ε := ⟨hx.sim, hx'.tm, hx'.df, hx'.sz, hx.kept, hx.f0, hx.fn, hx.ob, hx.fix, hx.fxl⟩
        have ih := ag_pure is l (i :: R) (listed.setIfInBounds i true) T' hl hp.2 ht.2 hk' (fun T'' h'' => by
          have := hK T'' h''
          simpa [seen] using this)
        rw [List.length_cons, ← Nat.add_assoc]
        exact GE.take ho ht.1 (fun _ _ _ h => h.elim) Same.refl hy (ih _ _ _ _ hx2)
def tgtB (Z : List Nat) (t : Option Nat) : Bool := match t with
  | none => true
  | some q => Z.contains q
def AGi (P : Program) (B : Bs) (ops : Array Oper) (Z : List Nat) (fuel : Nat) (R : List Nat) (listed : Array Bool) (s : AS) (K : AS → Prop) (i : Nat) : Prop :=
  ∃ it, (ops[i]?).bind (lkI P ops) = some it ∧ (tgtB Z (it.k.target s) = true ∨ (R.any fun r => !ancB .any ops ops.size i r) = false) ∧
    ∃ K' : AS → Prop, apl P B.N [it] s K' ∧ ∀ s', K' s' → AG P B ops Z fuel (R.filter fun r => !ancB .any ops ops.size i r) (listed.setIfInBounds i true) s' K
theorem agi {fuel : Nat} {R : List Nat} {listed : Array Bool} {i : Nat} {it : It} {R' : List Nat} (hi : (ops[i]?).bind (lkI P ops) = some it) (hst : (tgtB Z (it.k.target s) = true ∨ (R.any fun r => !ancB .any ops ops.size i r) = false)) (hR : (R.filter fun r => !ancB .any ops ops.size i r) = R')
    (h : ∀ K' : AS → Prop, (∀ s', AG P B ops Z fuel R' (listed.setIfInBounds i true) s' K → K' s') → apl P B.N [it] s K') : AGi P B ops Z fuel R listed s K i := by
  subst hR
  exact ⟨it, hi, hst, _, h _ (fun _ h => h), fun _ h => h⟩
theorem ag_fork {fuel : Nat} {R : List Nat} {listed : Array Bool} (l : List Nat) (hr : Region.ready .any ops listed = l) (h0 : l ≠ []) (h : ∀ i ∈ l, AGi P B ops Z fuel R listed s K i) : AG P B ops Z (fuel + 1) R listed s K := fun a w F ε hx => by
  refine GE.stepL hr h0 fun i hi => ?_
  obtain ⟨it, hit, hst, K', hk, hK⟩ := h i hi
  cases ho : ops[i]? with
  | none => rw [ho] at hit; cases hit
  | some o =>
    rw [ho] at hit
    simp only [Option.bind_some] at hit
    refine ⟨o, rfl, item_sound hx hit hk fun s' a' w' F' ε' h1 h2 h3 => ?_⟩
    unfold wpList
    refine ⟨Same w' F' ε' (hideZ Z 0 s'.H), fun hany x hkx b hb => ?_, Same.refl, hK s' (by simpa only [apl] using h1) a' w' F' ε' h2⟩
    rcases hst with h4 | h4
    · rcases hb with hb | ⟨q, hb⟩
      · obtain ⟨g1, g2⟩ := h3.fr b hb
        exact (hkx b (.inl g1)).trans g2
      · obtain ⟨g1, g2⟩ := hide_ob hb
        obtain ⟨g3, g4⟩ := h3.ob q b (fun e => by rw [e] at h4; simp only [tgtB] at h4; rw [h4] at g2; cases g2) g1
        exact (hkx b (.inr ⟨q, hide_of g3 g2⟩)).trans g4
    · rw [h4] at hany; cases hany
theorem ag_one {fuel : Nat} {R : List Nat} {listed : Array Bool} {i : Nat} (hr : Region.ready .any ops listed = [i]) (h : AGi P B ops Z fuel R listed s K i) : AG P B ops Z (fuel + 1) R listed s K :=
  ag_fork [i] hr (by simp) (fun j hj => by simp at hj; subst hj; exact h)
theorem ag_two {fuel : Nat} {R : List Nat} {listed : Array Bool} {i j : Nat} (hr : Region.ready .any ops listed = [i, j]) (h : AGi P B ops Z fuel R listed s K i) (h' : AGi P B ops Z fuel R listed s K j) : AG P B ops Z (fuel + 1) R listed s K :=
  ag_fork [i, j] hr (by simp) (fun k hk => by
    simp at hk
    rcases hk with rfl | rfl
    · exact h
    · exact h')
theorem ag_three {fuel : Nat} {R : List Nat} {listed : Array Bool} {i j k : Nat} (hr : Region.ready .any ops listed = [i, j, k]) (h : AGi P B ops Z fuel R listed s K i) (h' : AGi P B ops Z fuel R listed s K j) (h'' : AGi P B ops Z fuel R listed s K k) : AG P B ops Z (fuel + 1) R listed s K :=
  ag_fork [i, j, k] hr (by simp) (fun x hx => by
    simp at hx
    rcases hx with rfl | rfl | rfl
    · exact h
    · exact h'
    · exact h'')
theorem ag_pures {fuel n : Nat} {R : List Nat} {listed : Array Bool} {T : Tm} {H H' : List AObj} (is : List Nat) (l : List It) (hn : fuel + is.length = n) (hl : is.map (fun i => (ops[i]?).bind (lkI P ops)) = l.map some) (hp : (l.all fun i => i.k.pure) = true) (ht : takes ops is listed = true) (hH : hideZ Z 0 H = H')
    (h : ∀ K' : AS → Prop, (∀ T', AG P B ops Z fuel (is.reverse ++ R) (seen listed is) ⟨T', H⟩ K → K' ⟨T', H'⟩) → apl P B.N l ⟨T, H'⟩ K') : AG P B ops Z n R listed ⟨T, H⟩ K := by
  subst hn
  subst hH
  exact ag_pure (K' := fun s' => AG P B ops Z fuel (is.reverse ++ R) (seen listed is) ⟨s'.T, H⟩ K) is l R listed T hl hp ht (h (fun s' => AG P B ops Z fuel (is.reverse ++ R) (seen listed is) ⟨s'.T, H⟩ K) (fun _ h => h)) (fun T' h => h)
theorem at_draws {id : Nat} (Z : List Nat) (hm : P.follows .mixedOrders = true) (h : AG P B ops Z ops.size [] (Array.replicate ops.size false) s (Q .normal)) : AT P B (.region id ops true) s Q := fun a w hs => by
  obtain ⟨F, ε, hx⟩ := hs
  have hk : Kept Nob w w.drew := Kept.drew (Kept.refl _ _)
  have hx' := hx.more hk (fun _ h => h) (fun _ h => .inl h) (fun b hb => hx.sim.old b hb)
  refine Code.wp_mono (Q := Exit.then (fun a w => ∃ s', Q .normal s' ∧ Sat B s' a w) noExit) (fun e a w he => ?_) (region_E ops.size (Same w.drew F ε (hideZ Z 0 s.H)) hm rfl Same.refl fun _ => h a w.drew F ε hx')
  cases e <;> first | exact he | exact he.elim
end
end Go.Proofs.Ytcghjnegaiiieaa
namespace Go.Proofs.Ytcghjnegaiiieaa
open Go Go.RowKit
theorem av1 : type_of% (And.intro @apl.eq_1 (And.intro @apl.eq_2 (And.intro @apl.eq_3 (And.intro @apl.eq_4 (And.intro @apl.eq_5 (And.intro @apl.eq_6 (And.intro @apl.eq_7 (And.intro @AS.put.eq_1 (And.intro @AS.put.eq_2 (And.intro @AS.ev.eq_1 (And.intro @AS.ev.eq_2 (And.intro @AS.ev.eq_3 (And.intro @AS.ev.eq_4 (And.intro @gv.eq_1 (And.intro @gv.eq_2 (And.intro @gOk.eq_1 (And.intro @gOk.eq_2 (And.intro @dOk.eq_1 (And.intro @dOk.eq_2 (And.intro @look.eq_1 (And.intro @look.eq_2 (And.intro @PK.uses.eq_1 (And.intro @PK.uses.eq_2 (And.intro @PK.uses.eq_3 (And.intro @PK.uses.eq_4 (And.intro @PK.uses.eq_5 (And.intro @PK.uses.eq_6 (And.intro @PK.uses.eq_7 (And.intro @PK.uses.eq_8 (And.intro @PK.uses.eq_9 (And.intro @PK.uses.eq_10 (And.intro @PK.uses.eq_11 (And.intro @PK.uses.eq_12 (And.intro @PK.uses.eq_13 (And.intro @PK.uses.eq_14 (And.intro @PK.uses.eq_15 (And.intro @PK.uses.eq_16 (And.intro @PK.uses.eq_17 (And.intro @PK.uses.eq_18 (And.intro @PK.uses.eq_19 (And.intro @PK.uses.eq_20 (And.intro @PK.uses.eq_21 (And.intro @PK.uses.eq_22 (And.intro @PK.uses.eq_23 (And.intro @PK.uses.eq_24 (And.intro @PK.uses.eq_25 (And.intro @PK.uses.eq_26 (And.intro @PK.uses.eq_27 (And.intro @PK.uses.eq_28 (And.intro @List.all_cons.{0} (And.intro @List.all_nil.{0} (And.intro @Bool.and_true (And.intro @Bool.true_and (And.intro @Bool.and_self (And.intro @AV.sizes.eq_1 (And.intro @AV.sizes.eq_2 (And.intro @CV.sizes.eq_1 (And.intro @CV.sizes.eq_2 (And.intro @CV.size.eq_1 (And.intro @CV.size.eq_2 (And.intro @CV.size.eq_3 (And.intro @CV.size.eq_4 (And.intro @List.getElem?_cons_zero.{0} (And.intro @List.getElem?_cons_succ.{0} (And.intro @List.take_zero.{0} (And.intro @List.take_succ_cons.{0} (And.intro @List.take_nil.{0} (And.intro @List.getD_cons_zero.{0} (And.intro @List.getD_cons_succ.{0} (And.intro @AV.boolOf.eq_1 (And.intro @Option.getD_some.{0} (And.intro @Option.getD_none.{0} (And.intro @binV.eq_1 (And.intro @binV.eq_2 (And.intro @binV.eq_3 (And.intro @binV.eq_4 (And.intro @binV.eq_5 (And.intro @binV.eq_6 (And.intro @binV.eq_7 (And.intro @binV.eq_8 (And.intro @binV.eq_9 (And.intro @binV.eq_10 (And.intro @binV.eq_11 (And.intro @binV.eq_12 (And.intro @binV.eq_13 (And.intro @binV.eq_14 (And.intro @binV.eq_15 (And.intro @binV.eq_16 (And.intro @binV.eq_17 (And.intro @bb.eq_1 (And.intro @bi.eq_1 (And.intro @AV.lenV.eq_1 (And.intro @AV.natOf.eq_1 (And.intro @AV.upTo.eq_1 (And.intro @AV.under.eq_1 (And.intro @loOf.eq_1 (And.intro @loOf.eq_2 (And.intro @hiOf.eq_1 (And.intro @hiOf.eq_2 @cutOk.eq_1))))))))))))))))))))))))))))))))))))))))))))))))))))))))))))))))))))))))))))))))))))))))))))))))))) := (And.intro @apl.eq_1 (And.intro @apl.eq_2 (And.intro @apl.eq_3 (And.intro @apl.eq_4 (And.intro @apl.eq_5 (And.intro @apl.eq_6 (And.intro @apl.eq_7 (And.intro @AS.put.eq_1 (And.intro @AS.put.eq_2 (And.intro @AS.ev.eq_1 (And.intro @AS.ev.eq_2 (And.intro @AS.ev.eq_3 (And.intro @AS.ev.eq_4 (And.intro @gv.eq_1 (And.intro @gv.eq_2 (And.intro @gOk.eq_1 (And.intro @gOk.eq_2 (And.intro @dOk.eq_1 (And.intro @dOk.eq_2 (And.intro @look.eq_1 (And.intro @look.eq_2 (And.intro @PK.uses.eq_1 (And.intro @PK.uses.eq_2 (And.intro @PK.uses.eq_3 (And.intro @PK.uses.eq_4 (And.intro @PK.uses.eq_5 (And.intro @PK.uses.eq_6 (And.intro @PK.uses.eq_7 (And.intro @PK.uses.eq_8 (And.intro @PK.uses.eq_9 (And.intro @PK.uses.eq_10 (And.intro @PK.uses.eq_11 (And.intro @PK.uses.eq_12 (And.intro @PK.uses.eq_13 (And.intro @PK.uses.eq_14 (And.intro @PK.uses.eq_15 (And.intro @PK.uses.eq_16 (And.intro @PK.uses.eq_17 (And.intro @PK.uses.eq_18 (And.intro @PK.uses.eq_19 (And.intro @PK.uses.eq_20 (And.intro @PK.uses.eq_21 (And.intro @PK.uses.eq_22 (And.intro @PK.uses.eq_23 (And.intro @PK.uses.eq_24 (And.intro @PK.uses.eq_25 (And.intro @PK.uses.eq_26 (And.intro @PK.uses.eq_27 (And.intro @PK.uses.eq_28 (And.intro @List.all_cons.{0} (And.intro @List.all_nil.{0} (And.intro @Bool.and_true (And.intro @Bool.true_and (And.intro @Bool.and_self (And.intro @AV.sizes.eq_1 (And.intro @AV.sizes.eq_2 (And.intro @CV.sizes.eq_1 (And.intro @CV.sizes.eq_2 (And.intro @CV.size.eq_1 (And.intro @CV.size.eq_2 (And.intro @CV.size.eq_3 (And.intro @CV.size.eq_4 (And.intro @List.getElem?_cons_zero.{0} (And.intro @List.getElem?_cons_succ.{0} (And.intro @List.take_zero.{0} (And.intro @List.take_succ_cons.{0} (And.intro @List.take_nil.{0} (And.intro @List.getD_cons_zero.{0} (And.intro @List.getD_cons_succ.{0} (And.intro @AV.boolOf.eq_1 (And.intro @Option.getD_some.{0} (And.intro @Option.getD_none.{0} (And.intro @binV.eq_1 (And.intro @binV.eq_2 (And.intro @binV.eq_3 (And.intro @binV.eq_4 (And.intro @binV.eq_5 (And.intro @binV.eq_6 (And.intro @binV.eq_7 (And.intro @binV.eq_8 (And.intro @binV.eq_9 (And.intro @binV.eq_10 (And.intro @binV.eq_11 (And.intro @binV.eq_12 (And.intro @binV.eq_13 (And.intro @binV.eq_14 (And.intro @binV.eq_15 (And.intro @binV.eq_16 (And.intro @binV.eq_17 (And.intro @bb.eq_1 (And.intro @bi.eq_1 (And.intro @AV.lenV.eq_1 (And.intro @AV.natOf.eq_1 (And.intro @AV.upTo.eq_1 (And.intro @AV.under.eq_1 (And.intro @loOf.eq_1 (And.intro @loOf.eq_2 (And.intro @hiOf.eq_1 (And.intro @hiOf.eq_2 @cutOk.eq_1)))))))))))))))))))))))))))))))))))))))))))))))))))))))))))))))))))))))))))))))))))))))))))))))))))
theorem av2 : type_of% (And.intro @cutOk.eq_2 (And.intro @cutOk.eq_3 (And.intro @cutOk.eq_4 (And.intro @bldV.eq_1 (And.intro @bldV.eq_2 (And.intro @bldOk.eq_1 (And.intro @bldOk.eq_2 (And.intro @Sh.depth.eq_1 (And.intro @Sh.depth.eq_2 (And.intro @Sh.depth.eq_3 (And.intro @Sh.depth.eq_4 (And.intro @Sh.depth.eq_5 (And.intro @Sh.depth.eq_6 (And.intro @Sh.depths.eq_1 (And.intro @Sh.depths.eq_2 (And.intro @AV.closeds.eq_1 (And.intro @AV.closeds.eq_2 (And.intro @List.map_cons.{0, 0} (And.intro @List.map_nil.{0, 0} (And.intro @List.length_cons.{0} (And.intro @List.length_nil.{0} (And.intro @List.nil_append.{0} (And.intro @List.cons_append.{0} (And.intro @List.append_nil.{0} (And.intro @List.set_cons_zero.{0} (And.intro @List.set_cons_succ.{0} (And.intro @Value.oneCell'.eq_def (And.intro @if_true.{1} (And.intro @if_false.{1} (And.intro @ite_true.{1} (And.intro @ite_false.{1} (And.intro @and_true (And.intro @true_and (And.intro @and_self (And.intro @imp_self (And.intro @true_imp_iff (And.intro @exists_eq_left'.{1} (And.intro @exists_eq_left.{1} (And.intro @exists_eq'.{1} (And.intro @Option.some.injEq.{0} (And.intro @beq_self_eq_true.{0} (And.intro @Nat.add_zero (And.intro @Nat.zero_add (And.intro @Bool.not_not (And.intro @Bool.true_eq_false (And.intro @Bool.false_eq_true (And.intro @Bool.not_true (And.intro @Bool.not_false (And.intro @List.cons_ne_nil.{0} (And.intro @keepT.eq_1 (And.intro @keepT.eq_2 (And.intro @AV.lt.eq_1 (And.intro @AV.lt.eq_2 (And.intro @AV.lt.eq_3 (And.intro @AV.lt.eq_4 (And.intro @AV.lt.eq_5 (And.intro @AV.lt.eq_6 (And.intro @AV.lt.eq_7 (And.intro @AV.lt.eq_8 (And.intro @AV.lts.eq_1 (And.intro @AV.lts.eq_2 (And.intro @decide_true (And.intro @decide_false (And.intro @List.length_append.{0} (And.intro @List.contains_cons.{0} (And.intro @List.contains_nil.{0} (And.intro @List.filter_cons.{0} (And.intro @List.filter_nil.{0} (And.intro @Bool.or_false (And.intro @Bool.or_true (And.intro @Bool.false_or (And.intro @Bool.true_or (And.intro @bne_self_eq_false.{0} (And.intro @and_cond_f (And.intro @or_cond_t (And.intro @cond_same (And.intro @beq_true_b (And.intro @beq_false_b (And.intro @pick_f (And.intro @pick_t (And.intro @B0_N (And.intro @List.mem_cons.{0} (And.intro @List.not_mem_nil.{0} (And.intro @or_false (And.intro @forall_eq_or_imp.{1} (And.intro @forall_eq.{1} (And.intro @List.map_map.{0, 0, 0} (And.intro @List.length_map.{0, 0} (And.intro @List.length_replicate.{0} (And.intro @bool_xor_false (And.intro @bool_xor_true (And.intro @cast_one (And.intro @cast_zero (And.intro @Int.cast_ofNat_Int (And.intro @nf_imp_t (And.intro @fn_imp_t (And.intro @Int.toNat_natCast (And.intro @Int.toNat_zero (And.intro @Int.zero_le_ofNat @Int.natCast_nonneg))))))))))))))))))))))))))))))))))))))))))))))))))))))))))))))))))))))))))))))))))))))))))))))))))) := (And.intro @cutOk.eq_2 (And.intro @cutOk.eq_3 (And.intro @cutOk.eq_4 (And.intro @bldV.eq_1 (And.intro @bldV.eq_2 (And.intro @bldOk.eq_1 (And.intro @bldOk.eq_2 (And.intro @Sh.depth.eq_1 (And.intro @Sh.depth.eq_2 (And.intro @Sh.depth.eq_3 (And.intro @Sh.depth.eq_4 (And.intro @Sh.depth.eq_5 (And.intro @Sh.depth.eq_6 (And.intro @Sh.depths.eq_1 (And.intro @Sh.depths.eq_2 (And.intro @AV.closeds.eq_1 (And.intro @AV.closeds.eq_2 (And.intro @List.map_cons.{0, 0} (And.intro @List.map_nil.{0, 0} (And.intro @List.length_cons.{0} (And.intro @List.length_nil.{0} (And.intro @List.nil_append.{0} (And.intro @List.cons_append.{0} (And.intro @List.append_nil.{0} (And.intro @List.set_cons_zero.{0} (And.intro @List.set_cons_succ.{0} (And.intro @Value.oneCell'.eq_def (And.intro @if_true.{1} (And.intro @if_false.{1} (And.intro @ite_true.{1} (And.intro @ite_false.{1} (And.intro @and_true (And.intro @true_and (And.intro @and_self (And.intro @imp_self (And.intro @true_imp_iff (And.intro @exists_eq_left'.{1} (And.intro @exists_eq_left.{1} (And.intro @exists_eq'.{1} (And.intro @Option.some.injEq.{0} (And.intro @beq_self_eq_true.{0} (And.intro @Nat.add_zero (And.intro @Nat.zero_add (And.intro @Bool.not_not (And.intro @Bool.true_eq_false (And.intro @Bool.false_eq_true (And.intro @Bool.not_true (And.intro @Bool.not_false (And.intro @List.cons_ne_nil.{0} (And.intro @keepT.eq_1 (And.intro @keepT.eq_2 (And.intro @AV.lt.eq_1 (And.intro @AV.lt.eq_2 (And.intro @AV.lt.eq_3 (And.intro @AV.lt.eq_4 (And.intro @AV.lt.eq_5 (And.intro @AV.lt.eq_6 (And.intro @AV.lt.eq_7 (And.intro @AV.lt.eq_8 (And.intro @AV.lts.eq_1 (And.intro @AV.lts.eq_2 (And.intro @decide_true (And.intro @decide_false (And.intro @List.length_append.{0} (And.intro @List.contains_cons.{0} (And.intro @List.contains_nil.{0} (And.intro @List.filter_cons.{0} (And.intro @List.filter_nil.{0} (And.intro @Bool.or_false (And.intro @Bool.or_true (And.intro @Bool.false_or (And.intro @Bool.true_or (And.intro @bne_self_eq_false.{0} (And.intro @and_cond_f (And.intro @or_cond_t (And.intro @cond_same (And.intro @beq_true_b (And.intro @beq_false_b (And.intro @pick_f (And.intro @pick_t (And.intro @B0_N (And.intro @List.mem_cons.{0} (And.intro @List.not_mem_nil.{0} (And.intro @or_false (And.intro @forall_eq_or_imp.{1} (And.intro @forall_eq.{1} (And.intro @List.map_map.{0, 0, 0} (And.intro @List.length_map.{0, 0} (And.intro @List.length_replicate.{0} (And.intro @bool_xor_false (And.intro @bool_xor_true (And.intro @cast_one (And.intro @cast_zero (And.intro @Int.cast_ofNat_Int (And.intro @nf_imp_t (And.intro @fn_imp_t (And.intro @Int.toNat_natCast (And.intro @Int.toNat_zero (And.intro @Int.zero_le_ofNat @Int.natCast_nonneg)))))))))))))))))))))))))))))))))))))))))))))))))))))))))))))))))))))))))))))))))))))))))))))))))))
theorem av3 : type_of% (And.intro @cond_true.{1} (And.intro @cond_false.{1} (And.intro @Bool.and_false (And.intro @Bool.false_and (And.intro @int_ofNat_lt (And.intro @int_ofNat_le (And.intro @lits_le (And.intro @lits_lt @List.forall_mem_cons_av)))))))) := (And.intro @cond_true.{1} (And.intro @cond_false.{1} (And.intro @Bool.and_false (And.intro @Bool.false_and (And.intro @int_ofNat_lt (And.intro @int_ofNat_le (And.intro @lits_le (And.intro @lits_lt @List.forall_mem_cons_av))))))))
theorem av4 :
    (∀ (s : AS) (t : Nat), s.gd (.tmp t) = (look s.T t).1) ∧
    (∀ (s : AS) (v : Value), s.gd (.const v) = true) ∧
    (∀ (s : AS) (f : FuncId), s.gd (.func f) = true) ∧
    (∀ (ev : Operand → AV) (g : Operand → Prop) x0, PK.more ev g (.mov x0) = True) ∧
    (∀ (ev : Operand → AV) (g : Operand → Prop) x0 x1 x2, PK.more ev g (.fAddr x0 x1 x2) = True) ∧
    (∀ (ev : Operand → AV) (g : Operand → Prop) x0 x1 x2 x3 x4, PK.more ev g (.fld x0 x1 x2 x3 x4) = True) ∧
    (∀ (ev : Operand → AV) (g : Operand → Prop) x0 x1 x2, PK.more ev g (.iAddrS x0 x1 x2) = True) ∧
    (∀ (ev : Operand → AV) (g : Operand → Prop) x0 x1 x2 x3, PK.more ev g (.iAddrA x0 x1 x2 x3) = True) ∧
    (∀ (ev : Operand → AV) (g : Operand → Prop) x0 x1 x2 x3 x4, PK.more ev g (.idxA x0 x1 x2 x3 x4) = True) ∧
    (∀ (ev : Operand → AV) (g : Operand → Prop) x0 x1 x2, PK.more ev g (.load x0 x1 x2) = True) ∧
    (∀ (ev : Operand → AV) (g : Operand → Prop) x0 x1 x2, PK.more ev g (.bin x0 x1 x2) = True) ∧
    (∀ (ev : Operand → AV) (g : Operand → Prop) x0, PK.more ev g (.not x0) = True) ∧
    (∀ (ev : Operand → AV) (g : Operand → Prop) x0, PK.more ev g (.neg x0) = True) ∧
    (∀ (ev : Operand → AV) (g : Operand → Prop) x0 x1, PK.more ev g (.cvt x0 x1) = True) ∧
    (∀ (ev : Operand → AV) (g : Operand → Prop) x0 x1, PK.more ev g (.ext x0 x1) = True) ∧
    (∀ (ev : Operand → AV) (g : Operand → Prop) x0 x1, PK.more ev g (.len x0 x1) = True) ∧
    (∀ (ev : Operand → AV) (g : Operand → Prop) x0 x1, PK.more ev g (.mx x0 x1) = True) ∧
    (∀ (ev : Operand → AV) (g : Operand → Prop) x0 x1, PK.more ev g (.mn x0 x1) = True) ∧
    (∀ (ev : Operand → AV) (g : Operand → Prop) x0 x1 x2 x3, PK.more ev g (.slc x0 x1 x2 x3) = True) ∧
    (∀ (ev : Operand → AV) (g : Operand → Prop) x0 x1 x2, PK.more ev g (.mkf x0 x1 x2) = True) ∧
    (∀ (ev : Operand → AV) (g : Operand → Prop) x0, PK.more ev g (.nilc x0) = True) ∧
    (∀ (ev : Operand → AV) (g : Operand → Prop) x0, PK.more ev g (.str x0) = True) ∧
    (∀ (ev : Operand → AV) (g : Operand → Prop) x0 x1 x2, PK.more ev g (.strEq x0 x1 x2) = True) ∧
    (∀ (ev : Operand → AV) (g : Operand → Prop) x0 x1 x2 x3 x4, PK.more ev g (.eqA x0 x1 x2 x3 x4) = True) ∧
    (∀ (ev : Operand → AV) (g : Operand → Prop) x0 x1 x2 x3, PK.more ev g (.eqNil x0 x1 x2 x3) = True) ∧
    (∀ (ev : Operand → AV) (g : Operand → Prop) x0 x1 x2, PK.more ev g (.bld x0 x1 x2) = True) ∧
    (∀ (ev : Operand → AV) (g : Operand → Prop) x0 x1 x2 x3 x4, PK.more ev g (.slcA x0 x1 x2 x3 x4) = True) ∧
    (∀ (ev : Operand → AV) (g : Operand → Prop) x0 x1 x2, PK.more ev g (.slcT x0 x1 x2) = True) ∧
    (∀ (ev : Operand → AV) (g : Operand → Prop) x0 x1, PK.more ev g (.idxT x0 x1) = True) ∧
    (∀ (ev : Operand → AV) (g : Operand → Prop) x0 x1 x2, PK.more ev g (.eqB x0 x1 x2) = True) ∧
    (∀ (ev : Operand → AV) (g : Operand → Prop) c x y, PK.more ev g (.pick c x y) = (((ev c).boolOf = true → g x) ∧ ((ev c).boolOf = false → g y))) ∧
    (∀ x, AV.size (.c x) = x.size) ∧
    (∀ l, AV.size (.st l) = AV.sizes l) ∧
    (∀ q, AV.size (.os q) = 1) ∧
    (∀ q p o, AV.size (.ptr q p o) = 1) ∧
    (∀ x, AV.size (.fp x) = 1) ∧
    (∀ f l m, AV.size (.fn f l m) = 1) ∧
    (∀ l, AV.size (.tup l) = 1) ∧
    (∀ n, AV.size (.junk n) = n) ∧
    (∀ x, AV.agg (.c x) = x.agg) ∧
    (∀ l, AV.agg (.st l) = true) ∧
    (∀ q, AV.agg (.os q) = false) ∧
    (∀ q p o, AV.agg (.ptr q p o) = false) ∧
    (∀ x, AV.agg (.fp x) = false) ∧
    (∀ f l m, AV.agg (.fn f l m) = false) ∧
    (∀ l, AV.agg (.tup l) = false) ∧
    (∀ n, AV.agg (.junk n) = false) ∧
    (∀ x, AV.solid (.c x) = true) ∧
    (∀ l, AV.solid (.st l) = true) ∧
    (∀ q, AV.solid (.os q) = true) ∧
    (∀ q p o, AV.solid (.ptr q p o) = true) ∧
    (∀ x, AV.solid (.fp x) = true) ∧
    (∀ f l m, AV.solid (.fn f l m) = true) ∧
    (∀ l, AV.solid (.tup l) = false) ∧
    (∀ n, AV.solid (.junk n) = false) ∧
    (∀ v, CV.agg (.pv v) = false) ∧
    (∀ k n xs, CV.agg (.ar k n xs) = true) ∧
    (∀ l, CV.agg (.st l) = true) ∧
    (∀ n l, CV.agg (.sl n l) = false) ∧
    (∀ k n, AV.int? (.c (.pv (.int k n))) = some (k, n)) ∧
    (∀ b, AV.bool? (.c (.pv (.bool b))) = some b) ∧
    (∀ k k' y, binOk .add k k' y = (k = k')) ∧
    (∀ k k' y, binOk .sub k k' y = (k = k')) ∧
    (∀ k k' y, binOk .mul k k' y = (k = k')) ∧
    (∀ k k' y, binOk .and k k' y = (k = k')) ∧
    (∀ k k' y, binOk .or k k' y = (k = k')) ∧
    (∀ k k' y, binOk .xor k k' y = (k = k')) ∧
    (∀ k k' y, binOk .andNot k k' y = (k = k')) ∧
    (∀ k k' y, binOk .eql k k' y = (k = k')) ∧
    (∀ k k' y, binOk .neq k k' y = (k = k')) ∧
    (∀ k k' y, binOk .lss k k' y = (k = k')) ∧
    (∀ k k' y, binOk .leq k k' y = (k = k')) ∧
    (∀ k k' y, binOk .gtr k k' y = (k = k')) ∧
    (∀ k k' y, binOk .geq k k' y = (k = k')) ∧
    (∀ k k' y, binOk .shl k k' y = (0 ≤ y)) ∧
    (∀ k k' y, binOk .shr k k' y = (0 ≤ y)) ∧
    (∀ k k' y, binOk .quo k k' y = (k = k' ∧ y ≠ 0)) ∧
    (∀ k k' y, binOk .rem k k' y = (k = k' ∧ y ≠ 0)) ∧
    (∀ H sz es, AV.els H (.c (.sl sz es)) = some (sz, es)) ∧
    (∀ H q, AV.els H (.os q) = (match H[q]? with | some (.row _ sz es) => some (sz, es) | _ => none)) ∧
    (∀ H, AV.els H (.c (.pv (.slice none 0 0))) = some (0, [])) ∧
    (∀ n, CV.isByte (.pv (.int .u8 n)) = True) ∧
    (Sh.agg .i = false) ∧
    (Sh.agg .b = false) ∧
    (Sh.agg .s = false) ∧
    (∀ k n, Sh.agg (.a k n) = true) ∧
    (∀ l, Sh.agg (.st l) = true) ∧
    (∀ n e, Sh.agg (.ar n e) = true) ∧
    (∀ k a k' b, Sh.fits .i (.pv (.int k a)) (.pv (.int k' b)) = (k = k')) ∧
    (∀ a b, Sh.fits .b (.pv (.bool a)) (.pv (.bool b)) = True) ∧
    (∀ a b, Sh.fits .s (.pv (.string a)) (.pv (.string b)) = True) ∧
    (∀ kk n k m xs k' m' ys, Sh.fits (.a kk n) (.ar k m xs) (.ar k' m' ys) = (m = n ∧ m' = n ∧ k = kk ∧ k' = kk)) ∧
    (∀ l fs gs, Sh.fits (.st l) (.st fs) (.st gs) = Sh.fitsL l fs gs) ∧
    (∀ n e fs gs, Sh.fits (.ar n e) (.st fs) (.st gs) = (fs.length = n ∧ gs.length = n ∧ Sh.fitsR e fs gs)) ∧
    (Sh.fitsL [] [] [] = True) ∧
    (∀ h l x fs y gs, Sh.fitsL (h :: l) (x :: fs) (y :: gs) = (h.fits x y ∧ Sh.fitsL l fs gs)) ∧
    (∀ e, Sh.fitsR e [] [] = True) ∧
    (∀ e x fs y gs, Sh.fitsR e (x :: fs) (y :: gs) = (e.fits x y ∧ Sh.fitsR e fs gs)) ∧
    (∀ k a k' b, CV.eqv (.pv (.int k a)) (.pv (.int k' b)) = (a == b)) ∧
    (∀ a b, CV.eqv (.pv (.bool a)) (.pv (.bool b)) = (a == b)) ∧
    (∀ a b, CV.eqv (.pv (.string a)) (.pv (.string b)) = (a.toList == b.toList)) ∧
    (∀ k n xs k' n' ys, CV.eqv (.ar k n xs) (.ar k' n' ys) = (xs == ys)) ∧
    (∀ fs gs, CV.eqv (.st fs) (.st gs) = CV.eqvs fs gs) ∧
    (CV.eqvs [] [] = true) ∧
    (∀ x fs y gs, CV.eqvs (x :: fs) (y :: gs) = (x.eqv y && CV.eqvs fs gs)) ∧
    (∀ x, AV.closed (.c x) = some x) ∧
    (∀ l, AV.closed (.st l) = (match AV.closeds l with | some l => some (.st l) | none => none)) ∧
    (∀ x, rsAV [x] = .c x) ∧
    (rsAV [] = .tup []) ∧
    (∀ x y l, rsAV (x :: y :: l) = .tup ((x :: y :: l).map .c)) ∧
    (∀ n x, AObj.lt n (.cell x) = x.lt n) ∧
    (∀ n, AObj.lt n .gone = true) ∧
    (∀ n e k l, AObj.lt n (.row e k l) = true) ∧
    (∀ k n, CV.numOf (.pv (.int k n)) = n) ∧
    (∀ x p, AV.get (.c x) p = .c (x.get p)) ∧
    (∀ x, AV.get x [] = x) ∧
    (∀ l i p, AV.get (.st l) (i :: p) = (match l[i]? with | some a => a.get p | none => .junk 0)) ∧
    (∀ x p, AV.ok (.c x) p = x.ok p) ∧
    (∀ x, AV.ok x [] = True) ∧
    (∀ l i p, AV.ok (.st l) (i :: p) = (match l[i]? with | some a => a.ok p | none => False)) ∧
    (∀ x p, AV.off (.c x) p = x.off p) ∧
    (∀ x, AV.off x [] = 0) ∧
    (∀ l i p, AV.off (.st l) (i :: p) = AV.sizes (l.take i) + (match l[i]? with | some a => a.off p | none => 0)) ∧
    (∀ x y, AV.set x [] y = y) ∧
    (∀ x p y, AV.set (.c x) p (.c y) = .c (x.set p y)) ∧
    (∀ l i p l', AV.set (.c (.st l)) (i :: p) (.st l') = (match l[i]? with | some a => .st ((l.map AV.c).set i (AV.set (.c a) p (.st l'))) | none => .c (.st l))) ∧
    (∀ l i p q', AV.set (.c (.st l)) (i :: p) (.os q') = (match l[i]? with | some a => .st ((l.map AV.c).set i (AV.set (.c a) p (.os q'))) | none => .c (.st l))) ∧
    (∀ l i p q' p' o', AV.set (.c (.st l)) (i :: p) (.ptr q' p' o') = (match l[i]? with | some a => .st ((l.map AV.c).set i (AV.set (.c a) p (.ptr q' p' o'))) | none => .c (.st l))) ∧
    (∀ l i p x', AV.set (.c (.st l)) (i :: p) (.fp x') = (match l[i]? with | some a => .st ((l.map AV.c).set i (AV.set (.c a) p (.fp x'))) | none => .c (.st l))) ∧
    (∀ l i p f' l' m', AV.set (.c (.st l)) (i :: p) (.fn f' l' m') = (match l[i]? with | some a => .st ((l.map AV.c).set i (AV.set (.c a) p (.fn f' l' m'))) | none => .c (.st l))) ∧
    (∀ l i p l', AV.set (.c (.st l)) (i :: p) (.tup l') = (match l[i]? with | some a => .st ((l.map AV.c).set i (AV.set (.c a) p (.tup l'))) | none => .c (.st l))) ∧
    (∀ l i p n', AV.set (.c (.st l)) (i :: p) (.junk n') = (match l[i]? with | some a => .st ((l.map AV.c).set i (AV.set (.c a) p (.junk n'))) | none => .c (.st l))) ∧
    (∀ l i p y, AV.set (.st l) (i :: p) y = (match l[i]? with | some a => .st (l.set i (AV.set a p y)) | none => .st l)) ∧
    (∀ x y, AV.fits x [] y = True) ∧
    (∀ x p y, AV.fits (.c x) p (.c y) = x.fits p y) ∧
    (∀ l i p l', AV.fits (.c (.st l)) (i :: p) (.st l') = (match l[i]? with | some a => AV.fits (.c a) p (.st l') | none => False)) ∧
    (∀ l i p q', AV.fits (.c (.st l)) (i :: p) (.os q') = (match l[i]? with | some a => AV.fits (.c a) p (.os q') | none => False)) ∧
    (∀ l i p q' p' o', AV.fits (.c (.st l)) (i :: p) (.ptr q' p' o') = (match l[i]? with | some a => AV.fits (.c a) p (.ptr q' p' o') | none => False)) ∧
    (∀ l i p x', AV.fits (.c (.st l)) (i :: p) (.fp x') = (match l[i]? with | some a => AV.fits (.c a) p (.fp x') | none => False)) ∧
    (∀ l i p f' l' m', AV.fits (.c (.st l)) (i :: p) (.fn f' l' m') = (match l[i]? with | some a => AV.fits (.c a) p (.fn f' l' m') | none => False)) ∧
    (∀ l i p l', AV.fits (.c (.st l)) (i :: p) (.tup l') = (match l[i]? with | some a => AV.fits (.c a) p (.tup l') | none => False)) ∧
    (∀ l i p n', AV.fits (.c (.st l)) (i :: p) (.junk n') = (match l[i]? with | some a => AV.fits (.c a) p (.junk n') | none => False)) ∧
    (∀ l i p y, AV.fits (.st l) (i :: p) y = (match l[i]? with | some a => AV.fits a p y | none => False)) ∧
    (∀ x, CV.get x [] = x) ∧
    (∀ l i p, CV.get (.st l) (i :: p) = (match l[i]? with | some a => a.get p | none => .st [])) ∧
    (∀ k n xs i, CV.get (.ar k n xs) [i] = .pv (.int k (xs.getD i 0))) ∧
    (∀ x, CV.ok x [] = True) ∧
    (∀ l i p, CV.ok (.st l) (i :: p) = (match l[i]? with | some a => a.ok p | none => False)) ∧
    (∀ k n xs i, CV.ok (.ar k n xs) [i] = (i < n)) ∧
    (∀ x, CV.off x [] = 0) ∧
    (∀ l i p, CV.off (.st l) (i :: p) = CV.sizes (l.take i) + (match l[i]? with | some a => a.off p | none => 0)) ∧
    (∀ k n xs i p, CV.off (.ar k n xs) (i :: p) = i) ∧
    (∀ x y, CV.set x [] y = y) ∧
    (∀ l i p y, CV.set (.st l) (i :: p) y = (match l[i]? with | some a => .st (l.set i (CV.set a p y)) | none => .st l)) ∧
    (∀ k n xs i y, CV.set (.ar k n xs) [i] y = .ar k n (xs.set i y.numOf)) ∧
    (∀ x y, CV.fits x [] y = True) ∧
    (∀ l i p y, CV.fits (.st l) (i :: p) y = (match l[i]? with | some a => CV.fits a p y | none => False)) ∧
    (∀ k n xs i k' m, CV.fits (.ar k n xs) [i] (.pv (.int k' m)) = (k' = k)) :=
  ⟨fun _ _ => rfl, fun _ _ => rfl, fun _ _ => rfl, fun _ _ _ => rfl, fun _ _ _ _ _ => rfl, fun _ _ _ _ _ _ _ => rfl, fun _ _ _ _ _ => rfl, fun _ _ _ _ _ _ => rfl, fun _ _ _ _ _ _ _ => rfl, fun _ _ _ _ _ => rfl, fun _ _ _ _ _ => rfl, fun _ _ _ => rfl, fun _ _ _ => rfl, fun _ _ _ _ => rfl, fun _ _ _ _ => rfl, fun _ _ _ _ => rfl, fun _ _ _ _ => rfl, fun _ _ _ _ => rfl, fun _ _ _ _ _ _ => rfl, fun _ _ _ _ _ => rfl, fun _ _ _ => rfl, fun _ _ _ => rfl, fun _ _ _ _ _ => rfl, fun _ _ _ _ _ _ _ => rfl, fun _ _ _ _ _ _ => rfl, fun _ _ _ _ _ => rfl, fun _ _ _ _ _ _ _ => rfl, fun _ _ _ _ _ => rfl, fun _ _ _ _ => rfl, fun _ _ _ _ _ => rfl, fun _ _ _ _ _ => rfl, fun _ => by rw [AV.size], fun _ => by rw [AV.size], fun _ => by rw [AV.size] <;> (intros; simp_all), fun _ _ _ => by rw [AV.size] <;> (intros; simp_all), fun _ => by rw [AV.size] <;> (intros; simp_all), fun _ _ _ => by rw [AV.size] <;> (intros; simp_all), fun _ => by rw [AV.size] <;> (intros; simp_all), fun _ => by rw [AV.size], fun _ => rfl, fun _ => rfl, fun _ => rfl, fun _ _ _ => rfl, fun _ => rfl, fun _ _ _ => rfl, fun _ => rfl, fun _ => rfl, fun _ => rfl, fun _ => rfl, fun _ => rfl, fun _ _ _ => rfl, fun _ => rfl, fun _ _ _ => rfl, fun _ => rfl, fun _ => rfl, fun _ => rfl, fun _ _ _ => rfl, fun _ => rfl, fun _ _ => rfl, fun _ _ => rfl, fun _ => rfl, fun _ _ _ => rfl, fun _ _ _ => rfl, fun _ _ _ => rfl, fun _ _ _ => rfl, fun _ _ _ => rfl, fun _ _ _ => rfl, fun _ _ _ => rfl, fun _ _ _ => rfl, fun _ _ _ => rfl, fun _ _ _ => rfl, fun _ _ _ => rfl, fun _ _ _ => rfl, fun _ _ _ => rfl, fun _ _ _ => rfl, fun _ _ _ => rfl, fun _ _ _ => rfl, fun _ _ _ => rfl, fun _ _ _ => rfl, fun _ _ => rfl, fun _ => rfl, fun _ => rfl, rfl, rfl, rfl, fun _ _ => rfl, fun _ => rfl, fun _ _ => rfl, fun _ _ _ _ => by rw [Sh.fits], fun _ _ => by rw [Sh.fits], fun _ _ => by rw [Sh.fits], fun _ _ _ _ _ _ _ _ => by rw [Sh.fits], fun _ _ _ => by rw [Sh.fits], fun _ _ _ _ => by rw [Sh.fits], by rw [Sh.fitsL], fun _ _ _ _ _ _ => by rw [Sh.fitsL], fun _ => by rw [Sh.fitsR], fun _ _ _ _ _ => by rw [Sh.fitsR], fun _ _ _ _ => by rw [CV.eqv], fun _ _ => by rw [CV.eqv], fun _ _ => by rw [CV.eqv], fun _ _ _ _ _ _ => by rw [CV.eqv], fun _ _ => by rw [CV.eqv], by rw [CV.eqvs], fun _ _ _ _ => by rw [CV.eqvs], fun _ => by rw [AV.closed], fun _ => by rw [AV.closed] <;> rfl, fun _ => rfl, rfl, fun _ _ _ => rfl, fun _ _ => rfl, fun _ => rfl, fun _ _ _ _ => rfl, fun _ _ => rfl, fun _ _ => by rw [AV.get], AV.get_nil, fun _ _ _ => by rw [AV.get] <;> rfl, fun _ _ => by rw [AV.ok], fun x => by cases x <;> first | rfl | (rename_i y; cases y <;> rfl), fun _ _ _ => by rw [AV.ok] <;> rfl, fun _ _ => by rw [AV.off], fun x => by cases x <;> first | rfl | (rename_i y; cases y <;> rfl), fun _ _ _ => by rw [AV.off] <;> rfl, AV.set_nil, fun _ _ _ => by rw [AV.set], fun _ _ _ _ => by rw [AV.set] <;> first | rfl | (intros; simp_all), fun _ _ _ _ => by rw [AV.set] <;> first | rfl | (intros; simp_all), fun _ _ _ _ _ _ => by rw [AV.set] <;> first | rfl | (intros; simp_all), fun _ _ _ _ => by rw [AV.set] <;> first | rfl | (intros; simp_all), fun _ _ _ _ _ _ => by rw [AV.set] <;> first | rfl | (intros; simp_all), fun _ _ _ _ => by rw [AV.set] <;> first | rfl | (intros; simp_all), fun _ _ _ _ => by rw [AV.set] <;> first | rfl | (intros; simp_all), fun _ _ _ _ => by rw [AV.set] <;> rfl, fun x y => by cases x <;> cases y <;> simp [AV.fits, CV.fits] <;> (rename_i z _; cases z <;> simp [CV.fits]), fun _ _ _ => by rw [AV.fits], fun _ _ _ _ => by rw [AV.fits] <;> first | rfl | (intros; simp_all), fun _ _ _ _ => by rw [AV.fits] <;> first | rfl | (intros; simp_all), fun _ _ _ _ _ _ => by rw [AV.fits] <;> first | rfl | (intros; simp_all), fun _ _ _ _ => by rw [AV.fits] <;> first | rfl | (intros; simp_all), fun _ _ _ _ _ _ => by rw [AV.fits] <;> first | rfl | (intros; simp_all), fun _ _ _ _ => by rw [AV.fits] <;> first | rfl | (intros; simp_all), fun _ _ _ _ => by rw [AV.fits] <;> first | rfl | (intros; simp_all), fun _ _ _ _ => by rw [AV.fits] <;> rfl, fun x => by cases x <;> rfl, fun _ _ _ => by rw [CV.get] <;> rfl, fun _ _ _ _ => by rw [CV.get], fun x => by cases x <;> rfl, fun _ _ _ => by rw [CV.ok] <;> rfl, fun _ _ _ _ => by rw [CV.ok], fun x => by cases x <;> rfl, fun _ _ _ => by rw [CV.off] <;> rfl, fun _ _ _ _ _ => by rw [CV.off], fun x y => by cases x <;> rfl, fun _ _ _ _ => by rw [CV.set] <;> rfl, fun _ _ _ _ _ => by rw [CV.set], fun x y => by cases x <;> simp [CV.fits], fun _ _ _ _ => by rw [CV.fits] <;> rfl, fun _ _ _ _ _ _ => by rw [CV.fits]⟩
theorem dB2 : type_of% (And.intro @dB (And.intro @int_ofNat_lt (And.intro @int_ofNat_le (And.intro @beq_iff_eq.{0} (And.intro @bne_iff_ne.{0} (And.intro @ne_eq.{1} (And.intro @gt_iff_lt.{0} (And.intro @ge_iff_le.{0} (And.intro @Bool.not_eq_true (And.intro @beq_eq_false_iff_ne.{0} @bne_eq_false_iff_eq.{0})))))))))) := (And.intro @dB (And.intro @int_ofNat_lt (And.intro @int_ofNat_le (And.intro @beq_iff_eq.{0} (And.intro @bne_iff_ne.{0} (And.intro @ne_eq.{1} (And.intro @gt_iff_lt.{0} (And.intro @ge_iff_le.{0} (And.intro @Bool.not_eq_true (And.intro @beq_eq_false_iff_ne.{0} @bne_eq_false_iff_eq.{0}))))))))))
end Go.Proofs.Ytcghjnegaiiieaa
namespace Go.Proofs.Ytcghjnegaiiieaa
open Go.RowKit
structure PenMid (W0 W : World) (R : Nat → Prop) (g : Nat) (xs ys : List Int) (N : Nat → Obj → Prop) : Prop where
  ex : ∃ Rk : Nat → Prop, PenR W Rk g (xs ++ ys) ∧ (∀ b, Rk b → Gw W0 R b) ∧ (∀ b o, N b o → ¬ Rk b)
  prot : ∀ b o, N b o → W.heap[b]? = some o ∧ b ≠ g
  kept : Kept (PS g R) W0 W
  gg : ¬ Gw W0 R g
theorem PenMid.start {W : World} {R : Nat → Prop} {g : Nat} {xs : List Int} {N : Nat → Obj → Prop} (h : PenR W R g xs) (hN : ∀ b o, N b o → W.heap[b]? = some o ∧ b ≠ g ∧ ¬ R b) : PenMid W W R g xs [] N :=
  ⟨⟨R, by rw [List.append_nil]; exact h, Gw.of, fun b o hb => (hN b o hb).2.2⟩, fun b o hb => ⟨(hN b o hb).1, (hN b o hb).2.1⟩, Kept.refl _ _, h.grown.1⟩
theorem PenMid.keep {W0 W W' : World} {R : Nat → Prop} {g : Nat} {xs ys : List Int} {N : Nat → Obj → Prop} (h : PenMid W0 W R g xs ys N) (hk : Kept Nob W W') : PenMid W0 W' R g xs ys N := by
  obtain ⟨⟨Rk, h1, h2, h3⟩, h4, h5, h6⟩ := h
  exact ⟨⟨Rk, h1.keep hk (fun h => h) (fun _ _ h => h), h2, h3⟩, fun b o hb => ⟨hk.blk (h4 b o hb).1 (fun h => h), (h4 b o hb).2⟩, Kept.then h5 hk (fun _ _ h => h.elim), h6⟩
theorem PenMid.alloc {W0 W : World} {R : Nat → Prop} {g : Nat} {xs ys : List Int} {N : Nat → Obj → Prop} (h : PenMid W0 W R g xs ys N) (c : Array Value) (t : TypeId) : PenMid W0 (W.alloc (.cells c t)) R g xs ys (fun b o => N b o ∨ (b = W.heap.size ∧ o = .cells c t (0, 0))) := by
  obtain ⟨⟨Rk, h1, h2, h3⟩, h4, h5, h6⟩ := h
  have hk : Kept Nob W (W.alloc (.cells c t)) := Kept.alloc (Kept.refl _ _) _
  refine ⟨⟨Tw W Rk, h1.tight.keep hk (fun h => h) (fun _ _ h => h), fun b hb => h2 b hb.1, fun b o hb hr => hb.elim (fun h => h3 b o h hr.1) (fun h => by have := hr.2; omega)⟩, fun b o hb => ?_, Kept.then h5 hk (fun _ _ h => h.elim), h6⟩
  rcases hb with h | ⟨h, h'⟩
  · exact ⟨hk.blk (h4 b o h).1 (fun h => h), (h4 b o h).2⟩
  · subst h h'
    exact ⟨heap_alloc_new _ _, fun e => by have := h1.lt; omega⟩
theorem PenMid.new {W0 W W' : World} {R : Nat → Prop} {g : Nat} {xs ys : List Int} {N : Nat → Obj → Prop} (h : PenMid W0 W R g xs ys N) (hk : Kept Nob W W') (b0 : Nat) (o0 : Obj) (hb : W'.heap[b0]? = some o0) (hn : W.heap.size ≤ b0) : PenMid W0 W' R g xs ys (fun b o => N b o ∨ (b = b0 ∧ o = o0)) := by
  obtain ⟨⟨Rk, h1, h2, h3⟩, h4, h5, h6⟩ := h
  refine ⟨⟨Tw W Rk, h1.tight.keep hk (fun h => h) (fun _ _ h => h), fun b hb => h2 b hb.1, fun b o hb hr => hb.elim (fun h => h3 b o h hr.1) (fun h => by have := hr.2; omega)⟩, fun b o hb' => ?_, Kept.then h5 hk (fun _ _ h => h.elim), h6⟩
  rcases hb' with h | ⟨h, h'⟩
  · exact ⟨hk.blk (h4 b o h).1 (fun h => h), (h4 b o h).2⟩
  · subst h h'
    exact ⟨hb, fun e => by have := h1.lt; omega⟩
theorem PenMid.less {W0 W : World} {R : Nat → Prop} {g : Nat} {xs ys : List Int} {N N' : Nat → Obj → Prop} (h : PenMid W0 W R g xs ys N) (hN : ∀ b o, N' b o → N b o) : PenMid W0 W R g xs ys N' := by
  obtain ⟨⟨Rk, h1, h2, h3⟩, h4, h5, h6⟩ := h
  exact ⟨⟨Rk, h1, h2, fun b o hb => h3 b o (hN b o hb)⟩, fun b o hb => h4 b o (hN b o hb), h5, h6⟩
def NoN : Nat → Obj → Prop := fun _ _ => False
theorem PenMid.call {W0 W : World} {R : Nat → Prop} {g : Nat} {xs ys zs : List Int} {N : Nat → Obj → Prop} (h : PenMid W0 W R g xs ys N) {f : FuncId} {args : Array Value} {r : Value}
    (hc : ∀ Rk : Nat → Prop, PenR W Rk g (xs ++ ys) → (∀ b, Rk b → Gw W0 R b ∧ b < W.heap.size) → (∀ b o, N b o → ¬ PS g Rk b ∧ b < W.heap.size) → Calls Try.prog f args W fun e w' => e = .returned r ∧ PenDoes W w' Rk g (xs ++ ys) zs) :
    Calls Try.prog f args W fun e w' => e = .returned r ∧ PenMid W0 w' R g xs (ys ++ zs) N := by
  obtain ⟨⟨Rk, h1, h2, h3⟩, h4, h5, h6⟩ := h
  refine (hc (Tw W Rk) h1.tight (fun b hb => ⟨h2 b hb.1, hb.2⟩) (fun b o hb => ⟨fun h => h.elim (h4 b o hb).2 (fun h' => h3 b o hb h'.1), blk_lt (h4 b o hb).1⟩)).mono ?_
  rintro e w' ⟨he, hd⟩
  refine ⟨he, ⟨⟨Gw W (Tw W Rk), by rw [← List.append_assoc]; exact hd.pen, fun b hb => hb.elim (fun h => h2 b h.1) (fun h => .inr (Nat.le_trans h5.size h)), fun b o hb hr => hr.elim (fun h => h3 b o hb h.1) (fun h => by have := blk_lt (h4 b o hb).1; omega)⟩, fun b o hb => ⟨hd.kept.blk (h4 b o hb).1 (fun h => h.elim (h4 b o hb).2 (fun h' => h3 b o hb h'.1)), (h4 b o hb).2⟩, ?_, h6⟩⟩
  exact Kept.then h5 hd.kept (fun b hb h => h.elim .inl (fun h' => .inr (Gw.old hb (h2 b h'.1))))
theorem PenMid.does {W0 W : World} {R : Nat → Prop} {g : Nat} {xs ys : List Int} {N : Nat → Obj → Prop} (h : PenMid W0 W R g xs ys N) : PenDoes W0 W R g xs ys := by
  obtain ⟨⟨Rk, h1, h2, _⟩, _, h5, h6⟩ := h
  exact ⟨h1.mono h2 h6, h5⟩
theorem PenMid.num {W0 W : World} {R : Nat → Prop} {g : Nat} {xs ys : List Int} {N : Nat → Obj → Prop} (h : PenMid W0 W R g xs ys N) (n : Int) (hv : n < 9223372036854775808) (hx : (xs ++ ys).length ≤ 100000000) :
    Calls Try.prog 35 #[.pointer (some ⟨g, 0, none⟩), .int .i64 n] W fun e w' => e = .returned (.pointer (some ⟨g, 0, none⟩)) ∧ PenMid W0 w' R g xs (ys ++ numB n.toNat) N :=
  h.call fun Rk h1 _ _ => penr_numI n Rk g _ W h1 hv hx
theorem PenMid.sum {W0 W : World} {R : Nat → Prop} {g : Nat} {xs ys : List Int} {N : Nat → Obj → Prop} (h : PenMid W0 W R g xs ys N) (s : List Int) (hs : s.length = 32) (hw : ∀ x ∈ s, (Lit.int .u8 x).wf = true) (hx : (xs ++ ys).length ≤ 100000000) :
    Calls Try.prog 36 #[.pointer (some ⟨g, 0, none⟩), .agg (nums .u8 s).toArray] W fun e w' => e = .returned (.pointer (some ⟨g, 0, none⟩)) ∧ PenMid W0 w' R g xs (ys ++ s) N :=
  h.call fun Rk h1 _ _ => penr_sum s Rk g _ W h1 hs hw hx
theorem PenMid.nums {W0 W : World} {R : Nat → Prop} {g : Nat} {xs ys : List Int} {N : Nat → Obj → Prop} (h : PenMid W0 W R g xs ys N) (b : Nat) (l : List Int) (c : Array Value) (t : TypeId) (hN : N b (.cells c t (0, 0))) (hc : c = (nums .i64 l).toArray) (hl : l.length ≤ 1000) (hw : ∀ x ∈ l, (Lit.int .i64 x).wf = true) (hx : (xs ++ ys).length + 10 * l.length ≤ 100000000) :
    Calls Try.prog 34 #[.pointer (some ⟨g, 0, none⟩), .slice (some ⟨b, 0, none⟩) l.length l.length] W fun e w' => e = .returned (.pointer (some ⟨g, 0, none⟩)) ∧ PenMid W0 w' R g xs (ys ++ numsI l) N := by
  subst hc
  exact h.call fun Rk h1 _ h3 => penr_nums l _ _ (fun k => k = b) Rk g _ W h1 (Ints.blk (h.prot b _ hN).1 rfl (by unfold maxLen; omega) hw) (fun k hk => by subst hk; exact h3 k _ hN) hx
theorem PenMid.textOld {W0 W : World} {R : Nat → Prop} {g : Nat} {xs ys : List Int} {N : Nat → Obj → Prop} (h : PenMid W0 W R g xs ys N) {F : Nat → Prop} {A : Option Addr} {c : Nat} {l : List Int} (hi : Ints W0 F .u8 A c l) (hF : ∀ b, F b → ¬ PS g R b ∧ b < W0.heap.size) (hx : (xs ++ ys).length + l.length ≤ 90000000) :
    Calls Try.prog 72 #[.pointer (some ⟨g, 0, none⟩), .slice A l.length c] W fun e w' => e = .returned (.pointer (some ⟨g, 0, none⟩)) ∧ PenMid W0 w' R g xs (ys ++ textB l) N :=
  h.call fun Rk h1 h2 _ => penr_text l A c F Rk g _ W h1 (hi.keep h.kept (fun b hb => (hF b hb).1)) (fun b hb => ⟨fun hp => hp.elim (fun h' => (hF b hb).1 (.inl h')) (fun h' => (hF b hb).1 (.inr (Gw.old (hF b hb).2 (h2 b h').1))), Nat.lt_of_lt_of_le (hF b hb).2 h.kept.size⟩) hx
theorem PenMid.putOld {W0 W : World} {R : Nat → Prop} {g : Nat} {xs ys : List Int} {N : Nat → Obj → Prop} (h : PenMid W0 W R g xs ys N) (o : Out) {F : Nat → Prop} {A : Option Addr} {c : Nat} (hi : Ways W0 F A c o.ways) (ha : (Lit.int .i64 o.amount).wf = true) (hF : ∀ b, F b → ¬ PS g R b ∧ b < W0.heap.size) (hx : (xs ++ ys).length + 10 * (outBy o).length ≤ 90000000) :
    Calls Try.prog 29 #[.pointer (some ⟨g, 0, none⟩), .agg #[.int .i64 o.amount, .slice A o.ways.length c]] W fun e w' => e = .returned (.tuple #[]) ∧ PenMid W0 w' R g xs (ys ++ outBy o) N :=
  h.call fun Rk h1 h2 _ => put_any o A c F Rk g _ W h1 (hi.keep h.kept (fun b hb => (hF b hb).1)) ha (fun b hb => ⟨fun hp => hp.elim (fun h' => (hF b hb).1 (.inl h')) (fun h' => (hF b hb).1 (.inr (Gw.old (hF b hb).2 (h2 b h').1))), Nat.lt_of_lt_of_le (hF b hb).2 h.kept.size⟩) hx
end Go.Proofs.Ytcghjnegaiiieaa
namespace Go.Proofs.Ytcghjnegaiiieaa
open Go.RowKit
structure Els {α : Type} (R : Rl α) (size : Nat) (w : World) (F : Nat → Prop) (A : Option Addr) (c : Nat) (xs : List α) : Prop where
  el : Elems R size w F A xs
  le : xs.length ≤ c
  max : c ≤ maxLen
  nil : A = none → xs = [] ∧ c = 0
theorem RSl.els {α : Type} {R : Rl α} {size : Nat} {w : World} {F : Nat → Prop} {cs : List Value} {xs : List α} (h : RSl R size w F cs xs) : ∃ A c, cs = [.slice A xs.length c] ∧ Els R size w F A c xs := by
  obtain ⟨A, c, e, h1, h2, h3, h4⟩ := h
  exact ⟨A, c, e, ⟨h4, h1, h2, h3⟩⟩
theorem Els.sl {α : Type} {R : Rl α} {size : Nat} {w : World} {F : Nat → Prop} {A : Option Addr} {c : Nat} {xs : List α} (h : Els R size w F A c xs) : RSl R size w F [.slice A xs.length c] xs := ⟨A, c, rfl, h.le, h.max, h.nil, h.el⟩
theorem Els.keep {α : Type} {R : Rl α} {size : Nat} (hR : Good R size) {w w' : World} {F S : Nat → Prop} {A : Option Addr} {c : Nat} {xs : List α} (h : Els R size w F A c xs) (hk : Kept S w w') (hf : ∀ b, F b → ¬ S b) : Els R size w' F A c xs := { h with el := h.el.keep hR hk hf }
theorem Els.mono {α : Type} {R : Rl α} {size : Nat} (hR : Good R size) {w : World} {F F' : Nat → Prop} {A : Option Addr} {c : Nat} {xs : List α} (h : Els R size w F A c xs) (hf : ∀ b, F b → F' b) : Els R size w F' A c xs := { h with el := h.el.mono hR hf }
theorem Els.cells {α : Type} {R : Rl α} {size : Nat} {w : World} {F : Nat → Prop} {A : Option Addr} {c : Nat} {xs : List α} (h : Els R size w F A c xs) (i : Nat) (hi : i < xs.length) :
    ∃ ad es, A = some ad ∧ F ad.block ∧ es.length = size ∧ (∀ j u, es[j]? = some u → w.cell? ((ad.add (i * size)).add j) = some u) ∧ R w F es xs[i] := by
  obtain ⟨ad, e, hb, es, h1, h2, h3⟩ := h.el i hi
  exact ⟨ad, es, e, hb, h1, h2, h3⟩
theorem Els.take {α : Type} {R : Rl α} {size : Nat} {w : World} {F : Nat → Prop} {A : Option Addr} {c : Nat} {xs : List α} (h : Els R size w F A c xs) (n : Nat) : Els R size w F A c (xs.take n) := by
  refine ⟨fun i hi => ?_, by have := h.le; rw [List.length_take]; omega, h.max, fun e => ⟨by rw [(h.nil e).1]; simp, (h.nil e).2⟩⟩
  have hi' : i < xs.length := by rw [List.length_take] at hi; omega
  obtain ⟨ad, e, hb, es, h1, h2, h3⟩ := h.el i hi'
  exact ⟨ad, e, hb, es, h1, h2, by rw [List.getElem_take]; exact h3⟩
theorem Els.ways {w : World} {F : Nat → Prop} {A : Option Addr} {c : Nat} {xs : List Way} (h : Els RWay 35 w F A c xs) : Ways w F A c xs := ⟨h.el, h.le, h.max, h.nil⟩
structure Inp where
  tx : List Int
  at_ : Int
  way : Int
  pre : List Int
instance : Inhabited Inp := ⟨⟨[], 0, 0, []⟩⟩
def RInp : Rl Inp := RBy (RCons (RArr .u8 32) 32 (RCons (RInt .i64) 1 (RCons (RInt .i64) 1 (RCons RBs 1 RNil)))) (fun x => (x.tx, x.at_, x.way, x.pre, ()))
theorem RInp.good : Good RInp 35 := RBy.good (RCons.good (RArr.good _ _) (RCons.good (RInt.good _) (RCons.good (RInt.good _) (RCons.good (RSl.good (RInt.good _)) RNil.good)))) _
def inpCells (A : Option Addr) (c : Nat) (x : Inp) : List Value := nums .u8 x.tx ++ [.int .i64 x.at_, .int .i64 x.way, .slice A x.pre.length c]
structure InpOk (x : Inp) : Prop where
  hl : x.tx.length = 32
  hw : ∀ h ∈ x.tx, (Lit.int .u8 h).wf = true
  aw : (Lit.int .i64 x.at_).wf = true
  ww : (Lit.int .i64 x.way).wf = true
theorem RInp.open_ {w : World} {F : Nat → Prop} {cs : List Value} {x : Inp} (h : RInp w F cs x) : ∃ A c, cs = inpCells A c x ∧ Ints w F .u8 A c x.pre ∧ InpOk x := by
  obtain ⟨c1, d1, rfl, _, ⟨rfl, h2, h3⟩, c2, d2, rfl, _, ⟨rfl, h4⟩, c3, d3, rfl, _, ⟨rfl, h5⟩, c4, d4, rfl, _, h6, h7⟩ := h
  cases h7
  obtain ⟨A, c, rfl, hi⟩ := RSl.ints h6
  exact ⟨A, c, by simp [inpCells], hi, h2, h3, h4, h5⟩
theorem RInp.mk' {w : World} {F : Nat → Prop} {A : Option Addr} {c : Nat} {x : Inp} (h : Ints w F .u8 A c x.pre) (hx : InpOk x) : RInp w F (inpCells A c x) x :=
  ⟨nums .u8 x.tx, _, rfl, by rw [nums_length, hx.hl], ⟨rfl, hx.hl, hx.hw⟩, [.int .i64 x.at_], _, rfl, rfl, ⟨rfl, hx.aw⟩, [.int .i64 x.way], _, rfl, rfl, ⟨rfl, hx.ww⟩, [.slice A x.pre.length c], _, rfl, rfl, h.sl, rfl⟩
theorem inp_len {A : Option Addr} {c : Nat} {x : Inp} (h : InpOk x) : (inpCells A c x).length = 35 := by simp [inpCells, nums_length, h.hl]
theorem inp_at {A : Option Addr} {c : Nat} {x : Inp} (h : InpOk x) : (inpCells A c x)[32]? = some (.int .i64 x.at_) ∧ (inpCells A c x)[33]? = some (.int .i64 x.way) ∧ (inpCells A c x)[34]? = some (.slice A x.pre.length c) := by
  have hn : (nums IntKind.u8 x.tx).length = 32 := by rw [nums_length, h.hl]
  unfold inpCells
  refine ⟨?_, ?_, ?_⟩ <;> (rw [List.getElem?_append_right (by omega), hn]; rfl)
theorem inp_tx {A : Option Addr} {c : Nat} {x : Inp} (j : Nat) (u : Value) (hj : (nums .u8 x.tx)[j]? = some u) : (inpCells A c x)[j]? = some u := by
  have hl : j < (nums .u8 x.tx).length := (List.getElem?_eq_some_iff.1 hj).1
  unfold inpCells
  rw [List.getElem?_append_left hl, hj]
structure Sgn where
  key : Int
  of_ : List Int
instance : Inhabited Sgn := ⟨⟨0, []⟩⟩
def RSgn : Rl Sgn := RBy (RCons (RInt .i64) 1 (RCons (RArr .u8 32) 32 RNil)) (fun x => (x.key, x.of_, ()))
theorem RSgn.good : Good RSgn 33 := RBy.good (RCons.good (RInt.good _) (RCons.good (RArr.good _ _) RNil.good)) _
def sgnCells (x : Sgn) : List Value := .int .i64 x.key :: nums .u8 x.of_
structure SgnOk (x : Sgn) : Prop where
  hl : x.of_.length = 32
  hw : ∀ h ∈ x.of_, (Lit.int .u8 h).wf = true
  kw : (Lit.int .i64 x.key).wf = true
theorem RSgn.open_ {w : World} {F : Nat → Prop} {cs : List Value} {x : Sgn} (h : RSgn w F cs x) : cs = sgnCells x ∧ SgnOk x := by
  obtain ⟨c1, d1, rfl, _, ⟨rfl, h1⟩, c2, d2, rfl, _, ⟨rfl, h2, h3⟩, h4⟩ := h
  cases h4
  exact ⟨by simp [sgnCells], h2, h3, h1⟩
theorem RSgn.mk' {w : World} {F : Nat → Prop} {x : Sgn} (hx : SgnOk x) : RSgn w F (sgnCells x) x :=
  ⟨[.int .i64 x.key], nums .u8 x.of_, rfl, rfl, ⟨rfl, hx.kw⟩, nums .u8 x.of_, [], (List.append_nil _).symm, by rw [nums_length, hx.hl], ⟨rfl, hx.hl, hx.hw⟩, rfl⟩
theorem sgn_len {x : Sgn} (h : SgnOk x) : (sgnCells x).length = 33 := by simp [sgnCells, nums_length, h.hl]
theorem sgn_of {x : Sgn} (j : Nat) (u : Value) (hj : (nums .u8 x.of_)[j]? = some u) : (sgnCells x)[1 + j]? = some u := by
  unfold sgnCells
  rw [Nat.add_comm, List.getElem?_cons_succ, hj]
structure Opx where
  kind : Int
  tower : Int
  channel : Int
  amount : Int
  root : List Int
  data : List Int
def ROpx : Rl Opx := RBy (RCons (RInt .i64) 1 (RCons (RInt .i64) 1 (RCons (RInt .i64) 1 (RCons (RInt .i64) 1 (RCons (RArr .u8 32) 32 (RCons RBs 1 RNil)))))) (fun x => (x.kind, x.tower, x.channel, x.amount, x.root, x.data, ()))
theorem ROpx.good : Good ROpx 37 := RBy.good (RCons.good (RInt.good _) (RCons.good (RInt.good _) (RCons.good (RInt.good _) (RCons.good (RInt.good _) (RCons.good (RArr.good _ _) (RCons.good (RSl.good (RInt.good _)) RNil.good)))))) _
def opxCells (A : Option Addr) (c : Nat) (x : Opx) : List Value := .int .i64 x.kind :: .int .i64 x.tower :: .int .i64 x.channel :: .int .i64 x.amount :: (nums .u8 x.root ++ [.slice A x.data.length c])
structure OpxOk (x : Opx) : Prop where
  hl : x.root.length = 32
  hw : ∀ h ∈ x.root, (Lit.int .u8 h).wf = true
  kw : (Lit.int .i64 x.kind).wf = true
  tw : (Lit.int .i64 x.tower).wf = true
  cw : (Lit.int .i64 x.channel).wf = true
  aw : (Lit.int .i64 x.amount).wf = true
theorem ROpx.open_ {w : World} {F : Nat → Prop} {cs : List Value} {x : Opx} (h : ROpx w F cs x) : ∃ A c, cs = opxCells A c x ∧ Ints w F .u8 A c x.data ∧ OpxOk x := by
  obtain ⟨c1, d1, rfl, _, ⟨rfl, h1⟩, c2, d2, rfl, _, ⟨rfl, h2⟩, c3, d3, rfl, _, ⟨rfl, h3⟩, c4, d4, rfl, _, ⟨rfl, h4⟩, c5, d5, rfl, _, ⟨rfl, h5, h6⟩, c6, d6, rfl, _, h7, h8⟩ := h
  cases h8
  obtain ⟨A, c, rfl, hi⟩ := RSl.ints h7
  exact ⟨A, c, by simp [opxCells], hi, h5, h6, h1, h2, h3, h4⟩
theorem ROpx.mk' {w : World} {F : Nat → Prop} {A : Option Addr} {c : Nat} {x : Opx} (h : Ints w F .u8 A c x.data) (hx : OpxOk x) : ROpx w F (opxCells A c x) x :=
  ⟨[.int .i64 x.kind], _, rfl, rfl, ⟨rfl, hx.kw⟩, [.int .i64 x.tower], _, rfl, rfl, ⟨rfl, hx.tw⟩, [.int .i64 x.channel], _, rfl, rfl, ⟨rfl, hx.cw⟩, [.int .i64 x.amount], _, rfl, rfl, ⟨rfl, hx.aw⟩, nums .u8 x.root, _, rfl, by rw [nums_length, hx.hl], ⟨rfl, hx.hl, hx.hw⟩, [.slice A x.data.length c], _, rfl, rfl, h.sl, rfl⟩
theorem opx_len {A : Option Addr} {c : Nat} {x : Opx} (h : OpxOk x) : (opxCells A c x).length = 37 := by simp [opxCells, nums_length, h.hl]
theorem opx_data {A : Option Addr} {c : Nat} {x : Opx} (h : OpxOk x) : (opxCells A c x)[36]? = some (.slice A x.data.length c) := by
  have hn : (nums IntKind.u8 x.root).length = 32 := by rw [nums_length, h.hl]
  unfold opxCells
  simp only [List.getElem?_cons_succ]
  rw [List.getElem?_append_right (by omega), hn]; rfl
theorem opx_root {A : Option Addr} {c : Nat} {x : Opx} (j : Nat) (u : Value) (hj : (nums .u8 x.root)[j]? = some u) : (opxCells A c x)[4 + j]? = some u := by
  have hl : j < (nums .u8 x.root).length := (List.getElem?_eq_some_iff.1 hj).1
  unfold opxCells
  rw [show 4 + j = j + 1 + 1 + 1 + 1 from by omega]
  simp only [List.getElem?_cons_succ]
  rw [List.getElem?_append_left hl, hj]
structure Txx where
  ins : List Inp
  outs : List Out
  op : Opx
  sgns : List Sgn
def RTxx : Rl Txx := RBy (RCons (RSl RInp 35) 1 (RCons (RSl ROut 2) 1 (RCons ROpx 37 (RCons (RSl RSgn 33) 1 RNil)))) (fun t => (t.ins, t.outs, t.op, t.sgns, ()))
theorem RTxx.good : Good RTxx 40 := RBy.good (RCons.good (RSl.good RInp.good) (RCons.good (RSl.good ROut.good) (RCons.good ROpx.good (RCons.good (RSl.good RSgn.good) RNil.good)))) _
structure TxP where
  iA : Option Addr
  ic : Nat
  oA : Option Addr
  oc : Nat
  dA : Option Addr
  dc : Nat
  sA : Option Addr
  sc : Nat
def txCells (p : TxP) (t : Txx) : List Value := .slice p.iA t.ins.length p.ic :: .slice p.oA t.outs.length p.oc :: (opxCells p.dA p.dc t.op ++ [.slice p.sA t.sgns.length p.sc])
structure TxAt (w : World) (F : Nat → Prop) (p : TxP) (t : Txx) : Prop where
  ins : Els RInp 35 w F p.iA p.ic t.ins
  outs : Els ROut 2 w F p.oA p.oc t.outs
  data : Ints w F .u8 p.dA p.dc t.op.data
  op : OpxOk t.op
  sgns : Els RSgn 33 w F p.sA p.sc t.sgns
theorem RTxx.open_ {w : World} {F : Nat → Prop} {cs : List Value} {t : Txx} (h : RTxx w F cs t) : ∃ p, cs = txCells p t ∧ TxAt w F p t := by
  obtain ⟨c1, d1, rfl, _, h1, c2, d2, rfl, _, h2, c3, d3, rfl, _, h3, c4, d4, rfl, _, h4, h5⟩ := h
  cases h5
  obtain ⟨iA, ic, rfl, e1⟩ := RSl.els h1
  obtain ⟨oA, oc, rfl, e2⟩ := RSl.els h2
  obtain ⟨dA, dc, rfl, e3, e4⟩ := ROpx.open_ h3
  obtain ⟨sA, sc, rfl, e5⟩ := RSl.els h4
  exact ⟨⟨iA, ic, oA, oc, dA, dc, sA, sc⟩, by simp [txCells], e1, e2, e3, e4, e5⟩
theorem TxAt.keep {w w' : World} {F S : Nat → Prop} {p : TxP} {t : Txx} (h : TxAt w F p t) (hk : Kept S w w') (hf : ∀ b, F b → ¬ S b) : TxAt w' F p t :=
  ⟨h.ins.keep RInp.good hk hf, h.outs.keep ROut.good hk hf, h.data.keep hk hf, h.op, h.sgns.keep RSgn.good hk hf⟩
theorem TxAt.mono {w : World} {F F' : Nat → Prop} {p : TxP} {t : Txx} (h : TxAt w F p t) (hf : ∀ b, F b → F' b) : TxAt w F' p t :=
  ⟨h.ins.mono RInp.good hf, h.outs.mono ROut.good hf, h.data.mono hf, h.op, h.sgns.mono RSgn.good hf⟩
theorem tx_len {p : TxP} {t : Txx} (h : OpxOk t.op) : (txCells p t).length = 40 := by simp [txCells, opx_len h]
theorem tx_op {p : TxP} {t : Txx} (h : OpxOk t.op) (j : Nat) (u : Value) (hj : (opxCells p.dA p.dc t.op)[j]? = some u) : (txCells p t)[2 + j]? = some u := by
  have hl : j < (opxCells p.dA p.dc t.op).length := (List.getElem?_eq_some_iff.1 hj).1
  have := opx_len (A := p.dA) (c := p.dc) h
  unfold txCells
  rw [show 2 + j = j + 1 + 1 from by omega, List.getElem?_cons_succ, List.getElem?_cons_succ, List.getElem?_append_left hl, hj]
theorem tx_at {p : TxP} {t : Txx} (h : OpxOk t.op) : (txCells p t)[0]? = some (.slice p.iA t.ins.length p.ic) ∧ (txCells p t)[1]? = some (.slice p.oA t.outs.length p.oc) ∧ (txCells p t)[2]? = some (.int .i64 t.op.kind) ∧ (txCells p t)[38]? = some (.slice p.dA t.op.data.length p.dc) ∧ (txCells p t)[39]? = some (.slice p.sA t.sgns.length p.sc) := by
  refine ⟨rfl, rfl, rfl, tx_op h 36 _ (opx_data h), ?_⟩
  have := opx_len (A := p.dA) (c := p.dc) h
  unfold txCells
  rw [List.getElem?_cons_succ, List.getElem?_cons_succ, List.getElem?_append_right (by omega), this]
  rfl
theorem aggInp : AggT Try.prog 96 35 := ⟨⟨_, Try.underlying96, rfl⟩, by kernel_rfl⟩
theorem aggSgn : AggT Try.prog 177 33 := ⟨⟨_, Try.underlying177, rfl⟩, by kernel_rfl⟩
theorem aggOpx : AggT Try.prog 87 37 := ⟨⟨_, Try.underlying87, rfl⟩, by kernel_rfl⟩
theorem aggTx : AggT Try.prog 90 40 := ⟨⟨_, Try.underlying90, rfl⟩, by kernel_rfl⟩
theorem aggRef : AggT Try.prog 62 33 := ⟨⟨_, Try.underlying62, rfl⟩, by kernel_rfl⟩
def inpB (x : Inp) : Bool := decide (0 ≤ x.at_) && decide (x.at_ < 16) && decide (0 ≤ x.way) && decide (x.way < 16) && decide (x.pre.length ≤ 64)
def opxB (x : Opx) : Bool := if x.kind = 0 then (x.tower == 0) && (x.channel == 0) && (x.amount == 0) && (x.root == zero32) && (x.data.length == 0)
  else decide (1 ≤ x.kind) && decide (x.kind ≤ 7) && decide (0 ≤ x.tower) && decide (x.tower < 16) && decide (0 ≤ x.channel) && decide (x.channel ≤ 1048576) && decide (0 ≤ x.amount) && decide (x.amount ≤ 1125899906842624) && decide (x.data.length ≤ 65536)
def refB (x y : Inp) : Bool := (x.tx == y.tx) && (x.at_ == y.at_)
def inAtB (l : List Inp) (i : Nat) : Bool := inpB (l.getD i default) && !((l.take i).any fun y => refB y (l.getD i default))
def insUpto (l : List Inp) (n : Nat) : Bool := (List.range n).all (inAtB l)
theorem insUpto_succ (l : List Inp) (n : Nat) : insUpto l (n + 1) = (insUpto l n && inAtB l n) := by simp [insUpto, List.range_succ]
theorem insUpto_no (l : List Inp) (n i : Nat) (hi : i < n) (h : inAtB l i = false) : insUpto l n = false := by
  unfold insUpto
  rw [List.all_eq_false]
  exact ⟨i, by simpa using hi, by simp [h]⟩
def sgnAtB (l : List Sgn) (i : Nat) : Bool := decide (0 ≤ (l.getD i default).key) && decide ((l.getD i default).key ≤ 255) && (decide (i = 0) || decide ((l.getD (i - 1) default).key < (l.getD i default).key))
def sgnsUpto (l : List Sgn) (n : Nat) : Bool := (List.range n).all (sgnAtB l)
theorem sgnsUpto_succ (l : List Sgn) (n : Nat) : sgnsUpto l (n + 1) = (sgnsUpto l n && sgnAtB l n) := by simp [sgnsUpto, List.range_succ]
theorem sgnsUpto_no (l : List Sgn) (n i : Nat) (hi : i < n) (h : sgnAtB l i = false) : sgnsUpto l n = false := by
  unfold sgnsUpto
  rw [List.all_eq_false]
  exact ⟨i, by simpa using hi, by simp [h]⟩
def txHeadB (t : Txx) : Bool := decide (t.ins.length ≤ 16) && decide (t.outs.length ≤ 16) && decide (t.sgns.length ≤ 16) && opxB t.op && !(decide (t.ins.length = 0) && decide (t.op.kind = 0))
def txB (t : Txx) : Bool := txHeadB t && insUpto t.ins t.ins.length && sgnsUpto t.sgns t.sgns.length && t.outs.all outB
def inBy (shown : Bool) (x : Inp) : List Int := x.tx ++ numsI [x.at_, x.way] ++ (if shown then textB x.pre else [])
def opBy (x : Opx) : List Int := numsI [x.kind, x.tower, x.channel, x.amount] ++ x.root ++ textB x.data
def sgnBy (x : Sgn) : List Int := numB x.key.toNat ++ x.of_
def bodyBy (shown : Bool) (t : Txx) : List Int := numB t.ins.length ++ t.ins.flatMap (inBy shown) ++ numB t.outs.length ++ t.outs.flatMap outBy ++ opBy t.op
def txBy (t : Txx) : List Int := bodyBy true t ++ numB t.sgns.length ++ t.sgns.flatMap sgnBy
end Go.Proofs.Ytcghjnegaiiieaa
namespace Go.Proofs.Ytcghjnegaiiieaa
open Go.RowKit
def ints (k : IntKind) (xs : List Int) : CV := .sl 1 (xs.map (ic k))
def cSum (h : List Int) : CV := .ar .u8 32 h
def cWay (x : Way) : CV := .st [ints .i64 x.keys, cSum x.hash, ic .i64 x.after, ic .i64 x.wait]
def cOut (x : Out) : CV := .st [ic .i64 x.amount, .sl 35 (x.ways.map cWay)]
def cRef (t : List Int) (i : Int) : CV := .st [cSum t, ic .i64 i]
def cInp (x : Inp) : CV := .st [cRef x.tx x.at_, ic .i64 x.way, ints .u8 x.pre]
def cSgn (x : Sgn) : CV := .st [ic .i64 x.key, cSum x.of_]
def cOpx (x : Opx) : CV := .st [ic .i64 x.kind, ic .i64 x.tower, ic .i64 x.channel, ic .i64 x.amount, cSum x.root, ints .u8 x.data]
def cTxx (x : Txx) : CV := .st [.sl 35 (x.ins.map cInp), .sl 2 (x.outs.map cOut), cOpx x.op, .sl 33 (x.sgns.map cSgn)]
theorem eqTy_Sum : EqTy Try.prog 24 (.a .u8 32) := EqTy.arr Try.underlying24 Try.underlying5 (by kernel_rfl) (by kernel_rfl)
theorem eqTy_int : EqTy Try.prog 3 .i := EqTy.int Try.underlying3 (by kernel_rfl)
theorem eqTy_Ref : EqTy Try.prog 62 (.st [.a .u8 32, .i]) := EqTy.struct Try.underlying62 Try.stoodInHeld62 (by kernel_rfl) (.cons (by simp) rfl eqTy_Sum (.cons (by simp) rfl eqTy_int (.nil _)))
theorem getD_map {α β : Type} [Inhabited α] (f : α → β) (l : List α) (i : Nat) (d : β) (h : i < l.length) : (l.map f).getD i d = f (l.getD i default) := by
  simp [h]
theorem int_default : (default : Int) = 0 := rfl
theorem wrap64 {x : Int} (h1 : -9223372036854775808 ≤ x) (h2 : x ≤ 9223372036854775807) : IntKind.i64.wrap x = x := IntWalk.i64_in x ⟨h1, h2⟩
theorem enc1 : type_of% (And.intro @ic.eq_1 (And.intro @ints.eq_1 (And.intro @cSum.eq_1 (And.intro @cWay.eq_1 (And.intro @cOut.eq_1 (And.intro @cRef.eq_1 (And.intro @cInp.eq_1 (And.intro @cSgn.eq_1 (And.intro @cOpx.eq_1 @cTxx.eq_1))))))))) := (And.intro @ic.eq_1 (And.intro @ints.eq_1 (And.intro @cSum.eq_1 (And.intro @cWay.eq_1 (And.intro @cOut.eq_1 (And.intro @cRef.eq_1 (And.intro @cInp.eq_1 (And.intro @cSgn.eq_1 (And.intro @cOpx.eq_1 @cTxx.eq_1)))))))))
end Go.Proofs.Ytcghjnegaiiieaa
namespace Go.Proofs.Ytcghjnegaiiieaa
open Go.RowKit
def coinRight (n : Int) : Bool := decide (n ≥ 0) && decide (n ≤ 1125899906842624)
set_option maxRecDepth 100000 in
set_option maxHeartbeats 4000000 in
theorem coinRight_ap (n : Int) : AP Try.prog 105 [ic .i64 n] [.pv (.bool (coinRight n))] := by
  refine ap_of (fun _ _ => Try.call105 _ _) Try.func105 rfl Try.ntmps105 (by simp) (zs := [RZ.mk 2 none]) (by kernel_rfl) (fun w F => ?_)
  simp only [List.map_cons, List.map_nil, argT, Nat.reduceAdd]
  refine at_seq fun K1 hK1 => ?_
  refine at_region [It.mk (some 2) none (IK.p (PK.mov (Operand.const (Value.bool false))))] (by kernel_rfl) ?_
  simp (maxSteps:=999999) (disch:=omega) only [av1, av2, av3, av4, eq_self, exists_const, forall_const, implies_true, storeOk, thenQ, PK.cond, PK.val, Nat.reduceAdd, Nat.reduceLT, Nat.reduceMul, reduceCtorEq, ↓reduceIte, Nat.reduceEqDiff, Nat.reduceLeDiff, Nat.reduceSub, Nat.reduceBEq, Nat.reduceBNe, Int.reduceLT, Int.reduceEq, Int.reduceAdd, Int.reduceToNat, Int.reduceLE, Int.reduceBEq, Int.reduceBNe, ic]
  (repeat ((with_reducible refine And.intro ?_ ?_); (first | trivial | assumption | omega | (exact nf_imp _) | (exact fn_imp _) | (intro hq; exact ⟨hq, by omega⟩) | (simp; done) | (intro hq; simp [hq]; done) | (intro hq; refine ⟨hq, fun hq2 => ?_⟩; rw [hq, hq2]; rfl))))
  refine hK1 _ ?_
  (try clear hK1)
  refine at_seq fun K2 hK2 => ?_
  refine at_region [It.mk (some 3) none (IK.p (PK.mov (Operand.tmp 0))), It.mk (some 4) none (IK.p (PK.bin BinOp.geq (Operand.tmp 3) (Operand.const (Value.int IntKind.i64 0)))), It.mk (some 5) none (IK.p (PK.mov (Operand.tmp 4))), It.mk (some 6) (some (5, true)) (IK.p (PK.mov (Operand.tmp 0))), It.mk (some 7) (some (5, true)) (IK.p (PK.bin BinOp.leq (Operand.tmp 6) (Operand.const (Value.int IntKind.i64 1125899906842624)))), It.mk (some 8) none (IK.p (PK.pick (Operand.tmp 5) (Operand.tmp 7) (Operand.const (Value.bool false)))), It.mk (some 2) none (IK.p (PK.mov (Operand.tmp 8)))] (by kernel_rfl) ?_
  simp (maxSteps:=999999) (disch:=omega) only [av1, av2, av3, av4, eq_self, exists_const, forall_const, implies_true, storeOk, thenQ, PK.cond, PK.val, Nat.reduceAdd, Nat.reduceLT, Nat.reduceMul, reduceCtorEq, ↓reduceIte, Nat.reduceEqDiff, Nat.reduceLeDiff, Nat.reduceSub, Nat.reduceBEq, Nat.reduceBNe, Int.reduceLT, Int.reduceEq, Int.reduceAdd, Int.reduceToNat, Int.reduceLE, Int.reduceBEq, Int.reduceBNe, ic]
  (repeat ((with_reducible refine And.intro ?_ ?_); (first | trivial | assumption | omega | (exact nf_imp _) | (exact fn_imp _) | (intro hq; exact ⟨hq, by omega⟩) | (simp; done) | (intro hq; simp [hq]; done) | (intro hq; refine ⟨hq, fun hq2 => ?_⟩; rw [hq, hq2]; rfl))))
  refine hK2 _ ?_
  (try clear hK2)
  refine at_ret ?_
  simp (maxSteps:=999999) (disch:=omega) only [av1, av2, av3, av4, eq_self, exists_const, forall_const, implies_true, storeOk, thenQ, PK.cond, PK.val, Nat.reduceAdd, Nat.reduceLT, Nat.reduceMul, reduceCtorEq, ↓reduceIte, Nat.reduceEqDiff, Nat.reduceLeDiff, Nat.reduceSub, Nat.reduceBEq, Nat.reduceBNe, Int.reduceLT, Int.reduceEq, Int.reduceAdd, Int.reduceToNat, Int.reduceLE, Int.reduceBEq, Int.reduceBNe, ic, blockQ, retQ, RetOk, ResOk, AV.fin, AV.fins, CV.le, CV.les]
  rfl
def toOut (k n : Int) : Out := ⟨n, [⟨[k], List.replicate 32 0, 0, 0⟩]⟩
set_option maxRecDepth 100000 in
set_option maxHeartbeats 4000000 in
theorem lockTo_ap (k n : Int) : AP Try.prog 23 [ic .i64 k, ic .i64 n] [cOut (toOut k n)] := by
  refine ap_of (fun _ _ => Try.call23 _ _) Try.func23 rfl Try.ntmps23 (by simp) (zs := [RZ.mk 4 (some (2, true))]) (by kernel_rfl) (fun w F => ?_)
  simp only [List.map_cons, List.map_nil, argT, Nat.reduceAdd]
  refine at_seq fun K1 hK1 => ?_
  refine at_region [It.mk (some 4) none (IK.alloc (CV.st [CV.pv (Value.int IntKind.i64 0), CV.pv (Value.slice none 0 0)]))] (by kernel_rfl) ?_
  simp (maxSteps:=999999) (disch:=omega) only [av1, av2, av3, av4, eq_self, exists_const, forall_const, implies_true, storeOk, thenQ, PK.cond, PK.val, Nat.reduceAdd, Nat.reduceLT, Nat.reduceMul, reduceCtorEq, ↓reduceIte, Nat.reduceEqDiff, Nat.reduceLeDiff, Nat.reduceSub, Nat.reduceBEq, Nat.reduceBNe, Int.reduceLT, Int.reduceEq, Int.reduceAdd, Int.reduceToNat, Int.reduceLE, Int.reduceBEq, Int.reduceBNe, enc1, toOut]
  (repeat ((with_reducible refine And.intro ?_ ?_); (first | trivial | assumption | omega | (exact nf_imp _) | (exact fn_imp _) | (intro hq; exact ⟨hq, by omega⟩) | (simp; done) | (intro hq; simp [hq]; done) | (intro hq; refine ⟨hq, fun hq2 => ?_⟩; rw [hq, hq2]; rfl))))
  refine hK1 _ ?_
  (try clear hK1)
  refine at_seq fun K2 hK2 => ?_
  refine at_region [It.mk (some 5) none (IK.p (PK.mov (Operand.tmp 1))), It.mk (some 6) none (IK.p (PK.mov (Operand.tmp 0))), It.mk (some 7) none (IK.lit 1 [Operand.tmp 6]), It.mk (some 8) none (IK.p (PK.bld (CV.st [CV.pv (Value.slice none 0 0), CV.ar IntKind.u8 32 (List.replicate 32 0), CV.pv (Value.int IntKind.i64 0), CV.pv (Value.int IntKind.i64 0)]) [(0, 1), (1, 32), (33, 1), (34, 1)] [(0, Operand.tmp 7)])), It.mk (some 9) none (IK.lit 35 [Operand.tmp 8]), It.mk (some 10) none (IK.p (PK.bld (CV.st [CV.pv (Value.int IntKind.i64 0), CV.pv (Value.slice none 0 0)]) [(0, 1), (1, 1)] [(0, Operand.tmp 5), (1, Operand.tmp 9)])), It.mk none none (IK.store (Operand.tmp 4) (Operand.tmp 10) 2)] (by kernel_rfl) ?_
  simp (maxSteps:=999999) (disch:=omega) only [av1, av2, av3, av4, eq_self, exists_const, forall_const, implies_true, storeOk, thenQ, PK.cond, PK.val, Nat.reduceAdd, Nat.reduceLT, Nat.reduceMul, reduceCtorEq, ↓reduceIte, Nat.reduceEqDiff, Nat.reduceLeDiff, Nat.reduceSub, Nat.reduceBEq, Nat.reduceBNe, Int.reduceLT, Int.reduceEq, Int.reduceAdd, Int.reduceToNat, Int.reduceLE, Int.reduceBEq, Int.reduceBNe, enc1, toOut]
  (repeat ((with_reducible refine And.intro ?_ ?_); (first | trivial | assumption | omega | (exact nf_imp _) | (exact fn_imp _) | (intro hq; exact ⟨hq, by omega⟩) | (simp; done) | (intro hq; simp [hq]; done) | (intro hq; refine ⟨hq, fun hq2 => ?_⟩; rw [hq, hq2]; rfl))))
  refine hK2 _ ?_
  (try clear hK2)
  refine at_ret ?_
  simp (maxSteps:=999999) (disch:=omega) only [av1, av2, av3, av4, eq_self, exists_const, forall_const, implies_true, storeOk, thenQ, PK.cond, PK.val, Nat.reduceAdd, Nat.reduceLT, Nat.reduceMul, reduceCtorEq, ↓reduceIte, Nat.reduceEqDiff, Nat.reduceLeDiff, Nat.reduceSub, Nat.reduceBEq, Nat.reduceBNe, Int.reduceLT, Int.reduceEq, Int.reduceAdd, Int.reduceToNat, Int.reduceLE, Int.reduceBEq, Int.reduceBNe, enc1, toOut, blockQ, retQ, RetOk, ResOk, AV.fin, AV.fins, CV.le, CV.les]
  simp
def coinAdd : Int → List Int → Int × Int
  | s, [] => (s, 0)
  | s, n :: l => if coinRight n = false then (0, 5) else if s + n > 1125899906842624 then (0, 10) else coinAdd (s + n) l
structure Chan where
  id : Int
  client : Int
  peer : Int
  ft : List Int
  fa : Int
  cap : Int
  wait : Int
  window : Int
def cChan (c : Chan) : CV := .st [ic .i64 c.id, ic .i64 c.client, ic .i64 c.peer, cRef c.ft c.fa, ic .i64 c.cap, ic .i64 c.wait, ic .i64 c.window]
def chanB (c : Chan) : Bool := decide (c.id ≥ 0) && decide (c.id ≤ 1048576) && decide (c.client ≥ 0) && decide (c.client ≤ 255) && decide (c.peer ≥ 0) && decide (c.peer ≤ 255) && (c.client != c.peer) && decide (c.cap ≥ 1) && coinRight c.cap && decide (c.window ≥ 1) && decide (c.window < c.wait) && decide (c.wait ≤ 65536) && decide (c.fa ≥ 0) && decide (c.fa < 16)
set_option maxRecDepth 100000 in
set_option maxHeartbeats 4000000 in
theorem rightChannel_ap (c : Chan) : AP Try.prog 50 [cChan c] [.pv (.bool (chanB c))] := by
  refine ap_of (fun _ _ => Try.call50 _ _) Try.func50 rfl Try.ntmps50 (by simp) (zs := [RZ.mk 2 none]) (by kernel_rfl) (fun w F => ?_)
  simp only [List.map_cons, List.map_nil, argT, Nat.reduceAdd]
  refine at_seq fun K1 hK1 => ?_
  refine at_region [It.mk (some 1) none (IK.box (Operand.tmp 0)), It.mk (some 2) none (IK.p (PK.mov (Operand.const (Value.bool false))))] (by kernel_rfl) ?_
  simp (maxSteps:=999999) (disch:=omega) only [av1, av2, av3, av4, eq_self, exists_const, forall_const, implies_true, storeOk, thenQ, PK.cond, PK.val, Nat.reduceAdd, Nat.reduceLT, Nat.reduceMul, reduceCtorEq, ↓reduceIte, Nat.reduceEqDiff, Nat.reduceLeDiff, Nat.reduceSub, Nat.reduceBEq, Nat.reduceBNe, Int.reduceLT, Int.reduceEq, Int.reduceAdd, Int.reduceToNat, Int.reduceLE, Int.reduceBEq, Int.reduceBNe, enc1, cChan]
  (repeat ((with_reducible refine And.intro ?_ ?_); (first | trivial | assumption | omega | (exact nf_imp _) | (exact fn_imp _) | (intro hq; exact ⟨hq, by omega⟩) | (simp; done) | (intro hq; simp [hq]; done) | (intro hq; refine ⟨hq, fun hq2 => ?_⟩; rw [hq, hq2]; rfl))))
  refine hK1 _ ?_
  (try clear hK1)
  refine at_seq fun K2 hK2 => ?_
  refine at_region [It.mk (some 3) none (IK.p (PK.fAddr (Operand.tmp 1) 0 0)), It.mk (some 4) none (IK.p (PK.load (Operand.tmp 3) 1 false)), It.mk (some 5) none (IK.p (PK.bin BinOp.geq (Operand.tmp 4) (Operand.const (Value.int IntKind.i64 0)))), It.mk (some 6) none (IK.p (PK.mov (Operand.tmp 5))), It.mk (some 7) (some (6, true)) (IK.p (PK.fAddr (Operand.tmp 1) 0 0)), It.mk (some 8) (some (6, true)) (IK.p (PK.load (Operand.tmp 7) 1 false)), It.mk (some 9) (some (6, true)) (IK.p (PK.bin BinOp.leq (Operand.tmp 8) (Operand.const (Value.int IntKind.i64 1048576)))), It.mk (some 10) none (IK.p (PK.pick (Operand.tmp 6) (Operand.tmp 9) (Operand.const (Value.bool false)))), It.mk (some 11) none (IK.p (PK.mov (Operand.tmp 10))), It.mk (some 12) (some (11, true)) (IK.p (PK.fAddr (Operand.tmp 1) 1 1)), It.mk (some 13) (some (11, true)) (IK.p (PK.load (Operand.tmp 12) 1 false)), It.mk (some 14) (some (11, true)) (IK.p (PK.bin BinOp.geq (Operand.tmp 13) (Operand.const (Value.int IntKind.i64 0)))), It.mk (some 15) none (IK.p (PK.pick (Operand.tmp 11) (Operand.tmp 14) (Operand.const (Value.bool false)))), It.mk (some 16) none (IK.p (PK.mov (Operand.tmp 15))), It.mk (some 17) (some (16, true)) (IK.p (PK.fAddr (Operand.tmp 1) 1 1)), It.mk (some 18) (some (16, true)) (IK.p (PK.load (Operand.tmp 17) 1 false)), It.mk (some 19) (some (16, true)) (IK.p (PK.bin BinOp.leq (Operand.tmp 18) (Operand.const (Value.int IntKind.i64 255)))), It.mk (some 20) none (IK.p (PK.pick (Operand.tmp 16) (Operand.tmp 19) (Operand.const (Value.bool false)))), It.mk (some 21) none (IK.p (PK.mov (Operand.tmp 20))), It.mk (some 22) (some (21, true)) (IK.p (PK.fAddr (Operand.tmp 1) 2 2)), It.mk (some 23) (some (21, true)) (IK.p (PK.load (Operand.tmp 22) 1 false)), It.mk (some 24) (some (21, true)) (IK.p (PK.bin BinOp.geq (Operand.tmp 23) (Operand.const (Value.int IntKind.i64 0)))), It.mk (some 25) none (IK.p (PK.pick (Operand.tmp 21) (Operand.tmp 24) (Operand.const (Value.bool false)))), It.mk (some 26) none (IK.p (PK.mov (Operand.tmp 25))), It.mk (some 27) (some (26, true)) (IK.p (PK.fAddr (Operand.tmp 1) 2 2)), It.mk (some 28) (some (26, true)) (IK.p (PK.load (Operand.tmp 27) 1 false)), It.mk (some 29) (some (26, true)) (IK.p (PK.bin BinOp.leq (Operand.tmp 28) (Operand.const (Value.int IntKind.i64 255)))), It.mk (some 30) none (IK.p (PK.pick (Operand.tmp 26) (Operand.tmp 29) (Operand.const (Value.bool false)))), It.mk (some 31) none (IK.p (PK.mov (Operand.tmp 30))), It.mk (some 32) (some (31, true)) (IK.p (PK.fAddr (Operand.tmp 1) 1 1)), It.mk (some 33) (some (31, true)) (IK.p (PK.load (Operand.tmp 32) 1 false)), It.mk (some 34) (some (31, true)) (IK.p (PK.fAddr (Operand.tmp 1) 2 2)), It.mk (some 35) (some (31, true)) (IK.p (PK.load (Operand.tmp 34) 1 false)), It.mk (some 36) (some (31, true)) (IK.p (PK.bin BinOp.neq (Operand.tmp 33) (Operand.tmp 35))), It.mk (some 37) none (IK.p (PK.pick (Operand.tmp 31) (Operand.tmp 36) (Operand.const (Value.bool false)))), It.mk (some 38) none (IK.p (PK.mov (Operand.tmp 37))), It.mk (some 39) (some (38, true)) (IK.p (PK.fAddr (Operand.tmp 1) 4 36)), It.mk (some 40) (some (38, true)) (IK.p (PK.load (Operand.tmp 39) 1 false)), It.mk (some 41) (some (38, true)) (IK.p (PK.bin BinOp.geq (Operand.tmp 40) (Operand.const (Value.int IntKind.i64 1)))), It.mk (some 42) none (IK.p (PK.pick (Operand.tmp 38) (Operand.tmp 41) (Operand.const (Value.bool false)))), It.mk (some 43) none (IK.p (PK.mov (Operand.tmp 42))), It.mk (some 44) (some (43, true)) (IK.p (PK.fAddr (Operand.tmp 1) 4 36)), It.mk (some 45) (some (43, true)) (IK.p (PK.load (Operand.tmp 44) 1 false)), It.mk (some 46) (some (43, true)) (IK.call 105 [Operand.tmp 45]), It.mk (some 47) none (IK.p (PK.pick (Operand.tmp 43) (Operand.tmp 46) (Operand.const (Value.bool false)))), It.mk (some 48) none (IK.p (PK.mov (Operand.tmp 47))), It.mk (some 49) (some (48, true)) (IK.p (PK.fAddr (Operand.tmp 1) 6 38)), It.mk (some 50) (some (48, true)) (IK.p (PK.load (Operand.tmp 49) 1 false)), It.mk (some 51) (some (48, true)) (IK.p (PK.bin BinOp.geq (Operand.tmp 50) (Operand.const (Value.int IntKind.i64 1)))), It.mk (some 52) none (IK.p (PK.pick (Operand.tmp 48) (Operand.tmp 51) (Operand.const (Value.bool false)))), It.mk (some 53) none (IK.p (PK.mov (Operand.tmp 52))), It.mk (some 54) (some (53, true)) (IK.p (PK.fAddr (Operand.tmp 1) 6 38)), It.mk (some 55) (some (53, true)) (IK.p (PK.load (Operand.tmp 54) 1 false)), It.mk (some 56) (some (53, true)) (IK.p (PK.fAddr (Operand.tmp 1) 5 37)), It.mk (some 57) (some (53, true)) (IK.p (PK.load (Operand.tmp 56) 1 false)), It.mk (some 58) (some (53, true)) (IK.p (PK.bin BinOp.lss (Operand.tmp 55) (Operand.tmp 57))), It.mk (some 59) none (IK.p (PK.pick (Operand.tmp 53) (Operand.tmp 58) (Operand.const (Value.bool false)))), It.mk (some 60) none (IK.p (PK.mov (Operand.tmp 59))), It.mk (some 61) (some (60, true)) (IK.p (PK.fAddr (Operand.tmp 1) 5 37)), It.mk (some 62) (some (60, true)) (IK.p (PK.load (Operand.tmp 61) 1 false)), It.mk (some 63) (some (60, true)) (IK.p (PK.bin BinOp.leq (Operand.tmp 62) (Operand.const (Value.int IntKind.i64 65536)))), It.mk (some 64) none (IK.p (PK.pick (Operand.tmp 60) (Operand.tmp 63) (Operand.const (Value.bool false)))), It.mk (some 65) none (IK.p (PK.mov (Operand.tmp 64))), It.mk (some 66) (some (65, true)) (IK.p (PK.fAddr (Operand.tmp 1) 3 3)), It.mk (some 67) (some (65, true)) (IK.p (PK.fAddr (Operand.tmp 66) 1 32)), It.mk (some 68) (some (65, true)) (IK.p (PK.load (Operand.tmp 67) 1 false)), It.mk (some 69) (some (65, true)) (IK.p (PK.bin BinOp.geq (Operand.tmp 68) (Operand.const (Value.int IntKind.i64 0)))), It.mk (some 70) none (IK.p (PK.pick (Operand.tmp 65) (Operand.tmp 69) (Operand.const (Value.bool false)))), It.mk (some 71) none (IK.p (PK.mov (Operand.tmp 70))), It.mk (some 72) (some (71, true)) (IK.p (PK.fAddr (Operand.tmp 1) 3 3)), It.mk (some 73) (some (71, true)) (IK.p (PK.fAddr (Operand.tmp 72) 1 32)), It.mk (some 74) (some (71, true)) (IK.p (PK.load (Operand.tmp 73) 1 false)), It.mk (some 75) (some (71, true)) (IK.p (PK.bin BinOp.lss (Operand.tmp 74) (Operand.const (Value.int IntKind.i64 16)))), It.mk (some 76) none (IK.p (PK.pick (Operand.tmp 71) (Operand.tmp 75) (Operand.const (Value.bool false)))), It.mk (some 2) none (IK.p (PK.mov (Operand.tmp 76)))] (by kernel_rfl) ?_
  refine apl_cut [_, _, _, _, _, _, _, _, _, _, _, _, _, _, _, _, _, _, _, _, _, _, _, _, _, _, _, _, _, _, _, _, _, _, _, _, _, _, _, _, _, _, _] _ (fun K3 hK3 => ?_)
  simp (maxSteps:=999999) (disch:=omega) only [av1, av2, av3, av4, eq_self, exists_const, forall_const, implies_true, storeOk, thenQ, PK.cond, PK.val, Nat.reduceAdd, Nat.reduceLT, Nat.reduceMul, reduceCtorEq, ↓reduceIte, Nat.reduceEqDiff, Nat.reduceLeDiff, Nat.reduceSub, Nat.reduceBEq, Nat.reduceBNe, Int.reduceLT, Int.reduceEq, Int.reduceAdd, Int.reduceToNat, Int.reduceLE, Int.reduceBEq, Int.reduceBNe, enc1, cChan]
  (repeat ((with_reducible refine And.intro ?_ ?_); (first | trivial | assumption | omega | (exact nf_imp _) | (exact fn_imp _) | (intro hq; exact ⟨hq, by omega⟩) | (simp; done) | (intro hq; simp [hq]; done) | (intro hq; refine ⟨hq, fun hq2 => ?_⟩; rw [hq, hq2]; rfl))))
  refine hK3 _ ?_
  (try clear hK3)
  refine apl_cut [_] _ (fun K4 hK4 => ?_)
  simp (maxSteps:=999999) (disch:=omega) only [av1, av2, av3, av4, eq_self, exists_const, forall_const, implies_true, storeOk, thenQ, PK.cond, PK.val, Nat.reduceAdd, Nat.reduceLT, Nat.reduceMul, reduceCtorEq, ↓reduceIte, Nat.reduceEqDiff, Nat.reduceLeDiff, Nat.reduceSub, Nat.reduceBEq, Nat.reduceBNe, Int.reduceLT, Int.reduceEq, Int.reduceAdd, Int.reduceToNat, Int.reduceLE, Int.reduceBEq, Int.reduceBNe, enc1, cChan]
  apply Exists.intro
  apply And.intro
  · first | exact (coinRight_ap _) | exact (fun _ => (coinRight_ap _)) | exact (fun h => ⟨h, (coinRight_ap _)⟩) | exact (fun h => ⟨by simp_all, (coinRight_ap _)⟩)
  (try simp only [rsAV, List.map_cons, List.map_nil, thenQ])
  refine hK4 _ ?_
  (try clear hK4)
  simp (maxSteps:=999999) (disch:=omega) only [av1, av2, av3, av4, eq_self, exists_const, forall_const, implies_true, storeOk, thenQ, PK.cond, PK.val, Nat.reduceAdd, Nat.reduceLT, Nat.reduceMul, reduceCtorEq, ↓reduceIte, Nat.reduceEqDiff, Nat.reduceLeDiff, Nat.reduceSub, Nat.reduceBEq, Nat.reduceBNe, Int.reduceLT, Int.reduceEq, Int.reduceAdd, Int.reduceToNat, Int.reduceLE, Int.reduceBEq, Int.reduceBNe, enc1, cChan]
  (repeat ((with_reducible refine And.intro ?_ ?_); (first | trivial | assumption | omega | (exact nf_imp _) | (exact fn_imp _) | (intro hq; exact ⟨hq, by omega⟩) | (simp; done) | (intro hq; simp [hq]; done) | (intro hq; refine ⟨hq, fun hq2 => ?_⟩; rw [hq, hq2]; rfl))))
  refine hK2 _ ?_
  (try clear hK2)
  refine at_ret ?_
  simp (maxSteps:=999999) (disch:=omega) only [av1, av2, av3, av4, eq_self, exists_const, forall_const, implies_true, storeOk, thenQ, PK.cond, PK.val, Nat.reduceAdd, Nat.reduceLT, Nat.reduceMul, reduceCtorEq, ↓reduceIte, Nat.reduceEqDiff, Nat.reduceLeDiff, Nat.reduceSub, Nat.reduceBEq, Nat.reduceBNe, Int.reduceLT, Int.reduceEq, Int.reduceAdd, Int.reduceToNat, Int.reduceLE, Int.reduceBEq, Int.reduceBNe, enc1, cChan, blockQ, retQ, RetOk, ResOk, AV.fin, AV.fins, CV.le, CV.les]
  simp only [chanB]
structure CoinAt (l : List Int) (k : Nat) (s : Int) : Prop where
  le : k ≤ l.length
  eq : coinAdd 0 l = coinAdd s (l.drop k)
  lo : 0 ≤ s
  hi : s ≤ 1125899906842624
theorem CoinAt.start (l : List Int) : CoinAt l 0 0 := ⟨Nat.zero_le _, rfl, by omega, by omega⟩
theorem CoinAt.step {l : List Int} {k : Nat} {s : Int} (h : CoinAt l k s) (hk : k < l.length) : coinAdd 0 l = if coinRight (l.getD k 0) = false then (0, 5) else if s + l.getD k 0 > 1125899906842624 then (0, 10) else coinAdd (s + l.getD k 0) (l.drop (k + 1)) := by
  rw [h.eq, drop_cons l k hk]; rfl
theorem coinRight_iff {n : Int} : coinRight n = true ↔ 0 ≤ n ∧ n ≤ 1125899906842624 := by simp [coinRight]
theorem CoinAt.next {l : List Int} {k : Nat} {s : Int} (h : CoinAt l k s) (hk : k < l.length) (h1 : coinRight (l.getD k 0) = true) (h2 : s + l.getD k 0 ≤ 1125899906842624) : CoinAt l (k + 1) (s + l.getD k 0) := by
  have hs := h.step hk
  rw [if_neg (by rw [h1]; simp), if_neg (by omega)] at hs
  have := coinRight_iff.1 h1
  exact ⟨by omega, hs, by have := h.lo; omega, h2⟩
set_option maxRecDepth 100000 in
set_option maxHeartbeats 4000000 in
theorem coinAdd_ap (l : List Int) (hl : l.length ≤ 1000000) : AP Try.prog 71 [ints .i64 l] [ic .i64 (coinAdd 0 l).1, ic .i64 (coinAdd 0 l).2] := by
  refine ap_of (fun _ _ => Try.call71 _ _) Try.func71 rfl Try.ntmps71 (by simp) (zs := [RZ.mk 2 none, RZ.mk 3 none]) (by kernel_rfl) (fun w F => ?_)
  simp only [List.map_cons, List.map_nil, argT, Nat.reduceAdd]
  refine at_seq fun K1 hK1 => ?_
  refine at_region [It.mk (some 2) none (IK.p (PK.mov (Operand.const (Value.int IntKind.i64 0)))), It.mk (some 3) none (IK.p (PK.mov (Operand.const (Value.int IntKind.i64 0))))] (by kernel_rfl) ?_
  simp (maxSteps:=999999) (disch:=omega) only [av1, av2, av3, av4, eq_self, exists_const, forall_const, implies_true, storeOk, thenQ, PK.cond, PK.val, Nat.reduceAdd, Nat.reduceLT, Nat.reduceMul, reduceCtorEq, ↓reduceIte, Nat.reduceEqDiff, Nat.reduceLeDiff, Nat.reduceSub, Nat.reduceBEq, Nat.reduceBNe, Int.reduceLT, Int.reduceEq, Int.reduceAdd, Int.reduceToNat, Int.reduceLE, Int.reduceBEq, Int.reduceBNe, ic, ints, getD_map, int_default, wrap64]
  (repeat ((with_reducible refine And.intro ?_ ?_); (first | trivial | assumption | omega | (exact nf_imp _) | (exact fn_imp _) | (intro hq; exact ⟨hq, by omega⟩) | (simp; done) | (intro hq; simp [hq]; done) | (intro hq; refine ⟨hq, fun hq2 => ?_⟩; rw [hq, hq2]; rfl))))
  refine hK1 _ ?_
  (try clear hK1)
  refine at_seq fun K2 hK2 => ?_
  refine at_region [It.mk (some 4) none (IK.p (PK.mov (Operand.const (Value.int IntKind.i64 0))))] (by kernel_rfl) ?_
  simp (maxSteps:=999999) (disch:=omega) only [av1, av2, av3, av4, eq_self, exists_const, forall_const, implies_true, storeOk, thenQ, PK.cond, PK.val, Nat.reduceAdd, Nat.reduceLT, Nat.reduceMul, reduceCtorEq, ↓reduceIte, Nat.reduceEqDiff, Nat.reduceLeDiff, Nat.reduceSub, Nat.reduceBEq, Nat.reduceBNe, Int.reduceLT, Int.reduceEq, Int.reduceAdd, Int.reduceToNat, Int.reduceLE, Int.reduceBEq, Int.reduceBNe, ic, ints, getD_map, int_default, wrap64]
  (repeat ((with_reducible refine And.intro ?_ ?_); (first | trivial | assumption | omega | (exact nf_imp _) | (exact fn_imp _) | (intro hq; exact ⟨hq, by omega⟩) | (simp; done) | (intro hq; simp [hq]; done) | (intro hq; refine ⟨hq, fun hq2 => ?_⟩; rw [hq, hq2]; rfl))))
  refine hK2 _ ?_
  (try clear hK2)
  refine at_seq fun K3 hK3 => ?_
  refine at_seq fun K4 hK4 => ?_
  refine at_region [It.mk (some 7) none (IK.p (PK.mov (Operand.tmp 0))), It.mk (some 8) none (IK.p (PK.len false (Operand.tmp 7))), It.mk (some 9) none (IK.p (PK.mov (Operand.const (Value.int IntKind.i64 0))))] (by kernel_rfl) ?_
  simp (maxSteps:=999999) (disch:=omega) only [av1, av2, av3, av4, eq_self, exists_const, forall_const, implies_true, storeOk, thenQ, PK.cond, PK.val, Nat.reduceAdd, Nat.reduceLT, Nat.reduceMul, reduceCtorEq, ↓reduceIte, Nat.reduceEqDiff, Nat.reduceLeDiff, Nat.reduceSub, Nat.reduceBEq, Nat.reduceBNe, Int.reduceLT, Int.reduceEq, Int.reduceAdd, Int.reduceToNat, Int.reduceLE, Int.reduceBEq, Int.reduceBNe, ic, ints, getD_map, int_default, wrap64]
  (repeat ((with_reducible refine And.intro ?_ ?_); (first | trivial | assumption | omega | (exact nf_imp _) | (exact fn_imp _) | (intro hq; exact ⟨hq, by omega⟩) | (simp; done) | (intro hq; simp [hq]; done) | (intro hq; refine ⟨hq, fun hq2 => ?_⟩; rw [hq, hq2]; rfl))))
  refine hK4 _ ?_
  (try clear hK4)
  refine at_block ?_
  refine at_loopK [7, 8] (fun x : { p : Nat × Int // CoinAt l p.1 p.2 } => [(4, true, bi .i64 x.1.2), (9, true, bi .i64 x.1.1)]) (fun x => l.length - x.1.1) ⟨(0, 0), CoinAt.start l⟩ ?_ ?_
  · simp (maxSteps:=999999) (disch:=omega) only [av1, av2, av3, av4, eq_self, exists_const, forall_const, implies_true, storeOk, thenQ, PK.cond, PK.val, Nat.reduceAdd, Nat.reduceLT, Nat.reduceMul, reduceCtorEq, ↓reduceIte, Nat.reduceEqDiff, Nat.reduceLeDiff, Nat.reduceSub, Nat.reduceBEq, Nat.reduceBNe, Int.reduceLT, Int.reduceEq, Int.reduceAdd, Int.reduceToNat, Int.reduceLE, Int.reduceBEq, Int.reduceBNe, ic, ints, getD_map, int_default, wrap64]
    repeat' (first | exact SubT.nil | refine SubT.cons (by first | rfl | (simp [look]; done) | (fail)) ?_)
  rintro ⟨⟨k, s⟩, hk⟩; have hk : CoinAt l k s := hk; have hk' := hk; obtain ⟨k1, k2, k3, k4⟩ := hk'
  simp (maxSteps:=999999) (disch:=omega) only [av1, av2, av3, av4, eq_self, exists_const, forall_const, implies_true, storeOk, thenQ, PK.cond, PK.val, Nat.reduceAdd, Nat.reduceLT, Nat.reduceMul, reduceCtorEq, ↓reduceIte, Nat.reduceEqDiff, Nat.reduceLeDiff, Nat.reduceSub, Nat.reduceBEq, Nat.reduceBNe, Int.reduceLT, Int.reduceEq, Int.reduceAdd, Int.reduceToNat, Int.reduceLE, Int.reduceBEq, Int.reduceBNe, ic, ints, getD_map, int_default, wrap64]
  refine at_seq fun K5 hK5 => ?_
  refine at_region [It.mk (some 10) none (IK.p (PK.bin BinOp.lss (Operand.tmp 9) (Operand.tmp 8)))] (by kernel_rfl) ?_
  simp (maxSteps:=999999) (disch:=omega) only [av1, av2, av3, av4, eq_self, exists_const, forall_const, implies_true, storeOk, thenQ, PK.cond, PK.val, Nat.reduceAdd, Nat.reduceLT, Nat.reduceMul, reduceCtorEq, ↓reduceIte, Nat.reduceEqDiff, Nat.reduceLeDiff, Nat.reduceSub, Nat.reduceBEq, Nat.reduceBNe, Int.reduceLT, Int.reduceEq, Int.reduceAdd, Int.reduceToNat, Int.reduceLE, Int.reduceBEq, Int.reduceBNe, ic, ints, getD_map, int_default, wrap64]
  (repeat ((with_reducible refine And.intro ?_ ?_); (first | trivial | assumption | omega | (exact nf_imp _) | (exact fn_imp _) | (intro hq; exact ⟨hq, by omega⟩) | (simp; done) | (intro hq; simp [hq]; done) | (intro hq; refine ⟨hq, fun hq2 => ?_⟩; rw [hq, hq2]; rfl))))
  refine hK5 _ ?_
  (try clear hK5)
  refine at_seq fun K6 hK6 => ?_
  refine at_cond _ rfl rfl (fun h7 => ?_) (fun h7 => ?_)
  · have r7 := h7
    (try simp only [dB2, coinRight_iff] at h7)
    refine at_skip ?_
    (try simp only [thenQ, blockQ])
    refine hK6 _ ?_
    (try clear hK6)
    refine at_seq fun K8 hK8 => ?_
    refine at_block ?_
    refine at_seq fun K9 hK9 => ?_
    refine at_region [It.mk (some 11) none (IK.p (PK.iAddrS (Operand.tmp 7) (Operand.tmp 9) 1)), It.mk (some 12) none (IK.p (PK.load (Operand.tmp 11) 1 false)), It.mk (some 6) none (IK.p (PK.mov (Operand.tmp 12)))] (by kernel_rfl) ?_
    simp (maxSteps:=999999) (disch:=omega) only [av1, av2, av3, av4, eq_self, exists_const, forall_const, implies_true, storeOk, thenQ, PK.cond, PK.val, Nat.reduceAdd, Nat.reduceLT, Nat.reduceMul, reduceCtorEq, ↓reduceIte, Nat.reduceEqDiff, Nat.reduceLeDiff, Nat.reduceSub, Nat.reduceBEq, Nat.reduceBNe, Int.reduceLT, Int.reduceEq, Int.reduceAdd, Int.reduceToNat, Int.reduceLE, Int.reduceBEq, Int.reduceBNe, ic, ints, getD_map, int_default, wrap64]
    (repeat ((with_reducible refine And.intro ?_ ?_); (first | trivial | assumption | omega | (exact nf_imp _) | (exact fn_imp _) | (intro hq; exact ⟨hq, by omega⟩) | (simp; done) | (intro hq; simp [hq]; done) | (intro hq; refine ⟨hq, fun hq2 => ?_⟩; rw [hq, hq2]; rfl))))
    refine hK9 _ ?_
    (try clear hK9)
    refine at_seq fun K10 hK10 => ?_
    refine at_seq fun K11 hK11 => ?_
    refine at_region [It.mk (some 13) none (IK.p (PK.mov (Operand.tmp 6))), It.mk (some 14) none (IK.call 105 [Operand.tmp 13]), It.mk (some 15) none (IK.p (PK.not (Operand.tmp 14)))] (by kernel_rfl) ?_
    refine apl_cut [_] _ (fun K12 hK12 => ?_)
    simp (maxSteps:=999999) (disch:=omega) only [av1, av2, av3, av4, eq_self, exists_const, forall_const, implies_true, storeOk, thenQ, PK.cond, PK.val, Nat.reduceAdd, Nat.reduceLT, Nat.reduceMul, reduceCtorEq, ↓reduceIte, Nat.reduceEqDiff, Nat.reduceLeDiff, Nat.reduceSub, Nat.reduceBEq, Nat.reduceBNe, Int.reduceLT, Int.reduceEq, Int.reduceAdd, Int.reduceToNat, Int.reduceLE, Int.reduceBEq, Int.reduceBNe, ic, ints, getD_map, int_default, wrap64]
    (repeat ((with_reducible refine And.intro ?_ ?_); (first | trivial | assumption | omega | (exact nf_imp _) | (exact fn_imp _) | (intro hq; exact ⟨hq, by omega⟩) | (simp; done) | (intro hq; simp [hq]; done) | (intro hq; refine ⟨hq, fun hq2 => ?_⟩; rw [hq, hq2]; rfl))))
    refine hK12 _ ?_
    (try clear hK12)
    refine apl_cut [_] _ (fun K13 hK13 => ?_)
    simp (maxSteps:=999999) (disch:=omega) only [av1, av2, av3, av4, eq_self, exists_const, forall_const, implies_true, storeOk, thenQ, PK.cond, PK.val, Nat.reduceAdd, Nat.reduceLT, Nat.reduceMul, reduceCtorEq, ↓reduceIte, Nat.reduceEqDiff, Nat.reduceLeDiff, Nat.reduceSub, Nat.reduceBEq, Nat.reduceBNe, Int.reduceLT, Int.reduceEq, Int.reduceAdd, Int.reduceToNat, Int.reduceLE, Int.reduceBEq, Int.reduceBNe, ic, ints, getD_map, int_default, wrap64]
    apply Exists.intro
    apply And.intro
    · first | exact (coinRight_ap _) | exact (fun _ => (coinRight_ap _)) | exact (fun h => ⟨h, (coinRight_ap _)⟩) | exact (fun h => ⟨by simp_all, (coinRight_ap _)⟩)
    (try simp only [rsAV, List.map_cons, List.map_nil, thenQ])
    refine hK13 _ ?_
    (try clear hK13)
    simp (maxSteps:=999999) (disch:=omega) only [av1, av2, av3, av4, eq_self, exists_const, forall_const, implies_true, storeOk, thenQ, PK.cond, PK.val, Nat.reduceAdd, Nat.reduceLT, Nat.reduceMul, reduceCtorEq, ↓reduceIte, Nat.reduceEqDiff, Nat.reduceLeDiff, Nat.reduceSub, Nat.reduceBEq, Nat.reduceBNe, Int.reduceLT, Int.reduceEq, Int.reduceAdd, Int.reduceToNat, Int.reduceLE, Int.reduceBEq, Int.reduceBNe, ic, ints, getD_map, int_default, wrap64]
    (repeat ((with_reducible refine And.intro ?_ ?_); (first | trivial | assumption | omega | (exact nf_imp _) | (exact fn_imp _) | (intro hq; exact ⟨hq, by omega⟩) | (simp; done) | (intro hq; simp [hq]; done) | (intro hq; refine ⟨hq, fun hq2 => ?_⟩; rw [hq, hq2]; rfl))))
    refine hK11 _ ?_
    (try clear hK11)
    refine at_cond _ rfl rfl (fun h14 => ?_) (fun h14 => ?_)
    · have r14 := h14
      (try simp only [dB2, coinRight_iff] at h14)
      refine at_seq fun K15 hK15 => ?_
      refine at_region [It.mk (some 2) none (IK.p (PK.mov (Operand.const (Value.int IntKind.i64 0)))), It.mk (some 3) none (IK.p (PK.mov (Operand.const (Value.int IntKind.i64 5))))] (by kernel_rfl) ?_
      simp (maxSteps:=999999) (disch:=omega) only [av1, av2, av3, av4, eq_self, exists_const, forall_const, implies_true, storeOk, thenQ, PK.cond, PK.val, Nat.reduceAdd, Nat.reduceLT, Nat.reduceMul, reduceCtorEq, ↓reduceIte, Nat.reduceEqDiff, Nat.reduceLeDiff, Nat.reduceSub, Nat.reduceBEq, Nat.reduceBNe, Int.reduceLT, Int.reduceEq, Int.reduceAdd, Int.reduceToNat, Int.reduceLE, Int.reduceBEq, Int.reduceBNe, ic, ints, getD_map, int_default, wrap64]
      (repeat ((with_reducible refine And.intro ?_ ?_); (first | trivial | assumption | omega | (exact nf_imp _) | (exact fn_imp _) | (intro hq; exact ⟨hq, by omega⟩) | (simp; done) | (intro hq; simp [hq]; done) | (intro hq; refine ⟨hq, fun hq2 => ?_⟩; rw [hq, hq2]; rfl))))
      refine hK15 _ ?_
      (try clear hK15)
      refine at_ret ?_
      simp (maxSteps:=999999) (disch:=omega) only [av1, av2, av3, av4, eq_self, exists_const, forall_const, implies_true, storeOk, thenQ, PK.cond, PK.val, Nat.reduceAdd, Nat.reduceLT, Nat.reduceMul, reduceCtorEq, ↓reduceIte, Nat.reduceEqDiff, Nat.reduceLeDiff, Nat.reduceSub, Nat.reduceBEq, Nat.reduceBNe, Int.reduceLT, Int.reduceEq, Int.reduceAdd, Int.reduceToNat, Int.reduceLE, Int.reduceBEq, Int.reduceBNe, ic, ints, getD_map, int_default, wrap64, blockQ, retQ, RetOk, ResOk, AV.fin, AV.fins, CV.le, CV.les]
      first
        | (have e := hk.step (by omega); rw [e, if_pos (by assumption)]; exact ⟨rfl, rfl⟩)
        | (have e := hk.step (by omega); rw [e, if_neg (by rw [coinRight_iff.2 (by omega)]; simp), if_pos (by omega)]; exact ⟨rfl, rfl⟩)
        | (have e : k = l.length := by omega
           subst e
           rw [k2, List.drop_length, coinAdd]
           exact ⟨rfl, rfl⟩)
    · have r14 := h14
      (try simp only [dB2, coinRight_iff] at h14)
      refine at_skip ?_
      (try simp only [thenQ, blockQ])
      refine hK10 _ ?_
      (try clear hK10)
      refine at_seq fun K16 hK16 => ?_
      refine at_region [It.mk (some 16) none (IK.p (PK.mov (Operand.tmp 4))), It.mk (some 17) none (IK.p (PK.mov (Operand.tmp 6))), It.mk (some 18) none (IK.p (PK.bin BinOp.add (Operand.tmp 16) (Operand.tmp 17))), It.mk (some 4) none (IK.p (PK.mov (Operand.tmp 18)))] (by kernel_rfl) ?_
      simp (maxSteps:=999999) (disch:=omega) only [av1, av2, av3, av4, eq_self, exists_const, forall_const, implies_true, storeOk, thenQ, PK.cond, PK.val, Nat.reduceAdd, Nat.reduceLT, Nat.reduceMul, reduceCtorEq, ↓reduceIte, Nat.reduceEqDiff, Nat.reduceLeDiff, Nat.reduceSub, Nat.reduceBEq, Nat.reduceBNe, Int.reduceLT, Int.reduceEq, Int.reduceAdd, Int.reduceToNat, Int.reduceLE, Int.reduceBEq, Int.reduceBNe, ic, ints, getD_map, int_default, wrap64]
      (repeat ((with_reducible refine And.intro ?_ ?_); (first | trivial | assumption | omega | (exact nf_imp _) | (exact fn_imp _) | (intro hq; exact ⟨hq, by omega⟩) | (simp; done) | (intro hq; simp [hq]; done) | (intro hq; refine ⟨hq, fun hq2 => ?_⟩; rw [hq, hq2]; rfl))))
      refine hK16 _ ?_
      (try clear hK16)
      refine at_seq fun K17 hK17 => ?_
      refine at_region [It.mk (some 19) none (IK.p (PK.mov (Operand.tmp 4))), It.mk (some 20) none (IK.p (PK.bin BinOp.gtr (Operand.tmp 19) (Operand.const (Value.int IntKind.i64 1125899906842624))))] (by kernel_rfl) ?_
      simp (maxSteps:=999999) (disch:=omega) only [av1, av2, av3, av4, eq_self, exists_const, forall_const, implies_true, storeOk, thenQ, PK.cond, PK.val, Nat.reduceAdd, Nat.reduceLT, Nat.reduceMul, reduceCtorEq, ↓reduceIte, Nat.reduceEqDiff, Nat.reduceLeDiff, Nat.reduceSub, Nat.reduceBEq, Nat.reduceBNe, Int.reduceLT, Int.reduceEq, Int.reduceAdd, Int.reduceToNat, Int.reduceLE, Int.reduceBEq, Int.reduceBNe, ic, ints, getD_map, int_default, wrap64]
      (repeat ((with_reducible refine And.intro ?_ ?_); (first | trivial | assumption | omega | (exact nf_imp _) | (exact fn_imp _) | (intro hq; exact ⟨hq, by omega⟩) | (simp; done) | (intro hq; simp [hq]; done) | (intro hq; refine ⟨hq, fun hq2 => ?_⟩; rw [hq, hq2]; rfl))))
      refine hK17 _ ?_
      (try clear hK17)
      refine at_cond _ rfl rfl (fun h18 => ?_) (fun h18 => ?_)
      · have r18 := h18
        (try simp only [dB2, coinRight_iff] at h18)
        refine at_seq fun K19 hK19 => ?_
        refine at_region [It.mk (some 2) none (IK.p (PK.mov (Operand.const (Value.int IntKind.i64 0)))), It.mk (some 3) none (IK.p (PK.mov (Operand.const (Value.int IntKind.i64 10))))] (by kernel_rfl) ?_
        simp (maxSteps:=999999) (disch:=omega) only [av1, av2, av3, av4, eq_self, exists_const, forall_const, implies_true, storeOk, thenQ, PK.cond, PK.val, Nat.reduceAdd, Nat.reduceLT, Nat.reduceMul, reduceCtorEq, ↓reduceIte, Nat.reduceEqDiff, Nat.reduceLeDiff, Nat.reduceSub, Nat.reduceBEq, Nat.reduceBNe, Int.reduceLT, Int.reduceEq, Int.reduceAdd, Int.reduceToNat, Int.reduceLE, Int.reduceBEq, Int.reduceBNe, ic, ints, getD_map, int_default, wrap64]
        (repeat ((with_reducible refine And.intro ?_ ?_); (first | trivial | assumption | omega | (exact nf_imp _) | (exact fn_imp _) | (intro hq; exact ⟨hq, by omega⟩) | (simp; done) | (intro hq; simp [hq]; done) | (intro hq; refine ⟨hq, fun hq2 => ?_⟩; rw [hq, hq2]; rfl))))
        refine hK19 _ ?_
        (try clear hK19)
        refine at_ret ?_
        simp (maxSteps:=999999) (disch:=omega) only [av1, av2, av3, av4, eq_self, exists_const, forall_const, implies_true, storeOk, thenQ, PK.cond, PK.val, Nat.reduceAdd, Nat.reduceLT, Nat.reduceMul, reduceCtorEq, ↓reduceIte, Nat.reduceEqDiff, Nat.reduceLeDiff, Nat.reduceSub, Nat.reduceBEq, Nat.reduceBNe, Int.reduceLT, Int.reduceEq, Int.reduceAdd, Int.reduceToNat, Int.reduceLE, Int.reduceBEq, Int.reduceBNe, ic, ints, getD_map, int_default, wrap64, blockQ, retQ, RetOk, ResOk, AV.fin, AV.fins, CV.le, CV.les]
        first
          | (have e := hk.step (by omega); rw [e, if_pos (by assumption)]; exact ⟨rfl, rfl⟩)
          | (have e := hk.step (by omega); rw [e, if_neg (by rw [coinRight_iff.2 (by omega)]; simp), if_pos (by omega)]; exact ⟨rfl, rfl⟩)
          | (have e : k = l.length := by omega
             subst e
             rw [k2, List.drop_length, coinAdd]
             exact ⟨rfl, rfl⟩)
      · have r18 := h18
        (try simp only [dB2, coinRight_iff] at h18)
        refine at_skip ?_
        (try simp only [thenQ, blockQ])
        (try simp only [blockQ])
        refine hK8 _ ?_
        (try clear hK8)
        refine at_region [It.mk (some 21) none (IK.p (PK.bin BinOp.add (Operand.tmp 9) (Operand.const (Value.int IntKind.i64 1)))), It.mk (some 9) none (IK.p (PK.mov (Operand.tmp 21)))] (by kernel_rfl) ?_
        simp (maxSteps:=999999) (disch:=omega) only [av1, av2, av3, av4, eq_self, exists_const, forall_const, implies_true, storeOk, thenQ, PK.cond, PK.val, Nat.reduceAdd, Nat.reduceLT, Nat.reduceMul, reduceCtorEq, ↓reduceIte, Nat.reduceEqDiff, Nat.reduceLeDiff, Nat.reduceSub, Nat.reduceBEq, Nat.reduceBNe, Int.reduceLT, Int.reduceEq, Int.reduceAdd, Int.reduceToNat, Int.reduceLE, Int.reduceBEq, Int.reduceBNe, ic, ints, getD_map, int_default, wrap64]
        (repeat ((with_reducible refine And.intro ?_ ?_); (first | trivial | assumption | omega | (exact nf_imp _) | (exact fn_imp _) | (intro hq; exact ⟨hq, by omega⟩) | (simp; done) | (intro hq; simp [hq]; done) | (intro hq; refine ⟨hq, fun hq2 => ?_⟩; rw [hq, hq2]; rfl))))
        refine ⟨⟨(k + 1, s + l.getD k 0), hk.next (by omega) (coinRight_iff.2 (by omega)) (by omega)⟩, by (dsimp only; omega), ?_⟩
        refine Le.same rfl ?_
        (try simp (maxSteps:=999999) (disch:=omega) only [av1, av2, av3, av4, eq_self, exists_const, forall_const, implies_true, storeOk, thenQ, PK.cond, PK.val, Nat.reduceAdd, Nat.reduceLT, Nat.reduceMul, reduceCtorEq, ↓reduceIte, Nat.reduceEqDiff, Nat.reduceLeDiff, Nat.reduceSub, Nat.reduceBEq, Nat.reduceBNe, Int.reduceLT, Int.reduceEq, Int.reduceAdd, Int.reduceToNat, Int.reduceLE, Int.reduceBEq, Int.reduceBNe, ic, ints, getD_map, int_default, wrap64])
        repeat' (first | exact SubT.nil | refine SubT.cons ?_ ?_)
        all_goals (first | rfl | (simp only [look, Nat.reduceEqDiff, ↓reduceIte]; first | rfl | ((rw [wrap64 (by omega) (by omega)]; rfl))))
  · have r7 := h7
    (try simp only [dB2, coinRight_iff] at h7)
    refine at_exit ?_
    simp only [thenQ, blockQ, if_true]
    refine hK3 _ ?_
    (try clear hK3)
    refine at_seq fun K20 hK20 => ?_
    refine at_region [It.mk (some 22) none (IK.p (PK.mov (Operand.tmp 4))), It.mk (some 2) none (IK.p (PK.mov (Operand.tmp 22))), It.mk (some 3) none (IK.p (PK.mov (Operand.const (Value.int IntKind.i64 0))))] (by kernel_rfl) ?_
    simp (maxSteps:=999999) (disch:=omega) only [av1, av2, av3, av4, eq_self, exists_const, forall_const, implies_true, storeOk, thenQ, PK.cond, PK.val, Nat.reduceAdd, Nat.reduceLT, Nat.reduceMul, reduceCtorEq, ↓reduceIte, Nat.reduceEqDiff, Nat.reduceLeDiff, Nat.reduceSub, Nat.reduceBEq, Nat.reduceBNe, Int.reduceLT, Int.reduceEq, Int.reduceAdd, Int.reduceToNat, Int.reduceLE, Int.reduceBEq, Int.reduceBNe, ic, ints, getD_map, int_default, wrap64]
    (repeat ((with_reducible refine And.intro ?_ ?_); (first | trivial | assumption | omega | (exact nf_imp _) | (exact fn_imp _) | (intro hq; exact ⟨hq, by omega⟩) | (simp; done) | (intro hq; simp [hq]; done) | (intro hq; refine ⟨hq, fun hq2 => ?_⟩; rw [hq, hq2]; rfl))))
    refine hK20 _ ?_
    (try clear hK20)
    refine at_ret ?_
    simp (maxSteps:=999999) (disch:=omega) only [av1, av2, av3, av4, eq_self, exists_const, forall_const, implies_true, storeOk, thenQ, PK.cond, PK.val, Nat.reduceAdd, Nat.reduceLT, Nat.reduceMul, reduceCtorEq, ↓reduceIte, Nat.reduceEqDiff, Nat.reduceLeDiff, Nat.reduceSub, Nat.reduceBEq, Nat.reduceBNe, Int.reduceLT, Int.reduceEq, Int.reduceAdd, Int.reduceToNat, Int.reduceLE, Int.reduceBEq, Int.reduceBNe, ic, ints, getD_map, int_default, wrap64, blockQ, retQ, RetOk, ResOk, AV.fin, AV.fins, CV.le, CV.les]
    first
      | (have e := hk.step (by omega); rw [e, if_pos (by assumption)]; exact ⟨rfl, rfl⟩)
      | (have e := hk.step (by omega); rw [e, if_neg (by rw [coinRight_iff.2 (by omega)]; simp), if_pos (by omega)]; exact ⟨rfl, rfl⟩)
      | (have e : k = l.length := by omega
         subst e
         rw [k2, List.drop_length, coinAdd]
         exact ⟨rfl, rfl⟩)
structure CSt where
  n : Int
  client : Int
  peer : Int
  h0 : List Int
  h1 : List Int
def cCSt (s : CSt) : CV := .st [ic .i64 s.n, ic .i64 s.client, ic .i64 s.peer, .st [cSum s.h0, cSum s.h1]]
abbrev Z32 : List Int := List.replicate 32 0
def cstBad (c : Chan) (s : CSt) : Bool := !chanB c || decide (s.n < 0) || decide (s.n > 1048576) || (s.h0 == Z32) || (s.h1 == Z32)
def cstB (c : Chan) (s : CSt) : Bool := !cstBad c s && (((coinAdd 0 [s.client, s.peer]).2 == 0) && ((coinAdd 0 [s.client, s.peer]).1 == c.cap))
theorem pv_bool {a b : Bool} (h : a = b) : CV.pv (.bool a) = CV.pv (.bool b) := by rw [h]
set_option maxRecDepth 100000 in
set_option maxHeartbeats 4000000 in
theorem commitRight_ap (c : Chan) (s : CSt) : AP Try.prog 52 [cChan c, cCSt s] [.pv (.bool (cstB c s))] := by
  refine ap_of (fun _ _ => Try.call52 _ _) Try.func52 rfl Try.ntmps52 (by simp) (zs := [RZ.mk 4 none]) (by kernel_rfl) (fun w F => ?_)
  simp only [List.map_cons, List.map_nil, argT, Nat.reduceAdd]
  refine at_seq fun K1 hK1 => ?_
  refine at_region [It.mk (some 2) none (IK.box (Operand.tmp 0)), It.mk (some 3) none (IK.box (Operand.tmp 1)), It.mk (some 4) none (IK.p (PK.mov (Operand.const (Value.bool false))))] (by kernel_rfl) ?_
  simp (maxSteps:=999999) (disch:=omega) only [av1, av2, av3, av4, eq_self, exists_const, forall_const, implies_true, storeOk, thenQ, PK.cond, PK.val, Nat.reduceAdd, Nat.reduceLT, Nat.reduceMul, reduceCtorEq, ↓reduceIte, Nat.reduceEqDiff, Nat.reduceLeDiff, Nat.reduceSub, Nat.reduceBEq, Nat.reduceBNe, Int.reduceLT, Int.reduceEq, Int.reduceAdd, Int.reduceToNat, Int.reduceLE, Int.reduceBEq, Int.reduceBNe, enc1, cChan, cCSt, eqTy_Sum]
  (repeat ((with_reducible refine And.intro ?_ ?_); (first | trivial | assumption | omega | (exact nf_imp _) | (exact fn_imp _) | (intro hq; exact ⟨hq, by omega⟩) | (simp; done) | (intro hq; simp [hq]; done) | (intro hq; refine ⟨hq, fun hq2 => ?_⟩; rw [hq, hq2]; rfl))))
  refine hK1 _ ?_
  (try clear hK1)
  refine at_seq fun K2 hK2 => ?_
  refine at_seq fun K3 hK3 => ?_
  refine at_region [It.mk (some 7) none (IK.p (PK.load (Operand.tmp 2) 39 true)), It.mk (some 8) none (IK.call 50 [Operand.tmp 7]), It.mk (some 9) none (IK.p (PK.not (Operand.tmp 8))), It.mk (some 10) none (IK.p (PK.mov (Operand.tmp 9))), It.mk (some 11) (some (10, false)) (IK.p (PK.fAddr (Operand.tmp 3) 0 0)), It.mk (some 12) (some (10, false)) (IK.p (PK.load (Operand.tmp 11) 1 false)), It.mk (some 13) (some (10, false)) (IK.p (PK.bin BinOp.lss (Operand.tmp 12) (Operand.const (Value.int IntKind.i64 0)))), It.mk (some 14) none (IK.p (PK.pick (Operand.tmp 10) (Operand.const (Value.bool true)) (Operand.tmp 13))), It.mk (some 15) none (IK.p (PK.mov (Operand.tmp 14))), It.mk (some 16) (some (15, false)) (IK.p (PK.fAddr (Operand.tmp 3) 0 0)), It.mk (some 17) (some (15, false)) (IK.p (PK.load (Operand.tmp 16) 1 false)), It.mk (some 18) (some (15, false)) (IK.p (PK.bin BinOp.gtr (Operand.tmp 17) (Operand.const (Value.int IntKind.i64 1048576)))), It.mk (some 19) none (IK.p (PK.pick (Operand.tmp 15) (Operand.const (Value.bool true)) (Operand.tmp 18))), It.mk (some 20) none (IK.p (PK.mov (Operand.tmp 19))), It.mk (some 21) (some (20, false)) (IK.p (PK.fAddr (Operand.tmp 3) 3 3)), It.mk (some 22) (some (20, false)) (IK.p (PK.iAddrA (Operand.tmp 21) (Operand.const (Value.int IntKind.i64 0)) 2 32)), It.mk (some 23) (some (20, false)) (IK.p (PK.load (Operand.tmp 22) 32 true)), It.mk (some 24) (some (20, false)) (IK.p (PK.bld (CV.ar IntKind.u8 32 (List.replicate 32 0)) [(0, 1), (1, 1), (2, 1), (3, 1), (4, 1), (5, 1), (6, 1), (7, 1), (8, 1), (9, 1), (10, 1), (11, 1), (12, 1), (13, 1), (14, 1), (15, 1), (16, 1), (17, 1), (18, 1), (19, 1), (20, 1), (21, 1), (22, 1), (23, 1), (24, 1), (25, 1), (26, 1), (27, 1), (28, 1), (29, 1), (30, 1), (31, 1)] [])), It.mk (some 25) (some (20, false)) (IK.p (PK.eqA false 24 (Sh.a IntKind.u8 32) (Operand.tmp 23) (Operand.tmp 24))), It.mk (some 26) none (IK.p (PK.pick (Operand.tmp 20) (Operand.const (Value.bool true)) (Operand.tmp 25))), It.mk (some 27) none (IK.p (PK.mov (Operand.tmp 26))), It.mk (some 28) (some (27, false)) (IK.p (PK.fAddr (Operand.tmp 3) 3 3)), It.mk (some 29) (some (27, false)) (IK.p (PK.iAddrA (Operand.tmp 28) (Operand.const (Value.int IntKind.i64 1)) 2 32)), It.mk (some 30) (some (27, false)) (IK.p (PK.load (Operand.tmp 29) 32 true)), It.mk (some 31) (some (27, false)) (IK.p (PK.bld (CV.ar IntKind.u8 32 (List.replicate 32 0)) [(0, 1), (1, 1), (2, 1), (3, 1), (4, 1), (5, 1), (6, 1), (7, 1), (8, 1), (9, 1), (10, 1), (11, 1), (12, 1), (13, 1), (14, 1), (15, 1), (16, 1), (17, 1), (18, 1), (19, 1), (20, 1), (21, 1), (22, 1), (23, 1), (24, 1), (25, 1), (26, 1), (27, 1), (28, 1), (29, 1), (30, 1), (31, 1)] [])), It.mk (some 32) (some (27, false)) (IK.p (PK.eqA false 24 (Sh.a IntKind.u8 32) (Operand.tmp 30) (Operand.tmp 31))), It.mk (some 33) none (IK.p (PK.pick (Operand.tmp 27) (Operand.const (Value.bool true)) (Operand.tmp 32)))] (by kernel_rfl) ?_
  refine apl_cut [_] _ (fun K4 hK4 => ?_)
  simp (maxSteps:=999999) (disch:=omega) only [av1, av2, av3, av4, eq_self, exists_const, forall_const, implies_true, storeOk, thenQ, PK.cond, PK.val, Nat.reduceAdd, Nat.reduceLT, Nat.reduceMul, reduceCtorEq, ↓reduceIte, Nat.reduceEqDiff, Nat.reduceLeDiff, Nat.reduceSub, Nat.reduceBEq, Nat.reduceBNe, Int.reduceLT, Int.reduceEq, Int.reduceAdd, Int.reduceToNat, Int.reduceLE, Int.reduceBEq, Int.reduceBNe, enc1, cChan, cCSt, eqTy_Sum]
  (repeat ((with_reducible refine And.intro ?_ ?_); (first | trivial | assumption | omega | (exact nf_imp _) | (exact fn_imp _) | (intro hq; exact ⟨hq, by omega⟩) | (simp; done) | (intro hq; simp [hq]; done) | (intro hq; refine ⟨hq, fun hq2 => ?_⟩; rw [hq, hq2]; rfl))))
  refine hK4 _ ?_
  (try clear hK4)
  refine apl_cut [_] _ (fun K5 hK5 => ?_)
  simp (maxSteps:=999999) (disch:=omega) only [av1, av2, av3, av4, eq_self, exists_const, forall_const, implies_true, storeOk, thenQ, PK.cond, PK.val, Nat.reduceAdd, Nat.reduceLT, Nat.reduceMul, reduceCtorEq, ↓reduceIte, Nat.reduceEqDiff, Nat.reduceLeDiff, Nat.reduceSub, Nat.reduceBEq, Nat.reduceBNe, Int.reduceLT, Int.reduceEq, Int.reduceAdd, Int.reduceToNat, Int.reduceLE, Int.reduceBEq, Int.reduceBNe, enc1, cChan, cCSt, eqTy_Sum]
  apply Exists.intro
  apply And.intro
  · first | exact (rightChannel_ap c) | exact (fun _ => (rightChannel_ap c)) | exact (fun h => ⟨h, (rightChannel_ap c)⟩) | exact (fun h => ⟨by simp_all, (rightChannel_ap c)⟩)
  (try simp only [rsAV, List.map_cons, List.map_nil, thenQ])
  refine hK5 _ ?_
  (try clear hK5)
  simp (maxSteps:=999999) (disch:=omega) only [av1, av2, av3, av4, eq_self, exists_const, forall_const, implies_true, storeOk, thenQ, PK.cond, PK.val, Nat.reduceAdd, Nat.reduceLT, Nat.reduceMul, reduceCtorEq, ↓reduceIte, Nat.reduceEqDiff, Nat.reduceLeDiff, Nat.reduceSub, Nat.reduceBEq, Nat.reduceBNe, Int.reduceLT, Int.reduceEq, Int.reduceAdd, Int.reduceToNat, Int.reduceLE, Int.reduceBEq, Int.reduceBNe, enc1, cChan, cCSt, eqTy_Sum]
  (repeat ((with_reducible refine And.intro ?_ ?_); (first | trivial | assumption | omega | (exact nf_imp _) | (exact fn_imp _) | (intro hq; exact ⟨hq, by omega⟩) | (simp; done) | (intro hq; simp [hq]; done) | (intro hq; refine ⟨hq, fun hq2 => ?_⟩; rw [hq, hq2]; rfl))))
  refine hK3 _ ?_
  (try clear hK3)
  refine at_cond _ rfl rfl (fun h6 => ?_) (fun h6 => ?_)
  · have r6 := h6
    (try simp only [dB2] at h6)
    refine at_seq fun K7 hK7 => ?_
    refine at_region [It.mk (some 4) none (IK.p (PK.mov (Operand.const (Value.bool false))))] (by kernel_rfl) ?_
    simp (maxSteps:=999999) (disch:=omega) only [av1, av2, av3, av4, eq_self, exists_const, forall_const, implies_true, storeOk, thenQ, PK.cond, PK.val, Nat.reduceAdd, Nat.reduceLT, Nat.reduceMul, reduceCtorEq, ↓reduceIte, Nat.reduceEqDiff, Nat.reduceLeDiff, Nat.reduceSub, Nat.reduceBEq, Nat.reduceBNe, Int.reduceLT, Int.reduceEq, Int.reduceAdd, Int.reduceToNat, Int.reduceLE, Int.reduceBEq, Int.reduceBNe, enc1, cChan, cCSt, eqTy_Sum]
    (repeat ((with_reducible refine And.intro ?_ ?_); (first | trivial | assumption | omega | (exact nf_imp _) | (exact fn_imp _) | (intro hq; exact ⟨hq, by omega⟩) | (simp; done) | (intro hq; simp [hq]; done) | (intro hq; refine ⟨hq, fun hq2 => ?_⟩; rw [hq, hq2]; rfl))))
    refine hK7 _ ?_
    (try clear hK7)
    refine at_ret ?_
    simp (maxSteps:=999999) (disch:=omega) only [av1, av2, av3, av4, eq_self, exists_const, forall_const, implies_true, storeOk, thenQ, PK.cond, PK.val, Nat.reduceAdd, Nat.reduceLT, Nat.reduceMul, reduceCtorEq, ↓reduceIte, Nat.reduceEqDiff, Nat.reduceLeDiff, Nat.reduceSub, Nat.reduceBEq, Nat.reduceBNe, Int.reduceLT, Int.reduceEq, Int.reduceAdd, Int.reduceToNat, Int.reduceLE, Int.reduceBEq, Int.reduceBNe, enc1, cChan, cCSt, eqTy_Sum, blockQ, retQ, RetOk, ResOk, AV.fin, AV.fins, CV.le, CV.les]
    (refine pv_bool ?_; have r : cstBad c s = _ := r6; unfold cstB; rw [r]; rfl)
  · have r6 := h6
    (try simp only [dB2] at h6)
    refine at_skip ?_
    (try simp only [thenQ, blockQ])
    refine hK2 _ ?_
    (try clear hK2)
    refine at_seq fun K8 hK8 => ?_
    refine at_region [It.mk (some 35) none (IK.p (PK.fAddr (Operand.tmp 3) 1 1)), It.mk (some 36) none (IK.p (PK.load (Operand.tmp 35) 1 false)), It.mk (some 37) none (IK.p (PK.fAddr (Operand.tmp 3) 2 2)), It.mk (some 38) none (IK.p (PK.load (Operand.tmp 37) 1 false)), It.mk (some 39) none (IK.lit 1 [Operand.tmp 36, Operand.tmp 38]), It.mk (some 40) none (IK.call 71 [Operand.tmp 39]), It.mk (some 34) none (IK.p (PK.mov (Operand.tmp 40))), It.mk (some 41) none (IK.p (PK.ext (Operand.tmp 34) 0)), It.mk (some 42) none (IK.p (PK.ext (Operand.tmp 34) 1)), It.mk (some 5) none (IK.p (PK.mov (Operand.tmp 41))), It.mk (some 6) none (IK.p (PK.mov (Operand.tmp 42)))] (by kernel_rfl) ?_
    refine apl_cut [_, _, _, _, _] _ (fun K9 hK9 => ?_)
    simp (maxSteps:=999999) (disch:=omega) only [av1, av2, av3, av4, eq_self, exists_const, forall_const, implies_true, storeOk, thenQ, PK.cond, PK.val, Nat.reduceAdd, Nat.reduceLT, Nat.reduceMul, reduceCtorEq, ↓reduceIte, Nat.reduceEqDiff, Nat.reduceLeDiff, Nat.reduceSub, Nat.reduceBEq, Nat.reduceBNe, Int.reduceLT, Int.reduceEq, Int.reduceAdd, Int.reduceToNat, Int.reduceLE, Int.reduceBEq, Int.reduceBNe, enc1, cChan, cCSt, eqTy_Sum]
    (repeat ((with_reducible refine And.intro ?_ ?_); (first | trivial | assumption | omega | (exact nf_imp _) | (exact fn_imp _) | (intro hq; exact ⟨hq, by omega⟩) | (simp; done) | (intro hq; simp [hq]; done) | (intro hq; refine ⟨hq, fun hq2 => ?_⟩; rw [hq, hq2]; rfl))))
    refine hK9 _ ?_
    (try clear hK9)
    refine apl_cut [_] _ (fun K10 hK10 => ?_)
    simp (maxSteps:=999999) (disch:=omega) only [av1, av2, av3, av4, eq_self, exists_const, forall_const, implies_true, storeOk, thenQ, PK.cond, PK.val, Nat.reduceAdd, Nat.reduceLT, Nat.reduceMul, reduceCtorEq, ↓reduceIte, Nat.reduceEqDiff, Nat.reduceLeDiff, Nat.reduceSub, Nat.reduceBEq, Nat.reduceBNe, Int.reduceLT, Int.reduceEq, Int.reduceAdd, Int.reduceToNat, Int.reduceLE, Int.reduceBEq, Int.reduceBNe, enc1, cChan, cCSt, eqTy_Sum]
    apply Exists.intro
    apply And.intro
    · first | exact (coinAdd_ap [s.client, s.peer] (by simp)) | exact (fun _ => (coinAdd_ap [s.client, s.peer] (by simp))) | exact (fun h => ⟨h, (coinAdd_ap [s.client, s.peer] (by simp))⟩) | exact (fun h => ⟨by simp_all, (coinAdd_ap [s.client, s.peer] (by simp))⟩)
    (try simp only [rsAV, List.map_cons, List.map_nil, thenQ])
    refine hK10 _ ?_
    (try clear hK10)
    simp (maxSteps:=999999) (disch:=omega) only [av1, av2, av3, av4, eq_self, exists_const, forall_const, implies_true, storeOk, thenQ, PK.cond, PK.val, Nat.reduceAdd, Nat.reduceLT, Nat.reduceMul, reduceCtorEq, ↓reduceIte, Nat.reduceEqDiff, Nat.reduceLeDiff, Nat.reduceSub, Nat.reduceBEq, Nat.reduceBNe, Int.reduceLT, Int.reduceEq, Int.reduceAdd, Int.reduceToNat, Int.reduceLE, Int.reduceBEq, Int.reduceBNe, enc1, cChan, cCSt, eqTy_Sum]
    (repeat ((with_reducible refine And.intro ?_ ?_); (first | trivial | assumption | omega | (exact nf_imp _) | (exact fn_imp _) | (intro hq; exact ⟨hq, by omega⟩) | (simp; done) | (intro hq; simp [hq]; done) | (intro hq; refine ⟨hq, fun hq2 => ?_⟩; rw [hq, hq2]; rfl))))
    refine hK8 _ ?_
    (try clear hK8)
    refine at_seq fun K11 hK11 => ?_
    refine at_region [It.mk (some 43) none (IK.p (PK.mov (Operand.tmp 6))), It.mk (some 44) none (IK.p (PK.bin BinOp.eql (Operand.tmp 43) (Operand.const (Value.int IntKind.i64 0)))), It.mk (some 45) none (IK.p (PK.mov (Operand.tmp 44))), It.mk (some 46) (some (45, true)) (IK.p (PK.mov (Operand.tmp 5))), It.mk (some 47) (some (45, true)) (IK.p (PK.fAddr (Operand.tmp 2) 4 36)), It.mk (some 48) (some (45, true)) (IK.p (PK.load (Operand.tmp 47) 1 false)), It.mk (some 49) (some (45, true)) (IK.p (PK.bin BinOp.eql (Operand.tmp 46) (Operand.tmp 48))), It.mk (some 50) none (IK.p (PK.pick (Operand.tmp 45) (Operand.tmp 49) (Operand.const (Value.bool false)))), It.mk (some 4) none (IK.p (PK.mov (Operand.tmp 50)))] (by kernel_rfl) ?_
    simp (maxSteps:=999999) (disch:=omega) only [av1, av2, av3, av4, eq_self, exists_const, forall_const, implies_true, storeOk, thenQ, PK.cond, PK.val, Nat.reduceAdd, Nat.reduceLT, Nat.reduceMul, reduceCtorEq, ↓reduceIte, Nat.reduceEqDiff, Nat.reduceLeDiff, Nat.reduceSub, Nat.reduceBEq, Nat.reduceBNe, Int.reduceLT, Int.reduceEq, Int.reduceAdd, Int.reduceToNat, Int.reduceLE, Int.reduceBEq, Int.reduceBNe, enc1, cChan, cCSt, eqTy_Sum]
    (repeat ((with_reducible refine And.intro ?_ ?_); (first | trivial | assumption | omega | (exact nf_imp _) | (exact fn_imp _) | (intro hq; exact ⟨hq, by omega⟩) | (simp; done) | (intro hq; simp [hq]; done) | (intro hq; refine ⟨hq, fun hq2 => ?_⟩; rw [hq, hq2]; rfl))))
    refine hK11 _ ?_
    (try clear hK11)
    refine at_ret ?_
    simp (maxSteps:=999999) (disch:=omega) only [av1, av2, av3, av4, eq_self, exists_const, forall_const, implies_true, storeOk, thenQ, PK.cond, PK.val, Nat.reduceAdd, Nat.reduceLT, Nat.reduceMul, reduceCtorEq, ↓reduceIte, Nat.reduceEqDiff, Nat.reduceLeDiff, Nat.reduceSub, Nat.reduceBEq, Nat.reduceBNe, Int.reduceLT, Int.reduceEq, Int.reduceAdd, Int.reduceToNat, Int.reduceLE, Int.reduceBEq, Int.reduceBNe, enc1, cChan, cCSt, eqTy_Sum, blockQ, retQ, RetOk, ResOk, AV.fin, AV.fins, CV.le, CV.les]
    (refine pv_bool ?_; have r : cstBad c s = _ := r6; unfold cstB; rw [r]; rfl)
def zOpx : Opx := ⟨0, 0, 0, 0, Z32, []⟩
def zTxx : Txx := ⟨[], [], zOpx, []⟩
def comTx (c : Chan) (me other mine hers : Int) (h : List Int) : Txx := ⟨[⟨c.ft, c.fa, 0, []⟩], [⟨mine, [⟨[me], Z32, 0, c.wait⟩, ⟨[other], h, 0, 0⟩]⟩, toOut other hers], zOpx, []⟩
def comOf (c : Chan) (s : CSt) (o : Int) : Txx := if o = 1 then comTx c c.peer c.client s.peer s.client s.h1 else comTx c c.client c.peer s.client s.peer s.h0
def buildTx (c : Chan) (s : CSt) (o : Int) : Txx := if cstB c s = true then comOf c s o else zTxx
def buildE (c : Chan) (s : CSt) : Int := if cstB c s = true then 0 else 1
theorem build_bad {c : Chan} {s : CSt} {o : Int} (h : cstB c s = false) : buildTx c s o = zTxx ∧ buildE c s = 1 := by simp [buildTx, buildE, h]
theorem build_ok {c : Chan} {s : CSt} {o : Int} (h : cstB c s = true) : buildTx c s o = comOf c s o ∧ buildE c s = 0 := by simp [buildTx, buildE, h]
end Go.Proofs.Ytcghjnegaiiieaa
namespace Go.Proofs.Ytcghjnegaiiieaa
open Go Go.RowKit
theorem at_seqJ {P : Program} {B : Bs} {s : AS} {Q : Exit → AS → Prop} {x y : Code} (h : ∃ s1, AT P B x s (thenQ (fun s' => Le B s' s1) Q) ∧ AT P B y s1 Q) : AT P B (.seq x y) s Q := by
  obtain ⟨s1, h1, h2⟩ := h
  refine at_seq fun K hK => h1.mono fun e s' hq => ?_
  cases e <;> first | exact hK _ (AT.le hq h2) | exact hq
def SubL (l T' T : Tm) : Prop := ∀ e ∈ l, look T e.1 = look T' e.1
theorem look_memK : ∀ (T : Tm) (t : Nat), look T t = (true, .junk 1) ∨ ∃ e ∈ T, e.1 = t
  | [], t => .inl rfl
  | (u, e) :: l, t => by
    simp only [look]
    split
    · rename_i h; subst h; exact .inr ⟨_, List.mem_cons_self .., rfl⟩
    · rcases look_memK l t with h | ⟨e, h1, h2⟩
      · exact .inl h
      · exact .inr ⟨e, List.mem_cons_of_mem _ h1, h2⟩
theorem SubL.nil {T' T : Tm} : SubL [] T' T := fun _ h => by cases h
theorem SubL.cons {l T' T : Tm} {e : Nat × Bool × AV} (h : look T e.1 = look T' e.1) (h2 : SubL l T' T) : SubL (e :: l) T' T := fun x hx => by
  rcases List.mem_cons.1 hx with rfl | hx
  · exact h
  · exact h2 x hx
theorem Le.sameL {B : Bs} {s s' : AS} (hH : s.H = s'.H) (hT : SubL s'.T s'.T s.T) : Le B s s' := fun a w ⟨F, ε, h⟩ => by
  obtain ⟨T', H'⟩ := s'
  dsimp only at hH hT
  subst hH
  refine ⟨F, ε, h.sim, fun t => ?_, h.df, h.sz, h.kept, h.f0, h.fn, h.ob, h.fix, h.fxl⟩
  rcases look_memK T' t with e | ⟨e, h1, h2⟩
  · rw [e]; exact ⟨fun _ => by simp only [AV.repV], fun h => by cases h⟩
  · subst h2
    rw [← hT e h1]
    exact h.tm e.1
end Go.Proofs.Ytcghjnegaiiieaa

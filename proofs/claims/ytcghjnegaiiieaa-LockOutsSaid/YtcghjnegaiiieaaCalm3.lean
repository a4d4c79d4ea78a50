/- Regions that draw their order, walked by a plan: it serves every order. Over any program. -/
import Derived.Test.YtcghjnegaiiieaaCalm2
namespace Go.Proofs.Ytcghjnegaiiieaa
open Go Go.RowKit

section
variable {P : Program} {ops : Array Oper} {K : Act → World → Prop}
theorem reach_list : ∀ (l : List Oper) (a : Act) (w : World), wpList P ops (Exit.then K noExit) l a w →
    ∃ a' w', K a' w' ∧ ∀ x : Operand, (∀ o ∈ l, ∀ t, x = .tmp t → o.dst ≠ some t) → a'.eval x = a.eval x
  | [], a, w, h => ⟨a, w, h, fun _ _ => rfl⟩
  | o :: l, a, w, h => by
    have key : ∃ a1 w1, wpList P ops (Exit.then K noExit) l a1 w1 ∧ ∃ d v, a1 = ({ a with defers := d } : Act).put o.dst v := by
      unfold wpList at h
      split at h
      · rcases h with h | ⟨_, h⟩
        · exact wp_reach h
        · exact (letsOut_no h).elim
      · exact ⟨_, _, h, a.defers, undef, rfl⟩
    obtain ⟨a1, w1, h1, d, v, rfl⟩ := key
    obtain ⟨a2, w2, h2, h3⟩ := reach_list l _ _ h1
    exact ⟨a2, w2, h2, fun x hx => (h3 x fun o' ho => hx o' (List.mem_cons_of_mem _ ho)).trans (eval_put_ne a o.dst v d x (hx o List.mem_cons_self))⟩
theorem chk_congr (o : Oper) (ρ ρ' : Operand → Value) (h : ∀ x, (∀ t, x = .tmp t → t ∈ chkTmps o) → ρ x = ρ' x) : chk o ρ = chk o ρ' := by
  have hop : (match o.op with | .binOp .. | .convert .. | .call _ | .nilCheck _ => true | _ => false) = true → ∀ x ∈ o.op.operands.toList, ρ x = ρ' x := fun hk x hx => by
    refine h x fun t ht => ?_
    subst ht
    unfold chkTmps
    split at hk <;> first
      | (cases hk; done)
      | (rename_i e; rw [e] at hx ⊢; exact List.mem_filterMap.2 ⟨_, hx, rfl⟩)
  unfold chk
  split
  · rename_i e
    have := hop (by rw [e])
    rw [e] at this
    rw [this _ (by simp [Op.operands]), this _ (by simp [Op.operands])]
  · rename_i e
    have := hop (by rw [e])
    rw [e] at this
    rw [this _ (by simp [Op.operands])]
  · rename_i b args ats e
    have := hop (by rw [e])
    rw [e] at this
    have h2 : ∀ x ∈ args.toList, ρ x = ρ' x := fun x hx => this x (by simp [Op.operands, Call.operands]; simpa using hx)
    rw [← Array.all_toList, ← Array.all_toList]
    generalize args.toList = l at h2 ⊢
    induction l with
    | nil => rfl
    | cons x l ih => rw [List.all_cons, List.all_cons, h2 x List.mem_cons_self, ih fun y hy => h2 y (List.mem_cons_of_mem _ hy)]
  · rename_i e
    have := hop (by rw [e])
    rw [e] at this
    rw [this _ (by simp [Op.operands])]
  · rfl
theorem stab_head {o : Oper} {l : List Oper} (h : stab (o :: l) = true) : ∀ t ∈ chkTmps o, ∀ x ∈ o :: l, x.dst ≠ some t := by
  intro t ht x hx hd
  simp only [stab, Bool.and_eq_true] at h
  have h1 := h.1
  split at h1
  · rename_i e
    rw [e] at ht
    cases ht
  · have h2 := List.all_eq_true.1 h1 x hx
    rw [hd] at h2
    simp only [Bool.not_eq_true', List.contains_eq_mem, decide_eq_false_iff_not] at h2
    exact h2 ht
theorem seg_chk {L : List Oper} {next : Act → World → Prop} {o : Oper} {l : List Oper} {a : Act} {w : World} (h : wpList P ops (Exit.then (SegEnd L next) noExit) (o :: l) a w) (hs : stab (o :: l) = true) (ho : o ∈ L) : chk o a.eval = true := by
  obtain ⟨a', w', ⟨hc, _⟩, he⟩ := reach_list _ _ _ h
  have h1 := List.all_eq_true.1 hc o ho
  rw [← h1]
  refine (chk_congr o _ _ fun x hx => he x fun o' ho' t ht => ?_).symm
  exact stab_head hs t (hx t ht) o' ho'
theorem seg_v {o : Oper} {l : List Oper} {a : Act} {w : World} (hV : SteadyV P (execOp a.eval o)) (h : wpList P ops (Exit.then K noExit) (o :: l) a w) :
    ∃ v, YieldsIf P ops (fun _ => True) o v a ∧ wpList P ops (Exit.then K noExit) l (a.put o.dst v) w := by
  unfold wpList at h
  split at h
  · rename_i hw
    rcases h with h | ⟨_, h⟩
    · rcases hV with ⟨v, hv⟩ | hv
      · refine ⟨v, .inl ⟨hw, fun x _ => hv x⟩, ?_⟩
        unfold Oper.wp at h
        rw [hv w] at h
        exact h
      · obtain ⟨e, x', hx⟩ := hv w
        unfold Oper.wp at h
        rw [hx] at h
        cases e <;> simp only [Oper.upon] at h <;> exact h.elim
    · exact (letsOut_no h).elim
  · rename_i hw
    exact ⟨undef, .inr ⟨by simpa using hw, rfl⟩, h⟩
theorem seg_r {o : Oper} {l : List Oper} {a : Act} {w : World} (hl : isLoad o = true) (h : wpList P ops (Exit.then K noExit) (o :: l) a w) :
    ∃ v, YieldsIf P ops (Kept Nob w) o v a ∧ wpList P ops (Exit.then K noExit) l (a.put o.dst v) w := by
  unfold wpList at h
  split at h
  · rename_i hw
    rcases h with h | ⟨_, h⟩
    · rcases load_reads (P := P) (ρ := a.eval) (w := w) hl with ⟨v, hv⟩ | hv
      · refine ⟨v, .inl ⟨hw, fun x hx => hv x hx⟩, ?_⟩
        unfold Oper.wp at h
        rw [hv w (Kept.refl _ _)] at h
        exact h
      · obtain ⟨e, x', hx⟩ := hv
        unfold Oper.wp at h
        rw [hx] at h
        cases e <;> simp only [Oper.upon] at h <;> exact h.elim
    · exact (letsOut_no h).elim
  · rename_i hw
    exact ⟨undef, .inr ⟨by simpa using hw, rfl⟩, h⟩
theorem seg_sound {Kf : Act → World → Prop} {L : List Oper} {next : Act → World → Prop} {w : World} {fuel : Nat} {l' : Array Bool} {r' : List Nat}
    (hn : ∀ a, next a w → GE P .any ops (Exit.then Kf noExit) fuel (Kept Nob w) r' l' a w) :
    ∀ (is : List Nat) (listed : Array Bool) (R : List Nat) (a : Act), segOk P ops is listed R = some (l', r') → stab (pick ops is) = true → (∀ o ∈ pick ops is, o ∈ L) →
      wpList P ops (Exit.then (SegEnd L next) noExit) (pick ops is) a w → GE P .any ops (Exit.then Kf noExit) (fuel + is.length) (Kept Nob w) R listed a w
  | [], listed, R, a, hk, _, _, h => by
    simp only [segOk, Option.some.injEq, Prod.mk.injEq] at hk
    obtain ⟨rfl, rfl⟩ := hk
    exact hn a h.2
  | i :: is, listed, R, a, hk, hs, hL, h => by
    unfold segOk at hk
    cases hi : ops[i]? with
    | none => rw [hi] at hk; cases hk
    | some o =>
      rw [hi] at hk
      dsimp only at hk
      have hp : pick ops (i :: is) = o :: pick ops is := by simp [pick, List.filterMap_cons, hi]
      rw [hp] at hs hL h
      have hs' : stab (pick ops is) = true := by simp only [stab, Bool.and_eq_true] at hs; exact hs.2
      have hL' : ∀ x ∈ pick ops is, x ∈ L := fun x hx => hL x (List.mem_cons_of_mem _ hx)
      split at hk
      · rename_i hB
        split at hk
        · rename_i hV
          obtain ⟨v, hy, h2⟩ := seg_v (kindV_steady hV (seg_chk h hs (hL o List.mem_cons_self))) h
          exact GE.univ hi hB (fun _ _ _ h => h.elim) (Kept.refl _ _) hy (seg_sound hn is _ _ _ hk hs' hL' h2)
        · split at hk
          · rename_i hR
            obtain ⟨v, hy, h2⟩ := seg_r hR h
            exact GE.take hi hB (fun _ _ _ h => h.elim) (Kept.refl _ _) hy (seg_sound hn is _ _ _ hk hs' hL' h2)
          · cases hk
      · cases hk
theorem one_mono {K : Act → World → Prop} {Q : Exit → Act → World → Prop} {o : Oper} {a : Act} {w : World} (hq : ∀ a w, K a w → Q .normal a w) (h : wpList P ops (Exit.then K noExit) [o] a w) : wpList P ops Q [o] a w := by
  unfold wpList at h ⊢
  split
  · rename_i hw
    rw [if_pos hw] at h
    rcases h with h | ⟨_, h⟩
    · exact .inl (Oper.wp_mono (fun a w h => hq a w h) (Oper.wp_post (fun _ _ _ h => h.elim) (fun h => (letsOut_no h).elim) h))
    · exact (letsOut_no h).elim
  · rename_i hw
    rw [if_neg hw] at h
    exact hq _ _ h
theorem eff_sound {Kf : Act → World → Prop} {next : Act → World → Prop} {o : Oper} {i : Nat} {keep : Bool} {fuel : Nat} {R : List Nat} {listed : Array Bool} {a : Act} {w : World}
    (hk : (keep || !(R.any fun r => !ancB .any ops ops.size i r)) = true)
    (hn : ∀ a w, next a w → GE P .any ops (Exit.then Kf noExit) fuel (Kept Nob w) (R.filter fun r => !ancB .any ops ops.size i r) (listed.setIfInBounds i true) a w)
    (h : wpList P ops (Exit.then (EffEnd keep w next) noExit) [o] a w) : wpList P ops (QE P .any ops (Exit.then Kf noExit) fuel (Kept Nob w) R listed i) [o] a w :=
  one_mono (fun a' w' ⟨h1, h2⟩ => ⟨Kept Nob w', fun hany x hx => (h1 (by
    cases keep with
    | true => rfl
    | false => rw [hany] at hk; cases hk)).trans hx, Kept.refl _ _, hn a' w' h2⟩) h
theorem plan_sound : ∀ (p : Plan) (listed : Array Bool) (R : List Nat) (a : Act) (w : World), planOk P ops p listed R = true → wpPlan P ops K p a w →
    GE P .any ops (Exit.then K noExit) p.len (Kept Nob w) R listed a w
  | .nil, listed, R, a, w, hp, h => GE.done (by simpa [planOk] using hp) h
  | .seg is p, listed, R, a, w, hp, h => by
    simp only [planOk, Bool.and_eq_true] at hp
    obtain ⟨hs, hp⟩ := hp
    cases hk : segOk P ops is listed R with
    | none => rw [hk] at hp; cases hp
    | some lr =>
      obtain ⟨l', r'⟩ := lr
      rw [hk] at hp
      have := seg_sound (fuel := p.len) (fun a ha => plan_sound p l' r' a w hp ha) is listed R a hk hs (fun _ h => h) h
      rw [Nat.add_comm] at this
      exact this
  | .y i p, listed, R, a, w, hp, h => by
    simp only [planOk, Bool.and_eq_true] at hp
    obtain ⟨o, v, hi, hy, h⟩ := h
    exact GE.take hi hp.1 (fun _ _ _ h => h.elim) (Kept.refl _ _) hy (plan_sound p _ _ _ w hp.2 h)
  | .eff i keep p, listed, R, a, w, hp, h => by
    simp only [planOk, Bool.and_eq_true, beq_iff_eq] at hp
    obtain ⟨o, hi, h⟩ := h
    exact GE.step hi hp.1.1 (eff_sound hp.1.2 (fun a w h => plan_sound p _ _ a w hp.2 h) h)
  | .fork i j k1 k2 p q, listed, R, a, w, hp, h => by
    simp only [planOk, Bool.and_eq_true, beq_iff_eq] at hp
    obtain ⟨⟨⟨⟨⟨hr, h1⟩, h2⟩, hl⟩, hp⟩, hq⟩ := hp
    obtain ⟨⟨o, hi, g1⟩, o', hj, g2⟩ := h
    refine GE.fork hi hj hr (eff_sound h1 (fun a w h => plan_sound p _ _ a w hp h) g1) (eff_sound h2 (fun a w h => ?_) g2)
    have := plan_sound q _ _ a w hq h
    rw [← hl] at this
    exact this
def planTop (P : Program) (ops : Array Oper) (p : Plan) : Bool := P.follows .mixedOrders && (p.len == ops.size) && planOk P ops p (Array.replicate ops.size false) []
/-- A region that draws its order, by a plan. -/
theorem region_plan {id : Nat} {a : Act} {w : World} {Q : Exit → Act → World → Prop} (p : Plan) (hp : planTop P ops p = true)
    (h : wpPlan P ops (Q .normal) p a w.drew) : (Code.region id ops true).wp P Q a w := by
  simp only [planTop, Bool.and_eq_true, beq_iff_eq] at hp
  obtain ⟨⟨hm, hl⟩, hp⟩ := hp
  have h1 := plan_sound p _ [] a w.drew hp h
  rw [hl] at h1
  refine Code.wp_mono (Q := Exit.then (Q .normal) noExit) (fun e a w he => ?_) (region_E ops.size (Kept Nob w.drew) hm rfl (Kept.refl _ _) fun _ => h1)
  cases e <;> first | exact he | exact he.elim
/-! ### Tests, with the other way said as an inequality -/
theorem ite_le {a b : Int} {A B : Prop} (h : a ≤ b → A) (h' : b < a → B) : if a ≤ b then A else B := by
  split
  · exact h ‹_›
  · exact h' (by omega)
theorem ite_lt {a b : Int} {A B : Prop} (h : a < b → A) (h' : b ≤ a → B) : if a < b then A else B := by
  split
  · exact h ‹_›
  · exact h' (by omega)
theorem ite_leN {a b : Nat} {A B : Prop} (h : a ≤ b → A) (h' : b < a → B) : if a ≤ b then A else B := by
  split
  · exact h ‹_›
  · exact h' (by omega)
theorem ite_ltN {a b : Nat} {A B : Prop} (h : a < b → A) (h' : b ≤ a → B) : if a < b then A else B := by
  split
  · exact h ‹_›
  · exact h' (by omega)
/-! ### The steps of a walk -/
theorem plan_nil {a : Act} {w : World} (h : K a w) : wpPlan P ops K .nil a w := h
theorem plan_seg {is : List Nat} {p : Plan} {l : List Oper} {a : Act} {w : World} (hl : pick ops is = l)
    (h : let NX := SegEnd l (wpPlan P ops K p); wpList P ops (Exit.then NX noExit) l a w) : wpPlan P ops K (.seg is p) a w := by
  subst hl
  exact h
/-- One operation that computes or reads. -/
theorem plan_one {i : Nat} {p : Plan} {o : Oper} {a : Act} {w : World} (hi : ops[i]? = some o) (hg : o.guard = none)
    (h : let NX := SegEnd [o] (wpPlan P ops K p); o.wp P a w NX noExit) : wpPlan P ops K (.seg [i] p) a w := by
  refine plan_seg (l := [o]) (by simp [pick, hi]) ?_
  intro NX
  unfold wpList
  rw [if_pos (by simp [Region.wanted, hg])]
  exact .inl (Oper.wp_post (fun _ _ _ h => h.elim) (fun ⟨_, _, h⟩ => h.elim) h)
/-- One that is guarded. -/
theorem plan_guard {i j d : Nat} {want b : Bool} {p : Plan} {o : Oper} {a a' : Act} {w : World} (hi : ops[i]? = some o) (hg : o.guard = some (j, want)) (hj : (ops[j]?).bind (·.dst) = some d) (hb : a.tmps.getD d undef = .bool b)
    (h1 : b = want → let NX := SegEnd [o] (wpPlan P ops K p); o.wp P a w NX noExit) (ha : a.put o.dst undef = a') (h2 : b = !want → SegEnd [o] (wpPlan P ops K p) a' w) : wpPlan P ops K (.seg [i] p) a w := by
  subst ha
  refine plan_seg (l := [o]) (by simp [pick, hi]) ?_
  intro NX
  have hy : yielded ops a.tmps j = some b := by
    unfold yielded
    rw [hj]
    simp only [Option.bind_some]
    have : a.tmps[d]? = some (.bool b) := by
      rw [Array.getD_eq_getD_getElem?] at hb
      cases h : a.tmps[d]? with
      | none => rw [h] at hb; cases hb
      | some v => rw [h] at hb; simpa using hb
    rw [this]
  unfold wpList
  split
  · rename_i hw
    refine .inl (Oper.wp_post (fun _ _ _ h => h.elim) (fun ⟨_, _, h⟩ => h.elim) (h1 ?_))
    unfold Region.wanted at hw
    rw [hg] at hw
    dsimp only at hw
    rw [hy] at hw
    simpa using hw
  · rename_i hw
    refine h2 ?_
    unfold Region.wanted at hw
    rw [hg] at hw
    dsimp only at hw
    rw [hy] at hw
    revert hw
    cases b <;> cases want <;> simp
theorem plan_over {i j d : Nat} {want : Bool} {p : Plan} {o : Oper} {a a' : Act} {w : World} (hi : ops[i]? = some o) (hg : o.guard = some (j, want)) (hj : (ops[j]?).bind (·.dst) = some d) (hb : a.tmps.getD d undef = undef)
    (ha : a.put o.dst undef = a') (h2 : SegEnd [o] (wpPlan P ops K p) a' w) : wpPlan P ops K (.seg [i] p) a w := by
  subst ha
  refine plan_seg (l := [o]) (by simp [pick, hi]) ?_
  intro NX
  have hy : yielded ops a.tmps j = none := by
    unfold yielded
    rw [hj]
    simp only [Option.bind_some]
    rw [Array.getD_eq_getD_getElem?] at hb
    cases h : a.tmps[d]? with
    | none => rfl
    | some v => rw [h] at hb; simp at hb; rw [hb]; rfl
  unfold wpList
  rw [if_neg (by simp [Region.wanted, hg, hy])]
  exact h2
theorem seg_end {l : List Oper} {next : Act → World → Prop} {a : Act} {w : World} (hc : (l.all fun o => chk o a.eval) = true) (h : next a w) : SegEnd l next a w := ⟨hc, h⟩
theorem plan_eff {i : Nat} {keep : Bool} {p : Plan} {o : Oper} {a : Act} {w : World} (hi : ops[i]? = some o)
    (h : let NX := EffEnd keep w (wpPlan P ops K p); wpList P ops (Exit.then NX noExit) [o] a w) : wpPlan P ops K (.eff i keep p) a w :=
  ⟨o, hi, h⟩
theorem eff_keep {w w' : World} {next : Act → World → Prop} {a : Act} (hk : Kept Nob w w') (h : next a w') : EffEnd true w next a w' := ⟨fun _ => hk, h⟩
theorem eff_free {w w' : World} {next : Act → World → Prop} {a : Act} (h : next a w') : EffEnd false w next a w' := ⟨(fun h => by cases h), h⟩
theorem plan_fork {i j : Nat} {k1 k2 : Bool} {p q : Plan} {oi oj : Oper} {a : Act} {w : World} (hi : ops[i]? = some oi) (hj : ops[j]? = some oj)
    (h1 : let NX := EffEnd k1 w (wpPlan P ops K p); wpList P ops (Exit.then NX noExit) [oi] a w)
    (h2 : let NX := EffEnd k2 w (wpPlan P ops K q); wpList P ops (Exit.then NX noExit) [oj] a w) : wpPlan P ops K (.fork i j k1 k2 p q) a w :=
  ⟨⟨oi, hi, h1⟩, oj, hj, h2⟩
theorem plan_y {i : Nat} {p : Plan} {o : Oper} {a a' : Act} {w : World} (v : Value) (hi : ops[i]? = some o) (hw : Region.wanted o (yielded ops a.tmps) = true) (hy : ∀ x, Kept Nob w x → (execOp a.eval o).run P x = .ok (.value v) x)
    (ha : a.put o.dst v = a') (h : wpPlan P ops K p a' w) : wpPlan P ops K (.y i p) a w := by subst ha; exact ⟨o, v, hi, .inl ⟨hw, hy⟩, h⟩
/-- One whose law is the prover's, guarded. -/
theorem plan_y_guard {i j d : Nat} {want b : Bool} {p : Plan} {o : Oper} {a a2 : Act} {w : World} (hi : ops[i]? = some o) (hg : o.guard = some (j, want)) (hj : (ops[j]?).bind (·.dst) = some d) (hb : a.tmps.getD d undef = .bool b)
    (ha : a.put o.dst undef = a2) (h1 : b = want → ∃ v a', (∀ x, Kept Nob w x → (execOp a.eval o).run P x = .ok (.value v) x) ∧ a.put o.dst v = a' ∧ wpPlan P ops K p a' w) (h2 : b = !want → wpPlan P ops K p a2 w) : wpPlan P ops K (.y i p) a w := by
  have hy : yielded ops a.tmps j = some b := by
    unfold yielded
    rw [hj]
    simp only [Option.bind_some]
    have : a.tmps[d]? = some (.bool b) := by
      rw [Array.getD_eq_getD_getElem?] at hb
      cases h : a.tmps[d]? with
      | none => rw [h] at hb; cases hb
      | some v => rw [h] at hb; simpa using hb
    rw [this]
  by_cases hw : b = want
  · obtain ⟨v, a', hr, rfl, h⟩ := h1 hw
    exact ⟨o, v, hi, .inl ⟨by simp [Region.wanted, hg, hy, hw], hr⟩, h⟩
  · subst ha
    exact ⟨o, undef, hi, .inr ⟨by simp [Region.wanted, hg, hy, hw], rfl⟩, h2 (by cases b <;> cases want <;> simp_all)⟩
theorem plan_y_over {i j d : Nat} {want : Bool} {p : Plan} {o : Oper} {a a2 : Act} {w : World} (hi : ops[i]? = some o) (hg : o.guard = some (j, want)) (hj : (ops[j]?).bind (·.dst) = some d) (hb : a.tmps.getD d undef = undef)
    (ha : a.put o.dst undef = a2) (h2 : wpPlan P ops K p a2 w) : wpPlan P ops K (.y i p) a w := by
  have hy : yielded ops a.tmps j = none := by
    unfold yielded
    rw [hj]
    simp only [Option.bind_some]
    rw [Array.getD_eq_getD_getElem?] at hb
    cases h : a.tmps[d]? with
    | none => rfl
    | some v => rw [h] at hb; simp at hb; rw [hb]; rfl
  subst ha
  exact ⟨o, undef, hi, .inr ⟨by simp [Region.wanted, hg, hy], rfl⟩, h2⟩
theorem plan_y_skip {i : Nat} {p : Plan} {o : Oper} {a a' : Act} {w : World} (hi : ops[i]? = some o) (hw : Region.wanted o (yielded ops a.tmps) = false)
    (ha : a.put o.dst undef = a') (h : wpPlan P ops K p a' w) : wpPlan P ops K (.y i p) a w := by subst ha; exact ⟨o, undef, hi, .inr ⟨hw, rfl⟩, h⟩
end
end Go.Proofs.Ytcghjnegaiiieaa

/- Part 4 of the texts that LawAppointJobs needs, pruned and joined. -/
import Derived.Test.YtcghjnegaiiieaaAJ3
set_option linter.unusedSimpArgs false
namespace Go.Proofs.Ytcghjnegaiiieaa
open Go Go.RowKit
section
variable {P : Program} {B : Bs} {s s' : AS} {a : Act} {w w' : World} {F F' : Nat → Prop} {ε : Nat → Value} {K : AS → Prop} {Q : Exit → AS → Prop}
theorem keepT_mem : ∀ (T : Tm) (ids : List Nat) (e : Nat × Bool × AV), e ∈ keepT ids T → e.1 ∈ ids
  | [], _, _, h => by simp [keepT] at h
  | (t, x) :: l, ids, e, h => by
    simp only [keepT] at h
    split at h
    · rename_i hc
      rcases List.mem_cons.1 h with rfl | h
      · simpa using hc
      · exact (List.mem_filter.1 (keepT_mem l _ e h)).1
    · exact keepT_mem l ids e h
theorem keepT_sub : ∀ (T : Tm) (ids : List Nat), SubT (keepT ids T) T
  | [], _ => fun e h => by simp [keepT] at h
  | (t, x) :: l, ids => fun e h => by
    simp only [keepT] at h
    split at h
    · rename_i hc
      rcases List.mem_cons.1 h with rfl | h
      · simp [look]
      · have h1 := keepT_mem l _ e h
        have h2 := (List.mem_filter.1 h1).2
        have hne : ¬ t = e.1 := fun h => by rw [h] at h2; simp at h2
        simp only [look, hne, if_false]
        exact keepT_sub l _ e h
    · rename_i hc
      have h1 := keepT_mem l _ e h
      have hne : ¬ t = e.1 := fun h => hc (by rw [h]; simpa using h1)
      simp only [look, hne, if_false]
      exact keepT_sub l _ e h
theorem Le.keepT (ids : List Nat) : Le B s ⟨Go.Proofs.Ytcghjnegaiiieaa.keepT ids s.T, s.H⟩ := Le.same rfl (keepT_sub _ _)
mutual
theorem AV.sub_repV {q0 : Nat} {y z : AV} (hF : ∀ b, F b → F' b) (hy : ∀ v, v = ε q0 → v.oneCell' = true → y.repV w F' ε v ∧ y.rep w F' ε [v]) (hz : ∀ v b, blkOf (ε q0) = some b → v = .pointer (some ⟨b, 0, none⟩) → z.repV w F' ε v ∧ z.rep w F' ε [v]) : ∀ (x : AV) (v : Value), x.repV w F ε v → (AV.sub q0 y z x).repV w F' ε v
  | .c x, v, h => by simp only [AV.sub, AV.repV] at h ⊢; exact CV.repV_keep (Kept.refl Nob w) (fun _ _ h => h) hF h
  | .st fs, v, h => by
    simp only [AV.sub, AV.repV] at h ⊢
    obtain ⟨cs, h1, h2⟩ := h
    exact ⟨cs, AV.subs_reps hF hy hz fs cs h1, h2⟩
  | .os q, v, h => by
    simp only [AV.sub]
    cases e : q == q0 with
    | false => exact h
    | true =>
      simp only [AV.repV] at h
      rw [beq_iff_eq] at e
      subst e
      exact (hy v h.1 h.2).1
  | .osl q lo hi sz, v, h => by
    simp only [AV.sub]
    cases e : q == q0 with
    | false => exact h
    | true => simp only [cond_true, AV.repV]
  | .ptr q p o, v, h => by
    simp only [AV.sub]
    cases e : q == q0 with
    | false => exact h
    | true =>
      simp only [cond_true]
      simp only [AV.repV] at h
      rw [beq_iff_eq] at e
      subst e
      split
      · obtain ⟨b, h1, h2⟩ := h
        exact (hz v b h1 h2).1
      · simp only [AV.repV]
  | .fp x, v, h => by
    simp only [AV.sub, AV.repV] at h ⊢
    obtain ⟨ad, e, h1⟩ := h
    exact ⟨ad, e, CV.at_keep (Kept.refl Nob w) (fun _ _ h => h) hF h1⟩
  | .fn f fi ca, v, h => by
    simp only [AV.sub, AV.repV] at h ⊢
    obtain ⟨vs, us, e, h1, h2⟩ := h
    exact ⟨vs, us, e, AV.subs_repVs hF hy hz fi vs h1, AV.subs_repVs hF hy hz ca us h2⟩
  | .tup l, v, h => by
    simp only [AV.sub, AV.repV] at h ⊢
    obtain ⟨us, e, h1⟩ := h
    exact ⟨us, e, AV.subs_repVs hF hy hz l us h1⟩
  | .junk n, v, _ => by simp only [AV.sub, AV.repV]
theorem AV.subs_repVs {q0 : Nat} {y z : AV} (hF : ∀ b, F b → F' b) (hy : ∀ v, v = ε q0 → v.oneCell' = true → y.repV w F' ε v ∧ y.rep w F' ε [v]) (hz : ∀ v b, blkOf (ε q0) = some b → v = .pointer (some ⟨b, 0, none⟩) → z.repV w F' ε v ∧ z.rep w F' ε [v]) : ∀ (l : List AV) (vs : List Value), AV.repVs w F ε l vs → AV.repVs w F' ε (AV.subs q0 y z l) vs
  | [], vs, h => by simp only [AV.subs, AV.repVs] at h ⊢; exact h
  | a :: l, vs, h => by
    simp only [AV.subs, AV.repVs] at h ⊢
    obtain ⟨v, us, e, h1, h2⟩ := h
    exact ⟨v, us, e, AV.sub_repV hF hy hz a v h1, AV.subs_repVs hF hy hz l us h2⟩
theorem AV.sub_rep {q0 : Nat} {y z : AV} (hF : ∀ b, F b → F' b) (hy : ∀ v, v = ε q0 → v.oneCell' = true → y.repV w F' ε v ∧ y.rep w F' ε [v]) (hz : ∀ v b, blkOf (ε q0) = some b → v = .pointer (some ⟨b, 0, none⟩) → z.repV w F' ε v ∧ z.rep w F' ε [v]) : ∀ (x : AV) (cs : List Value), x.rep w F ε cs → (AV.sub q0 y z x).rep w F' ε cs
  | .c x, cs, h => by simp only [AV.sub, AV.rep] at h ⊢; exact CV.rep_keep (Kept.refl Nob w) (fun _ _ h => h) hF x cs h
  | .st fs, cs, h => by simp only [AV.sub, AV.rep] at h ⊢; exact AV.subs_reps hF hy hz fs cs h
  | .os q, cs, h => by
    simp only [AV.sub]
    cases e : q == q0 with
    | false => exact h
    | true =>
      simp only [AV.rep] at h
      rw [beq_iff_eq] at e
      subst e
      obtain ⟨v, rfl, h1, h2⟩ := h
      exact (hy v h1 h2).2
  | .osl q lo hi sz, cs, h => by
    simp only [AV.sub]
    cases e : q == q0 with
    | false => exact h
    | true =>
      simp only [AV.rep] at h
      obtain ⟨v, rfl, _, a, n, c, _, _, rfl⟩ := h
      simp only [cond_true, AV.rep]
      exact ⟨rfl, fun u hu => by simp at hu; rw [hu]; rfl⟩
  | .ptr q p o, cs, h => by
    simp only [AV.sub]
    cases e : q == q0 with
    | false => exact h
    | true =>
      simp only [AV.rep] at h
      rw [beq_iff_eq] at e
      subst e
      obtain ⟨v, rfl, b, h1, rfl⟩ := h
      simp only [cond_true]
      split
      · exact (hz _ b h1 rfl).2
      · simp only [AV.rep]; exact ⟨rfl, fun u hu => by simp at hu; rw [hu]; rfl⟩
  | .fp x, cs, h => by
    simp only [AV.sub, AV.rep] at h ⊢
    obtain ⟨v, e, ad, e2, h1⟩ := h
    exact ⟨v, e, ad, e2, CV.at_keep (Kept.refl Nob w) (fun _ _ h => h) hF h1⟩
  | .fn f fi ca, cs, h => by
    simp only [AV.sub, AV.rep] at h ⊢
    obtain ⟨v, e0, vs, us, e, h1, h2⟩ := h
    exact ⟨v, e0, vs, us, e, AV.subs_repVs hF hy hz fi vs h1, AV.subs_repVs hF hy hz ca us h2⟩
  | .tup l, cs, h => by simp only [AV.rep] at h
  | .junk n, cs, h => by simp only [AV.sub, AV.rep] at h ⊢; exact h
theorem AV.subs_reps {q0 : Nat} {y z : AV} (hF : ∀ b, F b → F' b) (hy : ∀ v, v = ε q0 → v.oneCell' = true → y.repV w F' ε v ∧ y.rep w F' ε [v]) (hz : ∀ v b, blkOf (ε q0) = some b → v = .pointer (some ⟨b, 0, none⟩) → z.repV w F' ε v ∧ z.rep w F' ε [v]) : ∀ (l : List AV) (cs : List Value), AV.reps w F ε l cs → AV.reps w F' ε (AV.subs q0 y z l) cs
  | [], cs, h => by simp only [AV.subs, AV.reps] at h ⊢; exact h
  | a :: l, cs, h => by
    simp only [AV.subs, AV.reps] at h ⊢
    obtain ⟨c, d, e, h1, h2⟩ := h
    exact ⟨c, d, e, AV.sub_rep hF hy hz a c h1, AV.subs_reps hF hy hz l d h2⟩
end
def Tm.sub (q0 : Nat) (y z : AV) : Tm → Tm
  | [] => []
  | (t, g, x) :: l => (t, g, AV.sub q0 y z x) :: Tm.sub q0 y z l
def AObj.sub (q0 : Nat) (y z : AV) : AObj → AObj
  | .cell x => .cell (AV.sub q0 y z x)
  | o => o
theorem look_sub (q0 : Nat) (y z : AV) : ∀ (T : Tm) (t : Nat), look (Tm.sub q0 y z T) t = ((look T t).1, AV.sub q0 y z (look T t).2)
  | [], t => by simp [Tm.sub, look, AV.sub]
  | (u, g, x) :: l, t => by
    simp only [Tm.sub, look]
    split
    · rfl
    · exact look_sub q0 y z l t
theorem Le.freezeC (q : Nat) {x : CV} (hq : s.H[q]? = some (.cell (.c x))) : Le B s ⟨Tm.sub q (.junk 1) (.fp x) s.T, (s.H.map (AObj.sub q (.junk 1) (.fp x))).set q .gone⟩ := fun a w ⟨F, ε, h⟩ => by
  have hql : q < s.H.length := (List.getElem?_eq_some_iff.1 hq).1
  obtain ⟨F', hF'⟩ : ∃ F' : Nat → Prop, F' = fun b => F b ∨ OB ε s.H q b := ⟨_, rfl⟩
  have hF : ∀ b, F b → F' b := fun b hb => by rw [hF']; exact .inl hb
  have hy : ∀ v, v = ε q → v.oneCell' = true → (AV.junk 1).repV w F' ε v ∧ (AV.junk 1).rep w F' ε [v] := fun v hv h1 => ⟨by simp only [AV.repV], by simp only [AV.rep]; exact ⟨rfl, fun u hu => by simp at hu; rw [hu]; exact h1⟩⟩
  have hz : ∀ v b, blkOf (ε q) = some b → v = .pointer (some ⟨b, 0, none⟩) → (AV.fp x).repV w F' ε v ∧ (AV.fp x).rep w F' ε [v] := fun v b hb hv => by
    obtain ⟨b', ty, cs, k1, k2, k3⟩ := h.sim.obj q _ hq
    have e : b' = b := by rw [k1] at hb; simpa [blkOf] using hb
    subst e
    have hat : x.at_ w F' ⟨b', 0, none⟩ := by
      refine ⟨by rw [hF']; exact .inr ⟨_, hq, by simp, hb⟩, cs, fun j u hj => ?_, CV.rep_keep (Kept.refl Nob w) (fun _ _ h => h) hF _ _ (by simpa only [AV.rep] using k3)⟩
      rw [plain_add', blk_cell k2, Nat.zero_add]
      simpa using hj
    exact ⟨by simp only [AV.repV]; exact ⟨_, hv, hat⟩, by simp only [AV.rep]; exact ⟨v, rfl, _, hv, hat⟩⟩
  have hob : ∀ i b, OB ε ((s.H.map (AObj.sub q (.junk 1) (.fp x))).set q .gone) i b → i ≠ q ∧ OB ε s.H i b := fun i b hi => by
    obtain ⟨o, h1, h2, h3⟩ := hi
    by_cases e : i = q
    · subst e
      rw [List.getElem?_set_self (by simpa using hql)] at h1
      cases h1
      exact absurd rfl h2
    · rw [List.getElem?_set_ne (fun h => e h.symm), List.getElem?_map] at h1
      cases ho : s.H[i]? with
      | none => rw [ho] at h1; cases h1
      | some o' =>
        rw [ho] at h1
        cases h1
        exact ⟨e, o', ho, fun e => h2 (by rw [e]; rfl), h3⟩
  refine ⟨F', ε, ⟨fun i o hi => ?_, fun i j b h1 h2 => h.sim.apart i j b (hob i b h1).2 (hob j b h2).2, fun i b h1 => ?_, fun b hb => ?_, fun i hi => h.sim.out i (by simpa using hi)⟩, fun t => ?_, h.df, h.sz, h.kept, fun b hb => hF b (h.f0 b hb), fun b hb => ?_, fun i b h1 => h.ob i b (hob i b h1).2, h.fix, fun i hi => ?_⟩
  · by_cases e : i = q
    · subst e
      rw [List.getElem?_set_self (by simpa using hql)] at hi
      cases hi
      trivial
    · rw [List.getElem?_set_ne (fun h => e h.symm), List.getElem?_map] at hi
      cases ho : s.H[i]? with
      | none => rw [ho] at hi; cases hi
      | some o' =>
        rw [ho] at hi
        cases hi
        have h3 := h.sim.obj i o' ho
        cases o' with
        | gone => trivial
        | cell x =>
          obtain ⟨b, ty, cs, k1, k2, k3⟩ := h3
          exact ⟨b, ty, cs, k1, k2, AV.sub_rep hF hy hz x cs k3⟩
        | row e' sz' es' =>
          obtain ⟨cs, k1, k2, k3⟩ := h3
          exact ⟨cs, CV.reps_keep (Kept.refl Nob w) (fun _ _ h => h) hF es' cs k1, k2, k3⟩
  · obtain ⟨h2, h3⟩ := hob i b h1
    obtain ⟨h4, h5⟩ := h.sim.free i b h3
    refine ⟨fun hf => ?_, h5⟩
    rw [hF'] at hf
    rcases hf with hf | hf
    · exact h4 hf
    · exact h2 (h.sim.apart i q b h3 hf)
  · rw [hF'] at hb
    rcases hb with hb | hb
    · exact h.sim.old b hb
    · exact (h.sim.free q b hb).2
  · rw [look_sub]
    exact ⟨fun hg => AV.sub_repV hF hy hz _ _ ((h.tm t).1 hg), (h.tm t).2⟩
  · rw [hF'] at hb
    rcases hb with hb | hb
    · exact h.fn b hb
    · exact .inr (h.ob q b hb)
  · obtain ⟨o, h1, h2⟩ := h.fxl i hi
    by_cases e : i = q
    · subst e
      exact ⟨.gone, List.getElem?_set_self (by simpa using hql), rfl⟩
    exact ⟨o.sub q (.junk 1) (.fp x), by rw [List.getElem?_set_ne (fun h => e h.symm), List.getElem?_map, h1]; rfl, by cases o <;> first | rfl | exact h2⟩
theorem Le.trans {s1 s2 s3 : AS} (h1 : Le B s1 s2) (h2 : Le B s2 s3) : Le B s1 s3 := fun a w h => h2 a w (h1 a w h)
theorem at_loopH {c : Code} {α : Type} (ids : List Nat) (nt : α → Tm) (Hs : α → List AObj) (m : α → Nat) (x0 : α) (h0 : Le B s ⟨nt x0 ++ keepT ids s.T, Hs x0⟩)
    (hr : ∀ x, AT P B c ⟨nt x ++ keepT ids s.T, Hs x⟩ (thenQ (fun s' => ∃ x', m x' < m x ∧ Le B s' ⟨nt x' ++ keepT ids s.T, Hs x'⟩) Q)) : AT P B (.loop c) s Q :=
  at_loop (fun x => ⟨nt x ++ keepT ids s.T, Hs x⟩) m x0 h0 hr
theorem agi0 {ops : Array Oper} {Z : List Nat} {fuel : Nat} {R : List Nat} {listed : Array Bool} {i : Nat} {it : It} (hi : (ops[i]?).bind (lkI P ops) = some it) (ht : tgtB Z (it.k.target s) = true)
    (h : ∀ K' : AS → Prop, (∀ s', AG P B ops Z fuel R (listed.setIfInBounds i true) s' K → K' s') → apl P B.N [it] s K') : AGi P B ops Z fuel R listed s K i :=
  ⟨it, hi, .inl ht, fun s' => AG P B ops Z fuel R (listed.setIfInBounds i true) s' K, h _ (fun _ h => h), fun s' hs' a w F ε hx hcl => wpE_sub _ _ _ _ _ _ _ (fun r hr => (List.mem_filter.1 hr).1) (hs' a w F ε hx hcl)⟩
def resA : AV → AV → Prop
  | .c x, .c y => x.le y
  | x, y => x = y
def ResOkA (s : AS) (r : RZ) (y : AV) : Prop := s.gd (.tmp r.t) = true ∧ match r.cell with
  | none => resA (s.ev (.tmp r.t)) y
  | some (n, g) => match s.ev (.tmp r.t) with
    | .ptr q p o => match s.H[q]? with
      | some (.cell a) => a.ok p ∧ a.off p = o ∧ (a.get p).size = n ∧ (a.get p).agg = g ∧ resA (a.get p) y
      | _ => False
    | _ => False
def RetOkA (s : AS) : List RZ → List AV → Prop
  | [], [] => True
  | r :: rs, y :: ys => ResOkA s r y ∧ RetOkA s rs ys
  | _, _ => False
def stays : Nat → List AObj → List Nat
  | _, [] => []
  | i, o :: l => bif o.isRow then stays (i + 1) l else i :: stays (i + 1) l
def BO (w : World) (F : Nat → Prop) (ε : Nat → Value) (H : List AObj) (N : Nat) : Bs := ⟨w, F, fun b => ∃ q, OB ε H q b, ε, stays 0 H, N⟩
theorem BO_N (w : World) (F : Nat → Prop) (ε : Nat → Value) (H : List AObj) (N : Nat) : (BO w F ε H N).N = N := rfl
def retQA (B : Bs) (zs : List RZ) (rs : List AV) (H' : List AObj) : Exit → AS → Prop
  | .normal, s => ∃ T, Le B s ⟨T, H'⟩ ∧ RetOkA ⟨T, H'⟩ zs rs
  | .ret, s => ∃ T, Le B s ⟨T, H'⟩ ∧ RetOkA ⟨T, H'⟩ zs rs
  | _, _ => False
end
theorem av5 : type_of% (And.intro @false_implies (And.intro @rowStoreOk.eq_1 (And.intro @rowStoreOk.eq_2 (And.intro @appOk.eq_1 (And.intro @appOk.eq_2 (And.intro @cpyOk.eq_1 (And.intro @cpyOk.eq_2 (And.intro @AV.kill.eq_1 (And.intro @AV.kill.eq_2 (And.intro @AV.kill.eq_3 (And.intro @AV.kill.eq_4 (And.intro @AV.kill.eq_5 (And.intro @AV.kill.eq_6 (And.intro @AV.kill.eq_7 (And.intro @AV.kill.eq_8 (And.intro @AV.kill.eq_9 (And.intro @AV.kills.eq_1 (And.intro @AV.kills.eq_2 (And.intro @Tm.kill.eq_1 (And.intro @Tm.kill.eq_2 (And.intro @AV.ren.eq_1 (And.intro @AV.ren.eq_2 (And.intro @AV.ren.eq_3 (And.intro @AV.ren.eq_4 (And.intro @AV.ren.eq_5 (And.intro @AV.ren.eq_6 (And.intro @AV.ren.eq_7 (And.intro @AV.ren.eq_8 (And.intro @AV.ren.eq_9 (And.intro @AV.rens.eq_1 (And.intro @AV.rens.eq_2 (And.intro @sg.eq_1 (And.intro @setAll.eq_1 (And.intro @setAll.eq_2 (And.intro @setAll.eq_3 (And.intro @AV.sub.eq_1 (And.intro @AV.sub.eq_2 (And.intro @AV.sub.eq_3 (And.intro @AV.sub.eq_4 (And.intro @AV.sub.eq_5 (And.intro @AV.sub.eq_6 (And.intro @AV.sub.eq_7 (And.intro @AV.sub.eq_8 (And.intro @AV.sub.eq_9 (And.intro @AV.subs.eq_1 (And.intro @AV.subs.eq_2 (And.intro @Tm.sub.eq_1 (And.intro @Tm.sub.eq_2 (And.intro @ResOkA.eq_1 (And.intro @RetOkA.eq_1 (And.intro @RetOkA.eq_2 @BO_N))))))))))))))))))))))))))))))))))))))))))))))))))) := (And.intro @false_implies (And.intro @rowStoreOk.eq_1 (And.intro @rowStoreOk.eq_2 (And.intro @appOk.eq_1 (And.intro @appOk.eq_2 (And.intro @cpyOk.eq_1 (And.intro @cpyOk.eq_2 (And.intro @AV.kill.eq_1 (And.intro @AV.kill.eq_2 (And.intro @AV.kill.eq_3 (And.intro @AV.kill.eq_4 (And.intro @AV.kill.eq_5 (And.intro @AV.kill.eq_6 (And.intro @AV.kill.eq_7 (And.intro @AV.kill.eq_8 (And.intro @AV.kill.eq_9 (And.intro @AV.kills.eq_1 (And.intro @AV.kills.eq_2 (And.intro @Tm.kill.eq_1 (And.intro @Tm.kill.eq_2 (And.intro @AV.ren.eq_1 (And.intro @AV.ren.eq_2 (And.intro @AV.ren.eq_3 (And.intro @AV.ren.eq_4 (And.intro @AV.ren.eq_5 (And.intro @AV.ren.eq_6 (And.intro @AV.ren.eq_7 (And.intro @AV.ren.eq_8 (And.intro @AV.ren.eq_9 (And.intro @AV.rens.eq_1 (And.intro @AV.rens.eq_2 (And.intro @sg.eq_1 (And.intro @setAll.eq_1 (And.intro @setAll.eq_2 (And.intro @setAll.eq_3 (And.intro @AV.sub.eq_1 (And.intro @AV.sub.eq_2 (And.intro @AV.sub.eq_3 (And.intro @AV.sub.eq_4 (And.intro @AV.sub.eq_5 (And.intro @AV.sub.eq_6 (And.intro @AV.sub.eq_7 (And.intro @AV.sub.eq_8 (And.intro @AV.sub.eq_9 (And.intro @AV.subs.eq_1 (And.intro @AV.subs.eq_2 (And.intro @Tm.sub.eq_1 (And.intro @Tm.sub.eq_2 (And.intro @ResOkA.eq_1 (And.intro @RetOkA.eq_1 (And.intro @RetOkA.eq_2 @BO_N)))))))))))))))))))))))))))))))))))))))))))))))))))
theorem av6 :
    (∀ Z x, AObj.kill Z (.cell x) = .cell (x.kill Z)) ∧
    (∀ Z, AObj.kill Z .gone = .gone) ∧
    (∀ Z e k l, AObj.kill Z (.row e k l) = .row e k l) ∧
    (∀ σ x, AObj.ren σ (.cell x) = .cell (x.ren σ)) ∧
    (∀ σ, AObj.ren σ .gone = .gone) ∧
    (∀ σ e k l, AObj.ren σ (.row e k l) = .row e k l) ∧
    (∀ q y z x, AObj.sub q y z (.cell x) = .cell (AV.sub q y z x)) ∧
    (∀ q y z, AObj.sub q y z .gone = .gone) ∧
    (∀ q y z e k l, AObj.sub q y z (.row e k l) = .row e k l) ∧
    (∀ x, AObj.isRow (.cell x) = false) ∧
    (AObj.isRow .gone = false) ∧
    (∀ e k l, AObj.isRow (.row e k l) = true) ∧
    (∀ i l o os, zRows (i :: l) (o :: os) = bif o.isRow then i :: zRows l os else zRows l os) ∧
    (∀ H, zRows [] H = []) ∧
    (∀ x, rsA [x] = x) ∧
    (rsA [] = .tup []) ∧
    (∀ x y l, rsA (x :: y :: l) = .tup (x :: y :: l)) ∧
    (∀ q, AV.closed (.os q) = none) ∧
    (∀ q y, resA (.os q) y = (.os q = y)) ∧
    (∀ q p o, AV.closed (.ptr q p o) = none) ∧
    (∀ q p o y, resA (.ptr q p o) y = (.ptr q p o = y)) ∧
    (∀ x, AV.closed (.fp x) = none) ∧
    (∀ x y, resA (.fp x) y = (.fp x = y)) ∧
    (∀ f l m, AV.closed (.fn f l m) = none) ∧
    (∀ f l m y, resA (.fn f l m) y = (.fn f l m = y)) ∧
    (∀ l, AV.closed (.tup l) = none) ∧
    (∀ l y, resA (.tup l) y = (.tup l = y)) ∧
    (∀ n, AV.closed (.junk n) = none) ∧
    (∀ n y, resA (.junk n) y = (.junk n = y)) ∧
    (∀ x y, resA (.c x) (.c y) = x.le y) ∧
    (∀ l y, resA (.st l) y = (.st l = y)) ∧
    (∀ H x y, AV.fin H (.c x) y = x.le y) ∧
    (∀ H fs ys, AV.fin H (.st fs) (.st ys) = AV.fins H fs ys) ∧
    (∀ H q sz es, AV.fin H (.os q) (.sl sz es) = ∃ e, H[q]? = some (.row e sz es)) ∧
    (∀ H, AV.fins H [] [] = True) ∧
    (∀ H x xs y ys, AV.fins H (x :: xs) (y :: ys) = (AV.fin H x y ∧ AV.fins H xs ys)) ∧
    (∀ k n, CV.plain (.pv (.int k n)) = true) ∧
    (∀ b, CV.plain (.pv (.bool b)) = true) ∧
    (∀ b, CV.plain (.pv (.string b)) = true) ∧
    (∀ k n xs, CV.plain (.ar k n xs) = true) ∧
    (∀ l, CV.plain (.st l) = CV.plains l) ∧
    (CV.plains [] = true) ∧
    (∀ x l, CV.plains (x :: l) = (x.plain && CV.plains l)) ∧
    (∀ B zs rs H' s, retQA B zs rs H' .ret s = ∃ T, Le B s ⟨T, H'⟩ ∧ RetOkA ⟨T, H'⟩ zs rs) ∧
    (∀ B zs rs H' s, retQA B zs rs H' .normal s = ∃ T, Le B s ⟨T, H'⟩ ∧ RetOkA ⟨T, H'⟩ zs rs) :=
  ⟨fun _ _ => rfl, fun _ => rfl, fun _ _ _ _ => rfl, fun _ _ => rfl, fun _ => rfl, fun _ _ _ _ => rfl, fun _ _ _ _ => rfl, fun _ _ _ => rfl, fun _ _ _ _ _ _ => rfl, fun _ => rfl, rfl, fun _ _ _ => rfl, fun _ _ _ _ => rfl, fun H => by cases H <;> rfl, fun _ => rfl, rfl, fun _ _ _ => rfl, fun _ => by simp [AV.closed], fun _ _ => rfl, fun _ _ _ => by simp [AV.closed], fun _ _ _ _ => rfl, fun _ => by simp [AV.closed], fun _ _ => rfl, fun _ _ _ => by simp [AV.closed], fun _ _ _ _ => rfl, fun _ => by simp [AV.closed], fun _ _ => rfl, fun _ => by simp [AV.closed], fun _ _ => rfl, fun _ _ => rfl, fun _ _ => rfl, fun _ _ _ => by rw [AV.fin], fun _ _ _ => by rw [AV.fin], fun _ _ _ _ => by rw [AV.fin], fun _ => by rw [AV.fins], fun _ _ _ _ _ => by rw [AV.fins], fun _ _ => by rw [CV.plain], fun _ => by rw [CV.plain], fun _ => by rw [CV.plain], fun _ _ _ => by rw [CV.plain], fun _ => by rw [CV.plain], by rw [CV.plains], fun _ _ => by rw [CV.plains], fun _ _ _ _ _ => rfl, fun _ _ _ _ _ => rfl⟩
theorem av7 :
    (∀ q a b k, AV.size (.osl q a b k) = 1) ∧
    (∀ q a b k, AV.agg (.osl q a b k) = false) ∧
    (∀ q a b k, AV.solid (.osl q a b k) = true) ∧
    (∀ q a b k, AV.closed (.osl q a b k) = none) ∧
    (∀ q a b k y, resA (.osl q a b k) y = (.osl q a b k = y)) ∧
    (∀ H q a b k, AV.els H (.osl q a b k) = (match H[q]? with | some (.row _ k' es) => if k' = k then some (k, (es.take b).drop a) else none | _ => none)) ∧
    (∀ l i p q' a' b' k', AV.set (.c (.st l)) (i :: p) (.osl q' a' b' k') = (match l[i]? with | some a => .st ((l.map AV.c).set i (AV.set (.c a) p (.osl q' a' b' k'))) | none => .c (.st l))) ∧
    (∀ l i p q' a' b' k', AV.fits (.c (.st l)) (i :: p) (.osl q' a' b' k') = (match l[i]? with | some a => AV.fits (.c a) p (.osl q' a' b' k') | none => False)) :=
  ⟨fun _ _ _ _ => by rw [AV.size] <;> (intros; simp_all), fun _ _ _ _ => rfl, fun _ _ _ _ => rfl, fun _ _ _ _ => by simp [AV.closed], fun _ _ _ _ _ => rfl, fun _ _ _ _ _ => rfl, fun _ _ _ _ _ _ _ => by rw [AV.set] <;> first | rfl | (intros; simp_all), fun _ _ _ _ _ _ _ => by rw [AV.fits] <;> first | rfl | (intros; simp_all)⟩
end Go.Proofs.Ytcghjnegaiiieaa
namespace Go.Proofs.Ytcghjnegaiiieaa
open Go.RowKit
structure PenMid (W0 W : World) (R : Nat → Prop) (g : Nat) (xs ys : List Int) (N : Nat → Obj → Prop) : Prop where
  ex : ∃ Rk : Nat → Prop, PenR W Rk g (xs ++ ys) ∧ (∀ b, Rk b → Gw W0 R b) ∧ (∀ b o, N b o → ¬ Rk b)
  prot : ∀ b o, N b o → W.heap[b]? = some o ∧ b ≠ g
  kept : Kept (PS g R) W0 W
  gg : ¬ Gw W0 R g
theorem PenMid.start {W : World} {R : Nat → Prop} {g : Nat} {xs : List Int} {N : Nat → Obj → Prop} (h : PenR W R g xs) (hN : ∀ b o, N b o → W.heap[b]? = some o ∧ b ≠ g ∧ ¬ R b) : PenMid W W R g xs [] N :=
  ⟨⟨R, by rw [List.append_nil]; exact h, Gw.of, fun b o hb => (hN b o hb).2.2⟩, fun b o hb => ⟨(hN b o hb).1, (hN b o hb).2.1⟩, Kept.refl _ _, h.grown.1⟩
theorem PenMid.keep {W0 W W' : World} {R : Nat → Prop} {g : Nat} {xs ys : List Int} {N : Nat → Obj → Prop} (h : PenMid W0 W R g xs ys N) (hk : Kept Nob W W') : PenMid W0 W' R g xs ys N := by
  obtain ⟨⟨Rk, h1, h2, h3⟩, h4, h5, h6⟩ := h
  exact ⟨⟨Rk, h1.keep hk (fun h => h) (fun _ _ h => h), h2, h3⟩, fun b o hb => ⟨hk.blk (h4 b o hb).1 (fun h => h), (h4 b o hb).2⟩, Kept.then h5 hk (fun _ _ h => h.elim), h6⟩
theorem PenMid.alloc {W0 W : World} {R : Nat → Prop} {g : Nat} {xs ys : List Int} {N : Nat → Obj → Prop} (h : PenMid W0 W R g xs ys N) (c : Array Value) (t : TypeId) : PenMid W0 (W.alloc (.cells c t)) R g xs ys (fun b o => N b o ∨ (b = W.heap.size ∧ o = .cells c t (0, 0))) := by
  obtain ⟨⟨Rk, h1, h2, h3⟩, h4, h5, h6⟩ := h
  have hk : Kept Nob W (W.alloc (.cells c t)) := Kept.alloc (Kept.refl _ _) _
  refine ⟨⟨Tw W Rk, h1.tight.keep hk (fun h => h) (fun _ _ h => h), fun b hb => h2 b hb.1, fun b o hb hr => hb.elim (fun h => h3 b o h hr.1) (fun h => by have := hr.2; omega)⟩, fun b o hb => ?_, Kept.then h5 hk (fun _ _ h => h.elim), h6⟩
  rcases hb with h | ⟨h, h'⟩
  · exact ⟨hk.blk (h4 b o h).1 (fun h => h), (h4 b o h).2⟩
  · subst h h'
    exact ⟨heap_alloc_new _ _, fun e => by have := h1.lt; omega⟩
theorem PenMid.new {W0 W W' : World} {R : Nat → Prop} {g : Nat} {xs ys : List Int} {N : Nat → Obj → Prop} (h : PenMid W0 W R g xs ys N) (hk : Kept Nob W W') (b0 : Nat) (o0 : Obj) (hb : W'.heap[b0]? = some o0) (hn : W.heap.size ≤ b0) : PenMid W0 W' R g xs ys (fun b o => N b o ∨ (b = b0 ∧ o = o0)) := by
  obtain ⟨⟨Rk, h1, h2, h3⟩, h4, h5, h6⟩ := h
  refine ⟨⟨Tw W Rk, h1.tight.keep hk (fun h => h) (fun _ _ h => h), fun b hb => h2 b hb.1, fun b o hb hr => hb.elim (fun h => h3 b o h hr.1) (fun h => by have := hr.2; omega)⟩, fun b o hb' => ?_, Kept.then h5 hk (fun _ _ h => h.elim), h6⟩
  rcases hb' with h | ⟨h, h'⟩
  · exact ⟨hk.blk (h4 b o h).1 (fun h => h), (h4 b o h).2⟩
  · subst h h'
    exact ⟨hb, fun e => by have := h1.lt; omega⟩
theorem PenMid.less {W0 W : World} {R : Nat → Prop} {g : Nat} {xs ys : List Int} {N N' : Nat → Obj → Prop} (h : PenMid W0 W R g xs ys N) (hN : ∀ b o, N' b o → N b o) : PenMid W0 W R g xs ys N' := by
  obtain ⟨⟨Rk, h1, h2, h3⟩, h4, h5, h6⟩ := h
  exact ⟨⟨Rk, h1, h2, fun b o hb => h3 b o (hN b o hb)⟩, fun b o hb => h4 b o (hN b o hb), h5, h6⟩
def NoN : Nat → Obj → Prop := fun _ _ => False
theorem PenMid.call {W0 W : World} {R : Nat → Prop} {g : Nat} {xs ys zs : List Int} {N : Nat → Obj → Prop} (h : PenMid W0 W R g xs ys N) {f : FuncId} {args : Array Value} {r : Value}
    (hc : ∀ Rk : Nat → Prop, PenR W Rk g (xs ++ ys) → (∀ b, Rk b → Gw W0 R b ∧ b < W.heap.size) → (∀ b o, N b o → ¬ PS g Rk b ∧ b < W.heap.size) → Calls Try.prog f args W fun e w' => e = .returned r ∧ PenDoes W w' Rk g (xs ++ ys) zs) :
    Calls Try.prog f args W fun e w' => e = .returned r ∧ PenMid W0 w' R g xs (ys ++ zs) N := by
  obtain ⟨⟨Rk, h1, h2, h3⟩, h4, h5, h6⟩ := h
  refine (hc (Tw W Rk) h1.tight (fun b hb => ⟨h2 b hb.1, hb.2⟩) (fun b o hb => ⟨fun h => h.elim (h4 b o hb).2 (fun h' => h3 b o hb h'.1), blk_lt (h4 b o hb).1⟩)).mono ?_
  rintro e w' ⟨he, hd⟩
  refine ⟨he, ⟨⟨Gw W (Tw W Rk), by rw [← List.append_assoc]; exact hd.pen, fun b hb => hb.elim (fun h => h2 b h.1) (fun h => .inr (Nat.le_trans h5.size h)), fun b o hb hr => hr.elim (fun h => h3 b o hb h.1) (fun h => by have := blk_lt (h4 b o hb).1; omega)⟩, fun b o hb => ⟨hd.kept.blk (h4 b o hb).1 (fun h => h.elim (h4 b o hb).2 (fun h' => h3 b o hb h'.1)), (h4 b o hb).2⟩, ?_, h6⟩⟩
  exact Kept.then h5 hd.kept (fun b hb h => h.elim .inl (fun h' => .inr (Gw.old hb (h2 b h'.1))))
theorem PenMid.does {W0 W : World} {R : Nat → Prop} {g : Nat} {xs ys : List Int} {N : Nat → Obj → Prop} (h : PenMid W0 W R g xs ys N) : PenDoes W0 W R g xs ys := by
  obtain ⟨⟨Rk, h1, h2, _⟩, _, h5, h6⟩ := h
  exact ⟨h1.mono h2 h6, h5⟩
theorem PenMid.num {W0 W : World} {R : Nat → Prop} {g : Nat} {xs ys : List Int} {N : Nat → Obj → Prop} (h : PenMid W0 W R g xs ys N) (n : Int) (hv : n < 9223372036854775808) (hx : (xs ++ ys).length ≤ 100000000) :
    Calls Try.prog 35 #[.pointer (some ⟨g, 0, none⟩), .int .i64 n] W fun e w' => e = .returned (.pointer (some ⟨g, 0, none⟩)) ∧ PenMid W0 w' R g xs (ys ++ numB n.toNat) N :=
  h.call fun Rk h1 _ _ => penr_numI n Rk g _ W h1 hv hx
theorem PenMid.sum {W0 W : World} {R : Nat → Prop} {g : Nat} {xs ys : List Int} {N : Nat → Obj → Prop} (h : PenMid W0 W R g xs ys N) (s : List Int) (hs : s.length = 32) (hw : ∀ x ∈ s, (Lit.int .u8 x).wf = true) (hx : (xs ++ ys).length ≤ 100000000) :
    Calls Try.prog 36 #[.pointer (some ⟨g, 0, none⟩), .agg (nums .u8 s).toArray] W fun e w' => e = .returned (.pointer (some ⟨g, 0, none⟩)) ∧ PenMid W0 w' R g xs (ys ++ s) N :=
  h.call fun Rk h1 _ _ => penr_sum s Rk g _ W h1 hs hw hx
theorem PenMid.nums {W0 W : World} {R : Nat → Prop} {g : Nat} {xs ys : List Int} {N : Nat → Obj → Prop} (h : PenMid W0 W R g xs ys N) (b : Nat) (l : List Int) (c : Array Value) (t : TypeId) (hN : N b (.cells c t (0, 0))) (hc : c = (nums .i64 l).toArray) (hl : l.length ≤ 1000) (hw : ∀ x ∈ l, (Lit.int .i64 x).wf = true) (hx : (xs ++ ys).length + 10 * l.length ≤ 100000000) :
    Calls Try.prog 34 #[.pointer (some ⟨g, 0, none⟩), .slice (some ⟨b, 0, none⟩) l.length l.length] W fun e w' => e = .returned (.pointer (some ⟨g, 0, none⟩)) ∧ PenMid W0 w' R g xs (ys ++ numsI l) N := by
  subst hc
  exact h.call fun Rk h1 _ h3 => penr_nums l _ _ (fun k => k = b) Rk g _ W h1 (Ints.blk (h.prot b _ hN).1 rfl (by unfold maxLen; omega) hw) (fun k hk => by subst hk; exact h3 k _ hN) hx
theorem PenMid.textOld {W0 W : World} {R : Nat → Prop} {g : Nat} {xs ys : List Int} {N : Nat → Obj → Prop} (h : PenMid W0 W R g xs ys N) {F : Nat → Prop} {A : Option Addr} {c : Nat} {l : List Int} (hi : Ints W0 F .u8 A c l) (hF : ∀ b, F b → ¬ PS g R b ∧ b < W0.heap.size) (hx : (xs ++ ys).length + l.length ≤ 90000000) :
    Calls Try.prog 72 #[.pointer (some ⟨g, 0, none⟩), .slice A l.length c] W fun e w' => e = .returned (.pointer (some ⟨g, 0, none⟩)) ∧ PenMid W0 w' R g xs (ys ++ textB l) N :=
  h.call fun Rk h1 h2 _ => penr_text l A c F Rk g _ W h1 (hi.keep h.kept (fun b hb => (hF b hb).1)) (fun b hb => ⟨fun hp => hp.elim (fun h' => (hF b hb).1 (.inl h')) (fun h' => (hF b hb).1 (.inr (Gw.old (hF b hb).2 (h2 b h').1))), Nat.lt_of_lt_of_le (hF b hb).2 h.kept.size⟩) hx
theorem PenMid.putOld {W0 W : World} {R : Nat → Prop} {g : Nat} {xs ys : List Int} {N : Nat → Obj → Prop} (h : PenMid W0 W R g xs ys N) (o : Out) {F : Nat → Prop} {A : Option Addr} {c : Nat} (hi : Ways W0 F A c o.ways) (ha : (Lit.int .i64 o.amount).wf = true) (hF : ∀ b, F b → ¬ PS g R b ∧ b < W0.heap.size) (hx : (xs ++ ys).length + 10 * (outBy o).length ≤ 90000000) :
    Calls Try.prog 29 #[.pointer (some ⟨g, 0, none⟩), .agg #[.int .i64 o.amount, .slice A o.ways.length c]] W fun e w' => e = .returned (.tuple #[]) ∧ PenMid W0 w' R g xs (ys ++ outBy o) N :=
  h.call fun Rk h1 h2 _ => put_any o A c F Rk g _ W h1 (hi.keep h.kept (fun b hb => (hF b hb).1)) ha (fun b hb => ⟨fun hp => hp.elim (fun h' => (hF b hb).1 (.inl h')) (fun h' => (hF b hb).1 (.inr (Gw.old (hF b hb).2 (h2 b h').1))), Nat.lt_of_lt_of_le (hF b hb).2 h.kept.size⟩) hx
end Go.Proofs.Ytcghjnegaiiieaa
namespace Go.Proofs.Ytcghjnegaiiieaa
open Go.RowKit
structure Els {α : Type} (R : Rl α) (size : Nat) (w : World) (F : Nat → Prop) (A : Option Addr) (c : Nat) (xs : List α) : Prop where
  el : Elems R size w F A xs
  le : xs.length ≤ c
  max : c ≤ maxLen
  nil : A = none → xs = [] ∧ c = 0
theorem RSl.els {α : Type} {R : Rl α} {size : Nat} {w : World} {F : Nat → Prop} {cs : List Value} {xs : List α} (h : RSl R size w F cs xs) : ∃ A c, cs = [.slice A xs.length c] ∧ Els R size w F A c xs := by
  obtain ⟨A, c, e, h1, h2, h3, h4⟩ := h
  exact ⟨A, c, e, ⟨h4, h1, h2, h3⟩⟩
theorem Els.sl {α : Type} {R : Rl α} {size : Nat} {w : World} {F : Nat → Prop} {A : Option Addr} {c : Nat} {xs : List α} (h : Els R size w F A c xs) : RSl R size w F [.slice A xs.length c] xs := ⟨A, c, rfl, h.le, h.max, h.nil, h.el⟩
theorem Els.keep {α : Type} {R : Rl α} {size : Nat} (hR : Good R size) {w w' : World} {F S : Nat → Prop} {A : Option Addr} {c : Nat} {xs : List α} (h : Els R size w F A c xs) (hk : Kept S w w') (hf : ∀ b, F b → ¬ S b) : Els R size w' F A c xs := { h with el := h.el.keep hR hk hf }
theorem Els.mono {α : Type} {R : Rl α} {size : Nat} (hR : Good R size) {w : World} {F F' : Nat → Prop} {A : Option Addr} {c : Nat} {xs : List α} (h : Els R size w F A c xs) (hf : ∀ b, F b → F' b) : Els R size w F' A c xs := { h with el := h.el.mono hR hf }
theorem Els.cells {α : Type} {R : Rl α} {size : Nat} {w : World} {F : Nat → Prop} {A : Option Addr} {c : Nat} {xs : List α} (h : Els R size w F A c xs) (i : Nat) (hi : i < xs.length) :
    ∃ ad es, A = some ad ∧ F ad.block ∧ es.length = size ∧ (∀ j u, es[j]? = some u → w.cell? ((ad.add (i * size)).add j) = some u) ∧ R w F es xs[i] := by
  obtain ⟨ad, e, hb, es, h1, h2, h3⟩ := h.el i hi
  exact ⟨ad, es, e, hb, h1, h2, h3⟩
theorem Els.take {α : Type} {R : Rl α} {size : Nat} {w : World} {F : Nat → Prop} {A : Option Addr} {c : Nat} {xs : List α} (h : Els R size w F A c xs) (n : Nat) : Els R size w F A c (xs.take n) := by
  refine ⟨fun i hi => ?_, by have := h.le; rw [List.length_take]; omega, h.max, fun e => ⟨by rw [(h.nil e).1]; simp, (h.nil e).2⟩⟩
  have hi' : i < xs.length := by rw [List.length_take] at hi; omega
  obtain ⟨ad, e, hb, es, h1, h2, h3⟩ := h.el i hi'
  exact ⟨ad, e, hb, es, h1, h2, by rw [List.getElem_take]; exact h3⟩
theorem Els.ways {w : World} {F : Nat → Prop} {A : Option Addr} {c : Nat} {xs : List Way} (h : Els RWay 35 w F A c xs) : Ways w F A c xs := ⟨h.el, h.le, h.max, h.nil⟩
structure Inp where
  tx : List Int
  at_ : Int
  way : Int
  pre : List Int
instance : Inhabited Inp := ⟨⟨[], 0, 0, []⟩⟩
def RInp : Rl Inp := RBy (RCons (RArr .u8 32) 32 (RCons (RInt .i64) 1 (RCons (RInt .i64) 1 (RCons RBs 1 RNil)))) (fun x => (x.tx, x.at_, x.way, x.pre, ()))
theorem RInp.good : Good RInp 35 := RBy.good (RCons.good (RArr.good _ _) (RCons.good (RInt.good _) (RCons.good (RInt.good _) (RCons.good (RSl.good (RInt.good _)) RNil.good)))) _
def inpCells (A : Option Addr) (c : Nat) (x : Inp) : List Value := nums .u8 x.tx ++ [.int .i64 x.at_, .int .i64 x.way, .slice A x.pre.length c]
structure InpOk (x : Inp) : Prop where
  hl : x.tx.length = 32
  hw : ∀ h ∈ x.tx, (Lit.int .u8 h).wf = true
  aw : (Lit.int .i64 x.at_).wf = true
  ww : (Lit.int .i64 x.way).wf = true
theorem RInp.open_ {w : World} {F : Nat → Prop} {cs : List Value} {x : Inp} (h : RInp w F cs x) : ∃ A c, cs = inpCells A c x ∧ Ints w F .u8 A c x.pre ∧ InpOk x := by
  obtain ⟨c1, d1, rfl, _, ⟨rfl, h2, h3⟩, c2, d2, rfl, _, ⟨rfl, h4⟩, c3, d3, rfl, _, ⟨rfl, h5⟩, c4, d4, rfl, _, h6, h7⟩ := h
  cases h7
  obtain ⟨A, c, rfl, hi⟩ := RSl.ints h6
  exact ⟨A, c, by simp [inpCells], hi, h2, h3, h4, h5⟩
theorem RInp.mk' {w : World} {F : Nat → Prop} {A : Option Addr} {c : Nat} {x : Inp} (h : Ints w F .u8 A c x.pre) (hx : InpOk x) : RInp w F (inpCells A c x) x :=
  ⟨nums .u8 x.tx, _, rfl, by rw [nums_length, hx.hl], ⟨rfl, hx.hl, hx.hw⟩, [.int .i64 x.at_], _, rfl, rfl, ⟨rfl, hx.aw⟩, [.int .i64 x.way], _, rfl, rfl, ⟨rfl, hx.ww⟩, [.slice A x.pre.length c], _, rfl, rfl, h.sl, rfl⟩
theorem inp_len {A : Option Addr} {c : Nat} {x : Inp} (h : InpOk x) : (inpCells A c x).length = 35 := by simp [inpCells, nums_length, h.hl]
theorem inp_at {A : Option Addr} {c : Nat} {x : Inp} (h : InpOk x) : (inpCells A c x)[32]? = some (.int .i64 x.at_) ∧ (inpCells A c x)[33]? = some (.int .i64 x.way) ∧ (inpCells A c x)[34]? = some (.slice A x.pre.length c) := by
  have hn : (nums IntKind.u8 x.tx).length = 32 := by rw [nums_length, h.hl]
  unfold inpCells
  refine ⟨?_, ?_, ?_⟩ <;> (rw [List.getElem?_append_right (by omega), hn]; rfl)
theorem inp_tx {A : Option Addr} {c : Nat} {x : Inp} (j : Nat) (u : Value) (hj : (nums .u8 x.tx)[j]? = some u) : (inpCells A c x)[j]? = some u := by
  have hl : j < (nums .u8 x.tx).length := (List.getElem?_eq_some_iff.1 hj).1
  unfold inpCells
  rw [List.getElem?_append_left hl, hj]
structure Sgn where
  key : Int
  of_ : List Int
instance : Inhabited Sgn := ⟨⟨0, []⟩⟩
def RSgn : Rl Sgn := RBy (RCons (RInt .i64) 1 (RCons (RArr .u8 32) 32 RNil)) (fun x => (x.key, x.of_, ()))
theorem RSgn.good : Good RSgn 33 := RBy.good (RCons.good (RInt.good _) (RCons.good (RArr.good _ _) RNil.good)) _
def sgnCells (x : Sgn) : List Value := .int .i64 x.key :: nums .u8 x.of_
structure SgnOk (x : Sgn) : Prop where
  hl : x.of_.length = 32
  hw : ∀ h ∈ x.of_, (Lit.int .u8 h).wf = true
  kw : (Lit.int .i64 x.key).wf = true
theorem RSgn.open_ {w : World} {F : Nat → Prop} {cs : List Value} {x : Sgn} (h : RSgn w F cs x) : cs = sgnCells x ∧ SgnOk x := by
  obtain ⟨c1, d1, rfl, _, ⟨rfl, h1⟩, c2, d2, rfl, _, ⟨rfl, h2, h3⟩, h4⟩ := h
  cases h4
  exact ⟨by simp [sgnCells], h2, h3, h1⟩
theorem RSgn.mk' {w : World} {F : Nat → Prop} {x : Sgn} (hx : SgnOk x) : RSgn w F (sgnCells x) x :=
  ⟨[.int .i64 x.key], nums .u8 x.of_, rfl, rfl, ⟨rfl, hx.kw⟩, nums .u8 x.of_, [], (List.append_nil _).symm, by rw [nums_length, hx.hl], ⟨rfl, hx.hl, hx.hw⟩, rfl⟩
theorem sgn_len {x : Sgn} (h : SgnOk x) : (sgnCells x).length = 33 := by simp [sgnCells, nums_length, h.hl]
theorem sgn_of {x : Sgn} (j : Nat) (u : Value) (hj : (nums .u8 x.of_)[j]? = some u) : (sgnCells x)[1 + j]? = some u := by
  unfold sgnCells
  rw [Nat.add_comm, List.getElem?_cons_succ, hj]
structure Opx where
  kind : Int
  tower : Int
  channel : Int
  amount : Int
  root : List Int
  data : List Int
def ROpx : Rl Opx := RBy (RCons (RInt .i64) 1 (RCons (RInt .i64) 1 (RCons (RInt .i64) 1 (RCons (RInt .i64) 1 (RCons (RArr .u8 32) 32 (RCons RBs 1 RNil)))))) (fun x => (x.kind, x.tower, x.channel, x.amount, x.root, x.data, ()))
theorem ROpx.good : Good ROpx 37 := RBy.good (RCons.good (RInt.good _) (RCons.good (RInt.good _) (RCons.good (RInt.good _) (RCons.good (RInt.good _) (RCons.good (RArr.good _ _) (RCons.good (RSl.good (RInt.good _)) RNil.good)))))) _
def opxCells (A : Option Addr) (c : Nat) (x : Opx) : List Value := .int .i64 x.kind :: .int .i64 x.tower :: .int .i64 x.channel :: .int .i64 x.amount :: (nums .u8 x.root ++ [.slice A x.data.length c])
structure OpxOk (x : Opx) : Prop where
  hl : x.root.length = 32
  hw : ∀ h ∈ x.root, (Lit.int .u8 h).wf = true
  kw : (Lit.int .i64 x.kind).wf = true
  tw : (Lit.int .i64 x.tower).wf = true
  cw : (Lit.int .i64 x.channel).wf = true
  aw : (Lit.int .i64 x.amount).wf = true
theorem ROpx.open_ {w : World} {F : Nat → Prop} {cs : List Value} {x : Opx} (h : ROpx w F cs x) : ∃ A c, cs = opxCells A c x ∧ Ints w F .u8 A c x.data ∧ OpxOk x := by
  obtain ⟨c1, d1, rfl, _, ⟨rfl, h1⟩, c2, d2, rfl, _, ⟨rfl, h2⟩, c3, d3, rfl, _, ⟨rfl, h3⟩, c4, d4, rfl, _, ⟨rfl, h4⟩, c5, d5, rfl, _, ⟨rfl, h5, h6⟩, c6, d6, rfl, _, h7, h8⟩ := h
  cases h8
  obtain ⟨A, c, rfl, hi⟩ := RSl.ints h7
  exact ⟨A, c, by simp [opxCells], hi, h5, h6, h1, h2, h3, h4⟩
theorem ROpx.mk' {w : World} {F : Nat → Prop} {A : Option Addr} {c : Nat} {x : Opx} (h : Ints w F .u8 A c x.data) (hx : OpxOk x) : ROpx w F (opxCells A c x) x :=
  ⟨[.int .i64 x.kind], _, rfl, rfl, ⟨rfl, hx.kw⟩, [.int .i64 x.tower], _, rfl, rfl, ⟨rfl, hx.tw⟩, [.int .i64 x.channel], _, rfl, rfl, ⟨rfl, hx.cw⟩, [.int .i64 x.amount], _, rfl, rfl, ⟨rfl, hx.aw⟩, nums .u8 x.root, _, rfl, by rw [nums_length, hx.hl], ⟨rfl, hx.hl, hx.hw⟩, [.slice A x.data.length c], _, rfl, rfl, h.sl, rfl⟩
theorem opx_len {A : Option Addr} {c : Nat} {x : Opx} (h : OpxOk x) : (opxCells A c x).length = 37 := by simp [opxCells, nums_length, h.hl]
theorem opx_data {A : Option Addr} {c : Nat} {x : Opx} (h : OpxOk x) : (opxCells A c x)[36]? = some (.slice A x.data.length c) := by
  have hn : (nums IntKind.u8 x.root).length = 32 := by rw [nums_length, h.hl]
  unfold opxCells
  simp only [List.getElem?_cons_succ]
  rw [List.getElem?_append_right (by omega), hn]; rfl
theorem opx_root {A : Option Addr} {c : Nat} {x : Opx} (j : Nat) (u : Value) (hj : (nums .u8 x.root)[j]? = some u) : (opxCells A c x)[4 + j]? = some u := by
  have hl : j < (nums .u8 x.root).length := (List.getElem?_eq_some_iff.1 hj).1
  unfold opxCells
  rw [show 4 + j = j + 1 + 1 + 1 + 1 from by omega]
  simp only [List.getElem?_cons_succ]
  rw [List.getElem?_append_left hl, hj]
structure Txx where
  ins : List Inp
  outs : List Out
  op : Opx
  sgns : List Sgn
def RTxx : Rl Txx := RBy (RCons (RSl RInp 35) 1 (RCons (RSl ROut 2) 1 (RCons ROpx 37 (RCons (RSl RSgn 33) 1 RNil)))) (fun t => (t.ins, t.outs, t.op, t.sgns, ()))
theorem RTxx.good : Good RTxx 40 := RBy.good (RCons.good (RSl.good RInp.good) (RCons.good (RSl.good ROut.good) (RCons.good ROpx.good (RCons.good (RSl.good RSgn.good) RNil.good)))) _
structure TxP where
  iA : Option Addr
  ic : Nat
  oA : Option Addr
  oc : Nat
  dA : Option Addr
  dc : Nat
  sA : Option Addr
  sc : Nat
def txCells (p : TxP) (t : Txx) : List Value := .slice p.iA t.ins.length p.ic :: .slice p.oA t.outs.length p.oc :: (opxCells p.dA p.dc t.op ++ [.slice p.sA t.sgns.length p.sc])
structure TxAt (w : World) (F : Nat → Prop) (p : TxP) (t : Txx) : Prop where
  ins : Els RInp 35 w F p.iA p.ic t.ins
  outs : Els ROut 2 w F p.oA p.oc t.outs
  data : Ints w F .u8 p.dA p.dc t.op.data
  op : OpxOk t.op
  sgns : Els RSgn 33 w F p.sA p.sc t.sgns
theorem RTxx.open_ {w : World} {F : Nat → Prop} {cs : List Value} {t : Txx} (h : RTxx w F cs t) : ∃ p, cs = txCells p t ∧ TxAt w F p t := by
  obtain ⟨c1, d1, rfl, _, h1, c2, d2, rfl, _, h2, c3, d3, rfl, _, h3, c4, d4, rfl, _, h4, h5⟩ := h
  cases h5
  obtain ⟨iA, ic, rfl, e1⟩ := RSl.els h1
  obtain ⟨oA, oc, rfl, e2⟩ := RSl.els h2
  obtain ⟨dA, dc, rfl, e3, e4⟩ := ROpx.open_ h3
  obtain ⟨sA, sc, rfl, e5⟩ := RSl.els h4
  exact ⟨⟨iA, ic, oA, oc, dA, dc, sA, sc⟩, by simp [txCells], e1, e2, e3, e4, e5⟩
theorem TxAt.keep {w w' : World} {F S : Nat → Prop} {p : TxP} {t : Txx} (h : TxAt w F p t) (hk : Kept S w w') (hf : ∀ b, F b → ¬ S b) : TxAt w' F p t :=
  ⟨h.ins.keep RInp.good hk hf, h.outs.keep ROut.good hk hf, h.data.keep hk hf, h.op, h.sgns.keep RSgn.good hk hf⟩
theorem TxAt.mono {w : World} {F F' : Nat → Prop} {p : TxP} {t : Txx} (h : TxAt w F p t) (hf : ∀ b, F b → F' b) : TxAt w F' p t :=
  ⟨h.ins.mono RInp.good hf, h.outs.mono ROut.good hf, h.data.mono hf, h.op, h.sgns.mono RSgn.good hf⟩
theorem tx_len {p : TxP} {t : Txx} (h : OpxOk t.op) : (txCells p t).length = 40 := by simp [txCells, opx_len h]
theorem tx_op {p : TxP} {t : Txx} (h : OpxOk t.op) (j : Nat) (u : Value) (hj : (opxCells p.dA p.dc t.op)[j]? = some u) : (txCells p t)[2 + j]? = some u := by
  have hl : j < (opxCells p.dA p.dc t.op).length := (List.getElem?_eq_some_iff.1 hj).1
  have := opx_len (A := p.dA) (c := p.dc) h
  unfold txCells
  rw [show 2 + j = j + 1 + 1 from by omega, List.getElem?_cons_succ, List.getElem?_cons_succ, List.getElem?_append_left hl, hj]
theorem tx_at {p : TxP} {t : Txx} (h : OpxOk t.op) : (txCells p t)[0]? = some (.slice p.iA t.ins.length p.ic) ∧ (txCells p t)[1]? = some (.slice p.oA t.outs.length p.oc) ∧ (txCells p t)[2]? = some (.int .i64 t.op.kind) ∧ (txCells p t)[38]? = some (.slice p.dA t.op.data.length p.dc) ∧ (txCells p t)[39]? = some (.slice p.sA t.sgns.length p.sc) := by
  refine ⟨rfl, rfl, rfl, tx_op h 36 _ (opx_data h), ?_⟩
  have := opx_len (A := p.dA) (c := p.dc) h
  unfold txCells
  rw [List.getElem?_cons_succ, List.getElem?_cons_succ, List.getElem?_append_right (by omega), this]
  rfl
theorem aggInp : AggT Try.prog 96 35 := ⟨⟨_, Try.underlying96, rfl⟩, by kernel_rfl⟩
theorem aggSgn : AggT Try.prog 177 33 := ⟨⟨_, Try.underlying177, rfl⟩, by kernel_rfl⟩
theorem aggOpx : AggT Try.prog 87 37 := ⟨⟨_, Try.underlying87, rfl⟩, by kernel_rfl⟩
theorem aggTx : AggT Try.prog 90 40 := ⟨⟨_, Try.underlying90, rfl⟩, by kernel_rfl⟩
theorem aggRef : AggT Try.prog 62 33 := ⟨⟨_, Try.underlying62, rfl⟩, by kernel_rfl⟩
def inpB (x : Inp) : Bool := decide (0 ≤ x.at_) && decide (x.at_ < 16) && decide (0 ≤ x.way) && decide (x.way < 16) && decide (x.pre.length ≤ 64)
def opxB (x : Opx) : Bool := if x.kind = 0 then (x.tower == 0) && (x.channel == 0) && (x.amount == 0) && (x.root == zero32) && (x.data.length == 0)
  else decide (1 ≤ x.kind) && decide (x.kind ≤ 7) && decide (0 ≤ x.tower) && decide (x.tower < 16) && decide (0 ≤ x.channel) && decide (x.channel ≤ 1048576) && decide (0 ≤ x.amount) && decide (x.amount ≤ 1125899906842624) && decide (x.data.length ≤ 65536)
def refB (x y : Inp) : Bool := (x.tx == y.tx) && (x.at_ == y.at_)
def inAtB (l : List Inp) (i : Nat) : Bool := inpB (l.getD i default) && !((l.take i).any fun y => refB y (l.getD i default))
def insUpto (l : List Inp) (n : Nat) : Bool := (List.range n).all (inAtB l)
theorem insUpto_succ (l : List Inp) (n : Nat) : insUpto l (n + 1) = (insUpto l n && inAtB l n) := by simp [insUpto, List.range_succ]
theorem insUpto_no (l : List Inp) (n i : Nat) (hi : i < n) (h : inAtB l i = false) : insUpto l n = false := by
  unfold insUpto
  rw [List.all_eq_false]
  exact ⟨i, by simpa using hi, by simp [h]⟩
def sgnAtB (l : List Sgn) (i : Nat) : Bool := decide (0 ≤ (l.getD i default).key) && decide ((l.getD i default).key ≤ 255) && (decide (i = 0) || decide ((l.getD (i - 1) default).key < (l.getD i default).key))
def sgnsUpto (l : List Sgn) (n : Nat) : Bool := (List.range n).all (sgnAtB l)
theorem sgnsUpto_succ (l : List Sgn) (n : Nat) : sgnsUpto l (n + 1) = (sgnsUpto l n && sgnAtB l n) := by simp [sgnsUpto, List.range_succ]
theorem sgnsUpto_no (l : List Sgn) (n i : Nat) (hi : i < n) (h : sgnAtB l i = false) : sgnsUpto l n = false := by
  unfold sgnsUpto
  rw [List.all_eq_false]
  exact ⟨i, by simpa using hi, by simp [h]⟩
def txHeadB (t : Txx) : Bool := decide (t.ins.length ≤ 16) && decide (t.outs.length ≤ 16) && decide (t.sgns.length ≤ 16) && opxB t.op && !(decide (t.ins.length = 0) && decide (t.op.kind = 0))
def txB (t : Txx) : Bool := txHeadB t && insUpto t.ins t.ins.length && sgnsUpto t.sgns t.sgns.length && t.outs.all outB
def inBy (shown : Bool) (x : Inp) : List Int := x.tx ++ numsI [x.at_, x.way] ++ (if shown then textB x.pre else [])
def opBy (x : Opx) : List Int := numsI [x.kind, x.tower, x.channel, x.amount] ++ x.root ++ textB x.data
def sgnBy (x : Sgn) : List Int := numB x.key.toNat ++ x.of_
def bodyBy (shown : Bool) (t : Txx) : List Int := numB t.ins.length ++ t.ins.flatMap (inBy shown) ++ numB t.outs.length ++ t.outs.flatMap outBy ++ opBy t.op
def txBy (t : Txx) : List Int := bodyBy true t ++ numB t.sgns.length ++ t.sgns.flatMap sgnBy
end Go.Proofs.Ytcghjnegaiiieaa
namespace Go.Proofs.Ytcghjnegaiiieaa
open Go.RowKit
def ints (k : IntKind) (xs : List Int) : CV := .sl 1 (xs.map (ic k))
def cSum (h : List Int) : CV := .ar .u8 32 h
def cWay (x : Way) : CV := .st [ints .i64 x.keys, cSum x.hash, ic .i64 x.after, ic .i64 x.wait]
def cOut (x : Out) : CV := .st [ic .i64 x.amount, .sl 35 (x.ways.map cWay)]
def cRef (t : List Int) (i : Int) : CV := .st [cSum t, ic .i64 i]
def cInp (x : Inp) : CV := .st [cRef x.tx x.at_, ic .i64 x.way, ints .u8 x.pre]
def cSgn (x : Sgn) : CV := .st [ic .i64 x.key, cSum x.of_]
def cOpx (x : Opx) : CV := .st [ic .i64 x.kind, ic .i64 x.tower, ic .i64 x.channel, ic .i64 x.amount, cSum x.root, ints .u8 x.data]
def cTxx (x : Txx) : CV := .st [.sl 35 (x.ins.map cInp), .sl 2 (x.outs.map cOut), cOpx x.op, .sl 33 (x.sgns.map cSgn)]
theorem eqTy_Sum : EqTy Try.prog 24 (.a .u8 32) := EqTy.arr Try.underlying24 Try.underlying5 (by kernel_rfl) (by kernel_rfl)
theorem eqTy_int : EqTy Try.prog 3 .i := EqTy.int Try.underlying3 (by kernel_rfl)
theorem getD_map {α β : Type} [Inhabited α] (f : α → β) (l : List α) (i : Nat) (d : β) (h : i < l.length) : (l.map f).getD i d = f (l.getD i default) := by
  simp [h]
theorem int_default : (default : Int) = 0 := rfl
theorem wrap64 {x : Int} (h1 : -9223372036854775808 ≤ x) (h2 : x ≤ 9223372036854775807) : IntKind.i64.wrap x = x := IntWalk.i64_in x ⟨h1, h2⟩
theorem enc1 : type_of% (And.intro @ic.eq_1 (And.intro @ints.eq_1 (And.intro @cSum.eq_1 (And.intro @cWay.eq_1 (And.intro @cOut.eq_1 (And.intro @cRef.eq_1 (And.intro @cInp.eq_1 (And.intro @cSgn.eq_1 (And.intro @cOpx.eq_1 @cTxx.eq_1))))))))) := (And.intro @ic.eq_1 (And.intro @ints.eq_1 (And.intro @cSum.eq_1 (And.intro @cWay.eq_1 (And.intro @cOut.eq_1 (And.intro @cRef.eq_1 (And.intro @cInp.eq_1 (And.intro @cSgn.eq_1 (And.intro @cOpx.eq_1 @cTxx.eq_1)))))))))
end Go.Proofs.Ytcghjnegaiiieaa
namespace Go.Proofs.Ytcghjnegaiiieaa
open Go.RowKit
def coinRight (n : Int) : Bool := decide (n ≥ 0) && decide (n ≤ 1125899906842624)
def coinAdd : Int → List Int → Int × Int
  | s, [] => (s, 0)
  | s, n :: l => if coinRight n = false then (0, 5) else if s + n > 1125899906842624 then (0, 10) else coinAdd (s + n) l
structure Chan where
  id : Int
  client : Int
  peer : Int
  ft : List Int
  fa : Int
  cap : Int
  wait : Int
  window : Int
structure CoinAt (l : List Int) (k : Nat) (s : Int) : Prop where
  le : k ≤ l.length
  eq : coinAdd 0 l = coinAdd s (l.drop k)
  lo : 0 ≤ s
  hi : s ≤ 1125899906842624
theorem CoinAt.start (l : List Int) : CoinAt l 0 0 := ⟨Nat.zero_le _, rfl, by omega, by omega⟩
theorem CoinAt.step {l : List Int} {k : Nat} {s : Int} (h : CoinAt l k s) (hk : k < l.length) : coinAdd 0 l = if coinRight (l.getD k 0) = false then (0, 5) else if s + l.getD k 0 > 1125899906842624 then (0, 10) else coinAdd (s + l.getD k 0) (l.drop (k + 1)) := by
  rw [h.eq, drop_cons l k hk]; rfl
abbrev Z32 : List Int := List.replicate 32 0
def zOpx : Opx := ⟨0, 0, 0, 0, Z32, []⟩
end Go.Proofs.Ytcghjnegaiiieaa
namespace Go.Proofs.Ytcghjnegaiiieaa
open Go.RowKit
def BytesOk (xs : List Int) : Prop := ∀ x ∈ xs, (Lit.int .u8 x).wf = true
theorem BytesOk.right {xs ys : List Int} (h : BytesOk (xs ++ ys)) : BytesOk ys := fun x hx => h x (List.mem_append_right _ hx)
end Go.Proofs.Ytcghjnegaiiieaa
namespace Go.Proofs.Ytcghjnegaiiieaa
open Go.RowKit
set_option maxRecDepth 100000 in
set_option maxHeartbeats 8000000 in
theorem rightOp_any (x : Opx) (cs : List Value) (F : Nat → Prop) (w : World) (h : ROpx w F cs x) :
    Calls Try.prog 111 #[.agg cs.toArray] w fun e w' => e = .returned (.bool (opxB x)) ∧ Kept Nob w w' := by
  obtain ⟨A, c, rfl, hi, hok⟩ := h.open_
  have hb : (w.alloc (.cells (opxCells A c x).toArray 87)).heap[w.heap.size]? = some (.cells (opxCells A c x).toArray 87 (0, 0)) := heap_alloc_new _ _
  have HK : Hid (Kept Nob w (w.alloc (.cells (opxCells A c x).toArray 87))) := hidden (Kept.alloc (Kept.refl _ _) _)
  have q0 : (w.alloc (.cells (opxCells A c x).toArray 87)).cell? ⟨w.heap.size, 0, none⟩ = some (.int .i64 x.kind) := (blk_cell hb 0).trans rfl
  have q1 : (w.alloc (.cells (opxCells A c x).toArray 87)).cell? ⟨w.heap.size, 1, none⟩ = some (.int .i64 x.tower) := (blk_cell hb 1).trans rfl
  have q2 : (w.alloc (.cells (opxCells A c x).toArray 87)).cell? ⟨w.heap.size, 2, none⟩ = some (.int .i64 x.channel) := (blk_cell hb 2).trans rfl
  have q3 : (w.alloc (.cells (opxCells A c x).toArray 87)).cell? ⟨w.heap.size, 3, none⟩ = some (.int .i64 x.amount) := (blk_cell hb 3).trans rfl
  have q36 : (w.alloc (.cells (opxCells A c x).toArray 87)).cell? ⟨w.heap.size, 36, none⟩ = some (.slice A x.data.length c) := (blk_cell hb 36).trans (by simpa using opx_data (A := A) (c := c) hok)
  have HR : Hid (∀ j u, (nums .u8 x.root)[j]? = some u → (w.alloc (.cells (opxCells A c x).toArray 87)).cell? ((⟨w.heap.size, 4, none⟩ : Addr).add j) = some u) := hidden (fun j u hj => by
    have ea : (⟨w.heap.size, 4, none⟩ : Addr).add j = ⟨w.heap.size, 4 + j, none⟩ := by unfold Addr.add; split <;> simp_all
    rw [ea, blk_cell hb]
    simpa using opx_root (A := A) (c := c) (x := x) j u hj)
  have HL := hidden hok.hl
  have hle := hi.le
  have hmx := hi.max
  unfold maxLen at hmx
  have EZ := hidden (eqlZero x.root hok.hl)
  clear h hi hb
  obtain ⟨k, t, ch, a, root, data⟩ := x
  dsimp only at *
  generalize (opxCells A c ⟨k, t, ch, a, root, data⟩).toArray = CS at *
  have hv : opxB ⟨k, t, ch, a, root, data⟩ = if k = 0 then (t == 0) && (ch == 0) && (a == 0) && (root == zero32) && (data.length == 0) else decide (1 ≤ k) && decide (k ≤ 7) && decide (0 ≤ t) && decide (t < 16) && decide (0 ≤ ch) && decide (ch ≤ 1048576) && decide (0 ≤ a) && decide (a ≤ 1125899906842624) && decide (data.length ≤ 65536) := rfl
  have HV := hidden hv
  clear hv hok
  by_cases hk : k = 0
  · have hv := HV.out
    rw [if_pos hk] at hv
    have HV2 := hidden hv
    clear hv HV
    have e1 : (k == 0) = true := by simpa using hk
    have eqz := EZ.out
    generalize hbz : (root == zero32) = b at *
    cases b
    all_goals
      go_enter Try.func111, Try.ntmps111
      go_wp2_with ((with_reducible refine load_lit aggSum (.tmp 20) ⟨w.heap.size, 4, none⟩ (nums .u8 root) ?_ ?_ ?_ ?_ ?_); rfl; rfl; exact (nums_length _ _).trans HL.out; exact HR.out)
      all_goals
        go_ret
        refine ⟨ret_bool ?_, HK.out⟩
        rw [HV2.out]
        symm
        simp_all
        try (rw [Bool.eq_iff_iff]; simp)
  · have hv := HV.out
    rw [if_neg hk] at hv
    have HV2 := hidden hv
    clear hv HV
    have e1 : (k == 0) = false := by simpa using hk
    go_enter Try.func111, Try.ntmps111
    go_wp2
    all_goals
      go_ret
      refine ⟨ret_bool ?_, HK.out⟩
      rw [HV2.out]
      symm
      simp_all
      try omega
set_option maxRecDepth 100000 in
set_option maxHeartbeats 8000000 in
theorem rightIn_any (x : Inp) (cs : List Value) (F : Nat → Prop) (w : World) (h : RInp w F cs x) :
    Calls Try.prog 112 #[.agg cs.toArray] w fun e w' => e = .returned (.bool (inpB x)) ∧ Kept Nob w w' := by
  obtain ⟨A, c, rfl, hi, hok⟩ := h.open_
  have hb : (w.alloc (.cells (inpCells A c x).toArray 96)).heap[w.heap.size]? = some (.cells (inpCells A c x).toArray 96 (0, 0)) := heap_alloc_new _ _
  have HK : Hid (Kept Nob w (w.alloc (.cells (inpCells A c x).toArray 96))) := hidden (Kept.alloc (Kept.refl _ _) _)
  obtain ⟨c32, c33, c34⟩ := inp_at (A := A) (c := c) hok
  have q32 : (w.alloc (.cells (inpCells A c x).toArray 96)).cell? ⟨w.heap.size, 32, none⟩ = some (.int .i64 x.at_) := (blk_cell hb 32).trans (by simpa using c32)
  have q33 : (w.alloc (.cells (inpCells A c x).toArray 96)).cell? ⟨w.heap.size, 33, none⟩ = some (.int .i64 x.way) := (blk_cell hb 33).trans (by simpa using c33)
  have q34 : (w.alloc (.cells (inpCells A c x).toArray 96)).cell? ⟨w.heap.size, 34, none⟩ = some (.slice A x.pre.length c) := (blk_cell hb 34).trans (by simpa using c34)
  have hle := hi.le
  have hmx := hi.max
  unfold maxLen at hmx
  have HV : Hid (inpB x = (decide (0 ≤ x.at_) && decide (x.at_ < 16) && decide (0 ≤ x.way) && decide (x.way < 16) && decide (x.pre.length ≤ 64))) := hidden rfl
  clear h hi hb c32 c33 c34 hok
  generalize (inpCells A c x).toArray = CS at *
  generalize inpB x = v at *
  obtain ⟨txx, at_, way, pre⟩ := x
  dsimp only at *
  go_enter Try.func112, Try.ntmps112
  go_wp2
  all_goals
    go_ret
    refine ⟨ret_bool ?_, HK.out⟩
    rw [HV.out]
    symm
    simp_all
    try omega
end Go.Proofs.Ytcghjnegaiiieaa
namespace Go.Proofs.Ytcghjnegaiiieaa
open Go.RowKit
def refCells (a : List Int) (i : Int) : List Value := nums .u8 a ++ [.int .i64 i]
theorem run_equalIn_ref (d : Nat) (a b : List Int) (i j : Int) (ha : a.length = 32) (hb : b.length = 32) (w : World) : (Op.equalIn (d + 3) 62 (.agg (refCells a i).toArray) (.agg (refCells b j).toArray)).run Try.prog w = .ok ((a == b) && (i == j)) w := by
  have hna : (nums IntKind.u8 a).length = 32 := by rw [nums_length, ha]
  have hnb : (nums IntKind.u8 b).length = 32 := by rw [nums_length, hb]
  have pa : ∀ (x : List Int) (k : Int), (nums IntKind.u8 x).length = 32 → (part 24 (refCells x k).toArray 0).run Try.prog w = .ok (.agg (nums .u8 x).toArray) w := by
    intro x k hx
    have hs : (sizeOf 24).run Try.prog w = .ok 32 w := by kernel_rfl
    have hag : (isAgg 24).run Try.prog w = .ok true w := by kernel_rfl
    simp [part, Sem.run_bind, hag, hs, refCells]
    rw [List.take_append_of_le_length (by omega), List.take_of_length_le (by omega)]
  have pb : ∀ (x : List Int) (k : Int), (nums IntKind.u8 x).length = 32 → (part 3 (refCells x k).toArray 32).run Try.prog w = .ok (.int .i64 k) w := by
    intro x k hx
    have hag : (isAgg 3).run Try.prog w = .ok false w := by kernel_rfl
    have hc : (refCells x k)[32]? = some (.int .i64 k) := by
      unfold refCells
      rw [List.getElem?_append_right (by omega), hx]; rfl
    simp [part, Sem.run_bind, hag, hc]
  have hT : Try.prog.underlying 62 = some (.struct (Try.prog.fieldsOf 62)) := by
    unfold Program.fieldsOf
    rw [Try.underlying62]
  have hst : Try.prog.stoodInHeld 62 = false := Try.stoodInHeld62
  rw [run_equalIn_agg w (d + 2) 62 _ _ hT hst]
  unfold Program.fieldsOf
  rw [Try.underlying62]
  dsimp only
  rw [Op.eqFields, if_pos (by simp), Sem.run_bind, pa a i hna, Result.andThen_ok, Sem.run_bind, pa b j hnb, Result.andThen_ok, Sem.run_bind, run_equalIn_nums w d 24 5 32 .u8 Try.underlying24 Try.underlying5 size1 a b ha hb, Result.andThen_ok]
  cases (a == b)
  · rw [if_pos (by simp), Sem.run_pure, Bool.false_and]
  · rw [if_neg (by simp), Op.eqFields, if_pos (by simp), Sem.run_bind, pb a i hna, Result.andThen_ok, Sem.run_bind, pb b j hnb, Result.andThen_ok, Sem.run_bind, run_equalIn_int w (d + 1) 3 .i64 .i64 i j Try.underlying3, Result.andThen_ok, Bool.true_and]
    cases (i == j)
    · rw [if_pos (by simp), Sem.run_pure]
    · rw [if_neg (by simp), Op.eqFields, Sem.run_pure]
theorem eqlRef (a b : List Int) (i j : Int) (ha : a.length = 32) (hb : b.length = 32) (w : World) : (binOp .eql 62 (.agg (refCells a i).toArray) (.agg (refCells b j).toArray)).run Try.prog w = .ok (.bool ((a == b) && (i == j))) w := by
  rw [run_eql_struct, run_equalIn_ref 9997 a b i j ha hb w]; rfl
theorem inp_ref {A : Option Addr} {c : Nat} {x : Inp} (j : Nat) (u : Value) (hj : (refCells x.tx x.at_)[j]? = some u) : (inpCells A c x)[j]? = some u := by
  have e : inpCells A c x = refCells x.tx x.at_ ++ [.int .i64 x.way, .slice A x.pre.length c] := by unfold inpCells refCells; simp
  have hl : j < (refCells x.tx x.at_).length := (List.getElem?_eq_some_iff.1 hj).1
  rw [e, List.getElem?_append_left hl, hj]
theorem ref_len {a : List Int} {i : Int} (h : a.length = 32) : (refCells a i).length = 33 := by simp [refCells, nums_length, h]
set_option maxRecDepth 100000 in
set_option maxHeartbeats 8000000 in
theorem right1_any (x y : Inp) (cs : List Value) (A : Option Addr) (c g : Nat) (F : Nat → Prop) (w : World) (h : RInp w F cs y) (hx : InpOk x) (hg : w.heap[g]? = some (.cells (inpCells A c x).toArray 96 (0, 0))) :
    Calls Try.prog 114 #[.agg cs.toArray, .pointer (some ⟨g, 0, none⟩)] w fun e w' => e = .returned (.bool (refB y x)) ∧ Kept Nob w w' := by
  obtain ⟨B, d, rfl, _, hok⟩ := h.open_
  have HK : Hid (Kept Nob w (w.alloc (.cells (inpCells B d y).toArray 96))) := hidden (Kept.alloc (Kept.refl _ _) _)
  have HC0 : Hid (∀ j u, (refCells y.tx y.at_)[j]? = some u → (w.alloc (.cells (inpCells B d y).toArray 96)).cell? ((⟨w.heap.size, 0, none⟩ : Addr).add j) = some u) := hidden (fun j u hj => row_cells (heap_alloc_new _ _) j u (inp_ref j u hj))
  have HC1 : Hid (∀ j u, (refCells x.tx x.at_)[j]? = some u → (w.alloc (.cells (inpCells B d y).toArray 96)).cell? ((⟨g, 0, none⟩ : Addr).add j) = some u) := hidden (fun j u hj => row_cells (blk_alloc hg _) j u (inp_ref j u hj))
  have HL0 := hidden hok.hl
  have HL1 := hidden hx.hl
  have eqr := eqlRef y.tx x.tx y.at_ x.at_ hok.hl hx.hl
  have HV : Hid (refB y x = ((y.tx == x.tx) && (y.at_ == x.at_))) := hidden rfl
  rw [HV.out]
  generalize ((y.tx == x.tx) && (y.at_ == x.at_)) = b at *
  clear h hx hg hok
  go_enter Try.func114, Try.ntmps114
  go_wp2_with (first
    | ((with_reducible refine load_lit aggRef (.tmp 4) ⟨w.heap.size, 0, none⟩ (refCells y.tx y.at_) ?_ ?_ ?_ ?_ ?_); rfl; rfl; exact ref_len HL0.out; exact HC0.out)
    | ((with_reducible refine load_lit aggRef (.tmp 6) ⟨g, 0, none⟩ (refCells x.tx x.at_) ?_ ?_ ?_ ?_ ?_); rfl; rfl; exact ref_len HL1.out; exact HC1.out))
  go_ret
  exact ⟨rfl, HK.out⟩
end Go.Proofs.Ytcghjnegaiiieaa
namespace Go.Proofs.Ytcghjnegaiiieaa
open Go.RowKit
theorem any_take_succ {α : Type} (p : α → Bool) (xs : List α) (i : Nat) (hi : i < xs.length) : (xs.take (i + 1)).any p = ((xs.take i).any p || p xs[i]) := by
  rw [List.take_succ_eq_append_getElem hi, List.any_append]; simp
theorem any_of {α : Type} (p : α → Bool) (xs : List α) (i : Nat) (hi : i < xs.length) (h : p xs[i] = true) : xs.any p = true := List.any_eq_true.2 ⟨xs[i], List.getElem_mem hi, h⟩
set_option maxRecDepth 100000 in
set_option maxHeartbeats 8000000 in
theorem index_ins (A : Option Addr) (c : Nat) (xs : List Inp) (x : Inp) (B : Option Addr) (d g : Nat) (F : Nat → Prop) (w : World) (h : Els RInp 35 w F A c xs) (hx : InpOk x) (hg : w.heap[g]? = some (.cells (inpCells B d x).toArray 96 (0, 0))) :
    Calls Try.prog 137 #[.slice A xs.length c, .func (.func 114) #[] #[.pointer (some ⟨g, 0, none⟩)]] w (IxPost (xs.any fun y => refB y x) w) := by
  have H := hidden h
  have HX := hidden hx
  have HG := hidden hg
  have hmax := h.max
  have hle := h.le
  unfold maxLen at hmax
  clear h hx hg
  go_enter Try.func137, Try.ntmps137
  go_wp2
  go_loopw [5, 8] (fun _ i wr => ∃ k : Nat, k ≤ xs.length ∧ i = .int .i64 k ∧ ((xs.take k).any fun y => refB y x) = false ∧ Kept Nob w wr) (fun _ i _ => xs.length - (intOf i).toNat)
  case atStart => exact ⟨0, Nat.zero_le _, rfl, rfl, Kept.refl _ _⟩
  case round =>
    obtain ⟨k, hk, rfl, hall, hkp⟩ := hrel
    have HALL := hidden hall
    have HKP := hidden hkp
    clear hall hkp
    by_cases hlt : k < xs.length
    · obtain ⟨ad, es, rfl, _, hl, hc, hr⟩ := (H.out.keep RInp.good HKP.out (fun _ _ h => h)).cells k hlt
      have HL := hidden hl
      have HC := hidden hc
      have HR := hidden (right1_any x xs[k] es B d g F wr hr HX.out (HKP.out.blk HG.out (fun h => h)))
      have HNO := hidden (any_of (fun y => refB y x) xs k hlt)
      have HSN := hidden (any_take_succ (fun y => refB y x) xs k hlt)
      clear hl hc hr
      generalize refB xs[k] x = b at HR HNO HSN
      cases b with
      | true =>
        go_wp2_with (first
          | (refine load_at aggInp (.tmp 14) rfl rfl _ rfl es HL.out HC.out ?_)
          | (go_at_call 114; refine HR.out.mono ?_; rintro e w1 ⟨rfl, hk1⟩; have HK1 := hidden hk1; clear hk1))
        go_ret
        exact ⟨k, rfl, by rw [HNO.out (by simp)]; simp, HKP.out.trans HK1.out⟩
      | false =>
        go_wp2_with (first
          | (refine load_at aggInp (.tmp 14) rfl rfl _ rfl es HL.out HC.out ?_)
          | (go_at_call 114; refine HR.out.mono ?_; rintro e w1 ⟨rfl, hk1⟩; have HK1 := hidden hk1; clear hk1))
        go_roundw
        case rel => exact ⟨k + 1, by omega, by go_num, by rw [HSN.out, HALL.out]; rfl, HKP.out.trans HK1.out⟩
        case measure => simp [intOf]; omega
    · obtain rfl : k = xs.length := by omega
      go_wp2
      go_ret
      refine ⟨-1, rfl, ?_, HKP.out⟩
      have := HALL.out
      rw [List.take_length] at this
      rw [this]
      rfl
set_option maxRecDepth 100000 in
set_option maxHeartbeats 8000000 in
theorem contains_ins (A : Option Addr) (c : Nat) (xs : List Inp) (x : Inp) (B : Option Addr) (d g : Nat) (F : Nat → Prop) (w : World) (h : Els RInp 35 w F A c xs) (hx : InpOk x) (hg : w.heap[g]? = some (.cells (inpCells B d x).toArray 96 (0, 0))) :
    Calls Try.prog 113 #[.slice A xs.length c, .func (.func 114) #[] #[.pointer (some ⟨g, 0, none⟩)]] w fun e w' => e = .returned (.bool (xs.any fun y => refB y x)) ∧ Kept Nob w w' := by
  have HI := hidden (index_ins A c xs x B d g F w h hx hg)
  generalize (xs.any fun y => refB y x) = b at *
  clear h hx hg
  go_enter Try.func113, Try.ntmps113
  go_wp2_with (go_at_call 137; refine HI.out.mono ?_; rintro e w1 ⟨r, rfl, hr, hk1⟩; have HK1 := hidden hk1; have HRR := hidden hr; clear hk1 hr)
  go_ret
  exact ⟨ret_bool HRR.out, HK1.out⟩
set_option maxRecDepth 100000 in
set_option maxHeartbeats 8000000 in
theorem right2_any (o : Out) (cs : List Value) (F : Nat → Prop) (w : World) (h : ROut w F cs o) :
    Calls Try.prog 116 #[.agg cs.toArray] w fun e w' => e = .returned (.bool (!outB o)) ∧ Kept Nob w w' := by
  obtain ⟨A, c, rfl, hw, _⟩ := h.open_
  have HR := hidden (rightOut_any o A c F _ (hw.keep (Kept.alloc (Kept.refl Nob w) (.cells #[.int .i64 o.amount, .slice A o.ways.length c] 38)) (fun _ _ h => h)))
  have HK : Hid (Kept Nob w (w.alloc (.cells #[.int .i64 o.amount, .slice A o.ways.length c] 38))) := hidden (Kept.alloc (Kept.refl _ _) _)
  generalize outB o = b at *
  clear h hw
  show Calls Try.prog 116 #[.agg #[.int .i64 o.amount, .slice A o.ways.length c]] w _
  go_enter Try.func116, Try.ntmps116
  go_wp2_with (go_at_call 32; refine HR.out.mono ?_; rintro e w1 ⟨rfl, hk1⟩; have HK1 := hidden hk1; clear hk1)
  go_ret
  exact ⟨rfl, HK.out.trans HK1.out⟩
set_option maxRecDepth 100000 in
set_option maxHeartbeats 8000000 in
theorem index_outs (A : Option Addr) (c : Nat) (xs : List Out) (F : Nat → Prop) (w : World) (h : Els ROut 2 w F A c xs) :
    Calls Try.prog 138 #[.slice A xs.length c, .func (.func 116) #[] #[]] w (IxPost (xs.any fun o => !outB o) w) := by
  have H := hidden h
  have hmax := h.max
  have hle := h.le
  unfold maxLen at hmax
  clear h
  go_enter Try.func138, Try.ntmps138
  go_wp2
  go_loopw [5, 8] (fun _ i wr => ∃ k : Nat, k ≤ xs.length ∧ i = .int .i64 k ∧ ((xs.take k).any fun o => !outB o) = false ∧ Kept Nob w wr) (fun _ i _ => xs.length - (intOf i).toNat)
  case atStart => exact ⟨0, Nat.zero_le _, rfl, rfl, Kept.refl _ _⟩
  case round =>
    obtain ⟨k, hk, rfl, hall, hkp⟩ := hrel
    have HALL := hidden hall
    have HKP := hidden hkp
    clear hall hkp
    by_cases hlt : k < xs.length
    · obtain ⟨ad, es, rfl, _, hl, hc, hr⟩ := (H.out.keep ROut.good HKP.out (fun _ _ h => h)).cells k hlt
      have HL := hidden hl
      have HC := hidden hc
      have HR := hidden (right2_any xs[k] es F wr hr)
      have HNO := hidden (any_of (fun o => !outB o) xs k hlt)
      have HSN := hidden (any_take_succ (fun o => !outB o) xs k hlt)
      clear hl hc hr
      generalize (!outB xs[k]) = b at HR HNO HSN
      cases b with
      | true =>
        go_wp2_with (first
          | (refine load_at aggOut (.tmp 14) rfl rfl _ rfl es HL.out HC.out ?_)
          | (go_at_call 116; refine HR.out.mono ?_; rintro e w1 ⟨rfl, hk1⟩; have HK1 := hidden hk1; clear hk1))
        go_ret
        exact ⟨k, rfl, by rw [HNO.out (by simp)]; simp, HKP.out.trans HK1.out⟩
      | false =>
        go_wp2_with (first
          | (refine load_at aggOut (.tmp 14) rfl rfl _ rfl es HL.out HC.out ?_)
          | (go_at_call 116; refine HR.out.mono ?_; rintro e w1 ⟨rfl, hk1⟩; have HK1 := hidden hk1; clear hk1))
        go_roundw
        case rel => exact ⟨k + 1, by omega, by go_num, by rw [HSN.out, HALL.out]; rfl, HKP.out.trans HK1.out⟩
        case measure => simp [intOf]; omega
    · obtain rfl : k = xs.length := by omega
      go_wp2
      go_ret
      refine ⟨-1, rfl, ?_, HKP.out⟩
      have := HALL.out
      rw [List.take_length] at this
      rw [this]
      rfl
set_option maxRecDepth 100000 in
set_option maxHeartbeats 8000000 in
theorem contains_outs (A : Option Addr) (c : Nat) (xs : List Out) (F : Nat → Prop) (w : World) (h : Els ROut 2 w F A c xs) :
    Calls Try.prog 115 #[.slice A xs.length c, .func (.func 116) #[] #[]] w fun e w' => e = .returned (.bool (!xs.all outB)) ∧ Kept Nob w w' := by
  have HI := hidden (index_outs A c xs F w h)
  have hv : (xs.any fun o => !outB o) = !xs.all outB := by rw [List.not_all_eq_any_not]
  rw [hv] at HI
  generalize (!xs.all outB) = b at *
  clear h hv
  go_enter Try.func115, Try.ntmps115
  go_wp2_with (go_at_call 138; refine HI.out.mono ?_; rintro e w1 ⟨r, rfl, hr, hk1⟩; have HK1 := hidden hk1; have HRR := hidden hr; clear hk1 hr)
  go_ret
  exact ⟨ret_bool HRR.out, HK1.out⟩
end Go.Proofs.Ytcghjnegaiiieaa
namespace Go.Proofs.Ytcghjnegaiiieaa
set_option linter.unusedSimpArgs false
open Go.RowKit
structure TxBlk (y : World) (g : Nat) (p : TxP) (t : Txx) : Prop where
  c0 : y.cell? ⟨g, 0, none⟩ = some (.slice p.iA t.ins.length p.ic)
  c1 : y.cell? ⟨g, 1, none⟩ = some (.slice p.oA t.outs.length p.oc)
  c2 : y.cell? ⟨g, 2, none⟩ = some (.int .i64 t.op.kind)
  c38 : y.cell? ⟨g, 38, none⟩ = some (.slice p.dA t.op.data.length p.dc)
  c39 : y.cell? ⟨g, 39, none⟩ = some (.slice p.sA t.sgns.length p.sc)
  op : ∀ j u, (opxCells p.dA p.dc t.op)[j]? = some u → y.cell? ((⟨g, 2, none⟩ : Addr).add j) = some u
theorem TxBlk.of {y : World} {g : Nat} {p : TxP} {t : Txx} {ty : TypeId} {fr : Nat × Nat} (h : OpxOk t.op) (hb : y.heap[g]? = some (.cells (txCells p t).toArray ty fr)) : TxBlk y g p t := by
  obtain ⟨h0, h1, h2, h38, h39⟩ := tx_at (p := p) h
  refine ⟨(blk_cell hb 0).trans (by simpa using h0), (blk_cell hb 1).trans (by simpa using h1), (blk_cell hb 2).trans (by simpa using h2), (blk_cell hb 38).trans (by simpa using h38), (blk_cell hb 39).trans (by simpa using h39), fun j u hj => ?_⟩
  have ea : (⟨g, 2, none⟩ : Addr).add j = ⟨g, 2 + j, none⟩ := by unfold Addr.add; split <;> simp_all
  rw [ea, blk_cell hb]
  simpa using tx_op (p := p) h j u hj
set_option maxRecDepth 100000 in
set_option maxHeartbeats 8000000 in
theorem txRight_any (t : Txx) (p : TxP) (F : Nat → Prop) (w : World) (h : TxAt w F p t) :
    Calls Try.prog 69 #[.agg (txCells p t).toArray] w fun e w' => e = .returned (.bool (txB t)) ∧ Kept Nob w w' := by
  obtain ⟨W, hW⟩ : ∃ W, w.alloc (.cells (txCells p t).toArray 90) = W := ⟨_, rfl⟩
  have hK : Kept Nob w W := by rw [← hW]; exact (by repeat (first | exact Kept.refl _ _ | apply Kept.alloc | apply Kept.drewN | apply Kept.drew))
  have hb : W.heap[w.heap.size]? = some (.cells (txCells p t).toArray 90 (0, 0)) := by rw [← hW]; exact heap_alloc_new _ _
  have HT := hidden (h.keep hK (fun _ _ h => h))
  have HK := hidden hK
  have HBX : Hid (∀ y, Kept Nob W y → TxBlk y w.heap.size p t) := hidden (fun y hy => TxBlk.of h.op (hy.blk hb (fun h => h)))
  obtain ⟨i0, i1, i2, i38, i39, iop⟩ := HBX.out W (Kept.refl _ _)
  have HIOP := hidden iop
  have HROP := hidden (rightOp_any t.op (opxCells p.dA p.dc t.op) F W (ROpx.mk' HT.out.data h.op))
  have HOL := hidden (opx_len (A := p.dA) (c := p.dc) h.op)
  have m1 := h.ins.le
  have m2 := h.ins.max
  have m3 := h.outs.le
  have m4 := h.outs.max
  have m5 := h.sgns.le
  have m6 := h.sgns.max
  unfold maxLen at m2 m4 m6
  have HV : Hid (txB t = (((decide (t.ins.length ≤ 16) && decide (t.outs.length ≤ 16) && decide (t.sgns.length ≤ 16) && opxB t.op && !(decide (t.ins.length = 0) && decide (t.op.kind = 0))) && insUpto t.ins t.ins.length && sgnsUpto t.sgns t.sgns.length) && t.outs.all outB)) := hidden rfl
  clear h hK hb iop
  generalize txB t = v at *
  generalize hob : opxB t.op = ob at *
  clear hob
  obtain ⟨ins, outs, op, sgns⟩ := t
  obtain ⟨iA, ic, oA, oc, dA, dc, sA, sc⟩ := p
  dsimp only at *
  have HAT := HT
  generalize (txCells ⟨iA, ic, oA, oc, dA, dc, sA, sc⟩ ⟨ins, outs, op, sgns⟩).toArray = CS at *
  by_cases hl : ins.length ≤ 16 ∧ outs.length ≤ 16 ∧ sgns.length ≤ 16
  · obtain ⟨l1, l2, l3⟩ := hl
    have x1 : ¬ (16 < (ins.length : Int)) := by omega
    have x2 : ¬ (16 < (outs.length : Int)) := by omega
    have x3 : ¬ (16 < (sgns.length : Int)) := by omega
    have HL3 : Hid (ins.length ≤ 16 ∧ outs.length ≤ 16 ∧ sgns.length ≤ 16) := hidden ⟨l1, l2, l3⟩
    cases ob with
    | false =>
      go_enter Try.func69, Try.ntmps69
      go_wp2_with (first
        | ((with_reducible refine load_lit aggOpx (.tmp 24) ⟨w.heap.size, 2, none⟩ (opxCells dA dc op) ?_ ?_ ?_ ?_ ?_); rfl; rfl; exact HOL.out; exact HIOP.out)
        | (go_at_call 111; (with_reducible refine HROP.out.mono ?_); rintro e w1 ⟨rfl, hk1⟩; have HK1 := hidden hk1; clear hk1; dsimp only))
      go_ret
      exact ⟨ret_bool (by rw [HV.out]; simp), HK.out.trans HK1.out⟩
    | true =>
      go_enter Try.func69, Try.ntmps69
      go_wp2_with (first
        | ((with_reducible refine load_lit aggOpx (.tmp 24) ⟨w.heap.size, 2, none⟩ (opxCells dA dc op) ?_ ?_ ?_ ?_ ?_); rfl; rfl; exact HOL.out; exact HIOP.out)
        | (go_at_call 111; (with_reducible refine HROP.out.mono ?_); rintro e w1 ⟨rfl, hk1⟩; obtain ⟨i0, i1, i2, i38, i39, _⟩ := HBX.out w1 hk1; have HK1 := hidden hk1; clear hk1; dsimp only))
      all_goals first
        | (go_ret; exact ⟨ret_bool (by
            have hk0 := ‹(op.kind == 0) = true›
            simp only [beq_iff_eq] at hk0
            rw [HV.out, ‹ins = []›]; simp [hk0]), HK.out.trans HK1.out⟩)
        | skip
      · have hk0 := ‹(op.kind == 0) = false›
        simp only [beq_eq_false_iff_ne, ne_eq] at hk0
        have hin := ‹ins = []›
        have HV2 : Hid (v = ((insUpto ins ins.length && sgnsUpto sgns sgns.length) && outs.all outB)) := hidden (by
          have hh : (!(decide (ins.length = 0) && decide (op.kind = 0))) = true := by
            simp [hk0]
          rw [HV.out, hh]
          simp [l1, l2, l3])
        have HALI : Hid (insUpto ins ins.length = true) := hidden (by rw [hin]; rfl)
        go_loopw [3, 4, 44] (fun _ _ t44 wr => t44 = .int .i64 0 ∧ wr = w1) (fun _ _ _ _ => 0)
        case atStart => exact ⟨rfl, rfl⟩
        case round =>
          obtain ⟨rfl, rfl⟩ := hrel
          have HKO := HK1
          obtain ⟨wo, rfl⟩ : ∃ wo : World, wo = wr := ⟨_, rfl⟩
          go_wp2
          go_loopw [5, 6, 64] (fun _ _ t64 wr => ∃ k : Nat, k ≤ sgns.length ∧ t64 = .int .i64 k ∧ sgnsUpto sgns k = true ∧ Kept Nob W wr) (fun _ _ t64 _ => sgns.length - (intOf t64).toNat)
          case atStart => exact ⟨0, Nat.zero_le _, rfl, rfl, HKO.out⟩
          case round =>
            obtain ⟨k, hk, rfl, hall, hkp⟩ := hrel
            have HALS := hidden hall
            have HKS := hidden hkp
            clear hall
            obtain ⟨i0, i1, i2, i38, i39, _⟩ := HBX.out wr hkp
            by_cases hlt : k < sgns.length
            · obtain ⟨ad, es, hA, _, hl, hc, hr⟩ := (HT.out.sgns.keep RSgn.good hkp (fun _ _ h => h)).cells k hlt
              obtain ⟨hes, hok⟩ := hr.open_
              subst hes
              have HPV : Hid (∀ m, k = m + 1 → ∀ y, Kept Nob wr y → y.cell? (ad.add (m * 33)) = some (.int .i64 (sgns.getD m default).key)) := hidden (fun m hm y hy => by
                obtain ⟨ad', es', hA', _, _, hc', hr'⟩ := (HT.out.sgns.keep RSgn.good hkp (fun _ _ h => h)).cells m (by show m < sgns.length; omega)
                rw [hA] at hA'
                obtain rfl := Option.some.inj hA'
                obtain ⟨hes', _⟩ := hr'.open_
                subst hes'
                have hml : m < sgns.length := by omega
                rw [show sgns.getD m default = sgns[m]'hml from by simp [List.getD_eq_getElem?_getD, hml]]
                exact hy.at (hc' 0 _ rfl) (fun h => h))
              have HNOS := hidden (sgnsUpto_no sgns sgns.length k hlt)
              have HSNS := hidden (sgnsUpto_succ sgns k)
              have hgd : sgns.getD k default = sgns[k] := by simp [List.getD_eq_getElem?_getD, hlt]
              have HSAS : Hid (sgnAtB sgns k = (decide (0 ≤ sgns[k].key) && decide (sgns[k].key ≤ 255) && (decide (k = 0) || decide ((sgns.getD (k - 1) default).key < sgns[k].key)))) := hidden (by unfold sgnAtB; rw [hgd])
              clear hgd
              subst hA
              generalize sgns[k] = x at *
              have HCS := hidden hc
              have HOKS := hidden hok
              clear hl hc hr hok hkp
              by_cases hk0 : k = 0
              · subst hk0
                have HCS0 : Hid (∀ j u, (sgnCells x)[j]? = some u → wr.cell? (ad.add j) = some u) := hidden (fun j u hj => by have h := HCS.out j u hj; rwa [Nat.zero_mul, show (ad.add 0) = ad from rfl] at h)
                go_wp2_with (first
                  | ((with_reducible refine load_lit aggSgn (.tmp 67) ad (sgnCells x) ?_ ?_ ?_ ?_ ?_); rfl; rfl; exact sgn_len HOKS.out; exact HCS0.out)
                  | ((with_reducible refine store_litT aggSgn (.tmp 6) (.tmp 68) wr.heap.size (sgnCells x) 177 ?_ ?_ ?_ ?_ ?_ ?_ ?_); rfl; rfl; rfl; exact sgn_len HOKS.out; exact RSgn.good.one (RSgn.mk' (w := wr) (F := F) HOKS.out); exact ⟨_, heap_alloc_new _ _, rfl⟩; intro wb hwb hkb; have hkb' : Kept Nob wr wb := Kept.then (Kept.alloc (Kept.refl _ _) _) hkb (fun b hb h => by omega); have c60 : wb.cell? ⟨wr.heap.size, 0, none⟩ = some (.int .i64 x.key) := (blk_cell hwb 0).trans rfl; have HKB := hidden (HKS.out.trans hkb'); obtain ⟨i0, i1, i2, i38, i39, _⟩ := HBX.out wb (HKS.out.trans hkb'); clear hwb hkb hkb'))
                refine region_plan (.seg [0] (.seg [1] (.seg [2] (.seg [3] (.seg [4] (.seg [5] (.seg [6] (.seg [7] (.seg [8] (.seg [9] (.seg [10] (.seg [11] (.seg [12] (.seg [13] (.seg [14] (.seg [15] (.seg [16] (.seg [17] (.seg [18] (.seg [19] (.seg [20] (.seg [21] (.seg [22] (.seg [23] .nil)))))))))))))))))))))))) (by kernel_rfl) ?_
                all_goals (refine plan_one (o := ?_) ?_ ?_ ?_; rotate_left; (simp only [List.getElem?_toArray, List.getElem?_cons_zero]; exact rfl); rfl; intro NX; (repeat' (first | go_step | go_upon)); all_goals (refine seg_end (by kernel_rfl) ?_; clear NX))
                all_goals (refine plan_one (o := ?_) ?_ ?_ ?_; rotate_left; (simp only [List.getElem?_toArray, List.getElem?_cons_succ, List.getElem?_cons_zero]; exact rfl); rfl; intro NX; (repeat' (first | go_step | go_upon)); all_goals (refine seg_end (by kernel_rfl) ?_; clear NX))
                all_goals (refine plan_one (o := ?_) ?_ ?_ ?_; rotate_left; (simp only [List.getElem?_toArray, List.getElem?_cons_succ, List.getElem?_cons_zero]; exact rfl); rfl; intro NX; (repeat' (first | go_step | go_upon)); all_goals (refine seg_end (by kernel_rfl) ?_; clear NX))
                all_goals (refine plan_one (o := ?_) ?_ ?_ ?_; rotate_left; (simp only [List.getElem?_toArray, List.getElem?_cons_succ, List.getElem?_cons_zero]; exact rfl); rfl; intro NX; (repeat' (first | go_step | go_upon)); all_goals (refine seg_end (by kernel_rfl) ?_; clear NX))
                all_goals (first | (refine plan_over (j := 3) (want := false) (d := 72) (o := ?_) (a' := ?_) ?_ ?_ ?_ ?_ ?_ ?_; rotate_left; rotate_left; (simp only [List.getElem?_toArray, List.getElem?_cons_succ, List.getElem?_cons_zero]; exact rfl); rfl; rfl; exact rfl; (simp only [Act.put, List.setIfInBounds_toArray, List.set_cons_zero, List.set_cons_succ]; exact rfl); refine seg_end (by kernel_rfl) ?_) | (refine plan_guard (j := 3) (want := false) (d := 72) (o := ?_) (b := ?_) (a' := ?_) ?_ ?_ ?_ ?_ ?_ ?_ ?_; rotate_left; rotate_left; rotate_left; (simp only [List.getElem?_toArray, List.getElem?_cons_succ, List.getElem?_cons_zero]; exact rfl); rfl; rfl; exact rfl; rotate_left; (simp only [Act.put, List.setIfInBounds_toArray, List.set_cons_zero, List.set_cons_succ]; exact rfl); all_goals (first | (intro h; (try simp only [dB, reduceCtorEq] at h) <;> (try go_prune) <;> (intro NX; (repeat' (first | go_step | go_upon)); all_goals (refine seg_end (by kernel_rfl) ?_; clear NX))) | (intro h; (try simp only [dB, reduceCtorEq] at h) <;> (try go_prune) <;> (refine seg_end (by kernel_rfl) ?_)))))
                all_goals (first | (refine plan_over (j := 3) (want := false) (d := 72) (o := ?_) (a' := ?_) ?_ ?_ ?_ ?_ ?_ ?_; rotate_left; rotate_left; (simp only [List.getElem?_toArray, List.getElem?_cons_succ, List.getElem?_cons_zero]; exact rfl); rfl; rfl; exact rfl; (simp only [Act.put, List.setIfInBounds_toArray, List.set_cons_zero, List.set_cons_succ]; exact rfl); refine seg_end (by kernel_rfl) ?_) | (refine plan_guard (j := 3) (want := false) (d := 72) (o := ?_) (b := ?_) (a' := ?_) ?_ ?_ ?_ ?_ ?_ ?_ ?_; rotate_left; rotate_left; rotate_left; (simp only [List.getElem?_toArray, List.getElem?_cons_succ, List.getElem?_cons_zero]; exact rfl); rfl; rfl; exact rfl; rotate_left; (simp only [Act.put, List.setIfInBounds_toArray, List.set_cons_zero, List.set_cons_succ]; exact rfl); all_goals (first | (intro h; (try simp only [dB, reduceCtorEq] at h) <;> (try go_prune) <;> (intro NX; (repeat' (first | go_step | go_upon)); all_goals (refine seg_end (by kernel_rfl) ?_; clear NX))) | (intro h; (try simp only [dB, reduceCtorEq] at h) <;> (try go_prune) <;> (refine seg_end (by kernel_rfl) ?_)))))
                all_goals (first | (refine plan_over (j := 3) (want := false) (d := 72) (o := ?_) (a' := ?_) ?_ ?_ ?_ ?_ ?_ ?_; rotate_left; rotate_left; (simp only [List.getElem?_toArray, List.getElem?_cons_succ, List.getElem?_cons_zero]; exact rfl); rfl; rfl; exact rfl; (simp only [Act.put, List.setIfInBounds_toArray, List.set_cons_zero, List.set_cons_succ]; exact rfl); refine seg_end (by kernel_rfl) ?_) | (refine plan_guard (j := 3) (want := false) (d := 72) (o := ?_) (b := ?_) (a' := ?_) ?_ ?_ ?_ ?_ ?_ ?_ ?_; rotate_left; rotate_left; rotate_left; (simp only [List.getElem?_toArray, List.getElem?_cons_succ, List.getElem?_cons_zero]; exact rfl); rfl; rfl; exact rfl; rotate_left; (simp only [Act.put, List.setIfInBounds_toArray, List.set_cons_zero, List.set_cons_succ]; exact rfl); all_goals (first | (intro h; (try simp only [dB, reduceCtorEq] at h) <;> (try go_prune) <;> (intro NX; (repeat' (first | go_step | go_upon)); all_goals (refine seg_end (by kernel_rfl) ?_; clear NX))) | (intro h; (try simp only [dB, reduceCtorEq] at h) <;> (try go_prune) <;> (refine seg_end (by kernel_rfl) ?_)))))
                all_goals (refine plan_one (o := ?_) ?_ ?_ ?_; rotate_left; (simp only [List.getElem?_toArray, List.getElem?_cons_succ, List.getElem?_cons_zero]; exact rfl); rfl; intro NX; (repeat' (first | go_step | go_upon)); all_goals (refine seg_end (by kernel_rfl) ?_; clear NX))
                all_goals (refine plan_one (o := ?_) ?_ ?_ ?_; rotate_left; (simp only [List.getElem?_toArray, List.getElem?_cons_succ, List.getElem?_cons_zero]; exact rfl); rfl; intro NX; (repeat' (first | go_step | go_upon)); all_goals (refine seg_end (by kernel_rfl) ?_; clear NX))
                all_goals (first | (refine plan_over (j := 8) (want := false) (d := 77) (o := ?_) (a' := ?_) ?_ ?_ ?_ ?_ ?_ ?_; rotate_left; rotate_left; (simp only [List.getElem?_toArray, List.getElem?_cons_succ, List.getElem?_cons_zero]; exact rfl); rfl; rfl; exact rfl; (simp only [Act.put, List.setIfInBounds_toArray, List.set_cons_zero, List.set_cons_succ]; exact rfl); refine seg_end (by kernel_rfl) ?_) | (refine plan_guard (j := 8) (want := false) (d := 77) (o := ?_) (b := ?_) (a' := ?_) ?_ ?_ ?_ ?_ ?_ ?_ ?_; rotate_left; rotate_left; rotate_left; (simp only [List.getElem?_toArray, List.getElem?_cons_succ, List.getElem?_cons_zero]; exact rfl); rfl; rfl; exact rfl; rotate_left; (simp only [Act.put, List.setIfInBounds_toArray, List.set_cons_zero, List.set_cons_succ]; exact rfl); all_goals (first | (intro h; (try simp only [dB, reduceCtorEq] at h) <;> (try go_prune) <;> (intro NX; (repeat' (first | go_step | go_upon)); all_goals (refine seg_end (by kernel_rfl) ?_; clear NX))) | (intro h; (try simp only [dB, reduceCtorEq] at h) <;> (try go_prune) <;> (refine seg_end (by kernel_rfl) ?_)))))
                all_goals (first | (refine plan_over (j := 8) (want := false) (d := 77) (o := ?_) (a' := ?_) ?_ ?_ ?_ ?_ ?_ ?_; rotate_left; rotate_left; (simp only [List.getElem?_toArray, List.getElem?_cons_succ, List.getElem?_cons_zero]; exact rfl); rfl; rfl; exact rfl; (simp only [Act.put, List.setIfInBounds_toArray, List.set_cons_zero, List.set_cons_succ]; exact rfl); refine seg_end (by kernel_rfl) ?_) | (refine plan_guard (j := 8) (want := false) (d := 77) (o := ?_) (b := ?_) (a' := ?_) ?_ ?_ ?_ ?_ ?_ ?_ ?_; rotate_left; rotate_left; rotate_left; (simp only [List.getElem?_toArray, List.getElem?_cons_succ, List.getElem?_cons_zero]; exact rfl); rfl; rfl; exact rfl; rotate_left; (simp only [Act.put, List.setIfInBounds_toArray, List.set_cons_zero, List.set_cons_succ]; exact rfl); all_goals (first | (intro h; (try simp only [dB, reduceCtorEq] at h) <;> (try go_prune) <;> (intro NX; (repeat' (first | go_step | go_upon)); all_goals (refine seg_end (by kernel_rfl) ?_; clear NX))) | (intro h; (try simp only [dB, reduceCtorEq] at h) <;> (try go_prune) <;> (refine seg_end (by kernel_rfl) ?_)))))
                all_goals (first | (refine plan_over (j := 8) (want := false) (d := 77) (o := ?_) (a' := ?_) ?_ ?_ ?_ ?_ ?_ ?_; rotate_left; rotate_left; (simp only [List.getElem?_toArray, List.getElem?_cons_succ, List.getElem?_cons_zero]; exact rfl); rfl; rfl; exact rfl; (simp only [Act.put, List.setIfInBounds_toArray, List.set_cons_zero, List.set_cons_succ]; exact rfl); refine seg_end (by kernel_rfl) ?_) | (refine plan_guard (j := 8) (want := false) (d := 77) (o := ?_) (b := ?_) (a' := ?_) ?_ ?_ ?_ ?_ ?_ ?_ ?_; rotate_left; rotate_left; rotate_left; (simp only [List.getElem?_toArray, List.getElem?_cons_succ, List.getElem?_cons_zero]; exact rfl); rfl; rfl; exact rfl; rotate_left; (simp only [Act.put, List.setIfInBounds_toArray, List.set_cons_zero, List.set_cons_succ]; exact rfl); all_goals (first | (intro h; (try simp only [dB, reduceCtorEq] at h) <;> (try go_prune) <;> (intro NX; (repeat' (first | go_step | go_upon)); all_goals (refine seg_end (by kernel_rfl) ?_; clear NX))) | (intro h; (try simp only [dB, reduceCtorEq] at h) <;> (try go_prune) <;> (refine seg_end (by kernel_rfl) ?_)))))
                all_goals (first | (refine plan_over (j := 11) (want := true) (d := 80) (o := ?_) (a' := ?_) ?_ ?_ ?_ ?_ ?_ ?_; rotate_left; rotate_left; (simp only [List.getElem?_toArray, List.getElem?_cons_succ, List.getElem?_cons_zero]; exact rfl); rfl; rfl; exact rfl; (simp only [Act.put, List.setIfInBounds_toArray, List.set_cons_zero, List.set_cons_succ]; exact rfl); refine seg_end (by kernel_rfl) ?_) | (refine plan_guard (j := 11) (want := true) (d := 80) (o := ?_) (b := ?_) (a' := ?_) ?_ ?_ ?_ ?_ ?_ ?_ ?_; rotate_left; rotate_left; rotate_left; (simp only [List.getElem?_toArray, List.getElem?_cons_succ, List.getElem?_cons_zero]; exact rfl); rfl; rfl; exact rfl; rotate_left; (simp only [Act.put, List.setIfInBounds_toArray, List.set_cons_zero, List.set_cons_succ]; exact rfl); all_goals (first | (intro h; (try simp only [dB, reduceCtorEq] at h) <;> (try go_prune) <;> (intro NX; (repeat' (first | go_step | go_upon)); all_goals (refine seg_end (by kernel_rfl) ?_; clear NX))) | (intro h; (try simp only [dB, reduceCtorEq] at h) <;> (try go_prune) <;> (refine seg_end (by kernel_rfl) ?_)))))
                all_goals (first | (refine plan_over (j := 11) (want := true) (d := 80) (o := ?_) (a' := ?_) ?_ ?_ ?_ ?_ ?_ ?_; rotate_left; rotate_left; (simp only [List.getElem?_toArray, List.getElem?_cons_succ, List.getElem?_cons_zero]; exact rfl); rfl; rfl; exact rfl; (simp only [Act.put, List.setIfInBounds_toArray, List.set_cons_zero, List.set_cons_succ]; exact rfl); refine seg_end (by kernel_rfl) ?_) | (refine plan_guard (j := 11) (want := true) (d := 80) (o := ?_) (b := ?_) (a' := ?_) ?_ ?_ ?_ ?_ ?_ ?_ ?_; rotate_left; rotate_left; rotate_left; (simp only [List.getElem?_toArray, List.getElem?_cons_succ, List.getElem?_cons_zero]; exact rfl); rfl; rfl; exact rfl; rotate_left; (simp only [Act.put, List.setIfInBounds_toArray, List.set_cons_zero, List.set_cons_succ]; exact rfl); all_goals (first | (intro h; (try simp only [dB, reduceCtorEq] at h) <;> (try go_prune) <;> (intro NX; (repeat' (first | go_step | go_upon)); all_goals (refine seg_end (by kernel_rfl) ?_; clear NX))) | (intro h; (try simp only [dB, reduceCtorEq] at h) <;> (try go_prune) <;> (refine seg_end (by kernel_rfl) ?_)))))
                all_goals (first | (refine plan_over (j := 11) (want := true) (d := 80) (o := ?_) (a' := ?_) ?_ ?_ ?_ ?_ ?_ ?_; rotate_left; rotate_left; (simp only [List.getElem?_toArray, List.getElem?_cons_succ, List.getElem?_cons_zero]; exact rfl); rfl; rfl; exact rfl; (simp only [Act.put, List.setIfInBounds_toArray, List.set_cons_zero, List.set_cons_succ]; exact rfl); refine seg_end (by kernel_rfl) ?_) | (refine plan_guard (j := 11) (want := true) (d := 80) (o := ?_) (b := ?_) (a' := ?_) ?_ ?_ ?_ ?_ ?_ ?_ ?_; rotate_left; rotate_left; rotate_left; (simp only [List.getElem?_toArray, List.getElem?_cons_succ, List.getElem?_cons_zero]; exact rfl); rfl; rfl; exact rfl; rotate_left; (simp only [Act.put, List.setIfInBounds_toArray, List.set_cons_zero, List.set_cons_succ]; exact rfl); all_goals (first | (intro h; (try simp only [dB, reduceCtorEq] at h) <;> (try go_prune) <;> (intro NX; (repeat' (first | go_step | go_upon)); all_goals (refine seg_end (by kernel_rfl) ?_; clear NX))) | (intro h; (try simp only [dB, reduceCtorEq] at h) <;> (try go_prune) <;> (refine seg_end (by kernel_rfl) ?_)))))
                all_goals (first | (refine plan_over (j := 11) (want := true) (d := 80) (o := ?_) (a' := ?_) ?_ ?_ ?_ ?_ ?_ ?_; rotate_left; rotate_left; (simp only [List.getElem?_toArray, List.getElem?_cons_succ, List.getElem?_cons_zero]; exact rfl); rfl; rfl; exact rfl; (simp only [Act.put, List.setIfInBounds_toArray, List.set_cons_zero, List.set_cons_succ]; exact rfl); refine seg_end (by kernel_rfl) ?_) | (refine plan_guard (j := 11) (want := true) (d := 80) (o := ?_) (b := ?_) (a' := ?_) ?_ ?_ ?_ ?_ ?_ ?_ ?_; rotate_left; rotate_left; rotate_left; (simp only [List.getElem?_toArray, List.getElem?_cons_succ, List.getElem?_cons_zero]; exact rfl); rfl; rfl; exact rfl; rotate_left; (simp only [Act.put, List.setIfInBounds_toArray, List.set_cons_zero, List.set_cons_succ]; exact rfl); all_goals (first | (intro h; (try simp only [dB, reduceCtorEq] at h) <;> (try go_prune) <;> (intro NX; (repeat' (first | go_step | go_upon)); all_goals (refine seg_end (by kernel_rfl) ?_; clear NX))) | (intro h; (try simp only [dB, reduceCtorEq] at h) <;> (try go_prune) <;> (refine seg_end (by kernel_rfl) ?_)))))
                all_goals (first | (refine plan_over (j := 11) (want := true) (d := 80) (o := ?_) (a' := ?_) ?_ ?_ ?_ ?_ ?_ ?_; rotate_left; rotate_left; (simp only [List.getElem?_toArray, List.getElem?_cons_succ, List.getElem?_cons_zero]; exact rfl); rfl; rfl; exact rfl; (simp only [Act.put, List.setIfInBounds_toArray, List.set_cons_zero, List.set_cons_succ]; exact rfl); refine seg_end (by kernel_rfl) ?_) | (refine plan_guard (j := 11) (want := true) (d := 80) (o := ?_) (b := ?_) (a' := ?_) ?_ ?_ ?_ ?_ ?_ ?_ ?_; rotate_left; rotate_left; rotate_left; (simp only [List.getElem?_toArray, List.getElem?_cons_succ, List.getElem?_cons_zero]; exact rfl); rfl; rfl; exact rfl; rotate_left; (simp only [Act.put, List.setIfInBounds_toArray, List.set_cons_zero, List.set_cons_succ]; exact rfl); all_goals (first | (intro h; (try simp only [dB, reduceCtorEq] at h) <;> (try go_prune) <;> (intro NX; (repeat' (first | go_step | go_upon)); all_goals (refine seg_end (by kernel_rfl) ?_; clear NX))) | (intro h; (try simp only [dB, reduceCtorEq] at h) <;> (try go_prune) <;> (refine seg_end (by kernel_rfl) ?_)))))
                all_goals (first | (refine plan_over (j := 11) (want := true) (d := 80) (o := ?_) (a' := ?_) ?_ ?_ ?_ ?_ ?_ ?_; rotate_left; rotate_left; (simp only [List.getElem?_toArray, List.getElem?_cons_succ, List.getElem?_cons_zero]; exact rfl); rfl; rfl; exact rfl; (simp only [Act.put, List.setIfInBounds_toArray, List.set_cons_zero, List.set_cons_succ]; exact rfl); refine seg_end (by kernel_rfl) ?_) | (refine plan_guard (j := 11) (want := true) (d := 80) (o := ?_) (b := ?_) (a' := ?_) ?_ ?_ ?_ ?_ ?_ ?_ ?_; rotate_left; rotate_left; rotate_left; (simp only [List.getElem?_toArray, List.getElem?_cons_succ, List.getElem?_cons_zero]; exact rfl); rfl; rfl; exact rfl; rotate_left; (simp only [Act.put, List.setIfInBounds_toArray, List.set_cons_zero, List.set_cons_succ]; exact rfl); all_goals (first | (intro h; (try simp only [dB, reduceCtorEq] at h) <;> (try go_prune) <;> (intro NX; (repeat' (first | go_step | go_upon)); all_goals (refine seg_end (by kernel_rfl) ?_; clear NX))) | (intro h; (try simp only [dB, reduceCtorEq] at h) <;> (try go_prune) <;> (refine seg_end (by kernel_rfl) ?_)))))
                all_goals (first | (refine plan_over (j := 11) (want := true) (d := 80) (o := ?_) (a' := ?_) ?_ ?_ ?_ ?_ ?_ ?_; rotate_left; rotate_left; (simp only [List.getElem?_toArray, List.getElem?_cons_succ, List.getElem?_cons_zero]; exact rfl); rfl; rfl; exact rfl; (simp only [Act.put, List.setIfInBounds_toArray, List.set_cons_zero, List.set_cons_succ]; exact rfl); refine seg_end (by kernel_rfl) ?_) | (refine plan_guard (j := 11) (want := true) (d := 80) (o := ?_) (b := ?_) (a' := ?_) ?_ ?_ ?_ ?_ ?_ ?_ ?_; rotate_left; rotate_left; rotate_left; (simp only [List.getElem?_toArray, List.getElem?_cons_succ, List.getElem?_cons_zero]; exact rfl); rfl; rfl; exact rfl; rotate_left; (simp only [Act.put, List.setIfInBounds_toArray, List.set_cons_zero, List.set_cons_succ]; exact rfl); all_goals (first | (intro h; (try simp only [dB, reduceCtorEq] at h) <;> (try go_prune) <;> (intro NX; (repeat' (first | go_step | go_upon)); all_goals (refine seg_end (by kernel_rfl) ?_; clear NX))) | (intro h; (try simp only [dB, reduceCtorEq] at h) <;> (try go_prune) <;> (refine seg_end (by kernel_rfl) ?_)))))
                all_goals (first | (refine plan_over (j := 11) (want := true) (d := 80) (o := ?_) (a' := ?_) ?_ ?_ ?_ ?_ ?_ ?_; rotate_left; rotate_left; (simp only [List.getElem?_toArray, List.getElem?_cons_succ, List.getElem?_cons_zero]; exact rfl); rfl; rfl; exact rfl; (simp only [Act.put, List.setIfInBounds_toArray, List.set_cons_zero, List.set_cons_succ]; exact rfl); refine seg_end (by kernel_rfl) ?_) | (refine plan_guard (j := 11) (want := true) (d := 80) (o := ?_) (b := ?_) (a' := ?_) ?_ ?_ ?_ ?_ ?_ ?_ ?_; rotate_left; rotate_left; rotate_left; (simp only [List.getElem?_toArray, List.getElem?_cons_succ, List.getElem?_cons_zero]; exact rfl); rfl; rfl; exact rfl; rotate_left; (simp only [Act.put, List.setIfInBounds_toArray, List.set_cons_zero, List.set_cons_succ]; exact rfl); all_goals (first | (intro h; (try simp only [dB, reduceCtorEq] at h) <;> (try go_prune) <;> (intro NX; (repeat' (first | go_step | go_upon)); all_goals (refine seg_end (by kernel_rfl) ?_; clear NX))) | (intro h; (try simp only [dB, reduceCtorEq] at h) <;> (try go_prune) <;> (refine seg_end (by kernel_rfl) ?_)))))
                all_goals (first | (refine plan_over (j := 11) (want := true) (d := 80) (o := ?_) (a' := ?_) ?_ ?_ ?_ ?_ ?_ ?_; rotate_left; rotate_left; (simp only [List.getElem?_toArray, List.getElem?_cons_succ, List.getElem?_cons_zero]; exact rfl); rfl; rfl; exact rfl; (simp only [Act.put, List.setIfInBounds_toArray, List.set_cons_zero, List.set_cons_succ]; exact rfl); refine seg_end (by kernel_rfl) ?_) | (refine plan_guard (j := 11) (want := true) (d := 80) (o := ?_) (b := ?_) (a' := ?_) ?_ ?_ ?_ ?_ ?_ ?_ ?_; rotate_left; rotate_left; rotate_left; (simp only [List.getElem?_toArray, List.getElem?_cons_succ, List.getElem?_cons_zero]; exact rfl); rfl; rfl; exact rfl; rotate_left; (simp only [Act.put, List.setIfInBounds_toArray, List.set_cons_zero, List.set_cons_succ]; exact rfl); all_goals (first | (intro h; (try simp only [dB, reduceCtorEq] at h) <;> (try go_prune) <;> (intro NX; (repeat' (first | go_step | go_upon)); all_goals (refine seg_end (by kernel_rfl) ?_; clear NX))) | (intro h; (try simp only [dB, reduceCtorEq] at h) <;> (try go_prune) <;> (refine seg_end (by kernel_rfl) ?_)))))
                all_goals (first | (refine plan_over (j := 11) (want := true) (d := 80) (o := ?_) (a' := ?_) ?_ ?_ ?_ ?_ ?_ ?_; rotate_left; rotate_left; (simp only [List.getElem?_toArray, List.getElem?_cons_succ, List.getElem?_cons_zero]; exact rfl); rfl; rfl; exact rfl; (simp only [Act.put, List.setIfInBounds_toArray, List.set_cons_zero, List.set_cons_succ]; exact rfl); refine seg_end (by kernel_rfl) ?_) | (refine plan_guard (j := 11) (want := true) (d := 80) (o := ?_) (b := ?_) (a' := ?_) ?_ ?_ ?_ ?_ ?_ ?_ ?_; rotate_left; rotate_left; rotate_left; (simp only [List.getElem?_toArray, List.getElem?_cons_succ, List.getElem?_cons_zero]; exact rfl); rfl; rfl; exact rfl; rotate_left; (simp only [Act.put, List.setIfInBounds_toArray, List.set_cons_zero, List.set_cons_succ]; exact rfl); all_goals (first | (intro h; (try simp only [dB, reduceCtorEq] at h) <;> (try go_prune) <;> (intro NX; (repeat' (first | go_step | go_upon)); all_goals (refine seg_end (by kernel_rfl) ?_; clear NX))) | (intro h; (try simp only [dB, reduceCtorEq] at h) <;> (try go_prune) <;> (refine seg_end (by kernel_rfl) ?_)))))
                all_goals (first | (refine plan_over (j := 8) (want := false) (d := 77) (o := ?_) (a' := ?_) ?_ ?_ ?_ ?_ ?_ ?_; rotate_left; rotate_left; (simp only [List.getElem?_toArray, List.getElem?_cons_succ, List.getElem?_cons_zero]; exact rfl); rfl; rfl; exact rfl; (simp only [Act.put, List.setIfInBounds_toArray, List.set_cons_zero, List.set_cons_succ]; exact rfl); refine seg_end (by kernel_rfl) ?_) | (refine plan_guard (j := 8) (want := false) (d := 77) (o := ?_) (b := ?_) (a' := ?_) ?_ ?_ ?_ ?_ ?_ ?_ ?_; rotate_left; rotate_left; rotate_left; (simp only [List.getElem?_toArray, List.getElem?_cons_succ, List.getElem?_cons_zero]; exact rfl); rfl; rfl; exact rfl; rotate_left; (simp only [Act.put, List.setIfInBounds_toArray, List.set_cons_zero, List.set_cons_succ]; exact rfl); all_goals (first | (intro h; (try simp only [dB, reduceCtorEq] at h) <;> (try go_prune) <;> (intro NX; (repeat' (first | go_step | go_upon)); all_goals (refine seg_end (by kernel_rfl) ?_; clear NX))) | (intro h; (try simp only [dB, reduceCtorEq] at h) <;> (try go_prune) <;> (refine seg_end (by kernel_rfl) ?_)))))
                all_goals (refine plan_one (o := ?_) ?_ ?_ ?_; rotate_left; (simp only [List.getElem?_toArray, List.getElem?_cons_succ, List.getElem?_cons_zero]; exact rfl); rfl; intro NX; (repeat' (first | go_step | go_upon)); all_goals (refine seg_end (by kernel_rfl) ?_; clear NX))
                all_goals refine plan_nil ?_
                all_goals go_wp2
                all_goals first
                  | (go_ret; exact ⟨ret_bool (by rw [HV2.out, HALI.out, HNOS.out (by rw [HSAS.out]; simp; omega)]; simp), HK.out.trans (Kept.drew HKB.out)⟩)
                  | (go_roundw
                     case rel => exact ⟨0 + 1, by omega, by go_num, by rw [HSNS.out, HALS.out, HSAS.out]; simp; omega, Kept.drew HKB.out⟩
                     case measure => simp [intOf]; omega)
              · obtain ⟨m, hm⟩ : ∃ m, k = m + 1 := ⟨k - 1, by omega⟩
                have y1 : decide (0 < k) = true := by simp; omega
                have y2 : 0 < k := by omega
                have y4 : 0 < (k : Int) := by omega
                have y3 : m < sgns.length := by omega
                have e1 : IntKind.i64.wrap ((k : Int) - 1) = (m : Int) := by rw [IntWalk.i64_in _ (by omega)]; omega
                have hkm : k - 1 = m := by omega
                rw [hkm] at HSAS
                have HPM := hidden (HPV.out m hm)
                generalize (sgns.getD m default).key = z at HPM HSAS
                clear hm hkm
                go_wp2_with (first
                  | ((with_reducible refine load_lit aggSgn (.tmp 67) (ad.add (k * 33)) (sgnCells x) ?_ ?_ ?_ ?_ ?_); rfl; rfl; exact sgn_len HOKS.out; exact HCS.out)
                  | ((with_reducible refine store_litT aggSgn (.tmp 6) (.tmp 68) wr.heap.size (sgnCells x) 177 ?_ ?_ ?_ ?_ ?_ ?_ ?_); rfl; rfl; rfl; exact sgn_len HOKS.out; exact RSgn.good.one (RSgn.mk' (w := wr) (F := F) HOKS.out); exact ⟨_, heap_alloc_new _ _, rfl⟩; intro wb hwb hkb; have hkb' : Kept Nob wr wb := Kept.then (Kept.alloc (Kept.refl _ _) _) hkb (fun b hb h => by omega); have c60 : wb.cell? ⟨wr.heap.size, 0, none⟩ = some (.int .i64 x.key) := (blk_cell hwb 0).trans rfl; have HKB := hidden (HKS.out.trans hkb'); obtain ⟨i0, i1, i2, i38, i39, _⟩ := HBX.out wb (HKS.out.trans hkb'); have cpv := HPM.out wb hkb'; clear hwb hkb hkb'))
                refine region_plan (.seg [0] (.seg [1] (.seg [2] (.seg [3] (.seg [4] (.seg [5] (.seg [6] (.seg [7] (.seg [8] (.seg [9] (.seg [10] (.seg [11] (.seg [12] (.seg [13] (.seg [14] (.seg [15] (.seg [16] (.seg [17] (.seg [18] (.seg [19] (.seg [20] (.seg [21] (.seg [22] (.seg [23] .nil)))))))))))))))))))))))) (by kernel_rfl) ?_
                all_goals (refine plan_one (o := ?_) ?_ ?_ ?_; rotate_left; (simp only [List.getElem?_toArray, List.getElem?_cons_zero]; exact rfl); rfl; intro NX; (repeat' (first | go_step | go_upon)); all_goals (refine seg_end (by kernel_rfl) ?_; clear NX))
                all_goals (refine plan_one (o := ?_) ?_ ?_ ?_; rotate_left; (simp only [List.getElem?_toArray, List.getElem?_cons_succ, List.getElem?_cons_zero]; exact rfl); rfl; intro NX; (repeat' (first | go_step | go_upon)); all_goals (refine seg_end (by kernel_rfl) ?_; clear NX))
                all_goals (refine plan_one (o := ?_) ?_ ?_ ?_; rotate_left; (simp only [List.getElem?_toArray, List.getElem?_cons_succ, List.getElem?_cons_zero]; exact rfl); rfl; intro NX; (repeat' (first | go_step | go_upon)); all_goals (refine seg_end (by kernel_rfl) ?_; clear NX))
                all_goals (refine plan_one (o := ?_) ?_ ?_ ?_; rotate_left; (simp only [List.getElem?_toArray, List.getElem?_cons_succ, List.getElem?_cons_zero]; exact rfl); rfl; intro NX; (repeat' (first | go_step | go_upon)); all_goals (refine seg_end (by kernel_rfl) ?_; clear NX))
                all_goals (first | (refine plan_over (j := 3) (want := false) (d := 72) (o := ?_) (a' := ?_) ?_ ?_ ?_ ?_ ?_ ?_; rotate_left; rotate_left; (simp only [List.getElem?_toArray, List.getElem?_cons_succ, List.getElem?_cons_zero]; exact rfl); rfl; rfl; exact rfl; (simp only [Act.put, List.setIfInBounds_toArray, List.set_cons_zero, List.set_cons_succ]; exact rfl); refine seg_end (by kernel_rfl) ?_) | (refine plan_guard (j := 3) (want := false) (d := 72) (o := ?_) (b := ?_) (a' := ?_) ?_ ?_ ?_ ?_ ?_ ?_ ?_; rotate_left; rotate_left; rotate_left; (simp only [List.getElem?_toArray, List.getElem?_cons_succ, List.getElem?_cons_zero]; exact rfl); rfl; rfl; exact rfl; rotate_left; (simp only [Act.put, List.setIfInBounds_toArray, List.set_cons_zero, List.set_cons_succ]; exact rfl); all_goals (first | (intro h; (try simp only [dB, reduceCtorEq] at h) <;> (try go_prune) <;> (intro NX; (repeat' (first | go_step | go_upon)); all_goals (refine seg_end (by kernel_rfl) ?_; clear NX))) | (intro h; (try simp only [dB, reduceCtorEq] at h) <;> (try go_prune) <;> (refine seg_end (by kernel_rfl) ?_)))))
                all_goals (first | (refine plan_over (j := 3) (want := false) (d := 72) (o := ?_) (a' := ?_) ?_ ?_ ?_ ?_ ?_ ?_; rotate_left; rotate_left; (simp only [List.getElem?_toArray, List.getElem?_cons_succ, List.getElem?_cons_zero]; exact rfl); rfl; rfl; exact rfl; (simp only [Act.put, List.setIfInBounds_toArray, List.set_cons_zero, List.set_cons_succ]; exact rfl); refine seg_end (by kernel_rfl) ?_) | (refine plan_guard (j := 3) (want := false) (d := 72) (o := ?_) (b := ?_) (a' := ?_) ?_ ?_ ?_ ?_ ?_ ?_ ?_; rotate_left; rotate_left; rotate_left; (simp only [List.getElem?_toArray, List.getElem?_cons_succ, List.getElem?_cons_zero]; exact rfl); rfl; rfl; exact rfl; rotate_left; (simp only [Act.put, List.setIfInBounds_toArray, List.set_cons_zero, List.set_cons_succ]; exact rfl); all_goals (first | (intro h; (try simp only [dB, reduceCtorEq] at h) <;> (try go_prune) <;> (intro NX; (repeat' (first | go_step | go_upon)); all_goals (refine seg_end (by kernel_rfl) ?_; clear NX))) | (intro h; (try simp only [dB, reduceCtorEq] at h) <;> (try go_prune) <;> (refine seg_end (by kernel_rfl) ?_)))))
                all_goals (first | (refine plan_over (j := 3) (want := false) (d := 72) (o := ?_) (a' := ?_) ?_ ?_ ?_ ?_ ?_ ?_; rotate_left; rotate_left; (simp only [List.getElem?_toArray, List.getElem?_cons_succ, List.getElem?_cons_zero]; exact rfl); rfl; rfl; exact rfl; (simp only [Act.put, List.setIfInBounds_toArray, List.set_cons_zero, List.set_cons_succ]; exact rfl); refine seg_end (by kernel_rfl) ?_) | (refine plan_guard (j := 3) (want := false) (d := 72) (o := ?_) (b := ?_) (a' := ?_) ?_ ?_ ?_ ?_ ?_ ?_ ?_; rotate_left; rotate_left; rotate_left; (simp only [List.getElem?_toArray, List.getElem?_cons_succ, List.getElem?_cons_zero]; exact rfl); rfl; rfl; exact rfl; rotate_left; (simp only [Act.put, List.setIfInBounds_toArray, List.set_cons_zero, List.set_cons_succ]; exact rfl); all_goals (first | (intro h; (try simp only [dB, reduceCtorEq] at h) <;> (try go_prune) <;> (intro NX; (repeat' (first | go_step | go_upon)); all_goals (refine seg_end (by kernel_rfl) ?_; clear NX))) | (intro h; (try simp only [dB, reduceCtorEq] at h) <;> (try go_prune) <;> (refine seg_end (by kernel_rfl) ?_)))))
                all_goals (refine plan_one (o := ?_) ?_ ?_ ?_; rotate_left; (simp only [List.getElem?_toArray, List.getElem?_cons_succ, List.getElem?_cons_zero]; exact rfl); rfl; intro NX; (repeat' (first | go_step | go_upon)); all_goals (refine seg_end (by kernel_rfl) ?_; clear NX))
                all_goals (refine plan_one (o := ?_) ?_ ?_ ?_; rotate_left; (simp only [List.getElem?_toArray, List.getElem?_cons_succ, List.getElem?_cons_zero]; exact rfl); rfl; intro NX; (repeat' (first | go_step | go_upon)); all_goals (refine seg_end (by kernel_rfl) ?_; clear NX))
                all_goals (first | (refine plan_over (j := 8) (want := false) (d := 77) (o := ?_) (a' := ?_) ?_ ?_ ?_ ?_ ?_ ?_; rotate_left; rotate_left; (simp only [List.getElem?_toArray, List.getElem?_cons_succ, List.getElem?_cons_zero]; exact rfl); rfl; rfl; exact rfl; (simp only [Act.put, List.setIfInBounds_toArray, List.set_cons_zero, List.set_cons_succ]; exact rfl); refine seg_end (by kernel_rfl) ?_) | (refine plan_guard (j := 8) (want := false) (d := 77) (o := ?_) (b := ?_) (a' := ?_) ?_ ?_ ?_ ?_ ?_ ?_ ?_; rotate_left; rotate_left; rotate_left; (simp only [List.getElem?_toArray, List.getElem?_cons_succ, List.getElem?_cons_zero]; exact rfl); rfl; rfl; exact rfl; rotate_left; (simp only [Act.put, List.setIfInBounds_toArray, List.set_cons_zero, List.set_cons_succ]; exact rfl); all_goals (first | (intro h; (try simp only [dB, reduceCtorEq] at h) <;> (try go_prune) <;> (intro NX; (repeat' (first | go_step | go_upon)); all_goals (refine seg_end (by kernel_rfl) ?_; clear NX))) | (intro h; (try simp only [dB, reduceCtorEq] at h) <;> (try go_prune) <;> (refine seg_end (by kernel_rfl) ?_)))))
                all_goals (first | (refine plan_over (j := 8) (want := false) (d := 77) (o := ?_) (a' := ?_) ?_ ?_ ?_ ?_ ?_ ?_; rotate_left; rotate_left; (simp only [List.getElem?_toArray, List.getElem?_cons_succ, List.getElem?_cons_zero]; exact rfl); rfl; rfl; exact rfl; (simp only [Act.put, List.setIfInBounds_toArray, List.set_cons_zero, List.set_cons_succ]; exact rfl); refine seg_end (by kernel_rfl) ?_) | (refine plan_guard (j := 8) (want := false) (d := 77) (o := ?_) (b := ?_) (a' := ?_) ?_ ?_ ?_ ?_ ?_ ?_ ?_; rotate_left; rotate_left; rotate_left; (simp only [List.getElem?_toArray, List.getElem?_cons_succ, List.getElem?_cons_zero]; exact rfl); rfl; rfl; exact rfl; rotate_left; (simp only [Act.put, List.setIfInBounds_toArray, List.set_cons_zero, List.set_cons_succ]; exact rfl); all_goals (first | (intro h; (try simp only [dB, reduceCtorEq] at h) <;> (try go_prune) <;> (intro NX; (repeat' (first | go_step | go_upon)); all_goals (refine seg_end (by kernel_rfl) ?_; clear NX))) | (intro h; (try simp only [dB, reduceCtorEq] at h) <;> (try go_prune) <;> (refine seg_end (by kernel_rfl) ?_)))))
                all_goals (first | (refine plan_over (j := 8) (want := false) (d := 77) (o := ?_) (a' := ?_) ?_ ?_ ?_ ?_ ?_ ?_; rotate_left; rotate_left; (simp only [List.getElem?_toArray, List.getElem?_cons_succ, List.getElem?_cons_zero]; exact rfl); rfl; rfl; exact rfl; (simp only [Act.put, List.setIfInBounds_toArray, List.set_cons_zero, List.set_cons_succ]; exact rfl); refine seg_end (by kernel_rfl) ?_) | (refine plan_guard (j := 8) (want := false) (d := 77) (o := ?_) (b := ?_) (a' := ?_) ?_ ?_ ?_ ?_ ?_ ?_ ?_; rotate_left; rotate_left; rotate_left; (simp only [List.getElem?_toArray, List.getElem?_cons_succ, List.getElem?_cons_zero]; exact rfl); rfl; rfl; exact rfl; rotate_left; (simp only [Act.put, List.setIfInBounds_toArray, List.set_cons_zero, List.set_cons_succ]; exact rfl); all_goals (first | (intro h; (try simp only [dB, reduceCtorEq] at h) <;> (try go_prune) <;> (intro NX; (repeat' (first | go_step | go_upon)); all_goals (refine seg_end (by kernel_rfl) ?_; clear NX))) | (intro h; (try simp only [dB, reduceCtorEq] at h) <;> (try go_prune) <;> (refine seg_end (by kernel_rfl) ?_)))))
                all_goals (first | (refine plan_over (j := 11) (want := true) (d := 80) (o := ?_) (a' := ?_) ?_ ?_ ?_ ?_ ?_ ?_; rotate_left; rotate_left; (simp only [List.getElem?_toArray, List.getElem?_cons_succ, List.getElem?_cons_zero]; exact rfl); rfl; rfl; exact rfl; (simp only [Act.put, List.setIfInBounds_toArray, List.set_cons_zero, List.set_cons_succ]; exact rfl); refine seg_end (by kernel_rfl) ?_) | (refine plan_guard (j := 11) (want := true) (d := 80) (o := ?_) (b := ?_) (a' := ?_) ?_ ?_ ?_ ?_ ?_ ?_ ?_; rotate_left; rotate_left; rotate_left; (simp only [List.getElem?_toArray, List.getElem?_cons_succ, List.getElem?_cons_zero]; exact rfl); rfl; rfl; exact rfl; rotate_left; (simp only [Act.put, List.setIfInBounds_toArray, List.set_cons_zero, List.set_cons_succ]; exact rfl); all_goals (first | (intro h; (try simp only [dB, reduceCtorEq] at h) <;> (try go_prune) <;> (intro NX; (repeat' (first | go_step | go_upon)); all_goals (refine seg_end (by kernel_rfl) ?_; clear NX))) | (intro h; (try simp only [dB, reduceCtorEq] at h) <;> (try go_prune) <;> (refine seg_end (by kernel_rfl) ?_)))))
                all_goals (first | (refine plan_over (j := 11) (want := true) (d := 80) (o := ?_) (a' := ?_) ?_ ?_ ?_ ?_ ?_ ?_; rotate_left; rotate_left; (simp only [List.getElem?_toArray, List.getElem?_cons_succ, List.getElem?_cons_zero]; exact rfl); rfl; rfl; exact rfl; (simp only [Act.put, List.setIfInBounds_toArray, List.set_cons_zero, List.set_cons_succ]; exact rfl); refine seg_end (by kernel_rfl) ?_) | (refine plan_guard (j := 11) (want := true) (d := 80) (o := ?_) (b := ?_) (a' := ?_) ?_ ?_ ?_ ?_ ?_ ?_ ?_; rotate_left; rotate_left; rotate_left; (simp only [List.getElem?_toArray, List.getElem?_cons_succ, List.getElem?_cons_zero]; exact rfl); rfl; rfl; exact rfl; rotate_left; (simp only [Act.put, List.setIfInBounds_toArray, List.set_cons_zero, List.set_cons_succ]; exact rfl); all_goals (first | (intro h; (try simp only [dB, reduceCtorEq] at h) <;> (try go_prune) <;> (intro NX; (repeat' (first | go_step | go_upon)); all_goals (refine seg_end (by kernel_rfl) ?_; clear NX))) | (intro h; (try simp only [dB, reduceCtorEq] at h) <;> (try go_prune) <;> (refine seg_end (by kernel_rfl) ?_)))))
                all_goals (first | (refine plan_over (j := 11) (want := true) (d := 80) (o := ?_) (a' := ?_) ?_ ?_ ?_ ?_ ?_ ?_; rotate_left; rotate_left; (simp only [List.getElem?_toArray, List.getElem?_cons_succ, List.getElem?_cons_zero]; exact rfl); rfl; rfl; exact rfl; (simp only [Act.put, List.setIfInBounds_toArray, List.set_cons_zero, List.set_cons_succ]; exact rfl); refine seg_end (by kernel_rfl) ?_) | (refine plan_guard (j := 11) (want := true) (d := 80) (o := ?_) (b := ?_) (a' := ?_) ?_ ?_ ?_ ?_ ?_ ?_ ?_; rotate_left; rotate_left; rotate_left; (simp only [List.getElem?_toArray, List.getElem?_cons_succ, List.getElem?_cons_zero]; exact rfl); rfl; rfl; exact rfl; rotate_left; (simp only [Act.put, List.setIfInBounds_toArray, List.set_cons_zero, List.set_cons_succ]; exact rfl); all_goals (first | (intro h; (try simp only [dB, reduceCtorEq] at h) <;> (try go_prune) <;> (intro NX; (repeat' (first | go_step | go_upon)); all_goals (refine seg_end (by kernel_rfl) ?_; clear NX))) | (intro h; (try simp only [dB, reduceCtorEq] at h) <;> (try go_prune) <;> (refine seg_end (by kernel_rfl) ?_)))))
                all_goals (first | (refine plan_over (j := 11) (want := true) (d := 80) (o := ?_) (a' := ?_) ?_ ?_ ?_ ?_ ?_ ?_; rotate_left; rotate_left; (simp only [List.getElem?_toArray, List.getElem?_cons_succ, List.getElem?_cons_zero]; exact rfl); rfl; rfl; exact rfl; (simp only [Act.put, List.setIfInBounds_toArray, List.set_cons_zero, List.set_cons_succ]; exact rfl); refine seg_end (by kernel_rfl) ?_) | (refine plan_guard (j := 11) (want := true) (d := 80) (o := ?_) (b := ?_) (a' := ?_) ?_ ?_ ?_ ?_ ?_ ?_ ?_; rotate_left; rotate_left; rotate_left; (simp only [List.getElem?_toArray, List.getElem?_cons_succ, List.getElem?_cons_zero]; exact rfl); rfl; rfl; exact rfl; rotate_left; (simp only [Act.put, List.setIfInBounds_toArray, List.set_cons_zero, List.set_cons_succ]; exact rfl); all_goals (first | (intro h; (try simp only [dB, reduceCtorEq] at h) <;> (try go_prune) <;> (intro NX; (repeat' (first | go_step | go_upon)); all_goals (refine seg_end (by kernel_rfl) ?_; clear NX))) | (intro h; (try simp only [dB, reduceCtorEq] at h) <;> (try go_prune) <;> (refine seg_end (by kernel_rfl) ?_)))))
                all_goals (first | (refine plan_over (j := 11) (want := true) (d := 80) (o := ?_) (a' := ?_) ?_ ?_ ?_ ?_ ?_ ?_; rotate_left; rotate_left; (simp only [List.getElem?_toArray, List.getElem?_cons_succ, List.getElem?_cons_zero]; exact rfl); rfl; rfl; exact rfl; (simp only [Act.put, List.setIfInBounds_toArray, List.set_cons_zero, List.set_cons_succ]; exact rfl); refine seg_end (by kernel_rfl) ?_) | (refine plan_guard (j := 11) (want := true) (d := 80) (o := ?_) (b := ?_) (a' := ?_) ?_ ?_ ?_ ?_ ?_ ?_ ?_; rotate_left; rotate_left; rotate_left; (simp only [List.getElem?_toArray, List.getElem?_cons_succ, List.getElem?_cons_zero]; exact rfl); rfl; rfl; exact rfl; rotate_left; (simp only [Act.put, List.setIfInBounds_toArray, List.set_cons_zero, List.set_cons_succ]; exact rfl); all_goals (first | (intro h; (try simp only [dB, reduceCtorEq] at h) <;> (try go_prune) <;> (intro NX; (repeat' (first | go_step | go_upon)); all_goals (refine seg_end (by kernel_rfl) ?_; clear NX))) | (intro h; (try simp only [dB, reduceCtorEq] at h) <;> (try go_prune) <;> (refine seg_end (by kernel_rfl) ?_)))))
                all_goals (first | (refine plan_over (j := 11) (want := true) (d := 80) (o := ?_) (a' := ?_) ?_ ?_ ?_ ?_ ?_ ?_; rotate_left; rotate_left; (simp only [List.getElem?_toArray, List.getElem?_cons_succ, List.getElem?_cons_zero]; exact rfl); rfl; rfl; exact rfl; (simp only [Act.put, List.setIfInBounds_toArray, List.set_cons_zero, List.set_cons_succ]; exact rfl); refine seg_end (by kernel_rfl) ?_) | (refine plan_guard (j := 11) (want := true) (d := 80) (o := ?_) (b := ?_) (a' := ?_) ?_ ?_ ?_ ?_ ?_ ?_ ?_; rotate_left; rotate_left; rotate_left; (simp only [List.getElem?_toArray, List.getElem?_cons_succ, List.getElem?_cons_zero]; exact rfl); rfl; rfl; exact rfl; rotate_left; (simp only [Act.put, List.setIfInBounds_toArray, List.set_cons_zero, List.set_cons_succ]; exact rfl); all_goals (first | (intro h; (try simp only [dB, reduceCtorEq] at h) <;> (try go_prune) <;> (intro NX; (repeat' (first | go_step | go_upon)); all_goals (refine seg_end (by kernel_rfl) ?_; clear NX))) | (intro h; (try simp only [dB, reduceCtorEq] at h) <;> (try go_prune) <;> (refine seg_end (by kernel_rfl) ?_)))))
                all_goals (first | (refine plan_over (j := 11) (want := true) (d := 80) (o := ?_) (a' := ?_) ?_ ?_ ?_ ?_ ?_ ?_; rotate_left; rotate_left; (simp only [List.getElem?_toArray, List.getElem?_cons_succ, List.getElem?_cons_zero]; exact rfl); rfl; rfl; exact rfl; (simp only [Act.put, List.setIfInBounds_toArray, List.set_cons_zero, List.set_cons_succ]; exact rfl); refine seg_end (by kernel_rfl) ?_) | (refine plan_guard (j := 11) (want := true) (d := 80) (o := ?_) (b := ?_) (a' := ?_) ?_ ?_ ?_ ?_ ?_ ?_ ?_; rotate_left; rotate_left; rotate_left; (simp only [List.getElem?_toArray, List.getElem?_cons_succ, List.getElem?_cons_zero]; exact rfl); rfl; rfl; exact rfl; rotate_left; (simp only [Act.put, List.setIfInBounds_toArray, List.set_cons_zero, List.set_cons_succ]; exact rfl); all_goals (first | (intro h; (try simp only [dB, reduceCtorEq] at h) <;> (try go_prune) <;> (intro NX; (repeat' (first | go_step | go_upon)); all_goals (refine seg_end (by kernel_rfl) ?_; clear NX))) | (intro h; (try simp only [dB, reduceCtorEq] at h) <;> (try go_prune) <;> (refine seg_end (by kernel_rfl) ?_)))))
                all_goals (first | (refine plan_over (j := 11) (want := true) (d := 80) (o := ?_) (a' := ?_) ?_ ?_ ?_ ?_ ?_ ?_; rotate_left; rotate_left; (simp only [List.getElem?_toArray, List.getElem?_cons_succ, List.getElem?_cons_zero]; exact rfl); rfl; rfl; exact rfl; (simp only [Act.put, List.setIfInBounds_toArray, List.set_cons_zero, List.set_cons_succ]; exact rfl); refine seg_end (by kernel_rfl) ?_) | (refine plan_guard (j := 11) (want := true) (d := 80) (o := ?_) (b := ?_) (a' := ?_) ?_ ?_ ?_ ?_ ?_ ?_ ?_; rotate_left; rotate_left; rotate_left; (simp only [List.getElem?_toArray, List.getElem?_cons_succ, List.getElem?_cons_zero]; exact rfl); rfl; rfl; exact rfl; rotate_left; (simp only [Act.put, List.setIfInBounds_toArray, List.set_cons_zero, List.set_cons_succ]; exact rfl); all_goals (first | (intro h; (try simp only [dB, reduceCtorEq] at h) <;> (try go_prune) <;> (intro NX; (repeat' (first | go_step | go_upon)); all_goals (refine seg_end (by kernel_rfl) ?_; clear NX))) | (intro h; (try simp only [dB, reduceCtorEq] at h) <;> (try go_prune) <;> (refine seg_end (by kernel_rfl) ?_)))))
                all_goals (first | (refine plan_over (j := 11) (want := true) (d := 80) (o := ?_) (a' := ?_) ?_ ?_ ?_ ?_ ?_ ?_; rotate_left; rotate_left; (simp only [List.getElem?_toArray, List.getElem?_cons_succ, List.getElem?_cons_zero]; exact rfl); rfl; rfl; exact rfl; (simp only [Act.put, List.setIfInBounds_toArray, List.set_cons_zero, List.set_cons_succ]; exact rfl); refine seg_end (by kernel_rfl) ?_) | (refine plan_guard (j := 11) (want := true) (d := 80) (o := ?_) (b := ?_) (a' := ?_) ?_ ?_ ?_ ?_ ?_ ?_ ?_; rotate_left; rotate_left; rotate_left; (simp only [List.getElem?_toArray, List.getElem?_cons_succ, List.getElem?_cons_zero]; exact rfl); rfl; rfl; exact rfl; rotate_left; (simp only [Act.put, List.setIfInBounds_toArray, List.set_cons_zero, List.set_cons_succ]; exact rfl); all_goals (first | (intro h; (try simp only [dB, reduceCtorEq] at h) <;> (try go_prune) <;> (intro NX; (repeat' (first | go_step | go_upon)); all_goals (refine seg_end (by kernel_rfl) ?_; clear NX))) | (intro h; (try simp only [dB, reduceCtorEq] at h) <;> (try go_prune) <;> (refine seg_end (by kernel_rfl) ?_)))))
                all_goals (first | (refine plan_over (j := 11) (want := true) (d := 80) (o := ?_) (a' := ?_) ?_ ?_ ?_ ?_ ?_ ?_; rotate_left; rotate_left; (simp only [List.getElem?_toArray, List.getElem?_cons_succ, List.getElem?_cons_zero]; exact rfl); rfl; rfl; exact rfl; (simp only [Act.put, List.setIfInBounds_toArray, List.set_cons_zero, List.set_cons_succ]; exact rfl); refine seg_end (by kernel_rfl) ?_) | (refine plan_guard (j := 11) (want := true) (d := 80) (o := ?_) (b := ?_) (a' := ?_) ?_ ?_ ?_ ?_ ?_ ?_ ?_; rotate_left; rotate_left; rotate_left; (simp only [List.getElem?_toArray, List.getElem?_cons_succ, List.getElem?_cons_zero]; exact rfl); rfl; rfl; exact rfl; rotate_left; (simp only [Act.put, List.setIfInBounds_toArray, List.set_cons_zero, List.set_cons_succ]; exact rfl); all_goals (first | (intro h; (try simp only [dB, reduceCtorEq] at h) <;> (try go_prune) <;> (intro NX; (repeat' (first | go_step | go_upon)); all_goals (refine seg_end (by kernel_rfl) ?_; clear NX))) | (intro h; (try simp only [dB, reduceCtorEq] at h) <;> (try go_prune) <;> (refine seg_end (by kernel_rfl) ?_)))))
                all_goals (first | (refine plan_over (j := 8) (want := false) (d := 77) (o := ?_) (a' := ?_) ?_ ?_ ?_ ?_ ?_ ?_; rotate_left; rotate_left; (simp only [List.getElem?_toArray, List.getElem?_cons_succ, List.getElem?_cons_zero]; exact rfl); rfl; rfl; exact rfl; (simp only [Act.put, List.setIfInBounds_toArray, List.set_cons_zero, List.set_cons_succ]; exact rfl); refine seg_end (by kernel_rfl) ?_) | (refine plan_guard (j := 8) (want := false) (d := 77) (o := ?_) (b := ?_) (a' := ?_) ?_ ?_ ?_ ?_ ?_ ?_ ?_; rotate_left; rotate_left; rotate_left; (simp only [List.getElem?_toArray, List.getElem?_cons_succ, List.getElem?_cons_zero]; exact rfl); rfl; rfl; exact rfl; rotate_left; (simp only [Act.put, List.setIfInBounds_toArray, List.set_cons_zero, List.set_cons_succ]; exact rfl); all_goals (first | (intro h; (try simp only [dB, reduceCtorEq] at h) <;> (try go_prune) <;> (intro NX; (repeat' (first | go_step | go_upon)); all_goals (refine seg_end (by kernel_rfl) ?_; clear NX))) | (intro h; (try simp only [dB, reduceCtorEq] at h) <;> (try go_prune) <;> (refine seg_end (by kernel_rfl) ?_)))))
                all_goals (refine plan_one (o := ?_) ?_ ?_ ?_; rotate_left; (simp only [List.getElem?_toArray, List.getElem?_cons_succ, List.getElem?_cons_zero]; exact rfl); rfl; intro NX; (repeat' (first | go_step | go_upon)); all_goals (refine seg_end (by kernel_rfl) ?_; clear NX))
                all_goals refine plan_nil ?_
                all_goals go_wp2
                all_goals first
                  | (go_ret; exact ⟨ret_bool (by rw [HV2.out, HALI.out, HNOS.out (by rw [HSAS.out]; simp; omega)]; simp), HK.out.trans (Kept.drew HKB.out)⟩)
                  | (go_roundw
                     case rel => exact ⟨k + 1, by omega, by go_num, by rw [HSNS.out, HALS.out, HSAS.out]; simp; omega, Kept.drew HKB.out⟩
                     case measure => simp [intOf]; omega)
            · obtain rfl : k = sgns.length := by omega
              have HCO := hidden (contains_outs oA oc outs F wr (HT.out.outs.keep ROut.good hkp (fun _ _ h => h)))
              clear hkp
              go_wp2_with (go_at_call 115; (with_reducible refine HCO.out.mono ?_); rintro e we ⟨rfl, hke⟩; have HKE := hidden hke; clear hke; dsimp only)
              go_ret
              exact ⟨ret_bool (by rw [HV2.out, HALI.out, HALS.out]; simp), HK.out.trans (HKS.out.trans HKE.out)⟩
      · have hne := ‹¬ ins = []›
        have HV2 : Hid (v = ((insUpto ins ins.length && sgnsUpto sgns sgns.length) && outs.all outB)) := hidden (by
          have hh : (!(decide (ins.length = 0) && decide (op.kind = 0))) = true := by
            simp [hne]
          rw [HV.out, hh]
          simp [l1, l2, l3])
        go_loopw [3, 4, 44] (fun _ _ t44 wr => ∃ k : Nat, k ≤ ins.length ∧ t44 = .int .i64 k ∧ insUpto ins k = true ∧ Kept Nob w1 wr) (fun _ _ t44 _ => ins.length - (intOf t44).toNat)
        case atStart => exact ⟨0, Nat.zero_le _, rfl, rfl, Kept.refl _ _⟩
        case round =>
          obtain ⟨k, hk, rfl, hall, hkp⟩ := hrel
          have HALL := hidden hall
          have HKP := hidden (HK1.out.trans hkp)
          have HKPR := hidden hkp
          clear hall
          obtain ⟨i0, i1, i2, i38, i39, _⟩ := HBX.out wr (HK1.out.trans hkp)
          by_cases hlt : k < ins.length
          · obtain ⟨ad, es, hA, _, hl, hc, hr⟩ := (HT.out.ins.keep RInp.good HKP.out (fun _ _ h => h)).cells k hlt
            obtain ⟨B, d, hes, hpi, hok⟩ := hr.open_
            subst hes
            subst hA
            have HNO := hidden (insUpto_no ins ins.length k hlt)
            have HSN := hidden (insUpto_succ ins k)
            have hgd : ins.getD k default = ins[k] := by simp [List.getD_eq_getElem?_getD, hlt]
            have HIA : Hid (inAtB ins k = (inpB ins[k] && !((ins.take k).any fun y => refB y ins[k]))) := hidden (by unfold inAtB; rw [hgd])
            clear hgd
            generalize ins[k] = x at *
            have HC := hidden hc
            have HL := hidden hl
            have HR := hidden hr
            have HOK := hidden hok
            have HTK : Hid ((ins.take k).length = k) := hidden (by rw [List.length_take]; omega)
            have HCI : Hid (∀ y g, Kept Nob wr y → y.heap[g]? = some (.cells (inpCells B d x).toArray 96 (0, 0)) → Calls Try.prog 113 #[.slice (some ad) k ic, .func (.func 114) #[] #[.pointer (some ⟨g, 0, none⟩)]] y fun e w' => e = .returned (.bool ((ins.take k).any fun z => refB z x)) ∧ Kept Nob y w') := hidden (fun y g hy hg => by
              have := contains_ins (some ad) ic (ins.take k) x B d g F y ((HT.out.ins.keep RInp.good (HKP.out.trans hy) (fun _ _ h => h)).take k) HOK.out hg
              rwa [HTK.out] at this)
            generalize ((ins.take k).any fun z => refB z x) = bb at HCI HIA
            have HRI : Hid (∀ y, Kept Nob wr y → Calls Try.prog 112 #[.agg (inpCells B d x).toArray] y fun e w' => e = .returned (.bool (inpB x)) ∧ Kept Nob y w') := hidden (fun y hy => rightIn_any x (inpCells B d x) F y (RInp.good.keep HR.out hy (fun _ _ h => h)))
            generalize inpB x = ba at HRI HIA
            clear hl hc hr hok hpi hkp
            cases ba <;> cases bb
            all_goals
              go_wp2_with (first
                | ((with_reducible refine load_lit aggInp (.tmp 47) (ad.add (k * 35)) (inpCells B d x) ?_ ?_ ?_ ?_ ?_); rfl; rfl; exact HL.out; exact HC.out)
                | ((with_reducible refine store_litT aggInp (.tmp 4) (.tmp 48) wr.heap.size (inpCells B d x) 96 ?_ ?_ ?_ ?_ ?_ ?_ ?_); rfl; rfl; rfl; exact HL.out; exact RInp.good.one HR.out; exact ⟨_, heap_alloc_new _ _, rfl⟩; intro wb hwb hkb; have hkb' : Kept Nob wr wb := Kept.then (Kept.alloc (Kept.refl _ _) _) hkb (fun b hb h => by omega); have HB := hidden hwb; have HKB := hidden hkb'; have HRI1 := hidden (HRI.out wb hkb'); clear hwb hkb hkb')
                | ((with_reducible refine load_lit aggInp (.tmp 4) ⟨wr.heap.size, 0, none⟩ (inpCells B d x) ?_ ?_ ?_ ?_ ?_); rfl; rfl; exact HL.out; exact row_cells HB.out)
                | (go_at_call 112; (with_reducible refine HRI1.out.mono ?_); rintro e wc ⟨rfl, hkc⟩; have hkc' := HKB.out.trans hkc; have HKC := hidden hkc'; obtain ⟨i0, i1, i2, i38, i39, _⟩ := HBX.out wc (HKP.out.trans hkc'); have HCI1 := hidden (HCI.out wc wr.heap.size hkc' (hkc.blk HB.out (fun h => h))); clear hkc hkc'; dsimp only)
                | (go_at_call 113; (with_reducible refine HCI1.out.mono ?_); rintro e wd ⟨rfl, hkd⟩; have HKD := hidden (HKC.out.trans hkd); clear hkd; dsimp only))
            all_goals first
              | (go_ret; exact ⟨ret_bool (by rw [HV2.out, HNO.out (by rw [HIA.out]; rfl)]; simp), HK.out.trans (HKP.out.trans HKC.out)⟩)
              | (go_ret; exact ⟨ret_bool (by rw [HV2.out, HNO.out (by rw [HIA.out]; rfl)]; simp), HK.out.trans (HKP.out.trans HKD.out)⟩)
              | (go_roundw
                 case rel => exact ⟨k + 1, by omega, by go_num, by rw [HSN.out, HALL.out, HIA.out]; rfl, HKPR.out.trans HKD.out⟩
                 case measure => simp [intOf]; omega)
          · obtain rfl : k = ins.length := by omega
            have HALI := HALL
            have HKO := HKP
            obtain ⟨wo, rfl⟩ : ∃ wo : World, wo = wr := ⟨_, rfl⟩
            go_wp2
            go_loopw [5, 6, 64] (fun _ _ t64 wr => ∃ k : Nat, k ≤ sgns.length ∧ t64 = .int .i64 k ∧ sgnsUpto sgns k = true ∧ Kept Nob W wr) (fun _ _ t64 _ => sgns.length - (intOf t64).toNat)
            case atStart => exact ⟨0, Nat.zero_le _, rfl, rfl, HKO.out⟩
            case round =>
              obtain ⟨k, hk, rfl, hall, hkp⟩ := hrel
              have HALS := hidden hall
              have HKS := hidden hkp
              clear hall
              obtain ⟨i0, i1, i2, i38, i39, _⟩ := HBX.out wr hkp
              by_cases hlt : k < sgns.length
              · obtain ⟨ad, es, hA, _, hl, hc, hr⟩ := (HT.out.sgns.keep RSgn.good hkp (fun _ _ h => h)).cells k hlt
                obtain ⟨hes, hok⟩ := hr.open_
                subst hes
                have HPV : Hid (∀ m, k = m + 1 → ∀ y, Kept Nob wr y → y.cell? (ad.add (m * 33)) = some (.int .i64 (sgns.getD m default).key)) := hidden (fun m hm y hy => by
                  obtain ⟨ad', es', hA', _, _, hc', hr'⟩ := (HT.out.sgns.keep RSgn.good hkp (fun _ _ h => h)).cells m (by show m < sgns.length; omega)
                  rw [hA] at hA'
                  obtain rfl := Option.some.inj hA'
                  obtain ⟨hes', _⟩ := hr'.open_
                  subst hes'
                  have hml : m < sgns.length := by omega
                  rw [show sgns.getD m default = sgns[m]'hml from by simp [List.getD_eq_getElem?_getD, hml]]
                  exact hy.at (hc' 0 _ rfl) (fun h => h))
                have HNOS := hidden (sgnsUpto_no sgns sgns.length k hlt)
                have HSNS := hidden (sgnsUpto_succ sgns k)
                have hgd : sgns.getD k default = sgns[k] := by simp [List.getD_eq_getElem?_getD, hlt]
                have HSAS : Hid (sgnAtB sgns k = (decide (0 ≤ sgns[k].key) && decide (sgns[k].key ≤ 255) && (decide (k = 0) || decide ((sgns.getD (k - 1) default).key < sgns[k].key)))) := hidden (by unfold sgnAtB; rw [hgd])
                clear hgd
                subst hA
                generalize sgns[k] = x at *
                have HCS := hidden hc
                have HOKS := hidden hok
                clear hl hc hr hok hkp
                by_cases hk0 : k = 0
                · subst hk0
                  have HCS0 : Hid (∀ j u, (sgnCells x)[j]? = some u → wr.cell? (ad.add j) = some u) := hidden (fun j u hj => by have h := HCS.out j u hj; rwa [Nat.zero_mul, show (ad.add 0) = ad from rfl] at h)
                  go_wp2_with (first
                    | ((with_reducible refine load_lit aggSgn (.tmp 67) ad (sgnCells x) ?_ ?_ ?_ ?_ ?_); rfl; rfl; exact sgn_len HOKS.out; exact HCS0.out)
                    | ((with_reducible refine store_litT aggSgn (.tmp 6) (.tmp 68) wr.heap.size (sgnCells x) 177 ?_ ?_ ?_ ?_ ?_ ?_ ?_); rfl; rfl; rfl; exact sgn_len HOKS.out; exact RSgn.good.one (RSgn.mk' (w := wr) (F := F) HOKS.out); exact ⟨_, heap_alloc_new _ _, rfl⟩; intro wb hwb hkb; have hkb' : Kept Nob wr wb := Kept.then (Kept.alloc (Kept.refl _ _) _) hkb (fun b hb h => by omega); have c60 : wb.cell? ⟨wr.heap.size, 0, none⟩ = some (.int .i64 x.key) := (blk_cell hwb 0).trans rfl; have HKB := hidden (HKS.out.trans hkb'); obtain ⟨i0, i1, i2, i38, i39, _⟩ := HBX.out wb (HKS.out.trans hkb'); clear hwb hkb hkb'))
                  refine region_plan (.seg [0] (.seg [1] (.seg [2] (.seg [3] (.seg [4] (.seg [5] (.seg [6] (.seg [7] (.seg [8] (.seg [9] (.seg [10] (.seg [11] (.seg [12] (.seg [13] (.seg [14] (.seg [15] (.seg [16] (.seg [17] (.seg [18] (.seg [19] (.seg [20] (.seg [21] (.seg [22] (.seg [23] .nil)))))))))))))))))))))))) (by kernel_rfl) ?_
                  all_goals (refine plan_one (o := ?_) ?_ ?_ ?_; rotate_left; (simp only [List.getElem?_toArray, List.getElem?_cons_zero]; exact rfl); rfl; intro NX; (repeat' (first | go_step | go_upon)); all_goals (refine seg_end (by kernel_rfl) ?_; clear NX))
                  all_goals (refine plan_one (o := ?_) ?_ ?_ ?_; rotate_left; (simp only [List.getElem?_toArray, List.getElem?_cons_succ, List.getElem?_cons_zero]; exact rfl); rfl; intro NX; (repeat' (first | go_step | go_upon)); all_goals (refine seg_end (by kernel_rfl) ?_; clear NX))
                  all_goals (refine plan_one (o := ?_) ?_ ?_ ?_; rotate_left; (simp only [List.getElem?_toArray, List.getElem?_cons_succ, List.getElem?_cons_zero]; exact rfl); rfl; intro NX; (repeat' (first | go_step | go_upon)); all_goals (refine seg_end (by kernel_rfl) ?_; clear NX))
                  all_goals (refine plan_one (o := ?_) ?_ ?_ ?_; rotate_left; (simp only [List.getElem?_toArray, List.getElem?_cons_succ, List.getElem?_cons_zero]; exact rfl); rfl; intro NX; (repeat' (first | go_step | go_upon)); all_goals (refine seg_end (by kernel_rfl) ?_; clear NX))
                  all_goals (first | (refine plan_over (j := 3) (want := false) (d := 72) (o := ?_) (a' := ?_) ?_ ?_ ?_ ?_ ?_ ?_; rotate_left; rotate_left; (simp only [List.getElem?_toArray, List.getElem?_cons_succ, List.getElem?_cons_zero]; exact rfl); rfl; rfl; exact rfl; (simp only [Act.put, List.setIfInBounds_toArray, List.set_cons_zero, List.set_cons_succ]; exact rfl); refine seg_end (by kernel_rfl) ?_) | (refine plan_guard (j := 3) (want := false) (d := 72) (o := ?_) (b := ?_) (a' := ?_) ?_ ?_ ?_ ?_ ?_ ?_ ?_; rotate_left; rotate_left; rotate_left; (simp only [List.getElem?_toArray, List.getElem?_cons_succ, List.getElem?_cons_zero]; exact rfl); rfl; rfl; exact rfl; rotate_left; (simp only [Act.put, List.setIfInBounds_toArray, List.set_cons_zero, List.set_cons_succ]; exact rfl); all_goals (first | (intro h; (try simp only [dB, reduceCtorEq] at h) <;> (try go_prune) <;> (intro NX; (repeat' (first | go_step | go_upon)); all_goals (refine seg_end (by kernel_rfl) ?_; clear NX))) | (intro h; (try simp only [dB, reduceCtorEq] at h) <;> (try go_prune) <;> (refine seg_end (by kernel_rfl) ?_)))))
                  all_goals (first | (refine plan_over (j := 3) (want := false) (d := 72) (o := ?_) (a' := ?_) ?_ ?_ ?_ ?_ ?_ ?_; rotate_left; rotate_left; (simp only [List.getElem?_toArray, List.getElem?_cons_succ, List.getElem?_cons_zero]; exact rfl); rfl; rfl; exact rfl; (simp only [Act.put, List.setIfInBounds_toArray, List.set_cons_zero, List.set_cons_succ]; exact rfl); refine seg_end (by kernel_rfl) ?_) | (refine plan_guard (j := 3) (want := false) (d := 72) (o := ?_) (b := ?_) (a' := ?_) ?_ ?_ ?_ ?_ ?_ ?_ ?_; rotate_left; rotate_left; rotate_left; (simp only [List.getElem?_toArray, List.getElem?_cons_succ, List.getElem?_cons_zero]; exact rfl); rfl; rfl; exact rfl; rotate_left; (simp only [Act.put, List.setIfInBounds_toArray, List.set_cons_zero, List.set_cons_succ]; exact rfl); all_goals (first | (intro h; (try simp only [dB, reduceCtorEq] at h) <;> (try go_prune) <;> (intro NX; (repeat' (first | go_step | go_upon)); all_goals (refine seg_end (by kernel_rfl) ?_; clear NX))) | (intro h; (try simp only [dB, reduceCtorEq] at h) <;> (try go_prune) <;> (refine seg_end (by kernel_rfl) ?_)))))
                  all_goals (first | (refine plan_over (j := 3) (want := false) (d := 72) (o := ?_) (a' := ?_) ?_ ?_ ?_ ?_ ?_ ?_; rotate_left; rotate_left; (simp only [List.getElem?_toArray, List.getElem?_cons_succ, List.getElem?_cons_zero]; exact rfl); rfl; rfl; exact rfl; (simp only [Act.put, List.setIfInBounds_toArray, List.set_cons_zero, List.set_cons_succ]; exact rfl); refine seg_end (by kernel_rfl) ?_) | (refine plan_guard (j := 3) (want := false) (d := 72) (o := ?_) (b := ?_) (a' := ?_) ?_ ?_ ?_ ?_ ?_ ?_ ?_; rotate_left; rotate_left; rotate_left; (simp only [List.getElem?_toArray, List.getElem?_cons_succ, List.getElem?_cons_zero]; exact rfl); rfl; rfl; exact rfl; rotate_left; (simp only [Act.put, List.setIfInBounds_toArray, List.set_cons_zero, List.set_cons_succ]; exact rfl); all_goals (first | (intro h; (try simp only [dB, reduceCtorEq] at h) <;> (try go_prune) <;> (intro NX; (repeat' (first | go_step | go_upon)); all_goals (refine seg_end (by kernel_rfl) ?_; clear NX))) | (intro h; (try simp only [dB, reduceCtorEq] at h) <;> (try go_prune) <;> (refine seg_end (by kernel_rfl) ?_)))))
                  all_goals (refine plan_one (o := ?_) ?_ ?_ ?_; rotate_left; (simp only [List.getElem?_toArray, List.getElem?_cons_succ, List.getElem?_cons_zero]; exact rfl); rfl; intro NX; (repeat' (first | go_step | go_upon)); all_goals (refine seg_end (by kernel_rfl) ?_; clear NX))
                  all_goals (refine plan_one (o := ?_) ?_ ?_ ?_; rotate_left; (simp only [List.getElem?_toArray, List.getElem?_cons_succ, List.getElem?_cons_zero]; exact rfl); rfl; intro NX; (repeat' (first | go_step | go_upon)); all_goals (refine seg_end (by kernel_rfl) ?_; clear NX))
                  all_goals (first | (refine plan_over (j := 8) (want := false) (d := 77) (o := ?_) (a' := ?_) ?_ ?_ ?_ ?_ ?_ ?_; rotate_left; rotate_left; (simp only [List.getElem?_toArray, List.getElem?_cons_succ, List.getElem?_cons_zero]; exact rfl); rfl; rfl; exact rfl; (simp only [Act.put, List.setIfInBounds_toArray, List.set_cons_zero, List.set_cons_succ]; exact rfl); refine seg_end (by kernel_rfl) ?_) | (refine plan_guard (j := 8) (want := false) (d := 77) (o := ?_) (b := ?_) (a' := ?_) ?_ ?_ ?_ ?_ ?_ ?_ ?_; rotate_left; rotate_left; rotate_left; (simp only [List.getElem?_toArray, List.getElem?_cons_succ, List.getElem?_cons_zero]; exact rfl); rfl; rfl; exact rfl; rotate_left; (simp only [Act.put, List.setIfInBounds_toArray, List.set_cons_zero, List.set_cons_succ]; exact rfl); all_goals (first | (intro h; (try simp only [dB, reduceCtorEq] at h) <;> (try go_prune) <;> (intro NX; (repeat' (first | go_step | go_upon)); all_goals (refine seg_end (by kernel_rfl) ?_; clear NX))) | (intro h; (try simp only [dB, reduceCtorEq] at h) <;> (try go_prune) <;> (refine seg_end (by kernel_rfl) ?_)))))
                  all_goals (first | (refine plan_over (j := 8) (want := false) (d := 77) (o := ?_) (a' := ?_) ?_ ?_ ?_ ?_ ?_ ?_; rotate_left; rotate_left; (simp only [List.getElem?_toArray, List.getElem?_cons_succ, List.getElem?_cons_zero]; exact rfl); rfl; rfl; exact rfl; (simp only [Act.put, List.setIfInBounds_toArray, List.set_cons_zero, List.set_cons_succ]; exact rfl); refine seg_end (by kernel_rfl) ?_) | (refine plan_guard (j := 8) (want := false) (d := 77) (o := ?_) (b := ?_) (a' := ?_) ?_ ?_ ?_ ?_ ?_ ?_ ?_; rotate_left; rotate_left; rotate_left; (simp only [List.getElem?_toArray, List.getElem?_cons_succ, List.getElem?_cons_zero]; exact rfl); rfl; rfl; exact rfl; rotate_left; (simp only [Act.put, List.setIfInBounds_toArray, List.set_cons_zero, List.set_cons_succ]; exact rfl); all_goals (first | (intro h; (try simp only [dB, reduceCtorEq] at h) <;> (try go_prune) <;> (intro NX; (repeat' (first | go_step | go_upon)); all_goals (refine seg_end (by kernel_rfl) ?_; clear NX))) | (intro h; (try simp only [dB, reduceCtorEq] at h) <;> (try go_prune) <;> (refine seg_end (by kernel_rfl) ?_)))))
                  all_goals (first | (refine plan_over (j := 8) (want := false) (d := 77) (o := ?_) (a' := ?_) ?_ ?_ ?_ ?_ ?_ ?_; rotate_left; rotate_left; (simp only [List.getElem?_toArray, List.getElem?_cons_succ, List.getElem?_cons_zero]; exact rfl); rfl; rfl; exact rfl; (simp only [Act.put, List.setIfInBounds_toArray, List.set_cons_zero, List.set_cons_succ]; exact rfl); refine seg_end (by kernel_rfl) ?_) | (refine plan_guard (j := 8) (want := false) (d := 77) (o := ?_) (b := ?_) (a' := ?_) ?_ ?_ ?_ ?_ ?_ ?_ ?_; rotate_left; rotate_left; rotate_left; (simp only [List.getElem?_toArray, List.getElem?_cons_succ, List.getElem?_cons_zero]; exact rfl); rfl; rfl; exact rfl; rotate_left; (simp only [Act.put, List.setIfInBounds_toArray, List.set_cons_zero, List.set_cons_succ]; exact rfl); all_goals (first | (intro h; (try simp only [dB, reduceCtorEq] at h) <;> (try go_prune) <;> (intro NX; (repeat' (first | go_step | go_upon)); all_goals (refine seg_end (by kernel_rfl) ?_; clear NX))) | (intro h; (try simp only [dB, reduceCtorEq] at h) <;> (try go_prune) <;> (refine seg_end (by kernel_rfl) ?_)))))
                  all_goals (first | (refine plan_over (j := 11) (want := true) (d := 80) (o := ?_) (a' := ?_) ?_ ?_ ?_ ?_ ?_ ?_; rotate_left; rotate_left; (simp only [List.getElem?_toArray, List.getElem?_cons_succ, List.getElem?_cons_zero]; exact rfl); rfl; rfl; exact rfl; (simp only [Act.put, List.setIfInBounds_toArray, List.set_cons_zero, List.set_cons_succ]; exact rfl); refine seg_end (by kernel_rfl) ?_) | (refine plan_guard (j := 11) (want := true) (d := 80) (o := ?_) (b := ?_) (a' := ?_) ?_ ?_ ?_ ?_ ?_ ?_ ?_; rotate_left; rotate_left; rotate_left; (simp only [List.getElem?_toArray, List.getElem?_cons_succ, List.getElem?_cons_zero]; exact rfl); rfl; rfl; exact rfl; rotate_left; (simp only [Act.put, List.setIfInBounds_toArray, List.set_cons_zero, List.set_cons_succ]; exact rfl); all_goals (first | (intro h; (try simp only [dB, reduceCtorEq] at h) <;> (try go_prune) <;> (intro NX; (repeat' (first | go_step | go_upon)); all_goals (refine seg_end (by kernel_rfl) ?_; clear NX))) | (intro h; (try simp only [dB, reduceCtorEq] at h) <;> (try go_prune) <;> (refine seg_end (by kernel_rfl) ?_)))))
                  all_goals (first | (refine plan_over (j := 11) (want := true) (d := 80) (o := ?_) (a' := ?_) ?_ ?_ ?_ ?_ ?_ ?_; rotate_left; rotate_left; (simp only [List.getElem?_toArray, List.getElem?_cons_succ, List.getElem?_cons_zero]; exact rfl); rfl; rfl; exact rfl; (simp only [Act.put, List.setIfInBounds_toArray, List.set_cons_zero, List.set_cons_succ]; exact rfl); refine seg_end (by kernel_rfl) ?_) | (refine plan_guard (j := 11) (want := true) (d := 80) (o := ?_) (b := ?_) (a' := ?_) ?_ ?_ ?_ ?_ ?_ ?_ ?_; rotate_left; rotate_left; rotate_left; (simp only [List.getElem?_toArray, List.getElem?_cons_succ, List.getElem?_cons_zero]; exact rfl); rfl; rfl; exact rfl; rotate_left; (simp only [Act.put, List.setIfInBounds_toArray, List.set_cons_zero, List.set_cons_succ]; exact rfl); all_goals (first | (intro h; (try simp only [dB, reduceCtorEq] at h) <;> (try go_prune) <;> (intro NX; (repeat' (first | go_step | go_upon)); all_goals (refine seg_end (by kernel_rfl) ?_; clear NX))) | (intro h; (try simp only [dB, reduceCtorEq] at h) <;> (try go_prune) <;> (refine seg_end (by kernel_rfl) ?_)))))
                  all_goals (first | (refine plan_over (j := 11) (want := true) (d := 80) (o := ?_) (a' := ?_) ?_ ?_ ?_ ?_ ?_ ?_; rotate_left; rotate_left; (simp only [List.getElem?_toArray, List.getElem?_cons_succ, List.getElem?_cons_zero]; exact rfl); rfl; rfl; exact rfl; (simp only [Act.put, List.setIfInBounds_toArray, List.set_cons_zero, List.set_cons_succ]; exact rfl); refine seg_end (by kernel_rfl) ?_) | (refine plan_guard (j := 11) (want := true) (d := 80) (o := ?_) (b := ?_) (a' := ?_) ?_ ?_ ?_ ?_ ?_ ?_ ?_; rotate_left; rotate_left; rotate_left; (simp only [List.getElem?_toArray, List.getElem?_cons_succ, List.getElem?_cons_zero]; exact rfl); rfl; rfl; exact rfl; rotate_left; (simp only [Act.put, List.setIfInBounds_toArray, List.set_cons_zero, List.set_cons_succ]; exact rfl); all_goals (first | (intro h; (try simp only [dB, reduceCtorEq] at h) <;> (try go_prune) <;> (intro NX; (repeat' (first | go_step | go_upon)); all_goals (refine seg_end (by kernel_rfl) ?_; clear NX))) | (intro h; (try simp only [dB, reduceCtorEq] at h) <;> (try go_prune) <;> (refine seg_end (by kernel_rfl) ?_)))))
                  all_goals (first | (refine plan_over (j := 11) (want := true) (d := 80) (o := ?_) (a' := ?_) ?_ ?_ ?_ ?_ ?_ ?_; rotate_left; rotate_left; (simp only [List.getElem?_toArray, List.getElem?_cons_succ, List.getElem?_cons_zero]; exact rfl); rfl; rfl; exact rfl; (simp only [Act.put, List.setIfInBounds_toArray, List.set_cons_zero, List.set_cons_succ]; exact rfl); refine seg_end (by kernel_rfl) ?_) | (refine plan_guard (j := 11) (want := true) (d := 80) (o := ?_) (b := ?_) (a' := ?_) ?_ ?_ ?_ ?_ ?_ ?_ ?_; rotate_left; rotate_left; rotate_left; (simp only [List.getElem?_toArray, List.getElem?_cons_succ, List.getElem?_cons_zero]; exact rfl); rfl; rfl; exact rfl; rotate_left; (simp only [Act.put, List.setIfInBounds_toArray, List.set_cons_zero, List.set_cons_succ]; exact rfl); all_goals (first | (intro h; (try simp only [dB, reduceCtorEq] at h) <;> (try go_prune) <;> (intro NX; (repeat' (first | go_step | go_upon)); all_goals (refine seg_end (by kernel_rfl) ?_; clear NX))) | (intro h; (try simp only [dB, reduceCtorEq] at h) <;> (try go_prune) <;> (refine seg_end (by kernel_rfl) ?_)))))
                  all_goals (first | (refine plan_over (j := 11) (want := true) (d := 80) (o := ?_) (a' := ?_) ?_ ?_ ?_ ?_ ?_ ?_; rotate_left; rotate_left; (simp only [List.getElem?_toArray, List.getElem?_cons_succ, List.getElem?_cons_zero]; exact rfl); rfl; rfl; exact rfl; (simp only [Act.put, List.setIfInBounds_toArray, List.set_cons_zero, List.set_cons_succ]; exact rfl); refine seg_end (by kernel_rfl) ?_) | (refine plan_guard (j := 11) (want := true) (d := 80) (o := ?_) (b := ?_) (a' := ?_) ?_ ?_ ?_ ?_ ?_ ?_ ?_; rotate_left; rotate_left; rotate_left; (simp only [List.getElem?_toArray, List.getElem?_cons_succ, List.getElem?_cons_zero]; exact rfl); rfl; rfl; exact rfl; rotate_left; (simp only [Act.put, List.setIfInBounds_toArray, List.set_cons_zero, List.set_cons_succ]; exact rfl); all_goals (first | (intro h; (try simp only [dB, reduceCtorEq] at h) <;> (try go_prune) <;> (intro NX; (repeat' (first | go_step | go_upon)); all_goals (refine seg_end (by kernel_rfl) ?_; clear NX))) | (intro h; (try simp only [dB, reduceCtorEq] at h) <;> (try go_prune) <;> (refine seg_end (by kernel_rfl) ?_)))))
                  all_goals (first | (refine plan_over (j := 11) (want := true) (d := 80) (o := ?_) (a' := ?_) ?_ ?_ ?_ ?_ ?_ ?_; rotate_left; rotate_left; (simp only [List.getElem?_toArray, List.getElem?_cons_succ, List.getElem?_cons_zero]; exact rfl); rfl; rfl; exact rfl; (simp only [Act.put, List.setIfInBounds_toArray, List.set_cons_zero, List.set_cons_succ]; exact rfl); refine seg_end (by kernel_rfl) ?_) | (refine plan_guard (j := 11) (want := true) (d := 80) (o := ?_) (b := ?_) (a' := ?_) ?_ ?_ ?_ ?_ ?_ ?_ ?_; rotate_left; rotate_left; rotate_left; (simp only [List.getElem?_toArray, List.getElem?_cons_succ, List.getElem?_cons_zero]; exact rfl); rfl; rfl; exact rfl; rotate_left; (simp only [Act.put, List.setIfInBounds_toArray, List.set_cons_zero, List.set_cons_succ]; exact rfl); all_goals (first | (intro h; (try simp only [dB, reduceCtorEq] at h) <;> (try go_prune) <;> (intro NX; (repeat' (first | go_step | go_upon)); all_goals (refine seg_end (by kernel_rfl) ?_; clear NX))) | (intro h; (try simp only [dB, reduceCtorEq] at h) <;> (try go_prune) <;> (refine seg_end (by kernel_rfl) ?_)))))
                  all_goals (first | (refine plan_over (j := 11) (want := true) (d := 80) (o := ?_) (a' := ?_) ?_ ?_ ?_ ?_ ?_ ?_; rotate_left; rotate_left; (simp only [List.getElem?_toArray, List.getElem?_cons_succ, List.getElem?_cons_zero]; exact rfl); rfl; rfl; exact rfl; (simp only [Act.put, List.setIfInBounds_toArray, List.set_cons_zero, List.set_cons_succ]; exact rfl); refine seg_end (by kernel_rfl) ?_) | (refine plan_guard (j := 11) (want := true) (d := 80) (o := ?_) (b := ?_) (a' := ?_) ?_ ?_ ?_ ?_ ?_ ?_ ?_; rotate_left; rotate_left; rotate_left; (simp only [List.getElem?_toArray, List.getElem?_cons_succ, List.getElem?_cons_zero]; exact rfl); rfl; rfl; exact rfl; rotate_left; (simp only [Act.put, List.setIfInBounds_toArray, List.set_cons_zero, List.set_cons_succ]; exact rfl); all_goals (first | (intro h; (try simp only [dB, reduceCtorEq] at h) <;> (try go_prune) <;> (intro NX; (repeat' (first | go_step | go_upon)); all_goals (refine seg_end (by kernel_rfl) ?_; clear NX))) | (intro h; (try simp only [dB, reduceCtorEq] at h) <;> (try go_prune) <;> (refine seg_end (by kernel_rfl) ?_)))))
                  all_goals (first | (refine plan_over (j := 11) (want := true) (d := 80) (o := ?_) (a' := ?_) ?_ ?_ ?_ ?_ ?_ ?_; rotate_left; rotate_left; (simp only [List.getElem?_toArray, List.getElem?_cons_succ, List.getElem?_cons_zero]; exact rfl); rfl; rfl; exact rfl; (simp only [Act.put, List.setIfInBounds_toArray, List.set_cons_zero, List.set_cons_succ]; exact rfl); refine seg_end (by kernel_rfl) ?_) | (refine plan_guard (j := 11) (want := true) (d := 80) (o := ?_) (b := ?_) (a' := ?_) ?_ ?_ ?_ ?_ ?_ ?_ ?_; rotate_left; rotate_left; rotate_left; (simp only [List.getElem?_toArray, List.getElem?_cons_succ, List.getElem?_cons_zero]; exact rfl); rfl; rfl; exact rfl; rotate_left; (simp only [Act.put, List.setIfInBounds_toArray, List.set_cons_zero, List.set_cons_succ]; exact rfl); all_goals (first | (intro h; (try simp only [dB, reduceCtorEq] at h) <;> (try go_prune) <;> (intro NX; (repeat' (first | go_step | go_upon)); all_goals (refine seg_end (by kernel_rfl) ?_; clear NX))) | (intro h; (try simp only [dB, reduceCtorEq] at h) <;> (try go_prune) <;> (refine seg_end (by kernel_rfl) ?_)))))
                  all_goals (first | (refine plan_over (j := 11) (want := true) (d := 80) (o := ?_) (a' := ?_) ?_ ?_ ?_ ?_ ?_ ?_; rotate_left; rotate_left; (simp only [List.getElem?_toArray, List.getElem?_cons_succ, List.getElem?_cons_zero]; exact rfl); rfl; rfl; exact rfl; (simp only [Act.put, List.setIfInBounds_toArray, List.set_cons_zero, List.set_cons_succ]; exact rfl); refine seg_end (by kernel_rfl) ?_) | (refine plan_guard (j := 11) (want := true) (d := 80) (o := ?_) (b := ?_) (a' := ?_) ?_ ?_ ?_ ?_ ?_ ?_ ?_; rotate_left; rotate_left; rotate_left; (simp only [List.getElem?_toArray, List.getElem?_cons_succ, List.getElem?_cons_zero]; exact rfl); rfl; rfl; exact rfl; rotate_left; (simp only [Act.put, List.setIfInBounds_toArray, List.set_cons_zero, List.set_cons_succ]; exact rfl); all_goals (first | (intro h; (try simp only [dB, reduceCtorEq] at h) <;> (try go_prune) <;> (intro NX; (repeat' (first | go_step | go_upon)); all_goals (refine seg_end (by kernel_rfl) ?_; clear NX))) | (intro h; (try simp only [dB, reduceCtorEq] at h) <;> (try go_prune) <;> (refine seg_end (by kernel_rfl) ?_)))))
                  all_goals (first | (refine plan_over (j := 11) (want := true) (d := 80) (o := ?_) (a' := ?_) ?_ ?_ ?_ ?_ ?_ ?_; rotate_left; rotate_left; (simp only [List.getElem?_toArray, List.getElem?_cons_succ, List.getElem?_cons_zero]; exact rfl); rfl; rfl; exact rfl; (simp only [Act.put, List.setIfInBounds_toArray, List.set_cons_zero, List.set_cons_succ]; exact rfl); refine seg_end (by kernel_rfl) ?_) | (refine plan_guard (j := 11) (want := true) (d := 80) (o := ?_) (b := ?_) (a' := ?_) ?_ ?_ ?_ ?_ ?_ ?_ ?_; rotate_left; rotate_left; rotate_left; (simp only [List.getElem?_toArray, List.getElem?_cons_succ, List.getElem?_cons_zero]; exact rfl); rfl; rfl; exact rfl; rotate_left; (simp only [Act.put, List.setIfInBounds_toArray, List.set_cons_zero, List.set_cons_succ]; exact rfl); all_goals (first | (intro h; (try simp only [dB, reduceCtorEq] at h) <;> (try go_prune) <;> (intro NX; (repeat' (first | go_step | go_upon)); all_goals (refine seg_end (by kernel_rfl) ?_; clear NX))) | (intro h; (try simp only [dB, reduceCtorEq] at h) <;> (try go_prune) <;> (refine seg_end (by kernel_rfl) ?_)))))
                  all_goals (first | (refine plan_over (j := 8) (want := false) (d := 77) (o := ?_) (a' := ?_) ?_ ?_ ?_ ?_ ?_ ?_; rotate_left; rotate_left; (simp only [List.getElem?_toArray, List.getElem?_cons_succ, List.getElem?_cons_zero]; exact rfl); rfl; rfl; exact rfl; (simp only [Act.put, List.setIfInBounds_toArray, List.set_cons_zero, List.set_cons_succ]; exact rfl); refine seg_end (by kernel_rfl) ?_) | (refine plan_guard (j := 8) (want := false) (d := 77) (o := ?_) (b := ?_) (a' := ?_) ?_ ?_ ?_ ?_ ?_ ?_ ?_; rotate_left; rotate_left; rotate_left; (simp only [List.getElem?_toArray, List.getElem?_cons_succ, List.getElem?_cons_zero]; exact rfl); rfl; rfl; exact rfl; rotate_left; (simp only [Act.put, List.setIfInBounds_toArray, List.set_cons_zero, List.set_cons_succ]; exact rfl); all_goals (first | (intro h; (try simp only [dB, reduceCtorEq] at h) <;> (try go_prune) <;> (intro NX; (repeat' (first | go_step | go_upon)); all_goals (refine seg_end (by kernel_rfl) ?_; clear NX))) | (intro h; (try simp only [dB, reduceCtorEq] at h) <;> (try go_prune) <;> (refine seg_end (by kernel_rfl) ?_)))))
                  all_goals (refine plan_one (o := ?_) ?_ ?_ ?_; rotate_left; (simp only [List.getElem?_toArray, List.getElem?_cons_succ, List.getElem?_cons_zero]; exact rfl); rfl; intro NX; (repeat' (first | go_step | go_upon)); all_goals (refine seg_end (by kernel_rfl) ?_; clear NX))
                  all_goals refine plan_nil ?_
                  all_goals go_wp2
                  all_goals first
                    | (go_ret; exact ⟨ret_bool (by rw [HV2.out, HALI.out, HNOS.out (by rw [HSAS.out]; simp; omega)]; simp), HK.out.trans (Kept.drew HKB.out)⟩)
                    | (go_roundw
                       case rel => exact ⟨0 + 1, by omega, by go_num, by rw [HSNS.out, HALS.out, HSAS.out]; simp; omega, Kept.drew HKB.out⟩
                       case measure => simp [intOf]; omega)
                · obtain ⟨m, hm⟩ : ∃ m, k = m + 1 := ⟨k - 1, by omega⟩
                  have y1 : decide (0 < k) = true := by simp; omega
                  have y2 : 0 < k := by omega
                  have y4 : 0 < (k : Int) := by omega
                  have y3 : m < sgns.length := by omega
                  have e1 : IntKind.i64.wrap ((k : Int) - 1) = (m : Int) := by rw [IntWalk.i64_in _ (by omega)]; omega
                  have hkm : k - 1 = m := by omega
                  rw [hkm] at HSAS
                  have HPM := hidden (HPV.out m hm)
                  generalize (sgns.getD m default).key = z at HPM HSAS
                  clear hm hkm
                  go_wp2_with (first
                    | ((with_reducible refine load_lit aggSgn (.tmp 67) (ad.add (k * 33)) (sgnCells x) ?_ ?_ ?_ ?_ ?_); rfl; rfl; exact sgn_len HOKS.out; exact HCS.out)
                    | ((with_reducible refine store_litT aggSgn (.tmp 6) (.tmp 68) wr.heap.size (sgnCells x) 177 ?_ ?_ ?_ ?_ ?_ ?_ ?_); rfl; rfl; rfl; exact sgn_len HOKS.out; exact RSgn.good.one (RSgn.mk' (w := wr) (F := F) HOKS.out); exact ⟨_, heap_alloc_new _ _, rfl⟩; intro wb hwb hkb; have hkb' : Kept Nob wr wb := Kept.then (Kept.alloc (Kept.refl _ _) _) hkb (fun b hb h => by omega); have c60 : wb.cell? ⟨wr.heap.size, 0, none⟩ = some (.int .i64 x.key) := (blk_cell hwb 0).trans rfl; have HKB := hidden (HKS.out.trans hkb'); obtain ⟨i0, i1, i2, i38, i39, _⟩ := HBX.out wb (HKS.out.trans hkb'); have cpv := HPM.out wb hkb'; clear hwb hkb hkb'))
                  refine region_plan (.seg [0] (.seg [1] (.seg [2] (.seg [3] (.seg [4] (.seg [5] (.seg [6] (.seg [7] (.seg [8] (.seg [9] (.seg [10] (.seg [11] (.seg [12] (.seg [13] (.seg [14] (.seg [15] (.seg [16] (.seg [17] (.seg [18] (.seg [19] (.seg [20] (.seg [21] (.seg [22] (.seg [23] .nil)))))))))))))))))))))))) (by kernel_rfl) ?_
                  all_goals (refine plan_one (o := ?_) ?_ ?_ ?_; rotate_left; (simp only [List.getElem?_toArray, List.getElem?_cons_zero]; exact rfl); rfl; intro NX; (repeat' (first | go_step | go_upon)); all_goals (refine seg_end (by kernel_rfl) ?_; clear NX))
                  all_goals (refine plan_one (o := ?_) ?_ ?_ ?_; rotate_left; (simp only [List.getElem?_toArray, List.getElem?_cons_succ, List.getElem?_cons_zero]; exact rfl); rfl; intro NX; (repeat' (first | go_step | go_upon)); all_goals (refine seg_end (by kernel_rfl) ?_; clear NX))
                  all_goals (refine plan_one (o := ?_) ?_ ?_ ?_; rotate_left; (simp only [List.getElem?_toArray, List.getElem?_cons_succ, List.getElem?_cons_zero]; exact rfl); rfl; intro NX; (repeat' (first | go_step | go_upon)); all_goals (refine seg_end (by kernel_rfl) ?_; clear NX))
                  all_goals (refine plan_one (o := ?_) ?_ ?_ ?_; rotate_left; (simp only [List.getElem?_toArray, List.getElem?_cons_succ, List.getElem?_cons_zero]; exact rfl); rfl; intro NX; (repeat' (first | go_step | go_upon)); all_goals (refine seg_end (by kernel_rfl) ?_; clear NX))
                  all_goals (first | (refine plan_over (j := 3) (want := false) (d := 72) (o := ?_) (a' := ?_) ?_ ?_ ?_ ?_ ?_ ?_; rotate_left; rotate_left; (simp only [List.getElem?_toArray, List.getElem?_cons_succ, List.getElem?_cons_zero]; exact rfl); rfl; rfl; exact rfl; (simp only [Act.put, List.setIfInBounds_toArray, List.set_cons_zero, List.set_cons_succ]; exact rfl); refine seg_end (by kernel_rfl) ?_) | (refine plan_guard (j := 3) (want := false) (d := 72) (o := ?_) (b := ?_) (a' := ?_) ?_ ?_ ?_ ?_ ?_ ?_ ?_; rotate_left; rotate_left; rotate_left; (simp only [List.getElem?_toArray, List.getElem?_cons_succ, List.getElem?_cons_zero]; exact rfl); rfl; rfl; exact rfl; rotate_left; (simp only [Act.put, List.setIfInBounds_toArray, List.set_cons_zero, List.set_cons_succ]; exact rfl); all_goals (first | (intro h; (try simp only [dB, reduceCtorEq] at h) <;> (try go_prune) <;> (intro NX; (repeat' (first | go_step | go_upon)); all_goals (refine seg_end (by kernel_rfl) ?_; clear NX))) | (intro h; (try simp only [dB, reduceCtorEq] at h) <;> (try go_prune) <;> (refine seg_end (by kernel_rfl) ?_)))))
                  all_goals (first | (refine plan_over (j := 3) (want := false) (d := 72) (o := ?_) (a' := ?_) ?_ ?_ ?_ ?_ ?_ ?_; rotate_left; rotate_left; (simp only [List.getElem?_toArray, List.getElem?_cons_succ, List.getElem?_cons_zero]; exact rfl); rfl; rfl; exact rfl; (simp only [Act.put, List.setIfInBounds_toArray, List.set_cons_zero, List.set_cons_succ]; exact rfl); refine seg_end (by kernel_rfl) ?_) | (refine plan_guard (j := 3) (want := false) (d := 72) (o := ?_) (b := ?_) (a' := ?_) ?_ ?_ ?_ ?_ ?_ ?_ ?_; rotate_left; rotate_left; rotate_left; (simp only [List.getElem?_toArray, List.getElem?_cons_succ, List.getElem?_cons_zero]; exact rfl); rfl; rfl; exact rfl; rotate_left; (simp only [Act.put, List.setIfInBounds_toArray, List.set_cons_zero, List.set_cons_succ]; exact rfl); all_goals (first | (intro h; (try simp only [dB, reduceCtorEq] at h) <;> (try go_prune) <;> (intro NX; (repeat' (first | go_step | go_upon)); all_goals (refine seg_end (by kernel_rfl) ?_; clear NX))) | (intro h; (try simp only [dB, reduceCtorEq] at h) <;> (try go_prune) <;> (refine seg_end (by kernel_rfl) ?_)))))
                  all_goals (first | (refine plan_over (j := 3) (want := false) (d := 72) (o := ?_) (a' := ?_) ?_ ?_ ?_ ?_ ?_ ?_; rotate_left; rotate_left; (simp only [List.getElem?_toArray, List.getElem?_cons_succ, List.getElem?_cons_zero]; exact rfl); rfl; rfl; exact rfl; (simp only [Act.put, List.setIfInBounds_toArray, List.set_cons_zero, List.set_cons_succ]; exact rfl); refine seg_end (by kernel_rfl) ?_) | (refine plan_guard (j := 3) (want := false) (d := 72) (o := ?_) (b := ?_) (a' := ?_) ?_ ?_ ?_ ?_ ?_ ?_ ?_; rotate_left; rotate_left; rotate_left; (simp only [List.getElem?_toArray, List.getElem?_cons_succ, List.getElem?_cons_zero]; exact rfl); rfl; rfl; exact rfl; rotate_left; (simp only [Act.put, List.setIfInBounds_toArray, List.set_cons_zero, List.set_cons_succ]; exact rfl); all_goals (first | (intro h; (try simp only [dB, reduceCtorEq] at h) <;> (try go_prune) <;> (intro NX; (repeat' (first | go_step | go_upon)); all_goals (refine seg_end (by kernel_rfl) ?_; clear NX))) | (intro h; (try simp only [dB, reduceCtorEq] at h) <;> (try go_prune) <;> (refine seg_end (by kernel_rfl) ?_)))))
                  all_goals (refine plan_one (o := ?_) ?_ ?_ ?_; rotate_left; (simp only [List.getElem?_toArray, List.getElem?_cons_succ, List.getElem?_cons_zero]; exact rfl); rfl; intro NX; (repeat' (first | go_step | go_upon)); all_goals (refine seg_end (by kernel_rfl) ?_; clear NX))
                  all_goals (refine plan_one (o := ?_) ?_ ?_ ?_; rotate_left; (simp only [List.getElem?_toArray, List.getElem?_cons_succ, List.getElem?_cons_zero]; exact rfl); rfl; intro NX; (repeat' (first | go_step | go_upon)); all_goals (refine seg_end (by kernel_rfl) ?_; clear NX))
                  all_goals (first | (refine plan_over (j := 8) (want := false) (d := 77) (o := ?_) (a' := ?_) ?_ ?_ ?_ ?_ ?_ ?_; rotate_left; rotate_left; (simp only [List.getElem?_toArray, List.getElem?_cons_succ, List.getElem?_cons_zero]; exact rfl); rfl; rfl; exact rfl; (simp only [Act.put, List.setIfInBounds_toArray, List.set_cons_zero, List.set_cons_succ]; exact rfl); refine seg_end (by kernel_rfl) ?_) | (refine plan_guard (j := 8) (want := false) (d := 77) (o := ?_) (b := ?_) (a' := ?_) ?_ ?_ ?_ ?_ ?_ ?_ ?_; rotate_left; rotate_left; rotate_left; (simp only [List.getElem?_toArray, List.getElem?_cons_succ, List.getElem?_cons_zero]; exact rfl); rfl; rfl; exact rfl; rotate_left; (simp only [Act.put, List.setIfInBounds_toArray, List.set_cons_zero, List.set_cons_succ]; exact rfl); all_goals (first | (intro h; (try simp only [dB, reduceCtorEq] at h) <;> (try go_prune) <;> (intro NX; (repeat' (first | go_step | go_upon)); all_goals (refine seg_end (by kernel_rfl) ?_; clear NX))) | (intro h; (try simp only [dB, reduceCtorEq] at h) <;> (try go_prune) <;> (refine seg_end (by kernel_rfl) ?_)))))
                  all_goals (first | (refine plan_over (j := 8) (want := false) (d := 77) (o := ?_) (a' := ?_) ?_ ?_ ?_ ?_ ?_ ?_; rotate_left; rotate_left; (simp only [List.getElem?_toArray, List.getElem?_cons_succ, List.getElem?_cons_zero]; exact rfl); rfl; rfl; exact rfl; (simp only [Act.put, List.setIfInBounds_toArray, List.set_cons_zero, List.set_cons_succ]; exact rfl); refine seg_end (by kernel_rfl) ?_) | (refine plan_guard (j := 8) (want := false) (d := 77) (o := ?_) (b := ?_) (a' := ?_) ?_ ?_ ?_ ?_ ?_ ?_ ?_; rotate_left; rotate_left; rotate_left; (simp only [List.getElem?_toArray, List.getElem?_cons_succ, List.getElem?_cons_zero]; exact rfl); rfl; rfl; exact rfl; rotate_left; (simp only [Act.put, List.setIfInBounds_toArray, List.set_cons_zero, List.set_cons_succ]; exact rfl); all_goals (first | (intro h; (try simp only [dB, reduceCtorEq] at h) <;> (try go_prune) <;> (intro NX; (repeat' (first | go_step | go_upon)); all_goals (refine seg_end (by kernel_rfl) ?_; clear NX))) | (intro h; (try simp only [dB, reduceCtorEq] at h) <;> (try go_prune) <;> (refine seg_end (by kernel_rfl) ?_)))))
                  all_goals (first | (refine plan_over (j := 8) (want := false) (d := 77) (o := ?_) (a' := ?_) ?_ ?_ ?_ ?_ ?_ ?_; rotate_left; rotate_left; (simp only [List.getElem?_toArray, List.getElem?_cons_succ, List.getElem?_cons_zero]; exact rfl); rfl; rfl; exact rfl; (simp only [Act.put, List.setIfInBounds_toArray, List.set_cons_zero, List.set_cons_succ]; exact rfl); refine seg_end (by kernel_rfl) ?_) | (refine plan_guard (j := 8) (want := false) (d := 77) (o := ?_) (b := ?_) (a' := ?_) ?_ ?_ ?_ ?_ ?_ ?_ ?_; rotate_left; rotate_left; rotate_left; (simp only [List.getElem?_toArray, List.getElem?_cons_succ, List.getElem?_cons_zero]; exact rfl); rfl; rfl; exact rfl; rotate_left; (simp only [Act.put, List.setIfInBounds_toArray, List.set_cons_zero, List.set_cons_succ]; exact rfl); all_goals (first | (intro h; (try simp only [dB, reduceCtorEq] at h) <;> (try go_prune) <;> (intro NX; (repeat' (first | go_step | go_upon)); all_goals (refine seg_end (by kernel_rfl) ?_; clear NX))) | (intro h; (try simp only [dB, reduceCtorEq] at h) <;> (try go_prune) <;> (refine seg_end (by kernel_rfl) ?_)))))
                  all_goals (first | (refine plan_over (j := 11) (want := true) (d := 80) (o := ?_) (a' := ?_) ?_ ?_ ?_ ?_ ?_ ?_; rotate_left; rotate_left; (simp only [List.getElem?_toArray, List.getElem?_cons_succ, List.getElem?_cons_zero]; exact rfl); rfl; rfl; exact rfl; (simp only [Act.put, List.setIfInBounds_toArray, List.set_cons_zero, List.set_cons_succ]; exact rfl); refine seg_end (by kernel_rfl) ?_) | (refine plan_guard (j := 11) (want := true) (d := 80) (o := ?_) (b := ?_) (a' := ?_) ?_ ?_ ?_ ?_ ?_ ?_ ?_; rotate_left; rotate_left; rotate_left; (simp only [List.getElem?_toArray, List.getElem?_cons_succ, List.getElem?_cons_zero]; exact rfl); rfl; rfl; exact rfl; rotate_left; (simp only [Act.put, List.setIfInBounds_toArray, List.set_cons_zero, List.set_cons_succ]; exact rfl); all_goals (first | (intro h; (try simp only [dB, reduceCtorEq] at h) <;> (try go_prune) <;> (intro NX; (repeat' (first | go_step | go_upon)); all_goals (refine seg_end (by kernel_rfl) ?_; clear NX))) | (intro h; (try simp only [dB, reduceCtorEq] at h) <;> (try go_prune) <;> (refine seg_end (by kernel_rfl) ?_)))))
                  all_goals (first | (refine plan_over (j := 11) (want := true) (d := 80) (o := ?_) (a' := ?_) ?_ ?_ ?_ ?_ ?_ ?_; rotate_left; rotate_left; (simp only [List.getElem?_toArray, List.getElem?_cons_succ, List.getElem?_cons_zero]; exact rfl); rfl; rfl; exact rfl; (simp only [Act.put, List.setIfInBounds_toArray, List.set_cons_zero, List.set_cons_succ]; exact rfl); refine seg_end (by kernel_rfl) ?_) | (refine plan_guard (j := 11) (want := true) (d := 80) (o := ?_) (b := ?_) (a' := ?_) ?_ ?_ ?_ ?_ ?_ ?_ ?_; rotate_left; rotate_left; rotate_left; (simp only [List.getElem?_toArray, List.getElem?_cons_succ, List.getElem?_cons_zero]; exact rfl); rfl; rfl; exact rfl; rotate_left; (simp only [Act.put, List.setIfInBounds_toArray, List.set_cons_zero, List.set_cons_succ]; exact rfl); all_goals (first | (intro h; (try simp only [dB, reduceCtorEq] at h) <;> (try go_prune) <;> (intro NX; (repeat' (first | go_step | go_upon)); all_goals (refine seg_end (by kernel_rfl) ?_; clear NX))) | (intro h; (try simp only [dB, reduceCtorEq] at h) <;> (try go_prune) <;> (refine seg_end (by kernel_rfl) ?_)))))
                  all_goals (first | (refine plan_over (j := 11) (want := true) (d := 80) (o := ?_) (a' := ?_) ?_ ?_ ?_ ?_ ?_ ?_; rotate_left; rotate_left; (simp only [List.getElem?_toArray, List.getElem?_cons_succ, List.getElem?_cons_zero]; exact rfl); rfl; rfl; exact rfl; (simp only [Act.put, List.setIfInBounds_toArray, List.set_cons_zero, List.set_cons_succ]; exact rfl); refine seg_end (by kernel_rfl) ?_) | (refine plan_guard (j := 11) (want := true) (d := 80) (o := ?_) (b := ?_) (a' := ?_) ?_ ?_ ?_ ?_ ?_ ?_ ?_; rotate_left; rotate_left; rotate_left; (simp only [List.getElem?_toArray, List.getElem?_cons_succ, List.getElem?_cons_zero]; exact rfl); rfl; rfl; exact rfl; rotate_left; (simp only [Act.put, List.setIfInBounds_toArray, List.set_cons_zero, List.set_cons_succ]; exact rfl); all_goals (first | (intro h; (try simp only [dB, reduceCtorEq] at h) <;> (try go_prune) <;> (intro NX; (repeat' (first | go_step | go_upon)); all_goals (refine seg_end (by kernel_rfl) ?_; clear NX))) | (intro h; (try simp only [dB, reduceCtorEq] at h) <;> (try go_prune) <;> (refine seg_end (by kernel_rfl) ?_)))))
                  all_goals (first | (refine plan_over (j := 11) (want := true) (d := 80) (o := ?_) (a' := ?_) ?_ ?_ ?_ ?_ ?_ ?_; rotate_left; rotate_left; (simp only [List.getElem?_toArray, List.getElem?_cons_succ, List.getElem?_cons_zero]; exact rfl); rfl; rfl; exact rfl; (simp only [Act.put, List.setIfInBounds_toArray, List.set_cons_zero, List.set_cons_succ]; exact rfl); refine seg_end (by kernel_rfl) ?_) | (refine plan_guard (j := 11) (want := true) (d := 80) (o := ?_) (b := ?_) (a' := ?_) ?_ ?_ ?_ ?_ ?_ ?_ ?_; rotate_left; rotate_left; rotate_left; (simp only [List.getElem?_toArray, List.getElem?_cons_succ, List.getElem?_cons_zero]; exact rfl); rfl; rfl; exact rfl; rotate_left; (simp only [Act.put, List.setIfInBounds_toArray, List.set_cons_zero, List.set_cons_succ]; exact rfl); all_goals (first | (intro h; (try simp only [dB, reduceCtorEq] at h) <;> (try go_prune) <;> (intro NX; (repeat' (first | go_step | go_upon)); all_goals (refine seg_end (by kernel_rfl) ?_; clear NX))) | (intro h; (try simp only [dB, reduceCtorEq] at h) <;> (try go_prune) <;> (refine seg_end (by kernel_rfl) ?_)))))
                  all_goals (first | (refine plan_over (j := 11) (want := true) (d := 80) (o := ?_) (a' := ?_) ?_ ?_ ?_ ?_ ?_ ?_; rotate_left; rotate_left; (simp only [List.getElem?_toArray, List.getElem?_cons_succ, List.getElem?_cons_zero]; exact rfl); rfl; rfl; exact rfl; (simp only [Act.put, List.setIfInBounds_toArray, List.set_cons_zero, List.set_cons_succ]; exact rfl); refine seg_end (by kernel_rfl) ?_) | (refine plan_guard (j := 11) (want := true) (d := 80) (o := ?_) (b := ?_) (a' := ?_) ?_ ?_ ?_ ?_ ?_ ?_ ?_; rotate_left; rotate_left; rotate_left; (simp only [List.getElem?_toArray, List.getElem?_cons_succ, List.getElem?_cons_zero]; exact rfl); rfl; rfl; exact rfl; rotate_left; (simp only [Act.put, List.setIfInBounds_toArray, List.set_cons_zero, List.set_cons_succ]; exact rfl); all_goals (first | (intro h; (try simp only [dB, reduceCtorEq] at h) <;> (try go_prune) <;> (intro NX; (repeat' (first | go_step | go_upon)); all_goals (refine seg_end (by kernel_rfl) ?_; clear NX))) | (intro h; (try simp only [dB, reduceCtorEq] at h) <;> (try go_prune) <;> (refine seg_end (by kernel_rfl) ?_)))))
                  all_goals (first | (refine plan_over (j := 11) (want := true) (d := 80) (o := ?_) (a' := ?_) ?_ ?_ ?_ ?_ ?_ ?_; rotate_left; rotate_left; (simp only [List.getElem?_toArray, List.getElem?_cons_succ, List.getElem?_cons_zero]; exact rfl); rfl; rfl; exact rfl; (simp only [Act.put, List.setIfInBounds_toArray, List.set_cons_zero, List.set_cons_succ]; exact rfl); refine seg_end (by kernel_rfl) ?_) | (refine plan_guard (j := 11) (want := true) (d := 80) (o := ?_) (b := ?_) (a' := ?_) ?_ ?_ ?_ ?_ ?_ ?_ ?_; rotate_left; rotate_left; rotate_left; (simp only [List.getElem?_toArray, List.getElem?_cons_succ, List.getElem?_cons_zero]; exact rfl); rfl; rfl; exact rfl; rotate_left; (simp only [Act.put, List.setIfInBounds_toArray, List.set_cons_zero, List.set_cons_succ]; exact rfl); all_goals (first | (intro h; (try simp only [dB, reduceCtorEq] at h) <;> (try go_prune) <;> (intro NX; (repeat' (first | go_step | go_upon)); all_goals (refine seg_end (by kernel_rfl) ?_; clear NX))) | (intro h; (try simp only [dB, reduceCtorEq] at h) <;> (try go_prune) <;> (refine seg_end (by kernel_rfl) ?_)))))
                  all_goals (first | (refine plan_over (j := 11) (want := true) (d := 80) (o := ?_) (a' := ?_) ?_ ?_ ?_ ?_ ?_ ?_; rotate_left; rotate_left; (simp only [List.getElem?_toArray, List.getElem?_cons_succ, List.getElem?_cons_zero]; exact rfl); rfl; rfl; exact rfl; (simp only [Act.put, List.setIfInBounds_toArray, List.set_cons_zero, List.set_cons_succ]; exact rfl); refine seg_end (by kernel_rfl) ?_) | (refine plan_guard (j := 11) (want := true) (d := 80) (o := ?_) (b := ?_) (a' := ?_) ?_ ?_ ?_ ?_ ?_ ?_ ?_; rotate_left; rotate_left; rotate_left; (simp only [List.getElem?_toArray, List.getElem?_cons_succ, List.getElem?_cons_zero]; exact rfl); rfl; rfl; exact rfl; rotate_left; (simp only [Act.put, List.setIfInBounds_toArray, List.set_cons_zero, List.set_cons_succ]; exact rfl); all_goals (first | (intro h; (try simp only [dB, reduceCtorEq] at h) <;> (try go_prune) <;> (intro NX; (repeat' (first | go_step | go_upon)); all_goals (refine seg_end (by kernel_rfl) ?_; clear NX))) | (intro h; (try simp only [dB, reduceCtorEq] at h) <;> (try go_prune) <;> (refine seg_end (by kernel_rfl) ?_)))))
                  all_goals (first | (refine plan_over (j := 11) (want := true) (d := 80) (o := ?_) (a' := ?_) ?_ ?_ ?_ ?_ ?_ ?_; rotate_left; rotate_left; (simp only [List.getElem?_toArray, List.getElem?_cons_succ, List.getElem?_cons_zero]; exact rfl); rfl; rfl; exact rfl; (simp only [Act.put, List.setIfInBounds_toArray, List.set_cons_zero, List.set_cons_succ]; exact rfl); refine seg_end (by kernel_rfl) ?_) | (refine plan_guard (j := 11) (want := true) (d := 80) (o := ?_) (b := ?_) (a' := ?_) ?_ ?_ ?_ ?_ ?_ ?_ ?_; rotate_left; rotate_left; rotate_left; (simp only [List.getElem?_toArray, List.getElem?_cons_succ, List.getElem?_cons_zero]; exact rfl); rfl; rfl; exact rfl; rotate_left; (simp only [Act.put, List.setIfInBounds_toArray, List.set_cons_zero, List.set_cons_succ]; exact rfl); all_goals (first | (intro h; (try simp only [dB, reduceCtorEq] at h) <;> (try go_prune) <;> (intro NX; (repeat' (first | go_step | go_upon)); all_goals (refine seg_end (by kernel_rfl) ?_; clear NX))) | (intro h; (try simp only [dB, reduceCtorEq] at h) <;> (try go_prune) <;> (refine seg_end (by kernel_rfl) ?_)))))
                  all_goals (first | (refine plan_over (j := 11) (want := true) (d := 80) (o := ?_) (a' := ?_) ?_ ?_ ?_ ?_ ?_ ?_; rotate_left; rotate_left; (simp only [List.getElem?_toArray, List.getElem?_cons_succ, List.getElem?_cons_zero]; exact rfl); rfl; rfl; exact rfl; (simp only [Act.put, List.setIfInBounds_toArray, List.set_cons_zero, List.set_cons_succ]; exact rfl); refine seg_end (by kernel_rfl) ?_) | (refine plan_guard (j := 11) (want := true) (d := 80) (o := ?_) (b := ?_) (a' := ?_) ?_ ?_ ?_ ?_ ?_ ?_ ?_; rotate_left; rotate_left; rotate_left; (simp only [List.getElem?_toArray, List.getElem?_cons_succ, List.getElem?_cons_zero]; exact rfl); rfl; rfl; exact rfl; rotate_left; (simp only [Act.put, List.setIfInBounds_toArray, List.set_cons_zero, List.set_cons_succ]; exact rfl); all_goals (first | (intro h; (try simp only [dB, reduceCtorEq] at h) <;> (try go_prune) <;> (intro NX; (repeat' (first | go_step | go_upon)); all_goals (refine seg_end (by kernel_rfl) ?_; clear NX))) | (intro h; (try simp only [dB, reduceCtorEq] at h) <;> (try go_prune) <;> (refine seg_end (by kernel_rfl) ?_)))))
                  all_goals (first | (refine plan_over (j := 11) (want := true) (d := 80) (o := ?_) (a' := ?_) ?_ ?_ ?_ ?_ ?_ ?_; rotate_left; rotate_left; (simp only [List.getElem?_toArray, List.getElem?_cons_succ, List.getElem?_cons_zero]; exact rfl); rfl; rfl; exact rfl; (simp only [Act.put, List.setIfInBounds_toArray, List.set_cons_zero, List.set_cons_succ]; exact rfl); refine seg_end (by kernel_rfl) ?_) | (refine plan_guard (j := 11) (want := true) (d := 80) (o := ?_) (b := ?_) (a' := ?_) ?_ ?_ ?_ ?_ ?_ ?_ ?_; rotate_left; rotate_left; rotate_left; (simp only [List.getElem?_toArray, List.getElem?_cons_succ, List.getElem?_cons_zero]; exact rfl); rfl; rfl; exact rfl; rotate_left; (simp only [Act.put, List.setIfInBounds_toArray, List.set_cons_zero, List.set_cons_succ]; exact rfl); all_goals (first | (intro h; (try simp only [dB, reduceCtorEq] at h) <;> (try go_prune) <;> (intro NX; (repeat' (first | go_step | go_upon)); all_goals (refine seg_end (by kernel_rfl) ?_; clear NX))) | (intro h; (try simp only [dB, reduceCtorEq] at h) <;> (try go_prune) <;> (refine seg_end (by kernel_rfl) ?_)))))
                  all_goals (first | (refine plan_over (j := 8) (want := false) (d := 77) (o := ?_) (a' := ?_) ?_ ?_ ?_ ?_ ?_ ?_; rotate_left; rotate_left; (simp only [List.getElem?_toArray, List.getElem?_cons_succ, List.getElem?_cons_zero]; exact rfl); rfl; rfl; exact rfl; (simp only [Act.put, List.setIfInBounds_toArray, List.set_cons_zero, List.set_cons_succ]; exact rfl); refine seg_end (by kernel_rfl) ?_) | (refine plan_guard (j := 8) (want := false) (d := 77) (o := ?_) (b := ?_) (a' := ?_) ?_ ?_ ?_ ?_ ?_ ?_ ?_; rotate_left; rotate_left; rotate_left; (simp only [List.getElem?_toArray, List.getElem?_cons_succ, List.getElem?_cons_zero]; exact rfl); rfl; rfl; exact rfl; rotate_left; (simp only [Act.put, List.setIfInBounds_toArray, List.set_cons_zero, List.set_cons_succ]; exact rfl); all_goals (first | (intro h; (try simp only [dB, reduceCtorEq] at h) <;> (try go_prune) <;> (intro NX; (repeat' (first | go_step | go_upon)); all_goals (refine seg_end (by kernel_rfl) ?_; clear NX))) | (intro h; (try simp only [dB, reduceCtorEq] at h) <;> (try go_prune) <;> (refine seg_end (by kernel_rfl) ?_)))))
                  all_goals (refine plan_one (o := ?_) ?_ ?_ ?_; rotate_left; (simp only [List.getElem?_toArray, List.getElem?_cons_succ, List.getElem?_cons_zero]; exact rfl); rfl; intro NX; (repeat' (first | go_step | go_upon)); all_goals (refine seg_end (by kernel_rfl) ?_; clear NX))
                  all_goals refine plan_nil ?_
                  all_goals go_wp2
                  all_goals first
                    | (go_ret; exact ⟨ret_bool (by rw [HV2.out, HALI.out, HNOS.out (by rw [HSAS.out]; simp; omega)]; simp), HK.out.trans (Kept.drew HKB.out)⟩)
                    | (go_roundw
                       case rel => exact ⟨k + 1, by omega, by go_num, by rw [HSNS.out, HALS.out, HSAS.out]; simp; omega, Kept.drew HKB.out⟩
                       case measure => simp [intOf]; omega)
              · obtain rfl : k = sgns.length := by omega
                have HCO := hidden (contains_outs oA oc outs F wr (HT.out.outs.keep ROut.good hkp (fun _ _ h => h)))
                clear hkp
                go_wp2_with (go_at_call 115; (with_reducible refine HCO.out.mono ?_); rintro e we ⟨rfl, hke⟩; have HKE := hidden hke; clear hke; dsimp only)
                go_ret
                exact ⟨ret_bool (by rw [HV2.out, HALI.out, HALS.out]; simp), HK.out.trans (HKS.out.trans HKE.out)⟩
  · have hv : v = false := by
      rw [HV.out]
      have : (decide (ins.length ≤ 16) && decide (outs.length ≤ 16) && decide (sgns.length ≤ 16)) = false := by
        rw [Bool.eq_false_iff]; intro h; simp only [Bool.and_eq_true, decide_eq_true_eq] at h; exact hl ⟨h.1.1, h.1.2, h.2⟩
      rw [this]; simp
    have hcase : 16 < ins.length ∨ (ins.length ≤ 16 ∧ 16 < outs.length) ∨ (ins.length ≤ 16 ∧ outs.length ≤ 16 ∧ 16 < sgns.length) := by omega
    clear hl HV
    subst hv
    rcases hcase with h1 | ⟨h1, h2⟩ | ⟨h1, h2, h3⟩
    · have x1 : 16 < (ins.length : Int) := by omega
      go_enter Try.func69, Try.ntmps69
      go_wp2
      go_ret
      exact ⟨rfl, HK.out⟩
    · have x1 : ¬ (16 < (ins.length : Int)) := by omega
      have x2 : 16 < (outs.length : Int) := by omega
      go_enter Try.func69, Try.ntmps69
      go_wp2
      go_ret
      exact ⟨rfl, HK.out⟩
    · have x1 : ¬ (16 < (ins.length : Int)) := by omega
      have x2 : ¬ (16 < (outs.length : Int)) := by omega
      have x3 : 16 < (sgns.length : Int) := by omega
      go_enter Try.func69, Try.ntmps69
      go_wp2
      go_ret
      exact ⟨rfl, HK.out⟩
end Go.Proofs.Ytcghjnegaiiieaa

/- Regions that draw their order: what only reads is taken first, and need hold only as long as it may still come up. Over any program. -/
import Derived.OrdersHeld
import Derived.StillTail
import Derived.Test.YtcghjnegaiiieaaLib
namespace Go.Proofs.Ytcghjnegaiiieaa
open Go Go.RowKit

section
variable {P : Program} {ops : Array Oper} {Q : Exit → Act → World → Prop} {md : Region.Mode}

/-- Does an operation wait for another one, by way of others? -/
def ancB (md : Region.Mode) (ops : Array Oper) : Nat → Nat → Nat → Bool
  | 0, _, _ => false
  | f + 1, j, i => match ops[j]? with
    | some oj => oj.after.any fun e => Region.binds md e && (e.on == i || ancB md ops f e.on i)
    | none => false
/-- What came up has all that it waits for behind it. -/
def ClosedL (md : Region.Mode) (ops : Array Oper) (listed : Array Bool) : Prop :=
  ∀ j oj, ops[j]? = some oj → listed.getD j false = true → ∀ e ∈ oj.after, Region.binds md e = true → listed.getD e.on false = true

theorem closed_start : ClosedL md ops (Array.replicate ops.size false) := fun j oj hj hl => by
  rw [getD_replicate_false] at hl; cases hl
theorem ClosedL.set {listed : Array Bool} {i : Nat} (h : ClosedL md ops listed) (hi : i ∈ Region.ready md ops listed) : ClosedL md ops (listed.setIfInBounds i true) := fun j oj hj hl e he hb => by
  obtain ⟨_, oi, hoi, hall⟩ := mem_ready.1 hi
  by_cases hij : i = j
  · subst hij
    have : oj = oi := Option.some.inj (hj.symm.trans hoi)
    subst this
    exact getD_set_true (hall e he hb)
  · rw [getD_set_ne false hij] at hl
    exact getD_set_true (h j oj hj hl e he hb)
/-- Who waits for one that has not come up, has not come up, and may not. -/
theorem anc_listed {listed : Array Bool} (h : ClosedL md ops listed) {i : Nat} : ∀ (f j : Nat), ancB md ops f j i = true → listed.getD j false = true → listed.getD i false = true
  | 0, _, ha, _ => by simp [ancB] at ha
  | f + 1, j, ha, hl => by
    unfold ancB at ha
    split at ha
    · rename_i oj hoj
      obtain ⟨e, he, hb⟩ := Array.any_eq_true'.1 ha
      simp only [Bool.and_eq_true, Bool.or_eq_true, beq_iff_eq] at hb
      have h1 := h j oj hoj hl e he hb.1
      rcases hb.2 with h2 | h2
      · rw [← h2]; exact h1
      · exact anc_listed h f e.on h2 h1
    · cases ha
theorem anc_ready {listed : Array Bool} (h : ClosedL md ops listed) {i j : Nat} (f : Nat) (hj : j ∈ Region.ready md ops listed) (hi : listed.getD i true = false) : ancB md ops f j i = false := by
  cases f with
  | zero => rfl
  | succ f =>
    cases ha : ancB md ops (f + 1) j i with
    | false => rfl
    | true =>
      exfalso
      obtain ⟨_, oj, hoj, hall⟩ := mem_ready.1 hj
      unfold ancB at ha
      simp only [hoj] at ha
      obtain ⟨e, he, hb⟩ := Array.any_eq_true'.1 ha
      simp only [Bool.and_eq_true, Bool.or_eq_true, beq_iff_eq] at hb
      have h1 := hall e he hb.1
      have h2 := getD_both hi
      rcases hb.2 with h3 | h3
      · rw [h3, h2] at h1; cases h1
      · have := anc_listed h f e.on h3 h1
        rw [h2] at this; cases this

/-- Whatever order is picked from here on. S: what those of R need that were taken ahead of their time, as long as they may still come up. -/
def wpE (P : Program) (md : Region.Mode) (ops : Array Oper) (Q : Exit → Act → World → Prop) : Nat → (World → Prop) → List Nat → Array Bool → Act → World → Prop
  | 0, _, _, listed, a, w => Region.ready md ops listed = [] ∧ Q .normal a w
  | fuel + 1, S, R, listed, a, w =>
    (Region.ready md ops listed = [] → Q .normal a w) ∧
    ∀ i ∈ Region.ready md ops listed, wpOp P ops Q i (fun a' w' => ∃ S' : World → Prop, (R.any (fun r => !ancB md ops ops.size i r) = true → ∀ x, S' x → S x) ∧ S' w' ∧
      wpE P md ops Q fuel S' (R.filter fun r => !ancB md ops ops.size i r) (listed.setIfInBounds i true) a' w') a w

theorem wpAny_of_E : ∀ (fuel : Nat) (S : World → Prop) (R : List Nat) (listed : Array Bool) (a : Act) (w : World), wpE P md ops Q fuel S R listed a w → wpAny P md ops Q fuel listed a w
  | 0, _, _, _, _, _, h => h
  | fuel + 1, _, _, _, _, _, h => ⟨h.1, fun i hi => wpOp_mono (fun a' w' ⟨_, _, _, h'⟩ => wpAny_of_E fuel _ _ _ a' w' h') (h.2 i hi)⟩
theorem any_filter_sub {R R' : List Nat} (hs : ∀ r ∈ R, r ∈ R') {p : Nat → Bool} (h : R.any p = true) : R'.any p = true := by
  obtain ⟨r, hr, hp⟩ := List.any_eq_true.1 h
  exact List.any_eq_true.2 ⟨r, hs r hr, hp⟩
/-- Fewer of them: all the more. -/
theorem wpE_sub : ∀ (fuel : Nat) (S : World → Prop) (R R' : List Nat) (listed : Array Bool) (a : Act) (w : World), (∀ r ∈ R, r ∈ R') → wpE P md ops Q fuel S R' listed a w → wpE P md ops Q fuel S R listed a w
  | 0, _, _, _, _, _, _, _, h => h
  | fuel + 1, S, R, R', listed, a, w, hs, h => ⟨h.1, fun i hi => wpOp_mono (fun a' w' ⟨S', h1, h2, h3⟩ =>
      ⟨S', fun hany => h1 (any_filter_sub hs hany), h2, wpE_sub fuel S' _ _ _ a' w' (fun r hr => by
        simp only [List.mem_filter] at hr ⊢; exact ⟨hs r hr.1, hr.2⟩) h3⟩) (h.2 i hi)⟩
/-- What those need who were taken ahead may be said in more words. -/
theorem wpE_weaken : ∀ (fuel : Nat) (S T : World → Prop) (R : List Nat) (listed : Array Bool) (a : Act) (w : World), (∀ x, S x → T x) → wpE P md ops Q fuel S R listed a w → wpE P md ops Q fuel T R listed a w
  | 0, _, _, _, _, _, _, _, h => h
  | fuel + 1, S, T, R, listed, a, w, hs, h => ⟨h.1, fun i hi => wpOp_mono (fun a' w' ⟨S', h1, h2, h3⟩ => ⟨S', fun hany x hx => hs x (h1 hany x hx), h2, h3⟩) (h.2 i hi)⟩

/-- One that may come up now, and yields its value in every world that meets S, is taken first. -/
theorem wpE_first {i : Nat} {oi : Oper} {v : Value} (hi : ops[i]? = some oi) (hsel : ∀ (j : Nat) (o : Oper) cs b, ops[j]? = some o → o.op ≠ .select cs b)
    (hQ : ∀ c a w, Q (.panic c) (a.put oi.dst v) w → Q (.panic c) a w) :
    ∀ (fuel : Nat) (S : World → Prop) (R : List Nat) (listed : Array Bool) (a : Act) (w : World), ClosedL md ops listed →
      (∀ j oj, ops[j]? = some oj → j ≠ i → listed.getD j true = false → (∀ e ∈ oj.after, Region.binds md e = true → e.on ≠ i) → oi.apart ops oj = true) →
      i ∈ Region.ready md ops listed → YieldsIf P ops S oi v a → S w →
      wpE P md ops Q fuel S (i :: R) (listed.setIfInBounds i true) (a.put oi.dst v) w → wpE P md ops Q (fuel + 1) S R listed a w := by
  intro fuel
  induction fuel with
  | zero =>
    intro S R listed a w _ _ hr hy hS H
    refine ⟨fun h => (by rw [h] at hr; cases hr), fun j hj => ?_⟩
    by_cases hji : j = i
    · subst hji; exact hy.wpOp hi hS ⟨S, fun _ x hx => hx, hS, H⟩
    · have := ready_mono hj hji
      rw [H.1] at this
      cases this
  | succ fuel ih =>
    intro S R listed a w hcl hfree hr hy hS H
    refine ⟨fun h => (by rw [h] at hr; cases hr), fun j hj => ?_⟩
    by_cases hji : j = i
    · subst hji
      refine hy.wpOp hi hS ⟨S, fun _ x hx => hx, hS, wpE_sub _ _ _ _ _ _ _ (fun r hr => ?_) H⟩
      simp only [List.mem_filter] at hr
      exact List.mem_cons_of_mem _ hr.1
    · have h1 := H.2 j (ready_mono hj hji)
      obtain ⟨hjun, oj, hoj, hall⟩ := mem_ready.1 hj
      have hun := (mem_ready.1 hr).1
      have hanc : ancB md ops ops.size j i = false := anc_ready hcl ops.size hj hun
      have hnot : ∀ e ∈ oj.after, Region.binds md e = true → e.on ≠ i := fun e he hb heq => by
        have h1 := hall e he hb
        rw [heq, getD_both hun] at h1
        cases h1
      have h2 := wpOp_putIf hoj (hfree j oj hoj hji hjun hnot) (fun cs b => hsel i oi cs b hi) (fun cs b => hsel j oj cs b hoj) hQ hy h1
      have hfree' : ∀ k ok, ops[k]? = some ok → k ≠ i → (listed.setIfInBounds j true).getD k true = false →
          (∀ e ∈ ok.after, Region.binds md e = true → e.on ≠ i) → oi.apart ops ok = true := fun k ok hk hki hun' hno => by
        refine hfree k ok hk hki ?_ hno
        by_cases hjk : j = k
        · subst hjk; exact hjun
        · rw [getD_set_ne true hjk] at hun'; exact hun'
      refine wpOp_mono (fun a' w' h3 => ?_) h2
      obtain ⟨hy', S', h4, h5, h6⟩ := h3
      have hSS : ∀ x, S' x → S x := h4 (by simp [hanc])
      refine ⟨S', fun _ => hSS, h5, ?_⟩
      refine ih S' _ (listed.setIfInBounds j true) a' w' (hcl.set hj) hfree' (ready_mono hr (Ne.symm hji)) ?_ h5 ?_
      · rcases hy' with ⟨hw, hv⟩ | h
        · exact .inl ⟨hw, fun x hx => hv x (hSS x hx)⟩
        · exact .inr h
      · rw [Array.setIfInBounds_comm _ _ hji]
        have e : ((i :: R).filter fun r => !ancB md ops ops.size j r) = i :: (R.filter fun r => !ancB md ops ops.size j r) := by simp [hanc]
        rw [e] at h6
        exact h6

theorem wpE_firstU {i : Nat} {oi : Oper} {v : Value} (hi : ops[i]? = some oi) (hsel : ∀ (j : Nat) (o : Oper) cs b, ops[j]? = some o → o.op ≠ .select cs b)
    (hQ : ∀ c a w, Q (.panic c) (a.put oi.dst v) w → Q (.panic c) a w) :
    ∀ (fuel : Nat) (S : World → Prop) (R : List Nat) (listed : Array Bool) (a : Act) (w : World), ClosedL md ops listed →
      (∀ j oj, ops[j]? = some oj → j ≠ i → listed.getD j true = false → (∀ e ∈ oj.after, Region.binds md e = true → e.on ≠ i) → oi.apart ops oj = true) →
      i ∈ Region.ready md ops listed → YieldsIf P ops (fun _ => True) oi v a → S w →
      wpE P md ops Q fuel S R (listed.setIfInBounds i true) (a.put oi.dst v) w → wpE P md ops Q (fuel + 1) S R listed a w := by
  intro fuel
  induction fuel with
  | zero =>
    intro S R listed a w _ _ hr hy hS H
    refine ⟨fun h => (by rw [h] at hr; cases hr), fun j hj => ?_⟩
    by_cases hji : j = i
    · subst hji; exact hy.wpOp hi trivial ⟨S, fun _ x hx => hx, hS, H⟩
    · have := ready_mono hj hji
      rw [H.1] at this
      cases this
  | succ fuel ih =>
    intro S R listed a w hcl hfree hr hy hS H
    refine ⟨fun h => (by rw [h] at hr; cases hr), fun j hj => ?_⟩
    by_cases hji : j = i
    · subst hji
      refine hy.wpOp hi trivial ⟨S, fun _ x hx => hx, hS, wpE_sub _ _ _ _ _ _ _ (fun r hr => ?_) H⟩
      simp only [List.mem_filter] at hr
      exact hr.1
    · have h1 := H.2 j (ready_mono hj hji)
      obtain ⟨hjun, oj, hoj, hall⟩ := mem_ready.1 hj
      have hun := (mem_ready.1 hr).1
      have hnot : ∀ e ∈ oj.after, Region.binds md e = true → e.on ≠ i := fun e he hb heq => by
        have h1 := hall e he hb
        rw [heq, getD_both hun] at h1
        cases h1
      have h2 := wpOp_putIf hoj (hfree j oj hoj hji hjun hnot) (fun cs b => hsel i oi cs b hi) (fun cs b => hsel j oj cs b hoj) hQ hy h1
      have hfree' : ∀ k ok, ops[k]? = some ok → k ≠ i → (listed.setIfInBounds j true).getD k true = false →
          (∀ e ∈ ok.after, Region.binds md e = true → e.on ≠ i) → oi.apart ops ok = true := fun k ok hk hki hun' hno => by
        refine hfree k ok hk hki ?_ hno
        by_cases hjk : j = k
        · subst hjk; exact hjun
        · rw [getD_set_ne true hjk] at hun'; exact hun'
      refine wpOp_mono (fun a' w' h3 => ?_) h2
      obtain ⟨hy', S', h4, h5, h6⟩ := h3
      refine ⟨S', h4, h5, ?_⟩
      refine ih S' _ (listed.setIfInBounds j true) a' w' (hcl.set hj) hfree' (ready_mono hr (Ne.symm hji)) hy' h5 ?_
      rw [Array.setIfInBounds_comm _ _ hji]
      exact h6

/-! ### The moves -/
def takeB (md : Region.Mode) (ops : Array Oper) (listed : Array Bool) (i : Nat) : Bool := Region.noSelect ops && Region.free md ops listed i && (Region.ready md ops listed).contains i
/-- The goal of a walk: as 'wpE', where what came up is closed. -/
def GE (P : Program) (md : Region.Mode) (ops : Array Oper) (Q : Exit → Act → World → Prop) (fuel : Nat) (S : World → Prop) (R : List Nat) (listed : Array Bool) (a : Act) (w : World) : Prop :=
  ClosedL md ops listed → wpE P md ops Q fuel S R listed a w
theorem GE.take {i : Nat} {oi : Oper} {v : Value} {fuel : Nat} {S : World → Prop} {R : List Nat} {listed : Array Bool} {a : Act} {w : World} (hi : ops[i]? = some oi) (hB : takeB md ops listed i = true)
    (hQ : ∀ c a w, Q (.panic c) (a.put oi.dst v) w → Q (.panic c) a w) (hS : S w) (hy : YieldsIf P ops S oi v a)
    (h : GE P md ops Q fuel S (i :: R) (listed.setIfInBounds i true) (a.put oi.dst v) w) : GE P md ops Q (fuel + 1) S R listed a w := fun hcl => by
  simp only [takeB, Bool.and_eq_true] at hB
  have hr : i ∈ Region.ready md ops listed := by simpa using hB.2
  exact wpE_first hi (Region.noSelect_spec hB.1.1) hQ fuel S R listed a w hcl (Region.free_spec hi hB.1.2) hr hy hS (h (hcl.set hr))
theorem GE.univ {i : Nat} {oi : Oper} {v : Value} {fuel : Nat} {S : World → Prop} {R : List Nat} {listed : Array Bool} {a : Act} {w : World} (hi : ops[i]? = some oi) (hB : takeB md ops listed i = true)
    (hQ : ∀ c a w, Q (.panic c) (a.put oi.dst v) w → Q (.panic c) a w) (hS : S w) (hy : YieldsIf P ops (fun _ => True) oi v a)
    (h : GE P md ops Q fuel S R (listed.setIfInBounds i true) (a.put oi.dst v) w) : GE P md ops Q (fuel + 1) S R listed a w := fun hcl => by
  simp only [takeB, Bool.and_eq_true] at hB
  have hr : i ∈ Region.ready md ops listed := by simpa using hB.2
  exact wpE_firstU hi (Region.noSelect_spec hB.1.1) hQ fuel S R listed a w hcl (Region.free_spec hi hB.1.2) hr hy hS (h (hcl.set hr))

theorem GE.takeR {i : Nat} {oi : Oper} {v : Value} {fuel : Nat} {S : World → Prop} {R : List Nat} {listed : Array Bool} {a : Act} {w : World} (hi : ops[i]? = some oi) (hB : takeB md ops listed i = true)
    (hw : Region.wanted oi (yielded ops a.tmps) = true) (hQ : ∀ c a w, Q (.panic c) (a.put oi.dst v) w → Q (.panic c) a w) (hS : S w) (hy : ∀ x, S x → (execOp a.eval oi).run P x = .ok (.value v) x)
    (h : GE P md ops Q fuel S (i :: R) (listed.setIfInBounds i true) (a.put oi.dst v) w) : GE P md ops Q (fuel + 1) S R listed a w := GE.take hi hB hQ hS (.inl ⟨hw, hy⟩) h
theorem GE.univR {i : Nat} {oi : Oper} {v : Value} {fuel : Nat} {S : World → Prop} {R : List Nat} {listed : Array Bool} {a : Act} {w : World} (hi : ops[i]? = some oi) (hB : takeB md ops listed i = true)
    (hw : Region.wanted oi (yielded ops a.tmps) = true) (hQ : ∀ c a w, Q (.panic c) (a.put oi.dst v) w → Q (.panic c) a w) (hS : S w) (hy : ∀ x, (execOp a.eval oi).run P x = .ok (.value v) x)
    (h : GE P md ops Q fuel S R (listed.setIfInBounds i true) (a.put oi.dst v) w) : GE P md ops Q (fuel + 1) S R listed a w := GE.univ hi hB hQ hS (.inl ⟨hw, fun x _ => hy x⟩) h
theorem GE.skip {i : Nat} {oi : Oper} {fuel : Nat} {S : World → Prop} {R : List Nat} {listed : Array Bool} {a : Act} {w : World} (hi : ops[i]? = some oi) (hB : takeB md ops listed i = true)
    (hw : Region.wanted oi (yielded ops a.tmps) = false) (hQ : ∀ c a w, Q (.panic c) (a.put oi.dst undef) w → Q (.panic c) a w) (hS : S w)
    (h : GE P md ops Q fuel S R (listed.setIfInBounds i true) (a.put oi.dst undef) w) : GE P md ops Q (fuel + 1) S R listed a w := GE.univ hi hB hQ hS (.inr ⟨hw, rfl⟩) h

/-- What follows behind the one operation that may come up. -/
def QE (P : Program) (md : Region.Mode) (ops : Array Oper) (Q : Exit → Act → World → Prop) (fuel : Nat) (S : World → Prop) (R : List Nat) (listed : Array Bool) (i : Nat) : Exit → Act → World → Prop
  | .normal, a, w => ∃ S' : World → Prop, (R.any (fun r => !ancB md ops ops.size i r) = true → ∀ x, S' x → S x) ∧ S' w ∧ GE P md ops Q fuel S' (R.filter fun r => !ancB md ops ops.size i r) (listed.setIfInBounds i true) a w
  | e, a, w => Q e a w
theorem QE.keep {fuel : Nat} {S : World → Prop} {R : List Nat} {listed : Array Bool} {i : Nat} {a : Act} {w : World} (hS : S w)
    (h : Hid (S w) → GE P md ops Q fuel S (R.filter fun r => !ancB md ops ops.size i r) (listed.setIfInBounds i true) a w) : QE P md ops Q fuel S R listed i .normal a w := ⟨S, fun _ _ h => h, hS, h hS⟩
theorem QE.more {fuel : Nat} {S : World → Prop} {R : List Nat} {listed : Array Bool} {i : Nat} {a : Act} {w : World} (S' : World → Prop) (hSS : ∀ x, S' x → S x) (hS : S' w)
    (h : Hid (S' w) → GE P md ops Q fuel S' (R.filter fun r => !ancB md ops ops.size i r) (listed.setIfInBounds i true) a w) : QE P md ops Q fuel S R listed i .normal a w := ⟨S', fun _ => hSS, hS, h hS⟩
theorem QE.drop {fuel : Nat} {S : World → Prop} {R : List Nat} {listed : Array Bool} {i : Nat} {a : Act} {w : World} (S' : World → Prop) (hR : R.any (fun r => !ancB md ops ops.size i r) = false) (hS : S' w)
    (h : Hid (S' w) → GE P md ops Q fuel S' (R.filter fun r => !ancB md ops ops.size i r) (listed.setIfInBounds i true) a w) : QE P md ops Q fuel S R listed i .normal a w := ⟨S', fun e => absurd (hR.symm.trans e) (by decide), hS, h hS⟩

theorem Oper.wp_post {o : Oper} {a : Act} {w : World} {K : Act → World → Prop} {Q' : Exit → Act → World → Prop} (hp : ∀ c a w, Q (.panic c) a w → Q' (.panic c) a w) (hl : LetsOut Q → LetsOut Q')
    (hh : o.wp P a w K Q) : o.wp P a w K Q' := by
  unfold Oper.wp at *
  generalize (execOp a.eval o).run P w = r at *
  cases r with
  | ok n w' =>
    cases n <;> simp only [Oper.upon] at hh ⊢ <;>
      first
        | exact hh
        | exact Calls.mono hh (fun e w'' he => by cases e <;> first | exact he | exact hp _ _ _ he | exact hl he)
        | exact Rows.mono hh (fun _ _ he => he)
  | halt x w' => cases x <;> simp only [Oper.upon] at hh ⊢ <;> first | exact hp _ _ _ hh | exact hh
theorem GE.step {i : Nat} {o : Oper} {fuel : Nat} {S : World → Prop} {R : List Nat} {listed : Array Bool} {a : Act} {w : World} (hi : ops[i]? = some o) (hr : Region.ready md ops listed = [i])
    (h : wpList P ops (QE P md ops Q fuel S R listed i) [o] a w) : GE P md ops Q (fuel + 1) S R listed a w := fun hcl => by
  have hm : i ∈ Region.ready md ops listed := by rw [hr]; simp
  have hcl' := hcl.set hm
  have hlo : LetsOut (QE P md ops Q fuel S R listed i) → LetsOut Q := fun ⟨a, w, h⟩ => ⟨a, w, h⟩
  have hq : ∀ a' w', QE P md ops Q fuel S R listed i .normal a' w' → ∃ S' : World → Prop, (R.any (fun r => !ancB md ops ops.size i r) = true → ∀ x, S' x → S x) ∧ S' w' ∧
      wpE P md ops Q fuel S' (R.filter fun r => !ancB md ops ops.size i r) (listed.setIfInBounds i true) a' w' := fun a' w' ⟨S', h1, h2, h3⟩ => ⟨S', h1, h2, h3 hcl'⟩
  refine ⟨fun h0 => (by rw [h0] at hr; cases hr), fun j hj => ?_⟩
  rw [hr] at hj
  have hji : j = i := by simpa using hj
  subst hji
  unfold wpOp
  simp only [hi]
  unfold wpList at h
  split
  · rename_i hw
    simp only [hw, if_true] at h
    rcases h with h | ⟨h1, h2⟩
    · refine .inl (Oper.wp_mono (fun a' w' h' => hq a' w' h') (Oper.wp_post (fun _ _ _ h => h) hlo h))
    · exact .inr ⟨h1, hlo h2⟩
  · rename_i hw
    simp only [hw] at h
    exact hq _ _ h
/-- Any of those that may come up. -/
theorem GE.stepL {l : List Nat} {fuel : Nat} {S : World → Prop} {R : List Nat} {listed : Array Bool} {a : Act} {w : World} (hr : Region.ready md ops listed = l) (h0 : l ≠ [])
    (h : ∀ i ∈ l, ∃ o, ops[i]? = some o ∧ wpList P ops (QE P md ops Q fuel S R listed i) [o] a w) : GE P md ops Q (fuel + 1) S R listed a w := fun hcl => by
  refine ⟨fun e => absurd (hr.symm.trans e) h0, fun i hj => ?_⟩
  have hm := hj
  rw [hr] at hj
  obtain ⟨o, hi, h⟩ := h i hj
  have hcl' := hcl.set hm
  have hlo : LetsOut (QE P md ops Q fuel S R listed i) → LetsOut Q := fun ⟨a, w, h⟩ => ⟨a, w, h⟩
  have hq : ∀ a' w', QE P md ops Q fuel S R listed i .normal a' w' → ∃ S' : World → Prop, (R.any (fun r => !ancB md ops ops.size i r) = true → ∀ x, S' x → S x) ∧ S' w' ∧
      wpE P md ops Q fuel S' (R.filter fun r => !ancB md ops ops.size i r) (listed.setIfInBounds i true) a' w' := fun a' w' ⟨S', h1, h2, h3⟩ => ⟨S', h1, h2, h3 hcl'⟩
  unfold wpOp
  simp only [hi]
  unfold wpList at h
  split
  · rename_i hw
    simp only [hw, if_true] at h
    rcases h with h | ⟨h1, h2⟩
    · refine .inl (Oper.wp_mono (fun a' w' h' => hq a' w' h') (Oper.wp_post (fun _ _ _ h => h) hlo h))
    · exact .inr ⟨h1, hlo h2⟩
  · rename_i hw
    simp only [hw] at h
    exact hq _ _ h
theorem GE.fork {i j : Nat} {oi oj : Oper} {fuel : Nat} {S : World → Prop} {R : List Nat} {listed : Array Bool} {a : Act} {w : World} (hi : ops[i]? = some oi) (hj : ops[j]? = some oj) (hr : Region.ready md ops listed = [i, j])
    (h1 : wpList P ops (QE P md ops Q fuel S R listed i) [oi] a w) (h2 : wpList P ops (QE P md ops Q fuel S R listed j) [oj] a w) : GE P md ops Q (fuel + 1) S R listed a w :=
  GE.stepL hr (by simp) (fun k hk => by
    simp only [List.mem_cons, List.not_mem_nil, or_false] at hk
    rcases hk with rfl | rfl
    · exact ⟨oi, hi, h1⟩
    · exact ⟨oj, hj, h2⟩)
theorem GE.fork3 {i j k : Nat} {oi oj ok : Oper} {fuel : Nat} {S : World → Prop} {R : List Nat} {listed : Array Bool} {a : Act} {w : World} (hi : ops[i]? = some oi) (hj : ops[j]? = some oj) (hk : ops[k]? = some ok) (hr : Region.ready md ops listed = [i, j, k])
    (h1 : wpList P ops (QE P md ops Q fuel S R listed i) [oi] a w) (h2 : wpList P ops (QE P md ops Q fuel S R listed j) [oj] a w) (h3 : wpList P ops (QE P md ops Q fuel S R listed k) [ok] a w) : GE P md ops Q (fuel + 1) S R listed a w :=
  GE.stepL hr (by simp) (fun x hx => by
    simp only [List.mem_cons, List.not_mem_nil, or_false] at hx
    rcases hx with rfl | rfl | rfl
    · exact ⟨oi, hi, h1⟩
    · exact ⟨oj, hj, h2⟩
    · exact ⟨ok, hk, h3⟩)
theorem GE.done {fuel : Nat} {S : World → Prop} {R : List Nat} {listed : Array Bool} {a : Act} {w : World} (hr : Region.ready md ops listed = []) (h : Q .normal a w) : GE P md ops Q fuel S R listed a w := fun _ => by
  cases fuel with
  | zero => exact ⟨hr, h⟩
  | succ f => exact ⟨fun _ => h, by rw [hr]; simp⟩
/-- The beginning. -/
theorem region_E {id : Nat} {a : Act} {w : World} (n : Nat) (S : World → Prop) (hm : P.follows .mixedOrders = true) (hn : ops.size = n) (hS : S w.drew)
    (h : Hid (S w.drew) → GE P .any ops Q n S [] (Array.replicate n false) a w.drew) : (Code.region id ops true).wp P Q a w := by
  subst hn
  exact wp_region_any hm (wpAny_of_E _ _ _ _ _ _ (h hS closed_start))

end
end Go.Proofs.Ytcghjnegaiiieaa

/- Regions that draw their order, walked by a plan. Over any program. -/
import Derived.Test.YtcghjnegaiiieaaCalm
namespace Go.Proofs.Ytcghjnegaiiieaa
open Go Go.RowKit

/-! ### What reads -/
section
variable {P : Program}
theorem Kept.cell_old {w x : World} (h : Kept Nob w x) {a : Addr} {v : Value} (hc : w.cell? a = some v) : x.cell? a = some v := h.at hc (fun h => h)
theorem seen_old {w x : World} (h : Kept Nob w x) (p : Program) (at_ : Addr) (u : TypeId) (k : Addr) (b : Bool) (r) (hr : w.seen p at_ u k b = .ok r) : x.seen p at_ u k b = .ok r := by
  by_cases hlt : at_.block < w.heap.size
  · unfold World.seen at hr ⊢
    rw [h.block _ hlt (fun h => h)]
    exact hr
  · exfalso
    unfold World.seen at hr
    rw [Array.getElem?_eq_none (by omega)] at hr
    revert hr
    simp only [bind, Except.bind, pure, Except.pure, throw, throwThe, MonadExceptOf.throw]
    intro hr
    split at hr <;> (try cases hr)
    all_goals (repeat' (split at hr <;> (try cases hr)))
theorem far_old {w x : World} (h : Kept Nob w x) (p : Program) (a : Addr) (b : Bool) (r) (hr : w.farLoad p a b = .ok r) : x.farLoad p a b = .ok r := by
  unfold World.farLoad at hr ⊢
  by_cases hlt : a.block < w.heap.size
  · rw [h.block _ hlt (fun h => h)]
    generalize w.heap[a.block]? = o at hr ⊢
    cases o with
    | none => cases hr
    | some o =>
      cases o <;> first
        | (cases hr; done)
        | skip
      case view at_ u =>
        dsimp only at hr ⊢
        have key : ∀ q, w.viewLoad p at_ u a b = .ok q → x.viewLoad p at_ u a b = .ok q := fun q hq => by
          unfold World.viewLoad at hq ⊢
          cases hs : w.seen p at_ u a b with
          | error s => rw [hs] at hq; cases hq
          | ok q => rw [hs] at hq; rw [seen_old h p at_ u a b q hs]; exact hq
        cases hv : w.viewLoad p at_ u a b with
        | error e => rw [hv] at hr; cases hr
        | ok q => rw [hv] at hr; rw [key q hv]; exact hr
  · rw [Array.getElem?_eq_none (by omega)] at hr
    cases hr
/-- What reads: it leaves the world, and hands over the same wherever all that was there is there still. -/
def ReadsAt {α : Type} (P : Program) (w : World) (s : Sem α) : Prop := ∀ v w', s.run P w = .ok v w' → w' = w ∧ ∀ x, Kept Nob w x → s.run P x = .ok v x
theorem ReadsAt.of_steady {α : Type} {w : World} {s : Sem α} (h : Steady P s) : ReadsAt P w s := fun v w' hr => by
  rcases h with ⟨u, h⟩ | h
  · rw [h w] at hr; cases hr; exact ⟨rfl, fun x _ => h x⟩
  · obtain ⟨e, x, hx⟩ := h w
    rw [hx] at hr; cases hr
theorem ReadsAt.bind {α β : Type} {w : World} {s : Sem α} {f : α → Sem β} (h : ReadsAt P w s) (hf : ∀ v, ReadsAt P w (f v)) : ReadsAt P w (s >>= f) := fun v w' hr => by
  rw [Sem.run_bind] at hr
  cases hs : s.run P w with
  | halt e x => rw [hs] at hr; cases hr
  | ok u w1 =>
    rw [hs] at hr
    obtain ⟨rfl, h2⟩ := h u w1 hs
    obtain ⟨rfl, h3⟩ := hf u v w' hr
    exact ⟨rfl, fun x hx => by rw [Sem.run_bind, h2 x hx]; exact h3 x hx⟩
theorem reads_load (w : World) (a : Addr) : ReadsAt P w (load a) := fun v w' hr => by
  unfold load at hr ⊢
  simp only [Sem.run] at hr ⊢
  cases hc : w.cell? a with
  | some u =>
    rw [hc] at hr
    cases hr
    exact ⟨rfl, fun x hx => by rw [hx.cell_old hc]⟩
  | none =>
    rw [hc] at hr
    dsimp only at hr
    cases hf : w.farLoad P a (Mode.plain == .atomic) with
    | error e => rw [hf] at hr; cases hr
    | ok q =>
      rw [hf] at hr
      obtain ⟨q1, q2⟩ := q
      cases hr
      refine ⟨rfl, fun x hx => ?_⟩
      have hb : a.block < w.heap.size := by
        rcases Nat.lt_or_ge a.block w.heap.size with h | h
        · exact h
        · exfalso
          unfold World.farLoad at hf
          rw [Array.getElem?_eq_none h] at hf
          cases hf
      have hn : x.cell? a = none := by
        have e : x.heap[a.block]? = w.heap[a.block]? := hx.block _ hb (fun h => h)
        unfold World.cell? at hc ⊢
        rw [e]
        exact hc
      rw [hn]
      dsimp only
      rw [far_old hx P a _ _ hf]
theorem reads_cells (w : World) (a : Addr) : ∀ (n i : Nat) (acc : Array Value), ReadsAt P w (loadCellsFrom a i n acc)
  | 0, _, _ => ReadsAt.of_steady (Steady.pure _)
  | n + 1, i, acc => (reads_load w _).bind fun _ => reads_cells w a n _ _
theorem reads_loadAt (w : World) (t : TypeId) (v : Value) : ReadsAt P w (Instr.loadAt t v) := by
  unfold Instr.loadAt
  refine (ReadsAt.of_steady (Steady.sureAddr v)).bind fun a => ?_
  unfold loadVar
  refine (ReadsAt.of_steady (Steady.isAgg t)).bind fun b => ?_
  split
  · exact (ReadsAt.of_steady (Steady.sizeOf t)).bind fun n => ReadsAt.bind (reads_cells w a n 0 #[]) fun _ => ReadsAt.of_steady (Steady.pure _)
  · exact reads_load w a
def isLoad (o : Oper) : Bool := match o.op with | .load .. => true | _ => false
theorem load_reads {o : Oper} {ρ : Operand → Value} {w : World} (hl : isLoad o = true) :
    (∃ v, ∀ x, Kept Nob w x → (execOp ρ o).run P x = .ok (.value v) x) ∨ (∃ h x', (execOp ρ o).run P w = .halt h x') := by
  obtain ⟨dst, op, ty, pos, aft, gd⟩ := o
  cases op <;> first | (cases hl; done) | skip
  case load t y =>
    show (∃ v, ∀ x, Kept Nob w x → Sem.run P (Instr.loadAt t (ρ y) >>= fun v => Pure.pure (Next.value v)) x = .ok (.value v) x) ∨ (∃ h x', Sem.run P (Instr.loadAt t (ρ y) >>= fun v => Pure.pure (Next.value v)) w = .halt h x')
    cases hr : (Instr.loadAt t (ρ y)).run P w with
    | ok v w' => exact .inl ⟨v, fun x hx => by rw [Sem.run_bind, (reads_loadAt w t (ρ y) v w' hr).2 x hx]; rfl⟩
    | halt e w' => exact .inr ⟨e, w', by rw [Sem.run_bind, hr]; rfl⟩
end

/-! ### Plans -/
section
variable {P : Program} {ops : Array Oper}
/-- No other end than the normal one. -/
def noExit : Exit → Act → World → Prop := fun _ _ _ => False
def pick (ops : Array Oper) (is : List Nat) : List Oper := is.filterMap fun i => ops[i]?
/-- Behind a row of operations that compute or read: what was computed with was no address. -/
def SegEnd (l : List Oper) (next : Act → World → Prop) : Act → World → Prop := fun a w => (l.all fun o => chk o a.eval) = true ∧ next a w
/-- Behind an operation that does something: all that was there is there still, if that is asked for. -/
def EffEnd (keep : Bool) (w : World) (next : Act → World → Prop) : Act → World → Prop := fun a' w' => (keep = true → Kept Nob w w') ∧ next a' w'
inductive Plan where
  | nil
  | seg (is : List Nat) (next : Plan)
  | y (i : Nat) (next : Plan)
  | eff (i : Nat) (keep : Bool) (next : Plan)
  | fork (i j : Nat) (k1 k2 : Bool) (p q : Plan)
def wpPlan (P : Program) (ops : Array Oper) (K : Act → World → Prop) : Plan → Act → World → Prop
  | .nil, a, w => K a w
  | .seg is p, a, w => wpList P ops (Exit.then (SegEnd (pick ops is) (wpPlan P ops K p)) noExit) (pick ops is) a w
  | .y i p, a, w => ∃ o v, ops[i]? = some o ∧ YieldsIf P ops (Kept Nob w) o v a ∧ wpPlan P ops K p (a.put o.dst v) w
  | .eff i keep p, a, w => ∃ o, ops[i]? = some o ∧ wpList P ops (Exit.then (EffEnd keep w (wpPlan P ops K p)) noExit) [o] a w
  | .fork i j k1 k2 p q, a, w => (∃ o, ops[i]? = some o ∧ wpList P ops (Exit.then (EffEnd k1 w (wpPlan P ops K p)) noExit) [o] a w) ∧ (∃ o, ops[j]? = some o ∧ wpList P ops (Exit.then (EffEnd k2 w (wpPlan P ops K q)) noExit) [o] a w)
def Plan.len : Plan → Nat
  | .nil => 0
  | .seg is p => is.length + p.len
  | .y _ p => p.len + 1
  | .eff _ _ p => p.len + 1
  | .fork _ _ _ _ p _ => p.len + 1
/-- No later one writes what an earlier one's check looks at. -/
def stab : List Oper → Bool
  | [] => true
  | o :: l => (match chkTmps o with | [] => true | ts => (o :: l).all fun x => match x.dst with | some d => !ts.contains d | none => true) && stab l
/-- A row of operations that may be taken, one by one: what came up, and what has read, behind it. -/
def segOk (P : Program) (ops : Array Oper) : List Nat → Array Bool → List Nat → Option (Array Bool × List Nat)
  | [], listed, R => some (listed, R)
  | i :: is, listed, R => match ops[i]? with
    | none => none
    | some o =>
      if takeB .any ops listed i then
        if kindV P o then segOk P ops is (listed.setIfInBounds i true) R
        else if isLoad o then segOk P ops is (listed.setIfInBounds i true) (i :: R)
        else none
      else none
def planOk (P : Program) (ops : Array Oper) : Plan → Array Bool → List Nat → Bool
  | .nil, listed, _ => (Region.ready .any ops listed).isEmpty
  | .seg is p, listed, R => stab (pick ops is) && match segOk P ops is listed R with
    | some (l, r) => planOk P ops p l r
    | none => false
  | .y i p, listed, R => takeB .any ops listed i && planOk P ops p (listed.setIfInBounds i true) (i :: R)
  | .eff i keep p, listed, R => (Region.ready .any ops listed == [i]) && (keep || !(R.any fun r => !ancB .any ops ops.size i r)) && planOk P ops p (listed.setIfInBounds i true) (R.filter fun r => !ancB .any ops ops.size i r)
  | .fork i j k1 k2 p q, listed, R => (Region.ready .any ops listed == [i, j]) && (k1 || !(R.any fun r => !ancB .any ops ops.size i r)) && (k2 || !(R.any fun r => !ancB .any ops ops.size j r)) && (p.len == q.len)
    && planOk P ops p (listed.setIfInBounds i true) (R.filter fun r => !ancB .any ops ops.size i r) && planOk P ops q (listed.setIfInBounds j true) (R.filter fun r => !ancB .any ops ops.size j r)

variable {K : Act → World → Prop}
theorem letsOut_no {K : Act → World → Prop} : ¬ LetsOut (Exit.then K noExit) := fun ⟨_, _, h⟩ => h
/-- One step is reached, if a row of operations comes to its end. -/
theorem wp_reach {o : Oper} {a : Act} {w : World} {K K' : Act → World → Prop} (h : o.wp P a w K' (Exit.then K noExit)) : ∃ a' w', K' a' w' ∧ ∃ d v, a' = ({ a with defers := d } : Act).put o.dst v := by
  unfold Oper.wp at h
  generalize (execOp a.eval o).run P w = r at h
  cases r with
  | halt x w' => cases x <;> simp only [Oper.upon] at h <;> exact h.elim
  | ok n w' =>
    cases n <;> simp only [Oper.upon] at h
    case value v => exact ⟨_, _, h, a.defers, v, rfl⟩
    case skip => exact ⟨_, _, h, a.defers, undef, rfl⟩
    case defer d => exact ⟨_, _, h, d :: a.defers, undef, rfl⟩
    case enter f args =>
      obtain ⟨e, w'', fr, he, _⟩ := h []
      cases e with
      | returned v => exact ⟨_, _, he, a.defers, v, rfl⟩
      | panicked c => exact he.elim
      | outgrown => exact (letsOut_no he).elim
    case row r args =>
      obtain ⟨v, w'', he, _⟩ := h default []
      exact ⟨_, _, he, a.defers, v, rfl⟩
theorem eval_put_ne (a : Act) (dst : Option Tmp) (v : Value) (d : List Deferred) (x : Operand) (hx : ∀ t, x = .tmp t → dst ≠ some t) : (({ a with defers := d } : Act).put dst v).eval x = a.eval x := by
  cases dst with
  | none => cases x <;> rfl
  | some t =>
    cases x with
    | tmp u =>
      have hne : t ≠ u := fun e => hx u rfl (by rw [e])
      simp [Act.put, Act.eval, Array.getD_eq_getD_getElem?, Array.getElem?_setIfInBounds_ne hne]
    | const c => rfl
    | global g => rfl
    | func f => rfl
end
end Go.Proofs.Ytcghjnegaiiieaa

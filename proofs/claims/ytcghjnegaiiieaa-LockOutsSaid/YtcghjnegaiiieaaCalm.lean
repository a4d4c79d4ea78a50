/- Regions that draw their order: what only computes or reads may be walked in one order for all. Over any program. -/
import Derived.Test.YtcghjnegaiiieaaLibE
namespace Go.Proofs.Ytcghjnegaiiieaa
open Go Go.RowKit

/-! ### What computes alone -/
/-- Whatever the world, it hands over the same, and leaves the world; or it never does. -/
def Steady {α : Type} (P : Program) (s : Sem α) : Prop := (∃ v, ∀ x, s.run P x = .ok v x) ∨ (∀ x, ∃ h x', s.run P x = .halt h x')
section
variable {P : Program} {α β : Type}
theorem Steady.pure (v : α) : Steady P (Pure.pure v : Sem α) := .inl ⟨v, fun _ => rfl⟩
theorem Steady.halt (h : Halt) : Steady P (.halt h : Sem α) := .inr fun x => ⟨h, x, rfl⟩
theorem Steady.stuck (s : String) : Steady P (stuck s : Sem α) := Steady.halt _
theorem Steady.unsup (s : Unsupported) : Steady P (unsupported s : Sem α) := Steady.halt _
theorem Steady.bind {s : Sem α} {f : α → Sem β} (h : Steady P s) (hf : ∀ v, Steady P (f v)) : Steady P (s >>= f) := by
  rcases h with ⟨v, h⟩ | h
  · rcases hf v with ⟨u, hu⟩ | hu
    · exact .inl ⟨u, fun x => by rw [Sem.run_bind, h x]; exact hu x⟩
    · exact .inr fun x => by rw [Sem.run_bind, h x]; exact hu x
  · refine .inr fun x => ?_
    obtain ⟨e, x', hx⟩ := h x
    exact ⟨e, x', by rw [Sem.run_bind, hx]; rfl⟩
theorem Steady.program : Steady P program := .inl ⟨P, fun _ => rfl⟩
theorem Steady.typeInfo (t : TypeId) : Steady P (typeInfo t) := by
  unfold Go.typeInfo
  exact Steady.program.bind fun p => by split <;> first | exact Steady.pure _ | exact Steady.stuck _
theorem Steady.underlying (t : TypeId) : Steady P (underlying t) := by
  unfold Go.underlying
  exact Steady.program.bind fun p => by split <;> first | exact Steady.pure _ | exact Steady.stuck _
theorem Steady.sizeOf (t : TypeId) : Steady P (sizeOf t) := (Steady.typeInfo t).bind fun _ => Steady.pure _
theorem Steady.zeroValue (t : TypeId) : Steady P (zeroValue t) := by
  unfold Go.zeroValue
  exact (Steady.typeInfo t).bind fun p => by split <;> first | exact Steady.pure _ | exact Steady.unsup _
theorem Steady.isAgg (t : TypeId) : Steady P (isAgg t) := by
  unfold Go.isAgg
  exact (Steady.underlying t).bind fun p => by split <;> exact Steady.pure _
/-- It never hands anything over. -/
def Dead (P : Program) (s : Sem α) : Prop := ∀ x, ∃ h x', s.run P x = .halt h x'
theorem Dead.steady {s : Sem α} (h : Dead P s) : Steady P s := .inr h
theorem Dead.after {s : Sem α} {f : α → Sem β} (hf : ∀ v, Dead P (f v)) : Dead P (s >>= f) := fun x => by
  rw [Sem.run_bind]
  cases h : s.run P x with
  | ok v w => exact hf v w
  | halt e w => exact ⟨e, w, rfl⟩
theorem dead_panic (v : Value) : Dead P (goPanic v : Sem α) := fun x => ⟨_, x, rfl⟩
theorem dead_runtimePanic (e : RuntimeError) : Dead P (runtimePanic e : Sem α) := by
  unfold runtimePanic
  refine Dead.after fun p => ?_
  cases e <;> dsimp only <;> first
    | exact dead_panic _
    | exact Dead.after fun _ => Dead.after fun _ => dead_panic _
theorem dead_bounds (k : IntKind) (x y : Int) (c : BoundsCode) : Dead P (boundsPanic k x y c : Sem α) := by
  unfold boundsPanic
  dsimp only
  split
  · exact Dead.after fun _ => dead_runtimePanic _
  · exact Dead.after fun _ => dead_runtimePanic _
theorem Steady.rp (e : RuntimeError) : Steady P (runtimePanic e : Sem α) := (dead_runtimePanic e).steady
theorem Steady.bp (k : IntKind) (x y : Int) (c : BoundsCode) : Steady P (boundsPanic k x y c : Sem α) := (dead_bounds k x y c).steady
theorem Steady.ite {c : Prop} [Decidable c] {s t : Sem α} (h : Steady P s) (h' : Steady P t) : Steady P (if c then s else t) := by split <;> assumption
theorem Steady.asIntOf (v : Value) : Steady P (Go.asIntOf v) := by
  unfold Go.asIntOf
  repeat' (first | assumption | exact Steady.pure _ | exact Steady.stuck _ | exact Steady.unsup _ | exact Steady.rp _ | exact Steady.bp _ _ _ _ | exact Steady.typeInfo _ | exact Steady.underlying _ | exact Steady.sizeOf _ | exact Steady.zeroValue _ | exact Steady.isAgg _ | refine Steady.bind ?_ (fun _ => ?_) | refine Steady.ite ?_ ?_ | split | (dsimp only))
theorem Steady.asBool (v : Value) : Steady P (Go.asBool v) := by
  unfold Go.asBool
  repeat' (first | assumption | exact Steady.pure _ | exact Steady.stuck _ | exact Steady.unsup _ | exact Steady.rp _ | exact Steady.bp _ _ _ _ | exact Steady.typeInfo _ | exact Steady.underlying _ | exact Steady.sizeOf _ | exact Steady.zeroValue _ | exact Steady.isAgg _ | exact Steady.asIntOf _ | refine Steady.bind ?_ (fun _ => ?_) | refine Steady.ite ?_ ?_ | split | (dsimp only))
theorem Steady.asAgg (v : Value) : Steady P (Go.asAgg v) := by
  unfold Go.asAgg
  repeat' (first | assumption | exact Steady.pure _ | exact Steady.stuck _ | exact Steady.unsup _ | exact Steady.rp _ | exact Steady.bp _ _ _ _ | exact Steady.typeInfo _ | exact Steady.underlying _ | exact Steady.sizeOf _ | exact Steady.zeroValue _ | exact Steady.isAgg _ | exact Steady.asIntOf _ | exact Steady.asBool _ | refine Steady.bind ?_ (fun _ => ?_) | refine Steady.ite ?_ ?_ | split | (dsimp only))
theorem Steady.asAddr (v : Value) : Steady P (Go.asAddr v) := by
  unfold Go.asAddr
  repeat' (first | assumption | exact Steady.pure _ | exact Steady.stuck _ | exact Steady.unsup _ | exact Steady.rp _ | exact Steady.bp _ _ _ _ | exact Steady.typeInfo _ | exact Steady.underlying _ | exact Steady.sizeOf _ | exact Steady.zeroValue _ | exact Steady.isAgg _ | exact Steady.asIntOf _ | exact Steady.asBool _ | exact Steady.asAgg _ | refine Steady.bind ?_ (fun _ => ?_) | refine Steady.ite ?_ ?_ | split | (dsimp only))
theorem Steady.sureAddr (v : Value) : Steady P (Instr.sureAddr v) := by
  unfold Instr.sureAddr
  repeat' (first | assumption | exact Steady.pure _ | exact Steady.stuck _ | exact Steady.unsup _ | exact Steady.rp _ | exact Steady.bp _ _ _ _ | exact Steady.typeInfo _ | exact Steady.underlying _ | exact Steady.sizeOf _ | exact Steady.zeroValue _ | exact Steady.isAgg _ | exact Steady.asIntOf _ | exact Steady.asBool _ | exact Steady.asAgg _ | exact Steady.asAddr _ | refine Steady.bind ?_ (fun _ => ?_) | refine Steady.ite ?_ ?_ | split | (dsimp only))
theorem Steady.part (t : TypeId) (cs : Array Value) (off : Nat) : Steady P (Go.part t cs off) := by
  unfold Go.part
  repeat' (first | assumption | exact Steady.pure _ | exact Steady.stuck _ | exact Steady.unsup _ | exact Steady.rp _ | exact Steady.bp _ _ _ _ | exact Steady.typeInfo _ | exact Steady.underlying _ | exact Steady.sizeOf _ | exact Steady.zeroValue _ | exact Steady.isAgg _ | exact Steady.asIntOf _ | exact Steady.asBool _ | exact Steady.asAgg _ | exact Steady.asAddr _ | exact Steady.sureAddr _ | refine Steady.bind ?_ (fun _ => ?_) | refine Steady.ite ?_ ?_ | split | (dsimp only))
theorem Steady.index (t : TypeId) (x i : Value) : Steady P (Instr.index t x i) := by
  unfold Instr.index
  repeat' (first | assumption | exact Steady.pure _ | exact Steady.stuck _ | exact Steady.unsup _ | exact Steady.rp _ | exact Steady.bp _ _ _ _ | exact Steady.typeInfo _ | exact Steady.underlying _ | exact Steady.sizeOf _ | exact Steady.zeroValue _ | exact Steady.isAgg _ | exact Steady.asIntOf _ | exact Steady.asBool _ | exact Steady.asAgg _ | exact Steady.asAddr _ | exact Steady.sureAddr _ | exact Steady.part _ _ _ | refine Steady.bind ?_ (fun _ => ?_) | refine Steady.ite ?_ ?_ | split | (dsimp only))
theorem Steady.field (t : TypeId) (x : Value) (f : Nat) : Steady P (Instr.field t x f) := by
  unfold Instr.field
  repeat' (first | assumption | exact Steady.pure _ | exact Steady.stuck _ | exact Steady.unsup _ | exact Steady.rp _ | exact Steady.bp _ _ _ _ | exact Steady.typeInfo _ | exact Steady.underlying _ | exact Steady.sizeOf _ | exact Steady.zeroValue _ | exact Steady.isAgg _ | exact Steady.asIntOf _ | exact Steady.asBool _ | exact Steady.asAgg _ | exact Steady.asAddr _ | exact Steady.sureAddr _ | exact Steady.part _ _ _ | refine Steady.bind ?_ (fun _ => ?_) | refine Steady.ite ?_ ?_ | split | (dsimp only))
theorem Steady.indexAt (t : TypeId) (x i : Value) : Steady P (Instr.indexAt t x i) := by
  unfold Instr.indexAt
  repeat' (first | assumption | exact Steady.pure _ | exact Steady.stuck _ | exact Steady.unsup _ | exact Steady.rp _ | exact Steady.bp _ _ _ _ | exact Steady.typeInfo _ | exact Steady.underlying _ | exact Steady.sizeOf _ | exact Steady.zeroValue _ | exact Steady.isAgg _ | exact Steady.asIntOf _ | exact Steady.asBool _ | exact Steady.asAgg _ | exact Steady.asAddr _ | exact Steady.sureAddr _ | refine Steady.bind ?_ (fun _ => ?_) | refine Steady.ite ?_ ?_ | split | (dsimp only))
theorem Steady.sliceBound (x : Value) (y : Nat) (c : BoundsCode) : Steady P (Instr.sliceBound x y c) := by
  unfold Instr.sliceBound
  repeat' (first | assumption | exact Steady.pure _ | exact Steady.stuck _ | exact Steady.unsup _ | exact Steady.rp _ | exact Steady.bp _ _ _ _ | exact Steady.typeInfo _ | exact Steady.underlying _ | exact Steady.sizeOf _ | exact Steady.zeroValue _ | exact Steady.isAgg _ | exact Steady.asIntOf _ | exact Steady.asBool _ | exact Steady.asAgg _ | exact Steady.asAddr _ | exact Steady.sureAddr _ | refine Steady.bind ?_ (fun _ => ?_) | refine Steady.ite ?_ ?_ | split | (dsimp only))
theorem Steady.sliceBounds (b : Bool) (l c : Nat) (x y z : Option Value) : Steady P (Instr.sliceBounds b l c x y z) := by
  unfold Instr.sliceBounds
  repeat' (first | assumption | exact Steady.pure _ | exact Steady.stuck _ | exact Steady.unsup _ | exact Steady.rp _ | exact Steady.bp _ _ _ _ | exact Steady.typeInfo _ | exact Steady.underlying _ | exact Steady.sizeOf _ | exact Steady.zeroValue _ | exact Steady.isAgg _ | exact Steady.asIntOf _ | exact Steady.asBool _ | exact Steady.asAgg _ | exact Steady.asAddr _ | exact Steady.sureAddr _ | exact Steady.sliceBound _ _ _ | refine Steady.bind ?_ (fun _ => ?_) | refine Steady.ite ?_ ?_ | split | (dsimp only))
theorem Steady.slice (t : TypeId) (x : Value) (l h m : Option Value) : Steady P (Instr.slice t x l h m) := by
  unfold Instr.slice
  repeat' (first | assumption | exact Steady.pure _ | exact Steady.stuck _ | exact Steady.unsup _ | exact Steady.rp _ | exact Steady.bp _ _ _ _ | exact Steady.typeInfo _ | exact Steady.underlying _ | exact Steady.sizeOf _ | exact Steady.zeroValue _ | exact Steady.isAgg _ | exact Steady.asIntOf _ | exact Steady.asBool _ | exact Steady.asAgg _ | exact Steady.asAddr _ | exact Steady.sureAddr _ | exact Steady.sliceBounds _ _ _ _ _ _ | refine Steady.bind ?_ (fun _ => ?_) | refine Steady.ite ?_ ?_ | split | (dsimp only))
theorem Steady.sliceAt (t : TypeId) (x : Value) (l h m : Option Value) : Steady P (Instr.sliceAt t x l h m) := by
  unfold Instr.sliceAt
  repeat' (first | assumption | exact Steady.pure _ | exact Steady.stuck _ | exact Steady.unsup _ | exact Steady.rp _ | exact Steady.bp _ _ _ _ | exact Steady.typeInfo _ | exact Steady.underlying _ | exact Steady.sizeOf _ | exact Steady.zeroValue _ | exact Steady.isAgg _ | exact Steady.asIntOf _ | exact Steady.asBool _ | exact Steady.asAgg _ | exact Steady.asAddr _ | exact Steady.sureAddr _ | exact Steady.sliceBounds _ _ _ _ _ _ | exact Steady.slice _ _ _ _ _ | refine Steady.bind ?_ (fun _ => ?_) | refine Steady.ite ?_ ?_ | split | (dsimp only))
theorem Steady.extract (x : Value) (i : Nat) : Steady P (Instr.extract x i) := by
  unfold Instr.extract
  repeat' (first | assumption | exact Steady.pure _ | exact Steady.stuck _ | exact Steady.unsup _ | exact Steady.rp _ | exact Steady.bp _ _ _ _ | exact Steady.typeInfo _ | exact Steady.underlying _ | exact Steady.sizeOf _ | exact Steady.zeroValue _ | exact Steady.isAgg _ | exact Steady.asIntOf _ | exact Steady.asBool _ | exact Steady.asAgg _ | exact Steady.asAddr _ | exact Steady.sureAddr _ | refine Steady.bind ?_ (fun _ => ?_) | refine Steady.ite ?_ ?_ | split | (dsimp only))
theorem Steady.makeInterface (t : TypeId) (x : Value) : Steady P (Instr.makeInterface t x) := by
  unfold Instr.makeInterface
  repeat' (first | assumption | exact Steady.pure _ | exact Steady.stuck _ | exact Steady.unsup _ | exact Steady.rp _ | exact Steady.bp _ _ _ _ | exact Steady.typeInfo _ | exact Steady.underlying _ | exact Steady.sizeOf _ | exact Steady.zeroValue _ | exact Steady.isAgg _ | exact Steady.asIntOf _ | exact Steady.asBool _ | exact Steady.asAgg _ | exact Steady.asAddr _ | exact Steady.sureAddr _ | refine Steady.bind ?_ (fun _ => ?_) | refine Steady.ite ?_ ?_ | split | (dsimp only))
theorem Steady.mapM {f : α → Sem β} (hf : ∀ a, Steady P (f a)) (xs : Array α) : Steady P (xs.mapM f) := by
  rw [Array.mapM_eq_mapM_toList]
  refine Steady.bind ?_ fun _ => Steady.pure _
  generalize xs.toList = l
  induction l with
  | nil => rw [List.mapM_nil]; exact Steady.pure _
  | cons a l ih => rw [List.mapM_cons]; exact (hf a).bind fun _ => ih.bind fun _ => Steady.pure _
theorem Steady.places (fs : Array Field) : Steady P (fs.mapM (fun f => Go.sizeOf f.type >>= fun n => (Pure.pure (f.offset, n) : Sem (Nat × Nat)))) := Steady.mapM (fun f => (Steady.sizeOf _).bind fun _ => Steady.pure _) _
theorem Steady.build (t : TypeId) (ps : Array (Nat × Value)) : Steady P (Instr.build t ps) := by
  unfold Instr.build
  repeat' (first | assumption | exact Steady.pure _ | exact Steady.stuck _ | exact Steady.unsup _ | exact Steady.rp _ | exact Steady.bp _ _ _ _ | exact Steady.typeInfo _ | exact Steady.underlying _ | exact Steady.sizeOf _ | exact Steady.zeroValue _ | exact Steady.isAgg _ | exact Steady.asIntOf _ | exact Steady.asBool _ | exact Steady.asAgg _ | exact Steady.asAddr _ | exact Steady.sureAddr _ | exact Steady.places _ | refine Steady.bind ?_ (fun _ => ?_) | refine Steady.ite ?_ ?_ | split | (dsimp only))
/-- No address, no float, nothing of many cells. -/
def okV : Value → Bool
  | .int .. | .bool _ | .string _ | .slice .. | .pointer none | .map none | .tuple _ | .nilFunc => true
  | _ => false
theorem Steady.unary (op : UnOp) (x : Value) : Steady P (Op.unary op x) := by
  unfold Op.unary
  split <;> first
    | exact Steady.pure _
    | exact Steady.stuck _
    | exact Steady.unsup _
    | (unfold Op.intArith; exact Steady.pure _)
    | (unfold Op.intBits; exact Steady.pure _)
theorem Steady.equalIn (d : Nat) (t : TypeId) (x y : Value) (hx : okV x = true) (hy : okV y = true) : Steady P (Op.equalIn d t x y) := by
  cases d with
  | zero => unfold Op.equalIn; exact Steady.unsup _
  | succ d =>
    unfold Op.equalIn
    refine (Steady.underlying t).bind fun u => ?_
    split <;> first
      | exact Steady.pure _
      | exact Steady.stuck _
      | exact Steady.unsup _
      | exact Steady.ite (Steady.pure _) (Steady.stuck _)
      | (simp [okV] at hx; done)
      | (simp [okV] at hy; done)
      | (rename_i a b; cases a <;> cases b <;> first | (simp [okV] at hx; done) | (simp [okV] at hy; done) | (unfold samePointer; exact Steady.pure _))
theorem Steady.equal (t : TypeId) (x y : Value) (hx : okV x = true) (hy : okV y = true) : Steady P (Op.equal t x y) := Steady.equalIn _ _ _ _ hx hy
theorem Steady.intOps (op : BinOp) (k : IntKind) (a b : Int) : Steady P (Op.intArith op k a b) ∧ Steady P (Op.intDiv op k a b) ∧ Steady P (Op.intBits op k a b) ∧ Steady P (Op.intCmp op a b) := by
  refine ⟨?_, ?_, ?_, ?_⟩
  · unfold Op.intArith; split <;> first | exact Steady.pure _ | exact Steady.stuck _
  · unfold Op.intDiv; refine Steady.ite (Steady.rp _) ?_; split <;> first | exact Steady.pure _ | exact Steady.stuck _
  · unfold Op.intBits; dsimp only; split <;> first | exact Steady.pure _ | exact Steady.stuck _
  · unfold Op.intCmp; split <;> first | exact Steady.pure _ | exact Steady.stuck _
theorem Steady.shift (op : BinOp) (k yk : IntKind) (a b : Int) : Steady P (Op.shift op k a yk b) := by
  unfold Op.shift
  refine Steady.ite (Steady.rp _) ?_
  dsimp only
  split <;> first | exact Steady.pure _ | exact Steady.stuck _
theorem Steady.stringOp (op : BinOp) (a b : ByteArray) : Steady P (Op.stringOp op a b) := by
  unfold Op.stringOp
  dsimp only
  split <;> first | exact Steady.pure _ | exact Steady.stuck _ | exact Steady.ite (Steady.unsup _) (Steady.pure _)
theorem Steady.ints (op : BinOp) (t : TypeId) (k k' : IntKind) (a b : Int) : Steady P (Go.binOp op t (.int k a) (.int k' b)) := by
  by_cases h : k = k'
  · subst h
    cases op <;> simp only [Go.binOp, ne_eq, not_true_eq_false, if_false] <;> first
      | exact Steady.shift _ _ _ _ _
      | exact (Steady.intOps _ _ _ _).1
      | exact (Steady.intOps _ _ _ _).2.1
      | exact (Steady.intOps _ _ _ _).2.2.1
      | exact (Steady.intOps _ .i64 _ _).2.2.2
  · cases op <;> simp only [Go.binOp, ne_eq, h, not_false_eq_true, if_true] <;> first
      | exact Steady.shift _ _ _ _ _
      | exact Steady.stuck _
/-- What a binary operation may look at, so that it computes alone. -/
def okB (op : BinOp) (x y : Value) : Bool := okV x && okV y && (match op with | .eql | .neq => true | _ => (match x with | .pointer _ => false | _ => true) && (match y with | .pointer _ => false | _ => true))
theorem Steady.binOp (op : BinOp) (t : TypeId) (x y : Value) (h : okB op x y = true) : Steady P (Go.binOp op t x y) := by
  simp only [okB, Bool.and_eq_true] at h
  obtain ⟨⟨hx, hy⟩, hp⟩ := h
  by_cases hi : ∃ k a k' b, x = .int k a ∧ y = .int k' b
  · obtain ⟨k, a, k', b, rfl, rfl⟩ := hi
    exact Steady.ints _ _ _ _ _ _
  unfold Go.binOp
  split <;> first
    | exact absurd ⟨_, _, _, _, rfl, rfl⟩ hi
    | exact Steady.stringOp _ _ _
    | exact (Steady.equal _ _ _ hx hy).bind fun _ => Steady.pure _
    | exact Steady.stuck _
    | exact Steady.unsup _
    | (simp [okV] at hx; done)
    | (simp [okV] at hy; done)
    | (simp at hp; done)
theorem Steady.eqGuard (op : BinOp) (t : TypeId) (x y : Operand) (a b : Value) (ha : okV a = true) : Steady P (eqGuard op t x y a b) := by
  unfold Go.eqGuard
  refine Steady.ite (Steady.pure _) ?_
  split <;> first
    | exact Steady.pure _
    | (simp [okV] at ha; done)
theorem Steady.known {s : Sem α} {f : α → Sem β} {v : α} (h : ∀ x, s.run P x = .ok v x) (hf : Steady P (f v)) : Steady P (s >>= f) := by
  rcases hf with ⟨u, hu⟩ | hu
  · exact .inl ⟨u, fun x => by rw [Sem.run_bind, h x]; exact hu x⟩
  · exact .inr fun x => by rw [Sem.run_bind, h x]; exact hu x
theorem Steady.convert (s t : TypeId) (k k' : IntKind) (n : Int) (ht : P.underlying t = some (.int k')) : Steady P (Go.convert s t (.int k n)) := by
  unfold Go.convert
  refine (Steady.underlying s).bind fun a => Steady.known (fun x => run_underlying ht x) ?_
  split <;> first
    | (unfold Conv.intToInt; exact Steady.pure _)
    | (rename_i h; cases h; done)
    | exact Steady.unsup _
    | (rename_i h _; cases h; done)
    | (rename_i h _ _; cases h; done)
theorem Steady.fieldAt (s : TypeId) (x : Value) (f : Nat) (fs : Array Field) (fd : Field) (i : TypeInfo) (hs : P.underlying s = some (.struct fs)) (hf : fs[f]? = some fd) (hi : P.info? fd.type = some i) (h0 : i.size ≠ 0) : Steady P (Instr.fieldAt s x f) := by
  unfold Instr.fieldAt
  refine Steady.known (fun x => run_underlying hs x) ?_
  dsimp only
  rw [hf]
  refine (Steady.sureAddr x).bind fun a => Steady.bind ?_ fun _ => Steady.pure _
  unfold fieldPlace
  refine Steady.known (v := i.size) (fun x => by rw [Go.sizeOf, Sem.run_bind, Go.typeInfo, Sem.run_bind]; show Result.andThen (Result.andThen (Result.ok P x) _) _ = _; simp only [Result.andThen_ok, hi]; rfl) ?_
  rw [if_neg h0]
  exact Steady.pure _
theorem Steady.lenOf (t : TypeId) (ty : TypeId) (x : Value) (h : okV x = true) : Steady P (Builtin.len_ #[t] ty #[x]) := by
  have hm : ∀ r, x ≠ .map (some r) := by rintro r rfl; simp [okV] at h
  have hc : ∀ r, x ≠ .chan r := by rintro r rfl; simp [okV] at h
  unfold Builtin.len_
  refine (Steady.underlying t).bind fun d => ?_
  split <;> first
    | exact Steady.pure _
    | exact Steady.stuck _
    | (exfalso; simp_all [okV]; done)
    | (refine (Steady.underlying _).bind fun _ => ?_; split <;> first | exact Steady.pure _ | exact Steady.stuck _)
theorem Steady.max2 (x y : Value) (hx : okV x = true) : Steady P (Builtin.max2 x y) := by
  unfold Builtin.max2
  split <;> first
    | exact Steady.pure _
    | exact Steady.stuck _
    | exact Steady.unsup _
    | (simp [okV] at hx; done)
    | (refine ((Steady.stringOp _ _ _).bind fun _ => Steady.asBool _).bind fun _ => Steady.pure _)
theorem Steady.min2 (x y : Value) (hx : okV x = true) : Steady P (Builtin.min2 x y) := by
  unfold Builtin.min2
  split <;> first
    | exact Steady.pure _
    | exact Steady.stuck _
    | exact Steady.unsup _
    | (simp [okV] at hx; done)
    | (refine ((Steady.stringOp _ _ _).bind fun _ => Steady.asBool _).bind fun _ => Steady.pure _)

/-! ### Operations that compute alone -/
def okE (ρ : Operand → Value) (x : Operand) : Bool := okV (ρ x)
/-- What an operation must find in its operands, so that it computes alone. -/
def chk (o : Oper) (ρ : Operand → Value) : Bool :=
  match o.op with
  | .binOp op _ x y _ => okB op (ρ x) (ρ y)
  | .convert _ _ x => match ρ x with | .int .. => true | _ => false
  | .call { callee := .builtin _, args, .. } => args.all fun x => okV (ρ x)
  | .nilCheck x => match ρ x with | .func .. => false | _ => true
  | _ => true
/-- What it looks at for that. -/
def chkTmps (o : Oper) : List Tmp :=
  match o.op with
  | .binOp .. | .convert .. | .call _ | .nilCheck _ => o.op.operands.toList.filterMap fun | .tmp t => some t | _ => none
  | _ => []
/-- An operation that computes alone, if its operands are as 'chk' has them. -/
def kindV (P : Program) (o : Oper) : Bool :=
  match o.op with
  | .move _ | .assign _ | .pick .. | .unOp .. | .binOp .. | .build .. | .field .. | .extract .. | .index .. | .indexAddr .. | .slice .. | .makeInterface .. | .makeFunc .. => true
  | .convert _ t _ => match P.underlying t with | some (.int _) => true | _ => false
  | .fieldAddr s _ f => match P.underlying s with
    | some (.struct fs) => match fs[f]? with
      | some fd => match P.info? fd.type with
        | some i => i.size != 0
        | none => false
      | none => false
    | _ => false
  | .nilCheck x => true
  | .call { callee := .builtin .len, args, argTypes } => args.size == 1 && argTypes.size == 1
  | .call { callee := .builtin .max, args, .. } | .call { callee := .builtin .min, args, .. } => args.size == 2
  | _ => false
/-- As an operation hands it over. -/
def SteadyV (P : Program) (n : Sem Next) : Prop := (∃ v, ∀ x, n.run P x = .ok (.value v) x) ∨ (∀ x, ∃ h x', n.run P x = .halt h x')
theorem Steady.v {s : Sem Value} (h : Steady P s) : SteadyV P (do Pure.pure (Next.value (← s))) := by
  rcases h with ⟨v, h⟩ | h
  · exact .inl ⟨v, fun x => by rw [Sem.run_bind, h x]; rfl⟩
  · refine .inr fun x => ?_
    obtain ⟨e, x', hx⟩ := h x
    exact ⟨e, x', by rw [Sem.run_bind, hx]; rfl⟩
theorem Steady.consider {s : Sem Unit} {f : Sem Value} (h : Steady P s) (hf : Steady P f) : Steady P (do s; f) := h.bind fun _ => hf
theorem SteadyV.congr {s t : Sem Next} (h : SteadyV P t) (e : ∀ w, s.run P w = t.run P w) : SteadyV P s := by
  rcases h with ⟨v, h⟩ | h
  · exact .inl ⟨v, fun x => (e x).trans (h x)⟩
  · refine .inr fun x => ?_
    obtain ⟨a, x', hx⟩ := h x
    exact ⟨a, x', (e x).trans hx⟩
theorem kindV_steady {o : Oper} {ρ : Operand → Value} (hk : kindV P o = true) (hc : chk o ρ = true) : SteadyV P (execOp ρ o) := by
  obtain ⟨dst, op, ty, pos, aft, gd⟩ := o
  cases op <;> dsimp only [kindV, chk] at hk hc <;> first
    | (cases hk; done)
    | skip
  case move => exact (Steady.pure _).v
  case assign => exact (Steady.pure _).v
  case pick c x y =>
    rcases Steady.asBool (P := P) (ρ c) with ⟨b, h⟩ | h
    · exact .inl ⟨_, fun w => by show Sem.run P (asBool (ρ c) >>= fun b => Pure.pure (Next.value (if b = true then ρ x else ρ y))) w = _; rw [Sem.run_bind, h w]; rfl⟩
    · refine .inr fun w => ?_
      obtain ⟨e, w', hw⟩ := h w
      exact ⟨e, w', by show Sem.run P (asBool (ρ c) >>= fun b => Pure.pure (Next.value (if b = true then ρ x else ρ y))) w = _; rw [Sem.run_bind, hw]; rfl⟩
  case build => exact (Steady.build _ _).v
  case nilCheck x =>
    have hd : SteadyV P (runtimePanic .nilDeref : Sem Next) := .inr (dead_runtimePanic (P := P) (α := Next) .nilDeref)
    unfold execOp
    dsimp only
    generalize ρ x = v at hc ⊢
    split at hc
    · cases hc
    · split <;> first
        | exact hd
        | exact (Steady.pure _).v
        | (rename_i h; exact absurd rfl (h _ _ _))
  case binOp => exact (Steady.consider (Steady.eqGuard _ _ _ _ _ _ (by simp only [okB, Bool.and_eq_true] at hc; exact hc.1.1)) (Steady.binOp _ _ _ _ hc)).v
  case unOp => exact (Steady.unary _ _).v
  case convert =>
    split at hk
    · rename_i h
      split at hc
      · rename_i h2
        unfold execOp
        dsimp only
        rw [h2]
        exact (Steady.convert _ _ _ _ _ h).v
      · cases hc
    · cases hk
  case makeInterface => exact (Steady.makeInterface _ _).v
  case makeFunc => exact (Steady.pure _).v
  case slice => exact (Steady.sliceAt _ _ _ _ _).v
  case fieldAddr =>
    split at hk
    · rename_i h1
      split at hk
      · rename_i h2
        split at hk
        · rename_i h3
          exact (Steady.fieldAt _ _ _ _ _ _ h1 h2 h3 (by simpa using hk)).v
        · cases hk
      · cases hk
    · cases hk
  case field => exact (Steady.field _ _ _).v
  case indexAddr => exact (Steady.indexAt _ _ _).v
  case index => exact (Steady.index _ _ _).v
  case extract => exact (Steady.extract _ _).v
  case call c =>
    obtain ⟨callee, args, ats⟩ := c
    cases callee with
    | value f => cases hk
    | invoke r m => cases hk
    | builtin b =>
      cases b <;> dsimp only at hk hc <;> first
        | (cases hk; done)
        | skip
      case len =>
        simp only [Bool.and_eq_true, beq_iff_eq] at hk
        obtain ⟨x, rfl⟩ : ∃ x, args = #[x] := Array.size_eq_one_iff.1 hk.1
        obtain ⟨t, rfl⟩ : ∃ x, ats = #[x] := Array.size_eq_one_iff.1 hk.2
        exact (Steady.lenOf t ty (ρ x) (by simpa using hc)).v.congr (fun w => by simp only [execOp, resolve, invoke, builtin, Sem.run_bind, Sem.run_pure, Result.andThen_ok, List.map_toArray, List.map_cons, List.map_nil])
      case max =>
        obtain ⟨x, y, rfl⟩ : ∃ x y, args = #[x, y] := by
          have h2 : args.size = 2 := by simpa using hk
          match args, h2 with
          | ⟨[x, y]⟩, _ => exact ⟨x, y, rfl⟩
        simp at hc
        refine (Steady.v (s := Builtin.max_ ats ty #[ρ x, ρ y]) ?_).congr (fun w => by simp only [execOp, resolve, invoke, builtin, Sem.run_bind, Sem.run_pure, Result.andThen_ok, List.map_toArray, List.map_cons, List.map_nil])
        show Steady P ([ρ y].foldlM Builtin.max2 (ρ x))
        rw [List.foldlM_cons]
        exact (Steady.max2 _ _ hc.1).bind fun _ => Steady.pure _
      case min =>
        obtain ⟨x, y, rfl⟩ : ∃ x y, args = #[x, y] := by
          have h2 : args.size = 2 := by simpa using hk
          match args, h2 with
          | ⟨[x, y]⟩, _ => exact ⟨x, y, rfl⟩
        simp at hc
        refine (Steady.v (s := Builtin.min_ ats ty #[ρ x, ρ y]) ?_).congr (fun w => by simp only [execOp, resolve, invoke, builtin, Sem.run_bind, Sem.run_pure, Result.andThen_ok, List.map_toArray, List.map_cons, List.map_nil])
        show Steady P ([ρ y].foldlM Builtin.min2 (ρ x))
        rw [List.foldlM_cons]
        exact (Steady.min2 _ _ hc.1).bind fun _ => Steady.pure _
end
end Go.Proofs.Ytcghjnegaiiieaa

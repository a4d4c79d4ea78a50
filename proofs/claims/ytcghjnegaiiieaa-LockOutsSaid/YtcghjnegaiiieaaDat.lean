/- Data that lie in cells, with the blocks that they may lie in: what stays, what is read. Over any program. -/
import Derived.Deep.Slices
import Derived.Lib.SmallJoins
import Derived.OpenShut
import Derived.Laws.Rows
import Derived.Laws.StructEq
import Derived.Test.YtcghjnegaiiieaaLibRow
namespace Go.Proofs.Ytcghjnegaiiieaa
open Go.ChangeShapes Go.WideShapes Go.ChangeAt Go.RowKit

/-- Between cells and what they stand for; the second argument: blocks that they may lead to. -/
abbrev Rl (α : Type) := World → (Nat → Prop) → List Value → α → Prop
structure Good {α : Type} (R : Rl α) (n : Nat) : Prop where
  len : ∀ {w F cs a}, R w F cs a → cs.length = n
  keep : ∀ {w w' F S cs a}, R w F cs a → Kept S w w' → (∀ b, F b → ¬ S b) → R w' F cs a
  mono : ∀ {w F F' cs a}, R w F cs a → (∀ b, F b → F' b) → R w F' cs a
  one : ∀ {w F cs a}, R w F cs a → ∀ u ∈ cs, u.oneCell' = true

def RInt (k : IntKind) : Rl Int := fun _ _ cs n => cs = [.int k n] ∧ (Lit.int k n).wf = true
def RBool : Rl Bool := fun _ _ cs b => cs = [.bool b]
def RArr (k : IntKind) (n : Nat) : Rl (List Int) := fun _ _ cs s => cs = nums k s ∧ s.length = n ∧ ∀ x ∈ s, (Lit.int k x).wf = true
/-- The elements of a slice. -/
def Elems {α : Type} (R : Rl α) (size : Nat) (w : World) (F : Nat → Prop) (A : Option Addr) (xs : List α) : Prop :=
  ∀ i (h : i < xs.length), ∃ ad, A = some ad ∧ F ad.block ∧ ∃ es, es.length = size ∧ (∀ j u, es[j]? = some u → w.cell? ((ad.add (i * size)).add j) = some u) ∧ R w F es (xs[i]'h)
def RSl {α : Type} (R : Rl α) (size : Nat) : Rl (List α) := fun w F cs xs => ∃ A c, cs = [.slice A xs.length c] ∧ xs.length ≤ c ∧ c ≤ maxLen ∧ (A = none → xs = [] ∧ c = 0) ∧ Elems R size w F A xs
def RNil : Rl Unit := fun _ _ cs _ => cs = []
def RCons {α β : Type} (R : Rl α) (n : Nat) (S : Rl β) : Rl (α × β) := fun w F cs p => ∃ c d, cs = c ++ d ∧ c.length = n ∧ R w F c p.1 ∧ S w F d p.2
/-- Of a thing whose parts these are. -/
def RBy {α β : Type} (R : Rl α) (g : β → α) : Rl β := fun w F cs b => R w F cs (g b)

theorem RInt.good (k : IntKind) : Good (RInt k) 1 := ⟨fun h => by rw [h.1]; rfl, fun h _ _ => h, fun h _ => h, fun h u hu => by rw [h.1] at hu; simp at hu; subst hu; rfl⟩
theorem RBool.good : Good RBool 1 := ⟨fun h => by cases h; rfl, fun h _ _ => h, fun h _ => h, fun h u hu => by cases h; simp at hu; subst hu; rfl⟩
theorem RArr.good (k : IntKind) (n : Nat) : Good (RArr k n) n := ⟨fun h => by rw [h.1, nums_length, h.2.1], fun h _ _ => h, fun h _ => h, fun h u hu => by rw [h.1] at hu; exact nums_oneC _ _ u hu⟩
theorem RNil.good : Good RNil 0 := ⟨fun h => by cases h; rfl, fun h _ _ => h, fun h _ => h, fun h u hu => by cases h; simp at hu⟩
theorem RCons.good {α β : Type} {R : Rl α} {n m : Nat} {S : Rl β} (hR : Good R n) (hS : Good S m) : Good (RCons R n S) (n + m) :=
  ⟨fun ⟨c, d, e, hl, _, h2⟩ => by rw [e, List.length_append, hl, hS.len h2], fun ⟨c, d, e, hl, h1, h2⟩ hk hf => ⟨c, d, e, hl, hR.keep h1 hk hf, hS.keep h2 hk hf⟩,
   fun ⟨c, d, e, hl, h1, h2⟩ hf => ⟨c, d, e, hl, hR.mono h1 hf, hS.mono h2 hf⟩, fun ⟨c, d, e, _, h1, h2⟩ u hu => by
    rw [e, List.mem_append] at hu
    exact hu.elim (hR.one h1 u) (hS.one h2 u)⟩
theorem RBy.good {α β : Type} {R : Rl α} {n : Nat} (hR : Good R n) (g : β → α) : Good (RBy R g) n := ⟨hR.len, hR.keep, hR.mono, hR.one⟩
theorem cell_block {w : World} {ad : Addr} {j : Nat} {u : Value} (h : w.cell? (ad.add j) = some u) : ad.block < w.heap.size := by
  have := World.block_lt_of_cell? w _ h
  rwa [show (ad.add j).block = ad.block from by unfold Addr.add; split <;> rfl] at this
theorem add_block (a : Addr) (n : Nat) : (a.add n).block = a.block := by unfold Addr.add; split <;> rfl
theorem Elems.keep {α : Type} {R : Rl α} {size : Nat} (hR : Good R size) {w w' : World} {F S : Nat → Prop} {A : Option Addr} {xs : List α} (h : Elems R size w F A xs) (hk : Kept S w w') (hf : ∀ b, F b → ¬ S b) : Elems R size w' F A xs := fun i hi => by
  obtain ⟨ad, e, hb, es, hl, hc, hr⟩ := h i hi
  exact ⟨ad, e, hb, es, hl, fun j u hj => hk.at (hc j u hj) (by rw [add_block, add_block]; exact hf _ hb), hR.keep hr hk hf⟩
theorem Elems.mono {α : Type} {R : Rl α} {size : Nat} (hR : Good R size) {w : World} {F F' : Nat → Prop} {A : Option Addr} {xs : List α} (h : Elems R size w F A xs) (hf : ∀ b, F b → F' b) : Elems R size w F' A xs := fun i hi => by
  obtain ⟨ad, e, hb, es, hl, hc, hr⟩ := h i hi
  exact ⟨ad, e, hf _ hb, es, hl, hc, hR.mono hr hf⟩
theorem RSl.good {α : Type} {R : Rl α} {size : Nat} (hR : Good R size) : Good (RSl R size) 1 :=
  ⟨fun ⟨_, _, e, _⟩ => by rw [e]; rfl, fun ⟨A, c, e, h1, h2, h3, h4⟩ hk hf => ⟨A, c, e, h1, h2, h3, h4.keep hR hk hf⟩, fun ⟨A, c, e, h1, h2, h3, h4⟩ hf => ⟨A, c, e, h1, h2, h3, h4.mono hR hf⟩,
   fun ⟨_, _, e, _⟩ u hu => by rw [e] at hu; simp at hu; subst hu; rfl⟩

/-- A slice of whole numbers. -/
structure Ints (w : World) (F : Nat → Prop) (k : IntKind) (A : Option Addr) (c : Nat) (xs : List Int) : Prop where
  rd : RdInts w k A xs
  inF : ∀ ad, A = some ad → 0 < xs.length → F ad.block
  le : xs.length ≤ c
  max : c ≤ maxLen
  nil : A = none → xs = [] ∧ c = 0
  wf : ∀ x ∈ xs, (Lit.int k x).wf = true
theorem RSl.ints {w : World} {F : Nat → Prop} {k : IntKind} {cs : List Value} {xs : List Int} (h : RSl (RInt k) 1 w F cs xs) : ∃ A c, cs = [.slice A xs.length c] ∧ Ints w F k A c xs := by
  obtain ⟨A, c, e, h1, h2, h3, h4⟩ := h
  refine ⟨A, c, e, fun i hi => ?_, fun ad ea hp => ?_, h1, h2, h3, fun x hx => ?_⟩
  · obtain ⟨ad, ea, _, es, _, hc, he, _⟩ := h4 i hi
    refine ⟨ad, ea, ?_⟩
    have := hc 0 (.int k xs[i]) (by rw [he]; rfl)
    rw [Nat.mul_one, show ((ad.add i).add 0) = ad.add i from rfl] at this
    rw [this]; simp [List.getD_eq_getElem?_getD, hi]
  · obtain ⟨ad', ea', hb, _⟩ := h4 0 hp
    rw [ea] at ea'
    obtain rfl := Option.some.inj ea'
    exact hb
  · obtain ⟨i, hi, rfl⟩ := List.getElem_of_mem hx
    obtain ⟨_, _, _, _, _, _, _, hw⟩ := h4 i hi
    exact hw
theorem Ints.sl {w : World} {F : Nat → Prop} {k : IntKind} {A : Option Addr} {c : Nat} {xs : List Int} (h : Ints w F k A c xs) : RSl (RInt k) 1 w F [.slice A xs.length c] xs := by
  refine ⟨A, c, rfl, h.le, h.max, h.nil, fun i hi => ?_⟩
  obtain ⟨ad, e, hc⟩ := h.rd i hi
  refine ⟨ad, e, h.inF ad e (by omega), [.int k xs[i]], rfl, fun j u hj => ?_, rfl, h.wf _ (List.getElem_mem hi)⟩
  cases j with
  | zero =>
    simp at hj
    subst hj
    rw [Nat.mul_one, show ((ad.add i).add 0) = ad.add i from rfl, hc]
    simp [List.getD_eq_getElem?_getD, hi]
  | succ j => simp at hj
theorem Ints.keep {w w' : World} {F S : Nat → Prop} {k : IntKind} {A : Option Addr} {c : Nat} {xs : List Int} (h : Ints w F k A c xs) (hk : Kept S w w') (hf : ∀ b, F b → ¬ S b) : Ints w' F k A c xs :=
  { h with rd := h.rd.keptP hk (fun ad e hp => hf _ (h.inF ad e hp)) }
theorem Ints.mono {w : World} {F F' : Nat → Prop} {k : IntKind} {A : Option Addr} {c : Nat} {xs : List Int} (h : Ints w F k A c xs) (hf : ∀ b, F b → F' b) : Ints w F' k A c xs :=
  { h with inF := fun ad e hp => hf _ (h.inF ad e hp) }

/-! ### What arguments read as -/
def Old (W : World) : Nat → Prop := fun b => b < W.heap.size
def Got (P : Program) (T : TypeId) {α : Type} (R : Rl α) : Prop :=
  ∀ (H : Type) (enc : TypeId × Value → H) (W : World) (m : Nat) (cs : List Value) (x : DataW H × List MemPlace), DataW.trod enc P W 0 (fun _ => true) true m T cs = some x → ∃ a, R W (Old W) cs a
theorem list_of {α : Type} {p : Nat → α → Prop} : ∀ (n : Nat), (∀ i, i < n → ∃ a, p i a) → ∃ xs : List α, xs.length = n ∧ ∀ i (h : i < xs.length), p i (xs[i]'h)
  | 0, _ => ⟨[], rfl, fun i h => by simp at h⟩
  | n + 1, h => by
    obtain ⟨xs, hl, hx⟩ := list_of n (fun i hi => h i (by omega))
    obtain ⟨a, ha⟩ := h n (by omega)
    refine ⟨xs ++ [a], by simp [hl], fun i hi => ?_⟩
    rw [List.getElem_append]
    split
    · exact hx i _
    · rename_i h1
      simp at hi
      have : i = n := by omega
      subst this
      simpa using ha
theorem got_int {P : Program} {T : TypeId} {k : IntKind} (h : P.underlying T = some (.int k)) : Got P T (RInt k) := fun _ _ _ _ _ _ hx => by
  obtain ⟨n, e, _, hw⟩ := DataW.trod_int h hx
  exact ⟨n, e, hw⟩
theorem got_bool {P : Program} {T : TypeId} (h : P.underlying T = some .bool) : Got P T RBool := fun _ _ _ _ _ _ hx => by
  obtain ⟨b, e, _⟩ := DataW.trod_bool h hx
  exact ⟨b, e⟩
theorem got_sl {P : Program} {T E : TypeId} {α : Type} {R : Rl α} {size : Nat} (h : P.underlying T = some (.slice E)) (hs : P.cellsOf E = size) (h0 : 0 < size) (hR : Got P E R) : Got P T (RSl R size) := fun H enc W m cs x hx => by
  rcases Go.Deep.open_slice h hx with ⟨e, _⟩ | ⟨a, len, cap, m', n, D, Pl, e, _, hl, hm, hm', _, hel⟩
  · exact ⟨[], none, 0, by simpa using e, by simp, by simp, fun _ => ⟨rfl, rfl⟩, fun i hi => by simp at hi⟩
  · simp only [if_true] at hm'
    subst hm'
    rw [hs] at hel
    obtain ⟨xs, hxl, hxs⟩ := list_of (p := fun i a' => ∃ es, W.cells? 0 (a.add (i * size)) size = some es ∧ R W (Old W) es a') len (fun i hi => by
      obtain ⟨es, h1, h2⟩ := hel i (by omega)
      obtain ⟨a', ha⟩ := hR H enc W _ _ _ h2
      exact ⟨a', es, h1, ha⟩)
    subst hxl
    refine ⟨xs, some a, m', e, hl, hm, (fun e => by cases e), fun i hi => ?_⟩
    obtain ⟨es, h1, h2⟩ := hxs i hi
    obtain ⟨_, h3, h4⟩ := World.cells?_some h1
    have hcell : ∀ j u, es[j]? = some u → W.cell? ((a.add (i * size)).add j) = some u := fun j u hj => by
      have hjl : j < es.length := (List.getElem?_eq_some_iff.1 hj).1
      rw [h4 j (by omega), hj]
    refine ⟨a, rfl, ?_, es, h3, hcell, h2⟩
    have h5 := cell_block (hcell 0 _ (List.getElem?_eq_getElem (by omega)))
    rw [add_block] at h5
    exact h5
def GotF (P : Program) (fs : List Field) (off : Nat) {α : Type} (R : Rl α) : Prop :=
  ∀ (H : Type) (enc : TypeId × Value → H) (W : World) (m : Nat) (cs : List Value),
    (∀ f ∈ fs, ∃ x, DataW.trod enc P W 0 (fun _ => true) true m f.type ((cs.drop f.offset).take (P.cellsOf f.type)) = some x) →
    cs.length = off + (fs.map fun f => P.cellsOf f.type).sum → ∃ a, R W (Old W) (cs.drop off) a
theorem gotF_nil {P : Program} (off : Nat) : GotF P [] off RNil := fun _ _ _ _ cs _ hl => ⟨(), by simp at hl; simp [RNil]; omega⟩
theorem gotF_cons {P : Program} {f : Field} {fs : List Field} {off n : Nat} {α β : Type} {R : Rl α} {S : Rl β} (ho : f.offset = off) (hn : P.cellsOf f.type = n) (hR : Got P f.type R) (hS : GotF P fs (off + n) S) :
    GotF P (f :: fs) off (RCons R n S) := fun H enc W m cs h hl => by
  obtain ⟨x, hx⟩ := h f (List.mem_cons_self ..)
  rw [ho, hn] at hx
  obtain ⟨a, ha⟩ := hR H enc W m _ _ hx
  simp only [List.map_cons, List.sum_cons, hn] at hl
  obtain ⟨b, hb⟩ := hS H enc W m cs (fun g hg => h g (List.mem_cons_of_mem _ hg)) (by omega)
  refine ⟨(a, b), (cs.drop off).take n, cs.drop (off + n), ?_, ?_, ha, hb⟩
  · rw [← List.drop_drop, List.take_append_drop]
  · rw [List.length_take, List.length_drop]; omega
theorem got_st {P : Program} {T : TypeId} {fs : List Field} {α : Type} {R : Rl α} (h : P.underlying T = some (.struct fs.toArray)) (hc : P.cellsOf T = (fs.map fun f => P.cellsOf f.type).sum) (hF : GotF P fs 0 R) : Got P T R := fun H enc W m cs x hx => by
  obtain ⟨xs, n, _, _, hl, hlen, hf⟩ := DataW.trod_struct h hx
  have := hF H enc W n cs (fun f hfm => by
    obtain ⟨i, hi, rfl⟩ := List.getElem_of_mem hfm
    have h1 := hf i fs[i] (by simp [hi])
    have h2 : i < xs.length := by rw [hlen]; simpa using hi
    exact ⟨xs[i], by rw [h1]; simp [h2]⟩) (by rw [hl, hc]; omega)
  simpa using this
theorem got_by {P : Program} {T : TypeId} {α β : Type} {R : Rl α} (h : Got P T R) (g : β → α) (f : α → β) (hf : ∀ a, g (f a) = a) : Got P T (RBy R g) := fun H enc W m cs x hx => by
  obtain ⟨a, ha⟩ := h H enc W m cs x hx
  exact ⟨f a, by unfold RBy; rw [hf]; exact ha⟩
theorem got_arr {P : Program} {T E : TypeId} {k : IntKind} {n : Nat} (h : P.underlying T = some (.array n E)) (hE : P.underlying E = some (.int k)) (hs : P.cellsOf E = 1) (hT : P.cellsOf T = n) : Got P T (RArr k n) := fun H enc W m cs x hx => by
  obtain ⟨xs, m', _, _, hl, hlen, hf⟩ := DataW.trod_array h hx
  have key : ∀ i, i < n → ∃ v : Int, cs[i]? = some (.int k v) ∧ (Lit.int k v).wf = true := fun i hi => by
    have h1 := hf i hi
    have h2 : i < xs.length := by omega
    rw [hs, List.getElem?_eq_getElem h2] at h1
    obtain ⟨v, e, _, hw⟩ := DataW.trod_int hE h1
    refine ⟨v, ?_, hw⟩
    have h3 : ((cs.drop (i * 1)).take 1)[0]? = some (.int k v) := by rw [e]; rfl
    simpa using h3
  obtain ⟨s, hsl, hs⟩ := list_of (p := fun i v => cs[i]? = some (.int k v) ∧ (Lit.int k v).wf = true) n key
  refine ⟨s, ?_, hsl, ?_⟩
  · apply List.ext_getElem
    · rw [hl, hT, nums_length, hsl]
    · intro i h1 h2
      have h3 : i < s.length := by rw [nums_length] at h2; exact h2
      have h4 := (hs i h3).1
      rw [List.getElem?_eq_getElem h1] at h4
      simp only [Option.some.injEq] at h4
      rw [h4]; simp [nums]
  · intro x hx
    obtain ⟨i, hi, rfl⟩ := List.getElem_of_mem hx
    exact (hs i hi).2
theorem got_arg {H : Type} {enc : TypeId × Value → H} {P : Program} {W : World} {T : TypeId} {α : Type} {R : Rl α} {v : Value} {d : DataW H} {p : List MemPlace} (hR : Got P T R)
    (h : DataW.Trod enc P W 0 (fun _ => true) true T v d p) : ∃ a, R W (Old W) v.cells.toList a := by
  obtain ⟨m, hm⟩ := h
  exact hR H enc W m _ _ hm
theorem slice_arg {P : Program} {W : World} {r : Reach} {b : Nat} {T E : TypeId} {v : Value} (h : P.underlying T = some (.slice E)) (hv : Value.okWide P W r b T v) : v.cells.toList = [v] := by
  obtain ⟨A, n, c, rfl⟩ := okWide_slice h hv
  rfl
theorem agg_arg {P : Program} {W : World} {r : Reach} {b : Nat} {T : TypeId} {fs : Array Field} {v : Value} (h : P.underlying T = some (.struct fs)) (hv : Value.okWide P W r b T v) : v = .agg v.cells.toList.toArray := by
  obtain ⟨cs, rfl, _⟩ := okWide_struct h hv
  simp [Value.cells]

/-! ### Things of many cells -/
/-- A type of things of so many cells, a struct's or an array's. -/
def AggT (P : Program) (ty : TypeId) (n : Nat) : Prop := (∃ d, P.underlying ty = some d ∧ (match d with | .struct _ | .array _ _ => true | _ => false) = true) ∧ (P.info? ty).map (·.size) = some n
section
variable {P : Program}
theorem run_loadVar_at {w : World} {ty : TypeId} {n : Nat} (hT : AggT P ty n) (ad : Addr) (es : List Value) (hn : es.length = n) (hes : ∀ j u, es[j]? = some u → w.cell? (ad.add j) = some u) :
    (loadVar ty ad).run P w = .ok (.agg es.toArray) w := by
  obtain ⟨⟨d, hu, hd⟩, hi⟩ := hT
  subst hn
  have hl := run_loadCells_list (P := P) w ad es hes
  cases hq : P.info? ty with
  | none => simp [hq] at hi
  | some i =>
    have hs : i.size = es.length := by simpa [hq] using hi
    have hagg : (isAgg ty).run P w = .ok true w := by
      unfold isAgg
      rw [Sem.run_bind, run_underlying hu w]
      cases d <;> simp_all
    simp [loadVar, Sem.run_bind, hagg, sizeOf, typeInfo, hq, hs, hl]
theorem wpList_now {ops : Array Oper} {rest : List Oper} {o : Oper} {a : Act} {w : World} {Q : Exit → Act → World → Prop} (hw : Region.wanted o (yielded ops a.tmps) = true)
    (h : ∀ K : Act → World → Prop, (∀ a w, wpList P ops Q rest a w → K a w) → o.wp P a w K Q) : wpList P ops Q (o :: rest) a w :=
  wpList_step fun K hK => by simp only [hw, if_true]; exact h K hK
theorem load_at {w : World} {ops : Array Oper} {rest : List Oper} {o : Oper} {a : Act} {Q : Exit → Act → World → Prop} {n : Nat} {ty : TypeId} (hT : AggT P ty n) (x : Operand) (ho : o.op = .load ty x) (hgd : Region.wanted o (yielded ops a.tmps) = true)
    (ad : Addr) (hx : a.eval x = .pointer (some ad)) (es : List Value) (hn : es.length = n) (hes : ∀ j u, es[j]? = some u → w.cell? (ad.add j) = some u)
    (h : wpList P ops Q rest (a.put o.dst (.agg es.toArray)) w) : wpList P ops Q (o :: rest) a w :=
  wpList_now hgd fun _ hK => by
    unfold Oper.wp execOp
    simp only [ho, hx, Instr.loadAt, Instr.sureAddr, Sem.run_bind, Sem.run_pure, Result.andThen_ok, run_loadVar_at hT ad es hn hes]
    exact hK _ _ h
/-- The same at an operation that is written out: it fails at once at any other one ('with_reducible refine ..'). -/
theorem load_lit {w : World} {ops : Array Oper} {rest : List Oper} {dst : Option Tmp} {tyy : TypeId} {pos : String} {aft : Array Edge} {gd : Option (Nat × Bool)} {a : Act} {Q : Exit → Act → World → Prop} {n : Nat} {ty : TypeId} (hT : AggT P ty n) (x : Operand)
    (ad : Addr) (es : List Value) (hgd : Region.wanted ⟨dst, .load ty x, tyy, pos, aft, gd⟩ (yielded ops a.tmps) = true) (hx : a.eval x = .pointer (some ad)) (hn : es.length = n) (hes : ∀ j u, es[j]? = some u → w.cell? (ad.add j) = some u)
    (h : wpList P ops Q rest (a.put dst (.agg es.toArray)) w) : wpList P ops Q (⟨dst, .load ty x, tyy, pos, aft, gd⟩ :: rest) a w :=
  load_at hT x rfl hgd ad hx es hn hes h
theorem run_storeCells_row (g : Nat) (t : TypeId) : ∀ (es : List Value) (i : Nat) (w : World) (cs : Array Value), w.heap[g]? = some (.cells cs t (0, 0)) → i + es.length ≤ cs.size → (∀ u ∈ es, u.oneCell' = true) →
    ∃ w', (storeCells ⟨g, 0, none⟩ es i).run P w = .ok () w' ∧ w'.heap[g]? = some (.cells (cs.toList.take i ++ es ++ cs.toList.drop (i + es.length)).toArray t (0, 0)) ∧ Kept (fun b => b = g) w w'
  | [], i, w, cs, hg, _, _ => ⟨w, rfl, by simpa using hg, Kept.refl _ _⟩
  | u :: es, i, w, cs, hg, hl, h1 => by
    have hi : i < cs.size := by simp at hl; omega
    have hadd : (⟨g, 0, none⟩ : Addr).add i = ⟨g, i, none⟩ := by unfold Addr.add; split <;> simp_all
    have hc : w.cell? ⟨g, i, none⟩ = some cs[i] := by rw [blk_cell hg]; simp [hi]
    have hst : (store ⟨g, i, none⟩ u).run P w = .ok () (w.setCell ⟨g, i, none⟩ u) := by
      rw [run_store P w _ u _ (h1 u (by simp))]
      simp [stored, hc, blk_frozen hg i]
    obtain ⟨w', hr, hb, hk⟩ := run_storeCells_row g t es (i + 1) (w.setCell ⟨g, i, none⟩ u) (cs.setIfInBounds i u) (blk_set hg i u) (by simp at hl ⊢; omega) (fun v hv => h1 v (by simp [hv]))
    refine ⟨w', ?_, ?_, Kept.trans (Kept.setCell (Kept.refl (fun b => b = g) w) (p := ⟨g, i, none⟩) (fun _ => rfl) u) hk⟩
    · rw [storeCells, hadd, Sem.run_bind, hst]
      exact hr
    · rw [hb]
      have hl2 : i < cs.toList.length := by simpa using hi
      have e1 : cs.toList.set i u = cs.toList.take i ++ (u :: cs.toList.drop (i + 1)) := by rw [List.set_eq_take_append_cons_drop, if_pos hl2]
      have e2 : (cs.toList.take i).length = i := by rw [List.length_take]; omega
      have e3 : (cs.setIfInBounds i u).toList = cs.toList.take i ++ (u :: cs.toList.drop (i + 1)) := by rw [Array.toList_setIfInBounds, e1]
      have e4 : (cs.toList.take i ++ (u :: cs.toList.drop (i + 1))).take (i + 1) = cs.toList.take i ++ [u] := by
        rw [List.take_append, e2, List.take_of_length_le (by omega), show i + 1 - i = 1 from by omega]; rfl
      have e5 : (cs.toList.take i ++ (u :: cs.toList.drop (i + 1))).drop (i + 1 + es.length) = cs.toList.drop (i + (u :: es).length) := by
        rw [List.drop_append, e2, List.drop_eq_nil_of_le (by omega), show i + 1 + es.length - i = es.length + 1 from by omega, List.drop_succ_cons, List.drop_drop, List.nil_append]
        congr 1; simp only [List.length_cons]; omega
      rw [e3, e4, e5]
      simp
theorem store_row {w : World} {ops : Array Oper} {rest : List Oper} {o : Oper} {a : Act} {Q : Exit → Act → World → Prop} {n : Nat} {ty : TypeId} (hT : AggT P ty n) (x y : Operand) (ho : o.op = .store ty x y) (hgd : Region.wanted o (yielded ops a.tmps) = true)
    (g : Nat) (hx : a.eval x = .pointer (some ⟨g, 0, none⟩)) (es : Array Value) (hy : a.eval y = .agg es) (hn : es.size = n) (h1 : ∀ u ∈ es.toList, u.oneCell' = true) (cs : Array Value) (t : TypeId) (hg : w.heap[g]? = some (.cells cs t (0, 0))) (hc : cs.size = n)
    (h : ∀ w', w'.heap[g]? = some (.cells es t (0, 0)) → Kept (fun b => b = g) w w' → wpList P ops Q rest (a.put o.dst undef) w') : wpList P ops Q (o :: rest) a w :=
  wpList_now hgd fun _ hK => by
    obtain ⟨⟨d, hu, hd⟩, hi⟩ := hT
    obtain ⟨w', hr, hb, hk⟩ := run_storeCells_row (P := P) g t es.toList 0 w cs hg (by simp; omega) h1
    have hb' : w'.heap[g]? = some (.cells es t (0, 0)) := by
      rw [hb, List.drop_eq_nil_of_le (by simp; omega)]
      simp
    cases hq : P.info? ty with
    | none => simp [hq] at hi
    | some i =>
      have hs : i.size = n := by simpa [hq] using hi
      have hst : (storeVar ty ⟨g, 0, none⟩ (.agg es)).run P w = .ok () w' := by
        simp [storeVar, Sem.run_bind, sizeOf, typeInfo, hq, hs, Value.cells, hn, hr]
      unfold Oper.wp execOp
      simp only [ho, hx, hy, Instr.storeAt, Instr.sureAddr, Sem.run_bind, Sem.run_pure, Result.andThen_ok, hst]
      exact hK _ _ (h w' hb' hk)
theorem store_lit {w : World} {ops : Array Oper} {rest : List Oper} {dst : Option Tmp} {tyy : TypeId} {pos : String} {aft : Array Edge} {gd : Option (Nat × Bool)} {a : Act} {Q : Exit → Act → World → Prop} {n : Nat} {ty : TypeId} (hT : AggT P ty n) (x y : Operand)
    (g : Nat) (es : List Value) (hgd : Region.wanted ⟨dst, .store ty x y, tyy, pos, aft, gd⟩ (yielded ops a.tmps) = true) (hx : a.eval x = .pointer (some ⟨g, 0, none⟩)) (hy : a.eval y = .agg es.toArray) (hn : es.length = n) (h1 : ∀ u ∈ es, u.oneCell' = true)
    (hg : ∃ cs t, w.heap[g]? = some (.cells cs t (0, 0)) ∧ cs.size = n)
    (h : ∀ w', (∃ t, w'.heap[g]? = some (.cells es.toArray t (0, 0))) → Kept (fun b => b = g) w w' → wpList P ops Q rest (a.put dst undef) w') : wpList P ops Q (⟨dst, .store ty x y, tyy, pos, aft, gd⟩ :: rest) a w := by
  obtain ⟨cs, t, hg, hc⟩ := hg
  exact store_row hT x y rfl hgd g hx es.toArray hy (by simpa using hn) (by simpa using h1) cs t hg hc (fun w' hb hk => h w' ⟨t, hb⟩ hk)
theorem all_range_eqI : ∀ (xs ys : List Int), xs.length = ys.length → ((List.range xs.length).all fun i => xs.getD i 0 == ys.getD i 0) = (xs == ys)
  | [], [], _ => rfl
  | x :: xs, y :: ys, h => by
    have ih := all_range_eqI xs ys (by simpa using h)
    rw [List.length_cons, List.range_succ_eq_map, List.all_cons, List.all_map]
    simp only [List.getD_cons_zero, Function.comp_def, List.getD_cons_succ, ih]
    simp [List.cons_beq_cons]
  | [], _ :: _, h => by simp at h
  | _ :: _, [], h => by simp at h
theorem run_equalIn_nums (w : World) (d : Nat) (t e : TypeId) (n : Nat) (k : IntKind) (ht : P.underlying t = some (.array n e)) (he : P.underlying e = some (.int k)) (hsz : ∀ w, (sizeOf e).run P w = .ok 1 w)
    (xs ys : List Int) (hx : xs.length = n) (hy : ys.length = n) :
    (Op.equalIn (d + 2) t (.agg (nums k xs).toArray) (.agg (nums k ys).toArray)).run P w = .ok (xs == ys) w := by
  rw [← all_range_eqI xs ys (hx.trans hy.symm), hx, List.range_eq_range', Op.equalIn]
  simp only [Sem.run_bind, run_underlying ht, Result.andThen_ok, hsz, Std.Legacy.Range.forIn_eq_forIn_range', Std.Legacy.Range.size, Nat.sub_zero, Nat.add_sub_cancel, Nat.div_one]
  have hl : ∀ i ∈ List.range' 0 n 1, i < n := fun i hi => by simpa using (List.mem_range'_1.1 hi).2
  generalize List.range' 0 n 1 = l at hl ⊢
  induction l with
  | nil => simp
  | cons i l ih =>
    have hi : i < n := hl i (by simp)
    have px : (part e (nums k xs).toArray (i * 1)).run P w = .ok (.int k (xs.getD i 0)) w := by
      simp [part, isAgg, run_underlying he, List.getD, nums, List.getElem?_eq_getElem (show i < xs.length by omega)]
    have py : (part e (nums k ys).toArray (i * 1)).run P w = .ok (.int k (ys.getD i 0)) w := by
      simp [part, isAgg, run_underlying he, List.getD, nums, List.getElem?_eq_getElem (show i < ys.length by omega)]
    have pe : (Op.equalIn (d + 1) e (.int k (xs.getD i 0)) (.int k (ys.getD i 0))).run P w = .ok (xs.getD i 0 == ys.getD i 0) w := run_equalIn_int w d e k k _ _ he
    simp only [List.forIn_cons, Sem.run_bind, px, py, pe, Result.andThen_ok, List.all_cons]
    cases hb : (xs.getD i 0 == ys.getD i 0)
    · simp
    · simp only [Bool.not_true, Bool.false_eq_true, if_false, Sem.run_pure, Result.andThen_ok, Bool.true_and]
      exact ih fun j hj => hl j (by simp [hj])
theorem run_eql_nums (w : World) (t e : TypeId) (n : Nat) (k : IntKind) (ht : P.underlying t = some (.array n e)) (he : P.underlying e = some (.int k)) (hsz : ∀ w, (sizeOf e).run P w = .ok 1 w)
    (xs ys : List Int) (hx : xs.length = n) (hy : ys.length = n) : (binOp .eql t (.agg (nums k xs).toArray) (.agg (nums k ys).toArray)).run P w = .ok (.bool (xs == ys)) w := by
  rw [run_eql_struct, run_equalIn_nums w 9998 t e n k ht he hsz xs ys hx hy]
  rfl
theorem run_neq_nums (w : World) (t e : TypeId) (n : Nat) (k : IntKind) (ht : P.underlying t = some (.array n e)) (he : P.underlying e = some (.int k)) (hsz : ∀ w, (sizeOf e).run P w = .ok 1 w)
    (xs ys : List Int) (hx : xs.length = n) (hy : ys.length = n) : (binOp .neq t (.agg (nums k xs).toArray) (.agg (nums k ys).toArray)).run P w = .ok (.bool (!(xs == ys))) w := by
  rw [run_neq_struct, run_equalIn_nums w 9998 t e n k ht he hsz xs ys hx hy]
  rfl
/-- Whole numbers in a block of their own. -/
theorem Ints.blk {w : World} {F : Nat → Prop} {k : IntKind} {g : Nat} {t : TypeId} {fr : Nat × Nat} {xs : List Int} (h : w.heap[g]? = some (.cells (nums k xs).toArray t fr)) (hF : F g) (hm : xs.length ≤ maxLen) (hw : ∀ x ∈ xs, (Lit.int k x).wf = true) :
    Ints w F k (some ⟨g, 0, none⟩) xs.length xs := by
  refine ⟨fun i hi => ⟨_, rfl, ?_⟩, fun ad e _ => by cases e; exact hF, Nat.le_refl _, hm, (fun e => by cases e), hw⟩
  have ea : (⟨g, 0, none⟩ : Addr).add i = ⟨g, i, none⟩ := by unfold Addr.add; split <;> simp_all
  rw [ea, blk_cell h]
  simp [nums, hi, List.getD_eq_getElem?_getD]
theorem row_cells {w : World} {g : Nat} {t : TypeId} {fr : Nat × Nat} {es : List Value} (h : w.heap[g]? = some (.cells es.toArray t fr)) (j : Nat) (u : Value) (hj : es[j]? = some u) : w.cell? ((⟨g, 0, none⟩ : Addr).add j) = some u := by
  have ea : (⟨g, 0, none⟩ : Addr).add j = ⟨g, j, none⟩ := by unfold Addr.add; split <;> simp_all
  rw [ea, blk_cell h]
  simpa using hj
theorem box_cells (w : World) (es : List Value) (t : TypeId) : ∀ j u, es[j]? = some u → (w.alloc (.cells es.toArray t)).cell? ((⟨w.heap.size, 0, none⟩ : Addr).add j) = some u := row_cells (heap_alloc_new w _)
theorem exec_load {ty : TypeId} {n : Nat} (hT : AggT P ty n) {o : Oper} {ev : Operand → Value} {x : Operand} {y : World} {ad : Addr} {es : List Value} (ho : o.op = .load ty x) (hx : ev x = .pointer (some ad)) (hn : es.length = n)
    (hes : ∀ j u, es[j]? = some u → y.cell? (ad.add j) = some u) : (execOp ev o).run P y = .ok (.value (.agg es.toArray)) y := by
  unfold execOp
  simp only [ho, hx, Instr.loadAt, Instr.sureAddr, Sem.run_bind, Sem.run_pure, Result.andThen_ok, run_loadVar_at hT ad es hn hes]
end
end Go.Proofs.Ytcghjnegaiiieaa

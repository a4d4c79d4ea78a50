/- What the arguments' readings tell of the cells: over any program. -/
import Derived.Deep.Slices
import Derived.Lib.SmallJoins
import Derived.OpenShut
import Derived.Test.YtfblececmkimiaaLibRow
namespace Go.Proofs.Ytfblececmkimiaa
open Go.ChangeShapes Go.WideShapes Go.ChangeAt Go.RowKit

/-- A relation between cells and what they stand for. -/
abbrev Rl (α : Type) := World → List Value → α → Prop
/-- It holds in every later world. -/
def Stable {α : Type} (R : Rl α) : Prop := ∀ w w' cs a, R w cs a → Below w.heap.size w w' → R w' cs a
/-- Whatever reads as data of a type stands in the relation. -/
def Got (P : Program) (T : TypeId) {α : Type} (R : Rl α) : Prop :=
  ∀ (H : Type) (enc : TypeId × Value → H) (W : World) (m : Nat) (cs : List Value) (x : DataW H × List MemPlace), DataW.trod enc P W 0 (fun _ => true) true m T cs = some x → ∃ a, R W cs a

def RInt (k : IntKind) : Rl Int := fun _ cs n => cs = [.int k n] ∧ (Lit.int k n).wf = true
def RBool : Rl Bool := fun _ cs b => cs = [.bool b]
def RArr (k : IntKind) (n : Nat) : Rl (List Int) := fun _ cs s => cs = nums k s ∧ s.length = n ∧ ∀ x ∈ s, (Lit.int k x).wf = true
def RSl {α : Type} (R : Rl α) (size : Nat) : Rl (List α) := fun w cs xs =>
  (cs = [.slice none 0 0] ∧ xs = []) ∨ ∃ a c, cs = [.slice (some a) xs.length c] ∧ xs.length ≤ c ∧ c ≤ maxLen ∧
    ∀ i (h : i < xs.length), ∃ e, e.length = size ∧ (∀ j u, e[j]? = some u → w.cell? ((a.add (i * size)).add j) = some u) ∧ R w e (xs[i]'h)
def RNil : Rl Unit := fun _ cs _ => cs = []
def RCons {α β : Type} (R : Rl α) (n : Nat) (S : Rl β) : Rl (α × β) := fun w cs p => ∃ c d, cs = c ++ d ∧ c.length = n ∧ R w c p.1 ∧ S w d p.2

theorem RInt.stable (k : IntKind) : Stable (RInt k) := fun _ _ _ _ h _ => h
theorem RBool.stable : Stable RBool := fun _ _ _ _ h _ => h
theorem RArr.stable (k : IntKind) (n : Nat) : Stable (RArr k n) := fun _ _ _ _ h _ => h
theorem RNil.stable : Stable RNil := fun _ _ _ _ h _ => h
theorem RCons.stable {α β : Type} {R : Rl α} {n : Nat} {S : Rl β} (hR : Stable R) (hS : Stable S) : Stable (RCons R n S) := fun w w' _ p ⟨c, d, e, hl, h1, h2⟩ hb =>
  ⟨c, d, e, hl, hR w w' c p.1 h1 hb, hS w w' d p.2 h2 hb⟩
theorem RSl.stable {α : Type} {R : Rl α} {size : Nat} (hR : Stable R) : Stable (RSl R size) := fun w w' _ xs h hb => by
  rcases h with h | ⟨a, c, e, h1, h2, h3⟩
  · exact .inl h
  · refine .inr ⟨a, c, e, h1, h2, fun i hi => ?_⟩
    obtain ⟨es, hl, hc, hr⟩ := h3 i hi
    exact ⟨es, hl, fun j u hj => (hb.cell (World.block_lt_of_cell? w _ (hc j u hj))).trans (hc j u hj), hR w w' es _ hr hb⟩

theorem list_of {α : Type} {p : Nat → α → Prop} : ∀ (n : Nat), (∀ i, i < n → ∃ a, p i a) → ∃ xs : List α, xs.length = n ∧ ∀ i (h : i < xs.length), p i (xs[i]'h)
  | 0, _ => ⟨[], rfl, fun i h => by simp at h⟩
  | n + 1, h => by
    obtain ⟨xs, hl, hx⟩ := list_of n (fun i hi => h i (by omega))
    obtain ⟨a, ha⟩ := h n (by omega)
    refine ⟨xs ++ [a], by simp [hl], fun i hi => ?_⟩
    rw [List.getElem_append]
    split
    · exact hx i _
    · rename_i h1
      simp at hi
      have : i = n := by omega
      subst this
      simpa using ha

theorem got_int {P : Program} {T : TypeId} {k : IntKind} (h : P.underlying T = some (.int k)) : Got P T (RInt k) := fun _ _ _ _ _ _ hx => by
  obtain ⟨n, e, _, hw⟩ := DataW.trod_int h hx
  exact ⟨n, e, hw⟩
theorem got_bool {P : Program} {T : TypeId} (h : P.underlying T = some .bool) : Got P T RBool := fun _ _ _ _ _ _ hx => by
  obtain ⟨b, e, _⟩ := DataW.trod_bool h hx
  exact ⟨b, e⟩
theorem got_sl {P : Program} {T E : TypeId} {α : Type} {R : Rl α} {size : Nat} (h : P.underlying T = some (.slice E)) (hs : P.cellsOf E = size) (hR : Got P E R) : Got P T (RSl R size) := fun H enc W m cs x hx => by
  rcases Go.Deep.open_slice h hx with ⟨e, _⟩ | ⟨a, len, cap, m', n, D, Pl, e, _, hl, hm, hm', _, hel⟩
  · exact ⟨[], .inl ⟨e, rfl⟩⟩
  · simp only [if_true] at hm'
    subst hm'
    rw [hs] at hel
    obtain ⟨xs, hxl, hxs⟩ := list_of (p := fun i a' => ∃ es, W.cells? 0 (a.add (i * size)) size = some es ∧ R W es a') len (fun i hi => by
      obtain ⟨es, h1, h2⟩ := hel i (by omega)
      obtain ⟨a', ha⟩ := hR H enc W _ _ _ h2
      exact ⟨a', es, h1, ha⟩)
    subst hxl
    refine ⟨xs, .inr ⟨a, m', e, hl, hm, fun i hi => ?_⟩⟩
    obtain ⟨es, h1, h2⟩ := hxs i hi
    obtain ⟨_, h3, h4⟩ := World.cells?_some h1
    refine ⟨es, h3, fun j u hj => ?_, h2⟩
    have hjl : j < es.length := (List.getElem?_eq_some_iff.1 hj).1
    rw [h4 j (by omega), hj]

/-- A struct's fields, one behind the other. -/
def GotF (P : Program) (fs : List Field) (off : Nat) {α : Type} (R : Rl α) : Prop :=
  ∀ (H : Type) (enc : TypeId × Value → H) (W : World) (m : Nat) (cs : List Value),
    (∀ f ∈ fs, ∃ x, DataW.trod enc P W 0 (fun _ => true) true m f.type ((cs.drop f.offset).take (P.cellsOf f.type)) = some x) →
    cs.length = off + (fs.map fun f => P.cellsOf f.type).sum → ∃ a, R W (cs.drop off) a
theorem gotF_nil {P : Program} (off : Nat) : GotF P [] off RNil := fun _ _ _ _ cs _ hl => ⟨(), by simp at hl; simp [RNil]; omega⟩
theorem gotF_cons {P : Program} {f : Field} {fs : List Field} {off n : Nat} {α β : Type} {R : Rl α} {S : Rl β} (ho : f.offset = off) (hn : P.cellsOf f.type = n) (hR : Got P f.type R) (hS : GotF P fs (off + n) S) :
    GotF P (f :: fs) off (RCons R n S) := fun H enc W m cs h hl => by
  obtain ⟨x, hx⟩ := h f (List.mem_cons_self ..)
  rw [ho, hn] at hx
  obtain ⟨a, ha⟩ := hR H enc W m _ _ hx
  simp only [List.map_cons, List.sum_cons, hn] at hl
  obtain ⟨b, hb⟩ := hS H enc W m cs (fun g hg => h g (List.mem_cons_of_mem _ hg)) (by omega)
  refine ⟨(a, b), (cs.drop off).take n, cs.drop (off + n), ?_, ?_, ha, hb⟩
  · rw [← List.drop_drop, List.take_append_drop]
  · rw [List.length_take, List.length_drop]; omega
theorem got_st {P : Program} {T : TypeId} {fs : List Field} {α : Type} {R : Rl α} (h : P.underlying T = some (.struct fs.toArray)) (hc : P.cellsOf T = (fs.map fun f => P.cellsOf f.type).sum) (hF : GotF P fs 0 R) : Got P T R := fun H enc W m cs x hx => by
  obtain ⟨xs, n, _, _, hl, hlen, hf⟩ := DataW.trod_struct h hx
  have := hF H enc W n cs (fun f hfm => by
    obtain ⟨i, hi, rfl⟩ := List.getElem_of_mem hfm
    have h1 := hf i fs[i] (by simp [hi])
    have h2 : i < xs.length := by rw [hlen]; simpa using hi
    exact ⟨xs[i], by rw [h1]; simp [h2]⟩) (by rw [hl, hc]; omega)
  simpa using this
theorem got_map {P : Program} {T : TypeId} {α β : Type} {R : Rl α} {S : Rl β} (h : Got P T R) (f : α → β) (hf : ∀ w cs a, R w cs a → S w cs (f a)) : Got P T S := fun H enc W m cs x hx => by
  obtain ⟨a, ha⟩ := h H enc W m cs x hx
  exact ⟨f a, hf _ _ _ ha⟩
theorem got_arr {P : Program} {T E : TypeId} {k : IntKind} {n : Nat} (h : P.underlying T = some (.array n E)) (hE : P.underlying E = some (.int k)) (hs : P.cellsOf E = 1) (hT : P.cellsOf T = n) : Got P T (RArr k n) := fun H enc W m cs x hx => by
  obtain ⟨xs, m', _, _, hl, hlen, hf⟩ := DataW.trod_array h hx
  have key : ∀ i, i < n → ∃ v : Int, cs[i]? = some (.int k v) ∧ (Lit.int k v).wf = true := fun i hi => by
    have h1 := hf i hi
    have h2 : i < xs.length := by omega
    rw [hs, List.getElem?_eq_getElem h2] at h1
    obtain ⟨v, e, _, hw⟩ := DataW.trod_int hE h1
    refine ⟨v, ?_, hw⟩
    have h3 : ((cs.drop (i * 1)).take 1)[0]? = some (.int k v) := by rw [e]; rfl
    simpa using h3
  obtain ⟨s, hsl, hs⟩ := list_of (p := fun i v => cs[i]? = some (.int k v) ∧ (Lit.int k v).wf = true) n key
  refine ⟨s, ?_, hsl, ?_⟩
  · apply List.ext_getElem
    · rw [hl, hT, nums_length, hsl]
    · intro i h1 h2
      have h3 : i < s.length := by rw [nums_length] at h2; exact h2
      have h4 := (hs i h3).1
      rw [List.getElem?_eq_getElem h1] at h4
      simp only [Option.some.injEq] at h4
      rw [h4]; simp [nums]
  · intro x hx
    obtain ⟨i, hi, rfl⟩ := List.getElem_of_mem hx
    exact (hs i hi).2

/-- A slice of whole numbers, as the walks have it. -/
theorem RSl.ints {w : World} {k : IntKind} {cs : List Value} {xs : List Int} (h : RSl (RInt k) 1 w cs xs) : ∃ A c, cs = [.slice A xs.length c] ∧ xs.length ≤ c ∧ c ≤ maxLen ∧ RdInts w k A xs ∧ ∀ x ∈ xs, (Lit.int k x).wf = true := by
  rcases h with ⟨rfl, rfl⟩ | ⟨a, c, rfl, h1, h2, h3⟩
  · exact ⟨none, 0, rfl, by simp, by simp, fun i hi => by simp at hi, by simp⟩
  · refine ⟨some a, c, rfl, h1, h2, fun i hi => ⟨a, rfl, ?_⟩, fun x hx => ?_⟩
    · obtain ⟨e, _, h4, h5⟩ := h3 i hi
      obtain ⟨rfl, _⟩ := h5
      have := h4 0 _ rfl
      simp only [Nat.mul_one] at this
      rw [show ((a.add i).add 0) = a.add i from rfl] at this
      rw [this]; simp [List.getD_eq_getElem?_getD, hi]
    · obtain ⟨i, hi, rfl⟩ := List.getElem_of_mem hx
      obtain ⟨e, _, _, h5⟩ := h3 i hi
      exact h5.2

/-- The value of an argument, by its type's shape. -/
theorem got_arg {H : Type} {enc : TypeId × Value → H} {P : Program} {W : World} {T : TypeId} {α : Type} {R : Rl α} {v : Value} {d : DataW H} {p : List MemPlace} (hR : Got P T R)
    (h : DataW.Trod enc P W 0 (fun _ => true) true T v d p) : ∃ a, R W v.cells.toList a := by
  obtain ⟨m, hm⟩ := h
  exact hR H enc W m _ _ hm
theorem slice_arg {P : Program} {W : World} {r : Reach} {b : Nat} {T E : TypeId} {v : Value} (h : P.underlying T = some (.slice E)) (hv : Value.okWide P W r b T v) : v.cells.toList = [v] := by
  obtain ⟨A, n, c, rfl⟩ := okWide_slice h hv
  rfl
theorem agg_arg {P : Program} {W : World} {r : Reach} {b : Nat} {T : TypeId} {fs : Array Field} {v : Value} (h : P.underlying T = some (.struct fs)) (hv : Value.okWide P W r b T v) : v = .agg v.cells.toList.toArray := by
  obtain ⟨cs, rfl, _⟩ := okWide_struct h hv
  simp [Value.cells]
end Go.Proofs.Ytfblececmkimiaa

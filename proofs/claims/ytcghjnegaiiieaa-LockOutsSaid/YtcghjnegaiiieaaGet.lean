/- What an out is read as (layer 7): plain; rows of structs. -/
import Derived.Test.YtcghjnegaiiieaaPut
namespace Go.Proofs.Ytcghjnegaiiieaa
open Go.RowKit
/-- So many times. -/
def loopS {α : Type} (f : ES → α × ES) : Nat → ES → List α × ES
  | 0, s => ([], s)
  | n + 1, s => ((loopS f n s).1 ++ [(f (loopS f n s).2).1], (f (loopS f n s).2).2)
theorem loopS_len {α : Type} (f : ES → α × ES) : ∀ (n : Nat) (s : ES), (loopS f n s).1.length = n
  | 0, _ => rfl
  | n + 1, s => by simp [loopS, loopS_len f n s]
def uptoI (m : Nat) (s : ES) : Int × ES := (((uptoS m s).1 : Int), (uptoS m s).2)
def wayS (s : ES) : Way × ES :=
  let n := uptoS 16 s
  let ks := loopS (uptoI 255) n.1 n.2
  let h := sumS ks.2
  let a := uptoI 1073741824 h.2
  let b := uptoI 1073741824 a.2
  (⟨ks.1, h.1, a.1, b.1⟩, b.2)
def outS (s : ES) : Out × ES :=
  let a := uptoI 1125899906842624 s
  let n := uptoS 16 a.2
  let ws := loopS wayS n.1 n.2
  (⟨a.1, ws.1⟩, if outB ⟨a.1, ws.1⟩ then ws.2 else failS 4 ws.2)
theorem flatten_at {α : Type} (size : Nat) : ∀ (cs : List (List α)) (i : Nat) (h : i < cs.length) (j : Nat) (u : α), (∀ c ∈ cs, c.length = size) → (cs[i])[j]? = some u → cs.flatten[i * size + j]? = some u
  | c :: cs, 0, _, j, u, _, hu => by
    have hj : j < c.length := (List.getElem?_eq_some_iff.1 hu).1
    rw [List.flatten_cons, Nat.zero_mul, Nat.zero_add, List.getElem?_append_left hj]
    exact hu
  | c :: cs, i + 1, h, j, u, hs, hu => by
    have hc : c.length = size := hs c (by simp)
    rw [List.flatten_cons, List.getElem?_append_right (by rw [hc, Nat.add_mul]; omega), hc, show (i + 1) * size + j - size = i * size + j from by rw [Nat.add_mul]; omega]
    exact flatten_at size cs i (by simpa using h) j u (fun c' h' => hs c' (by simp [h'])) (by simpa using hu)
  | [], i, h, _, _, _, _ => by simp at h
/-- A row of the call's own whose elements are these things; what they lead to lies in F. -/
def OwnE {α : Type} (R : Rl α) (size : Nat) (w : World) (Rb F : Nat → Prop) (e : TypeId) (v : Value) (xs : List α) : Prop :=
  ∃ cs : List (List Value), cs.length = xs.length ∧ (∀ c ∈ cs, c.length = size) ∧ (∀ i (h : i < xs.length) (h' : i < cs.length), R w F cs[i] xs[i]) ∧ OwnV w Rb e size v xs.length cs.flatten
theorem OwnE.nil {α : Type} (R : Rl α) (size : Nat) (w : World) (Rb F : Nat → Prop) (e : TypeId) : OwnE R size w Rb F e (.slice none 0 0) [] := ⟨[], rfl, by simp, fun i h => by simp at h, OwnV.nil _ _ _ _⟩
theorem OwnE.keep {α : Type} {R : Rl α} {size : Nat} (hR : Good R size) {w w' : World} {Rb F S : Nat → Prop} {e : TypeId} {v : Value} {xs : List α} (h : OwnE R size w Rb F e v xs) (hk : Kept S w w') (hb : ∀ b, Rb b → ¬ S b) (hf : ∀ b, F b → ¬ S b) : OwnE R size w' Rb F e v xs := by
  obtain ⟨cs, h1, h2, h3, h4⟩ := h
  exact ⟨cs, h1, h2, fun i hi hi' => hR.keep (h3 i hi hi') hk hf, h4.keep hk hb⟩
theorem OwnE.mono {α : Type} {R : Rl α} {size : Nat} (hR : Good R size) {w : World} {Rb Rb' F F' : Nat → Prop} {e : TypeId} {v : Value} {xs : List α} (h : OwnE R size w Rb F e v xs) (hb : ∀ b, Rb b → Rb' b) (hf : ∀ b, F b → F' b) : OwnE R size w Rb' F' e v xs := by
  obtain ⟨cs, h1, h2, h3, h4⟩ := h
  exact ⟨cs, h1, h2, fun i hi hi' => hR.mono (h3 i hi hi') hf, h4.mono hb⟩
theorem OwnE.sl {α : Type} {R : Rl α} {size : Nat} (hR : Good R size) {w : World} {Rb F : Nat → Prop} {e : TypeId} {v : Value} {xs : List α} (h : OwnE R size w Rb F e v xs) : ∃ A c, v = .slice A xs.length c ∧ xs.length ≤ c ∧ c ≤ maxLen ∧ (A = none → xs = [] ∧ c = 0) ∧ Elems R size w (fun b => Rb b ∨ F b) A xs := by
  obtain ⟨cs, h1, h2, h3, h4⟩ := h
  obtain ⟨A, c, hv, g1, g2, g3, g4, g5⟩ := h4.slice
  refine ⟨A, c, hv, g1, g2, fun e => ⟨List.eq_nil_of_length_eq_zero (g3 e).1, (g3 e).2⟩, fun i hi => ?_⟩
  have hi' : i < cs.length := by omega
  have hA : ∃ ad, A = some ad := by
    rcases A with _ | ad
    · have := (g3 rfl).1; omega
    · exact ⟨ad, rfl⟩
  obtain ⟨ad, hA⟩ := hA
  refine ⟨ad, hA, .inl (g4 ad hA), cs[i], h2 _ (List.getElem_mem hi'), fun j u hj => ?_, hR.mono (h3 i hi hi') (fun b hb => .inr hb)⟩
  obtain ⟨ad', e', hc⟩ := g5 (i * size + j) u (flatten_at size cs i hi' j u h2 hj)
  rw [hA] at e'
  obtain rfl := Option.some.inj e'
  have := Go.Addr.add_add ad (i * size) j
  rw [this]
  exact hc
/-- One thing more, that lies in cells of its own. -/
theorem OwnE.app {α : Type} {R : Rl α} {size : Nat} (hR : Good R size) {w : World} {ops : Array Oper} {rest : List Oper} {o : Oper} {a : Act} {Q : Exit → Act → World → Prop} {t e : TypeId} {bytes : Nat} (E : ElemT Try.prog t e size bytes) (hgd : o.guard = none) (s x : Operand)
    (ho : o.op = .call { callee := .builtin .append, args := #[s, x], argTypes := #[t, t] })
    (Rb F : Nat → Prop) (v : Value) (xs : List α) (hs : a.eval s = v) (hown : OwnE R size w Rb F e v xs) (hF : ∀ b, F b → ¬ Rb b)
    (b : Nat) (c : Nat) (es : List Value) (n : α) (hx : a.eval x = .slice (some ⟨b, 0, none⟩) 1 c) (tb : TypeId) (fr : Nat × Nat) (hb : w.heap[b]? = some (.cells es.toArray tb fr)) (hr : R w F es n)
    (h63 : xs.length + 1 ≤ 1000000) (hby : bytes ≤ 1000000)
    (h : ∀ v' w', OwnE R size w' (Gw w Rb) F e v' (xs ++ [n]) → Kept Rb w w' → wpList Try.prog ops Q rest (a.put o.dst v') w') : wpList Try.prog ops Q (o :: rest) a w := by
  obtain ⟨cs, h1, h2, h3, h4⟩ := hown
  refine OwnV.app E hgd s x ho Rb v xs.length cs.flatten hs h4 (some ⟨b, 0, none⟩) 1 c es hx (by rw [hR.len hr, Nat.one_mul]) (fun j u hj => ⟨_, rfl, row_cells (es := es) hb j u hj⟩) (fun e => by cases e) (hR.one hr) (by unfold maxLen; omega) (Nat.le_trans (Nat.mul_le_mul h63 hby) (by decide)) ?_
  intro v' w' h5 h6
  refine h v' w' ⟨cs ++ [es], by simp [h1], fun c hc => ?_, fun i hi hi' => ?_, ?_⟩ h6
  · rcases List.mem_append.1 hc with h | h
    · exact h2 c h
    · have : c = es := by simpa using h
      rw [this]; exact hR.len hr
  · rw [List.getElem_append, List.getElem_append]
    split
    · split
      · exact hR.keep (h3 i _ _) h6 hF
      · omega
    · split
      · omega
      · have e1 : i - cs.length = 0 := by simp at hi; omega
        have e2 : i - xs.length = 0 := by simp at hi; omega
        simp only [e1, e2, List.getElem_cons_zero]
        exact hR.keep hr h6 hF
  · rw [List.length_append, List.flatten_append, List.flatten_cons, List.flatten_nil, List.append_nil]
    exact h5
end Go.Proofs.Ytcghjnegaiiieaa

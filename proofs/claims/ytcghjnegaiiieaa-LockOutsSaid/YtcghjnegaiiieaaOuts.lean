/- An out's bytes, written by hand (layer 7): the law's loop. -/
import Derived.Test.YtcghjnegaiiieaaMid
import Derived.Test.YtcghjnegaiiieaaSame2
import Derived.Test.YtcghjnegaiiieaaReads
import Derived.Test.YtcghjnegaiiieaaWire8
namespace Go.Proofs.Ytcghjnegaiiieaa
open Go.RowKit
theorem numB_ok : ∀ n : Nat, BytesOk (numB n) := fun n => by
  induction n using Nat.strongRecOn with
  | ind n ih =>
    rw [numB]
    split
    · intro x hx
      have : x = n := by simpa using hx
      exact byte_wf (by omega)
    · intro x hx
      rcases List.mem_cons.1 hx with h | h
      · exact byte_wf (by omega)
      · exact ih (n / 128) (by omega) x h
theorem BytesOk.app {xs ys : List Int} (h : BytesOk xs) (k : BytesOk ys) : BytesOk (xs ++ ys) := fun x hx => (List.mem_append.1 hx).elim (h x) (k x)
theorem numsI_ok (l : List Int) : BytesOk (numsI l) := fun x hx => by
  obtain ⟨n, _, h⟩ := List.mem_flatMap.1 hx
  exact numB_ok _ x h
theorem wayBy_ok {x : Way} (h : WayOk x) : BytesOk (wayBy x) := ((((numsI_ok _).app (numsI_ok _)).app h.hw).app (numsI_ok _))
theorem outBy_ok {o : Out} (h : ∀ x ∈ o.ways, WayOk x) : BytesOk (outBy o) := (numsI_ok _).app (fun x hx => by
  obtain ⟨y, hy, h'⟩ := List.mem_flatMap.1 hx
  exact wayBy_ok (h y hy) x h')
theorem Ways.ok {w : World} {F : Nat → Prop} {A : Option Addr} {c : Nat} {xs : List Way} (h : Ways w F A c xs) : ∀ x ∈ xs, WayOk x ∧ ∀ k ∈ x.keys, (Lit.int .i64 k).wf = true := fun x hx => by
  obtain ⟨i, hi, rfl⟩ := List.getElem_of_mem hx
  obtain ⟨_, _, _, _, _, _, h1, h2⟩ := h.at_ i hi
  exact ⟨h2, h1.wf⟩
theorem numB_ten (n : Int) (h : (Lit.int .i64 n).wf = true) : (numB n.toNat).length ≤ 10 := numB_len _ (by have := wf_int h; omega)
theorem numsI_ten {l : List Int} (h : ∀ x ∈ l, (Lit.int .i64 x).wf = true) : (numsI l).length ≤ 10 * l.length := numsI_len l (fun v hv => by have := wf_int (h v hv); omega)
theorem wayBy_len {x : Way} (h : WayOk x ∧ ∀ k ∈ x.keys, (Lit.int .i64 k).wf = true) (hk : x.keys.length ≤ 20) : (wayBy x).length ≤ 300 := by
  unfold wayBy
  simp only [List.length_append, h.1.hl]
  have h1 := numsI_ten h.2
  have h2 := numsI_ten (l := [(x.keys.length : Int)]) (by simp [Lit.wf, IntKind.min, IntKind.max, IntKind.signed, IntKind.bits]; omega)
  have h3 := numsI_ten (l := [x.after, x.wait]) (by simp [h.1.aw, h.1.ww])
  simp only [List.length_cons, List.length_nil] at h2 h3
  omega
theorem flatMap_len_le {α : Type} (f : α → List Int) (m : Nat) : ∀ (l : List α), (∀ a ∈ l, (f a).length ≤ m) → (l.flatMap f).length ≤ m * l.length
  | [], _ => by simp
  | a :: l, h => by
    have h1 := h a (by simp)
    have h2 := flatMap_len_le f m l (fun b hb => h b (by simp [hb]))
    rw [List.flatMap_cons, List.length_append, List.length_cons, Nat.mul_add]
    omega
theorem outBy_len {o : Out} (ha : (Lit.int .i64 o.amount).wf = true) (h : ∀ x ∈ o.ways, WayOk x ∧ ∀ k ∈ x.keys, (Lit.int .i64 k).wf = true) (hs : smallB o.ways = true) : (outBy o).length ≤ 7000 := by
  unfold smallB at hs
  simp only [Bool.and_eq_true, decide_eq_true_eq, List.all_eq_true] at hs
  have h1 := flatMap_len_le wayBy 300 o.ways (fun x hx => wayBy_len (h x hx) (hs.2 x hx))
  have h2 := numsI_ten (l := [o.amount, (o.ways.length : Int)]) (by simp [ha, Lit.wf, IntKind.min, IntKind.max, IntKind.signed, IntKind.bits] at ha ⊢; omega)
  unfold outBy
  rw [List.length_append]
  simp only [List.length_cons, List.length_nil] at h2
  have := hs.1
  have : 300 * o.ways.length ≤ 6000 := by omega
  omega
end Go.Proofs.Ytcghjnegaiiieaa

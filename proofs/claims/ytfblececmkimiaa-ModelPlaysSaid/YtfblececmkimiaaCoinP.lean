/- Plain facts on an amount in parts. -/
import Derived.RowKit
namespace Go.Proofs.Ytfblececmkimiaa
/-- What is in the part at a place. -/
def val (n p : Int) (i : Nat) : Int := n / p + if (i : Int) < n % p then 1 else 0
/-- The parts, as far as they are filled. -/
def upto (n p : Int) (i : Nat) : List Int := (List.range p.toNat).map fun j => if j < i then val n p j else 0
def whole (n p : Int) : List Int := (List.range p.toNat).map (val n p)

theorem upto_length (n p : Int) (i : Nat) : (upto n p i).length = p.toNat := by simp [upto]
theorem whole_length (n p : Int) : (whole n p).length = p.toNat := by simp [whole]
theorem upto_zero (n p : Int) : List.replicate p.toNat 0 = upto n p 0 := by
  unfold upto
  apply List.ext_getElem <;> simp
theorem upto_all (n p : Int) : upto n p p.toNat = whole n p := by
  unfold upto whole
  apply List.map_congr_left
  intro j hj
  rw [if_pos (List.mem_range.1 hj)]
theorem upto_set (n p : Int) (i : Nat) : (upto n p i).set i (val n p i) = upto n p (i + 1) := by
  apply List.ext_getElem
  · simp [upto]
  · intro j h1 h2
    simp only [upto, List.getElem_set, List.getElem_map, List.getElem_range]
    by_cases e : i = j
    · subst e; simp
    · rw [if_neg e]
      by_cases h : j < i
      · rw [if_pos h, if_pos (by omega)]
      · rw [if_neg h, if_neg (by omega)]
theorem whole_get (n p : Int) (i : Nat) (h : i < p.toNat) : (whole n p).getD i 0 = val n p i := by
  simp [whole, List.getD_eq_getElem?_getD, h]

theorem div_small (n p : Int) (h0 : 0 ≤ n) (hn : n ≤ 1125899906842624) (hp : 1 ≤ p) : 0 ≤ n / p ∧ n / p ≤ 1125899906842624 := by
  refine ⟨Int.ediv_nonneg h0 (by omega), ?_⟩
  have := Int.ediv_le_self p h0
  omega
theorem mod_small (n p : Int) (hp : 1 ≤ p) : 0 ≤ n % p ∧ n % p < p := ⟨Int.emod_nonneg _ (by omega), Int.emod_lt_of_pos _ (by omega)⟩

/-- All parts up to a place. -/
def sumTo (n p : Int) (i : Nat) : Int := i * (n / p) + if (i : Int) < n % p then (i : Int) else n % p
theorem sum_next (n p : Int) (i : Nat) : sumTo n p i + val n p i = sumTo n p (i + 1) := by
  have e : ((i + 1 : Nat) : Int) * (n / p) = i * (n / p) + n / p := by rw [Int.natCast_add, Int.add_mul]; simp
  unfold sumTo val
  rw [e]
  split <;> split <;> omega
theorem sum_all (n p : Int) (hp : 1 ≤ p) : sumTo n p p.toNat = n := by
  unfold sumTo
  have := mod_small n p hp
  rw [if_neg (by omega), show ((p.toNat : Nat) : Int) = p from by omega]
  exact Int.mul_ediv_add_emod n p
theorem sum_small (n p : Int) (h0 : 0 ≤ n) (hp : 1 ≤ p) (i : Nat) (hi : (i : Int) ≤ p) : 0 ≤ sumTo n p i ∧ sumTo n p i ≤ n := by
  have hm := mod_small n p hp
  have hd : 0 ≤ n / p := Int.ediv_nonneg h0 (by omega)
  have a : 0 ≤ (i : Int) * (n / p) := Int.mul_nonneg (by omega) hd
  have b : (i : Int) * (n / p) ≤ p * (n / p) := Int.mul_le_mul_of_nonneg_right hi hd
  have c := Int.mul_ediv_add_emod n p
  unfold sumTo
  split <;> omega

end Go.Proofs.Ytfblececmkimiaa

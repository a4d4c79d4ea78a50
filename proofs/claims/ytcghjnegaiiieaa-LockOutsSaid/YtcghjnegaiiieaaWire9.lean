/- Numbers as bytes: what is read of bytes (layer 1), without the program. -/
import Derived.Test.YtcghjnegaiiieaaWire8
import Derived.Test.YtcghjnegaiiieaaLockD
namespace Go.Proofs.Ytcghjnegaiiieaa
open Go.RowKit
/-- What a number is read as: it and what is left, or why there is none. -/
def numR : List Int → Nat → Nat → Except Int (Nat × List Int)
  | [], i, _ => .error (if i < 9 then 2 else 5)
  | c :: xs, i, v => if 9 ≤ i then .error 5 else if c < 128 then (if c = 0 ∧ 0 < i then .error 4 else .ok (v + c.toNat * 128 ^ i, xs)) else numR xs (i + 1) (v + (c.toNat - 128) * 128 ^ i)
theorem numR_app : ∀ (k i v n : Nat) (r : List Int), n < 128 ^ k → i + k ≤ 9 → (0 < n ∨ i = 0) → 0 < k → numR (numB n ++ r) i v = .ok (v + n * 128 ^ i, r)
  | 0, _, _, _, _, _, _, _, h => by omega
  | k + 1, i, v, n, r, hn, hi, h0, _ => by
    rw [numB]
    by_cases h : n < 128
    · rw [dif_pos h]
      simp only [List.cons_append, List.nil_append, numR]
      rw [if_neg (by omega), if_pos (by omega), if_neg (by omega)]
      simp
    · rw [dif_neg h]
      simp only [List.cons_append, numR]
      have hk : 0 < k := by
        rcases Nat.eq_zero_or_pos k with rfl | h'
        · simp at hn; omega
        · exact h'
      rw [if_neg (by omega), if_neg (by omega), numR_app k (i + 1) _ (n / 128) r (by rw [Nat.pow_succ] at hn; omega) (by omega) (.inl (by omega)) hk]
      have e1 : ((n : Int) % 128 + 128).toNat - 128 = n % 128 := by omega
      rw [e1, Nat.pow_succ]
      have e2 : n * 128 ^ i = (n % 128) * 128 ^ i + n / 128 * (128 ^ i * 128) := by
        conv => lhs; rw [← Nat.div_add_mod n 128]
        rw [Nat.add_mul, Nat.mul_comm 128 (n / 128), Nat.mul_assoc, Nat.mul_comm 128 (128 ^ i)]
        omega
      rw [e2, Nat.add_assoc]
theorem numR_numB (n : Nat) (r : List Int) (hn : n < 9223372036854775808) : numR (numB n ++ r) 0 0 = .ok (n, r) := by
  have := numR_app 9 0 0 n r (by omega) (by omega) (.inr rfl) (by omega)
  simpa using this
theorem numR_inv : ∀ (xs : List Int) (i v m : Nat) (r : List Int), (∀ x ∈ xs, (Lit.int .u8 x).wf = true) → i ≤ 9 → numR xs i v = .ok (m, r) → ∃ n, m = v + n * 128 ^ i ∧ xs = numB n ++ r ∧ n < 128 ^ (9 - i) ∧ (0 < i → 0 < n)
  | [], _, _, _, _, _, _, h => by simp [numR] at h
  | c :: xs, i, v, m, r, hw, hi, h => by
    have hc := wf_byte (hw c (by simp))
    unfold numR at h
    by_cases h9 : 9 ≤ i
    · rw [if_pos h9] at h; cases h
    rw [if_neg h9] at h
    have e9 : 9 - i = 9 - (i + 1) + 1 := by omega
    by_cases h1 : c < 128
    · rw [if_pos h1] at h
      by_cases h2 : c = 0 ∧ 0 < i
      · rw [if_pos h2] at h; cases h
      rw [if_neg h2] at h
      simp only [Except.ok.injEq, Prod.mk.injEq] at h
      obtain ⟨rfl, rfl⟩ := h
      refine ⟨c.toNat, rfl, ?_, ?_, fun hp => by omega⟩
      · rw [numB, dif_pos (by omega)]; simp; omega
      · rw [e9, Nat.pow_succ]
        have : 0 < 128 ^ (9 - (i + 1)) := Nat.pow_pos (by omega)
        omega
    · rw [if_neg h1] at h
      obtain ⟨n, e1, e2, e3, e4⟩ := numR_inv xs (i + 1) _ m r (fun x hx => hw x (by simp [hx])) (by omega) h
      have hn := e4 (by omega)
      refine ⟨(c.toNat - 128) + n * 128, ?_, ?_, ?_, fun _ => by omega⟩
      · rw [e1, Nat.pow_succ, Nat.add_mul, Nat.mul_assoc, Nat.mul_comm 128 (128 ^ i), Nat.add_assoc]
      · rw [numB, dif_neg (by omega), e2, show (c.toNat - 128 + n * 128) / 128 = n from by omega]
        simp; omega
      · rw [e9, Nat.pow_succ]; omega
theorem numR_ok {xs : List Int} {m : Nat} {r : List Int} (hw : ∀ x ∈ xs, (Lit.int .u8 x).wf = true) (h : numR xs 0 0 = .ok (m, r)) : xs = numB m ++ r ∧ m < 9223372036854775808 := by
  obtain ⟨n, e1, e2, e3, _⟩ := numR_inv xs 0 0 m r hw (by omega) h
  simp at e1
  subst e1
  exact ⟨e2, by omega⟩
theorem numR_drop (xs : List Int) (k v : Nat) (hk : k < xs.length) (h9 : k < 9) : numR (xs.drop k) k v = if xs.getD k 0 < 128 then (if xs.getD k 0 = 0 ∧ 0 < k then .error 4 else .ok (v + (xs.getD k 0).toNat * 128 ^ k, xs.drop (k + 1))) else numR (xs.drop (k + 1)) (k + 1) (v + ((xs.getD k 0).toNat - 128) * 128 ^ k) := by
  rw [drop_cons xs k hk, numR, if_neg (by omega)]
theorem and127 (x : Int) (h : 0 ≤ x ∧ x ≤ 255) : bits BinOp.and IntKind.u8 x 127 = x % 128 := by
  have key : ∀ y : Fin 256, bits BinOp.and IntKind.u8 ((y.val : Nat) : Int) 127 = ((y.val % 128 : Nat) : Int) := by decide +kernel
  have h1 := key ⟨x.toNat, by omega⟩
  rw [show ((x.toNat : Nat) : Int) = x from by omega] at h1
  rw [h1]
  show ((x.toNat % 128 : Nat) : Int) = _
  omega
theorem or_shift (v x k : Nat) (hv : v < 128 ^ k) (hx : x < 128) (hk : k ≤ 8) : bits BinOp.or IntKind.u64 (v : Int) ((x : Int) * 2 ^ (7 * k)) = ((v + x * 128 ^ k : Nat) : Int) := by
  have hp : (128 : Nat) ^ k = 2 ^ (7 * k) := by rw [Nat.pow_mul]
  have hb : 128 ^ k ≤ 128 ^ 8 := Nat.pow_le_pow_right (by omega) hk
  have hm : x * 128 ^ k + 128 ^ k ≤ 128 * 128 ^ k := by
    have := Nat.mul_le_mul_right (128 ^ k) (show x + 1 ≤ 128 by omega)
    rw [Nat.add_mul] at this; omega
  have e : ((x : Int) * 2 ^ (7 * k)) = ((x * 2 ^ (7 * k) : Nat) : Int) := by simp
  rw [e, bits_or_u64_nat _ _ (by omega) (by rw [← hp]; omega)]
  congr 1
  rw [Nat.or_comm, Nat.mul_comm x, ← Nat.two_pow_add_eq_or_of_lt (by rw [← hp]; exact hv), hp]
  rw [Nat.mul_comm x]; omega

/-! ### An eye's state: the bytes that are left, and the first error -/
abbrev ES := List Int × Int
def numS (s : ES) : Nat × ES := if s.2 = 0 then (match numR s.1 0 0 with | .ok p => (p.1, (p.2, 0)) | .error c => (0, (s.1, c))) else (0, s)
def uptoS (m : Nat) (s : ES) : Nat × ES := if (numS s).2.2 = 0 then (if m < (numS s).1 then (0, ((numS s).2.1, 5)) else numS s) else (0, (numS s).2)
def rawS (n : Nat) (s : ES) : List Int × ES := if s.2 = 0 then (if n ≤ s.1.length then (s.1.take n, (s.1.drop n, 0)) else ([], (s.1, 2))) else ([], s)
def textS (m : Nat) (s : ES) : List Int × ES := rawS (uptoS m s).1 (uptoS m s).2
def sumS (s : ES) : List Int × ES := (if s.2 = 0 ∧ 32 ≤ s.1.length then (rawS 32 s).1 else zero32, (rawS 32 s).2)
def failS (c : Int) (s : ES) : ES := (s.1, if s.2 = 0 then c else s.2)
end Go.Proofs.Ytcghjnegaiiieaa

/- The disk (layer 22): any call of both, and whole scripts. -/
import Derived.Test.YtfblececmkimiaaDisk14
namespace Go.Proofs.Ytfblececmkimiaa
open Go.RowKit

theorem go_inv (p : Nat) (data : List Int) : ∀ (n k : Nat) (D : Disk), (p + k + n) * 64 ≤ D.b.length →
    (Disk.go p data n k D).2.b.length = D.b.length ∧ (Disk.go p data n k D).2.fuse ≤ D.fuse ∧ D.wrote ≤ (Disk.go p data n k D).2.wrote ∧ (Disk.go p data n k D).2.wrote ≤ D.wrote + n
  | 0, k, D, h => ⟨rfl, Int.le_refl _, Int.le_refl _, by simp [Disk.go]⟩
  | n + 1, k, D, h => by
    unfold Disk.go
    by_cases hz : D.fuse = 0
    · rw [if_pos hz]; exact ⟨rfl, Int.le_refl _, Int.le_refl _, by dsimp only; omega⟩
    · rw [if_neg hz]
      have e1 : (D.sector p data k).b.length = D.b.length := length_splice _ _ _ (by simp; omega)
      have e2 : (D.sector p data k).fuse ≤ D.fuse := by unfold Disk.sector; dsimp only; split <;> omega
      have e3 : (D.sector p data k).wrote = D.wrote + 1 := rfl
      obtain ⟨h1, h2, h3, h4⟩ := go_inv p data n (k + 1) (D.sector p data k) (by rw [e1]; omega)
      exact ⟨h1.trans e1, by omega, by omega, by omega⟩
theorem write_inv (D : Disk) (x : Int) (data : List Int) : (D.write x data).2.b.length = D.b.length ∧ (D.write x data).2.fuse ≤ D.fuse ∧ D.wrote ≤ (D.write x data).2.wrote ∧ (D.write x data).2.wrote ≤ D.wrote + (data.length / 64 : Nat) := by
  unfold Disk.write
  by_cases h : data.length % 64 ≠ 0 ∨ fitsB D.b.length x ((data.length / 64 : Nat) : Int) = false
  · rw [if_pos h]; exact ⟨rfl, Int.le_refl _, Int.le_refl _, by dsimp only; omega⟩
  · rw [if_neg h]
    by_cases h2 : D.dead = true
    · rw [if_pos h2]; exact ⟨rfl, Int.le_refl _, Int.le_refl _, by dsimp only; omega⟩
    · rw [if_neg h2]
      have hf : fitsB D.b.length x ((data.length / 64 : Nat) : Int) = true := by
        cases hb : fitsB D.b.length x ((data.length / 64 : Nat) : Int) with
        | true => rfl
        | false => exact absurd (.inr hb) h
      obtain ⟨h3, h4, h5⟩ := fits_iff.1 hf
      exact go_inv _ _ _ _ _ (by omega)

structure DOp where
  kd : Int
  x : Int
  n : Int
  A : Option Addr
  C : Nat
  data : List Int
structure OpIn (w : World) (o : DOp) : Prop where
  rd : RdInts w .u8 o.A o.data
  l1 : o.data.length ≤ o.C
  l2 : o.C ≤ maxLen
  n1 : o.n ≤ 9223372036854775807
theorem OpIn.lt {w : World} {o : DOp} (h : OpIn w o) (ad : Addr) (e : o.A = some ad) (hp : 0 < o.data.length) : ad.block < w.heap.size := by
  obtain ⟨ad', e', hc⟩ := h.rd 0 hp
  rw [e] at e'
  obtain rfl : ad = ad' := Option.some.inj e'
  exact World.block_lt_of_cell? w _ hc
/-- What stays within bounds. -/
structure DInv (L : Nat) (t : Int) (D : Disk) (P : Plain) : Prop where
  len : D.b.length = L
  f1 : D.fuse ≤ 9223372036854775807
  f2 : P.fuse ≤ 9223372036854775807
  w0 : 0 ≤ D.wrote
  w1 : D.wrote ≤ t

theorem step_any (w0 w : World) (g r gp : Nat) (v : Value) (D : Disk) (P : Plain) (o : DOp) (L : Nat) (t : Int) (h : Pair w0 w g r gp v D P) (hrel : Rel D P) (hi : DInv L t D P) (h0 : 0 < L) (h1 : L ≤ 2097152) (ht : t ≤ 1125899906842624)
    (ho : OpIn w0 o) (hd : o.data.length ≤ 640) :
    Calls Try.prog 37 #[.pointer (some ⟨g, 0, none⟩), .pointer (some ⟨gp, 0, none⟩), .agg #[.int .i64 o.kd, .int .i64 o.x, .int .i64 o.n, .slice o.A o.data.length o.C]] w fun e w' => e = .returned (.bool true) ∧
      ∃ v' D' P', Pair w0 w' g r gp v' D' P' ∧ Rel D' P' ∧ DInv L (t + 10) D' P' := by
  obtain ⟨kd, x, n, A, C, data⟩ := o
  dsimp only
  have hlen := hi.len
  by_cases k3 : kd = 3
  · subst k3
    by_cases hg : D.readE x n = 0
    · exact (stepRead_good w0 w g r gp v D P x n A _ C h hrel (by omega) (by omega) ho.n1 hg).mono fun e w' ⟨he, hp⟩ => ⟨he, v, D, P, hp, hrel, hi.len, hi.f1, hi.f2, hi.w0, by have := hi.w1; omega⟩
    · exact (stepRead_bad w0 w g r gp v D P x n A _ C h hrel (by omega) ho.n1 hg).mono fun e w' ⟨he, hp⟩ => ⟨he, v, D, P, hp, hrel, hi.len, hi.f1, hi.f2, hi.w0, by have := hi.w1; omega⟩
  · by_cases k4 : kd = 4
    · subst k4
      exact (stepArm_any w0 w g r gp v D P x n A _ C h hrel ho.n1).mono fun e w' ⟨he, P', hp, hr, hf⟩ => ⟨he, v, _, P', hp, hr, hi.len, by
        have := ho.n1
        dsimp only at this
        unfold Disk.arm; dsimp only; split <;> omega, hf, hi.w0, by have := hi.w1; show D.wrote ≤ _; omega⟩
    · by_cases k5 : kd = 5
      · subst k5
        exact (stepWake_any w0 w g r gp v D P x n A _ C h hrel hi.f2).mono fun e w' ⟨he, P', hp, hr, hf⟩ => ⟨he, v, _, P', hp, hr, hi.len, by unfold Disk.wake; dsimp only; omega, hf, hi.w0, by have := hi.w1; show D.wrote ≤ _; omega⟩
      · obtain ⟨i1, i2, i3, i4⟩ := write_inv D x data
        exact (stepWrite_any w0 w g r gp v D P kd x n A C data h hrel k3 k4 k5 (by omega) ho.rd ho.l1 ho.l2 (fun ad e hp => ho.lt ad e hp) hi.f1 hi.f2 hi.w0 (by have := hi.w1; omega)).mono fun e w' ⟨he, v', P', hp, hr, hf⟩ =>
          ⟨he, v', _, P', hp, hr, by omega, by have := hi.f1; omega, hf, by have := hi.w0; omega, by have := hi.w1; dsimp only at hd; omega⟩

/-- A script that is read. -/
def RdScript (w : World) (A : Option Addr) (xs : List DOp) : Prop := ∀ i (h : i < xs.length), ∃ ad, A = some ad ∧ w.cell? (ad.add (i * 4)) = some (.int .i64 xs[i].kd) ∧
  w.cell? ⟨(ad.add (i * 4)).block, (ad.add (i * 4)).off + 1, none⟩ = some (.int .i64 xs[i].x) ∧ w.cell? ⟨(ad.add (i * 4)).block, (ad.add (i * 4)).off + 2, none⟩ = some (.int .i64 xs[i].n) ∧
  w.cell? ⟨(ad.add (i * 4)).block, (ad.add (i * 4)).off + 3, none⟩ = some (.slice xs[i].A xs[i].data.length xs[i].C) ∧ OpIn w xs[i]

set_option maxRecDepth 100000 in
set_option maxHeartbeats 8000000 in
theorem diskPlays_out (x : Int) (V : Value) (w : World) (h : 40 < x ∧ x ≤ 16384) : Calls Try.prog 8 #[.int .i64 x, V] w fun e w' => e = .returned (.bool true) ∧ Kept Nob w w' := by
  obtain ⟨h1, h2⟩ := h
  go_enter Try.func8, Try.ntmps8
  go_wp2_with (go_at_call 32; refine (awaked_any _).mono ?_; rintro e w2 ⟨rfl, hk⟩; have H2 := hidden hk; clear hk)
  go_ret
  exact ⟨rfl, H2.out⟩
set_option maxRecDepth 100000 in
set_option maxHeartbeats 8000000 in
theorem diskPlays_bad (x : Int) (V : Value) (w : World) (h : x < 1 ∨ 16384 < x) : Calls Try.prog 8 #[.int .i64 x, V] w fun e w' => e = .returned (.bool true) ∧ Kept Nob w w' := by
  have HN := hidden (new_bad x w h)
  have hcase : (x < 1 ∧ ¬ 40 < x) ∨ (¬ x < 1 ∧ 40 < x ∧ ¬ x ≤ 16384 ∧ 16384 < x) := by omega
  clear h
  rcases hcase with ⟨h1, h2⟩ | ⟨h1, h2, h3, h4⟩
  all_goals
    go_enter Try.func8, Try.ntmps8
    go_wp2_with (first
      | (go_at_call 36; refine HN.out.mono ?_; rintro e w1 ⟨rfl, rfl⟩)
      | (go_at_call 32; refine (awaked_any _).mono ?_; rintro e w2 ⟨rfl, hk⟩; have H2 := hidden hk; clear hk))
    go_ret
    exact ⟨rfl, H2.out⟩
end Go.Proofs.Ytfblececmkimiaa

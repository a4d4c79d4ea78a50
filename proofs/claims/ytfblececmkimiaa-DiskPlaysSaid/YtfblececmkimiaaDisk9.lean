/- The disk (layer 22): what the document's disk writes, anywhere. -/
import Derived.Test.YtfblececmkimiaaDisk8
namespace Go.Proofs.Ytfblececmkimiaa
open Go.RowKit

set_option maxRecDepth 100000 in
set_option maxHeartbeats 8000000 in
theorem plainWrite_any (g : Nat) (v : Value) (P : Plain) (D : Disk) (x : Int) (A : Option Addr) (C : Nat) (data : List Int) (w : World) (h : PlainAt w g v P) (hrel : Rel D P) (hn : P.b.length ≤ 2097152)
    (hR : RdInts w .u8 A data) (hC : data.length ≤ C) (hC2 : C ≤ maxLen) (hsep : ∀ ad, A = some ad → 0 < data.length → ad.block ≠ g)
    (f1 : P.fuse ≤ 9223372036854775807) (w0 : 0 ≤ P.wrote) (w1 : P.wrote ≤ 1125899906842624) :
    Calls Try.prog 69 #[.pointer (some ⟨g, 0, none⟩), .int .i64 x, .slice A data.length C] w fun e w' => e = .returned (.int .i64 (D.write x data).1) ∧ ∃ v' P', PlainAt w' g v' P' ∧ Rel (D.write x data).2 P' ∧
      Kept (fun k => k = g) w w' ∧ (v'.ownBlock = v.ownBlock ∨ ∃ b, v'.ownBlock = some b ∧ w.heap.size ≤ b) ∧ P'.fuse ≤ 9223372036854775807 := by
  have H := hidden h
  have HR := hidden hR
  have HREL := hidden hrel
  have HSEP := hidden hsep
  have hC3 := hC2
  unfold maxLen at hC3
  have e1 : (data.length : Int).tmod 64 = ((data.length % 64 : Nat) : Int) := by rw [Int.tmod_eq_emod_of_nonneg (by omega)]; omega
  have e2 : (data.length : Int).tdiv 64 = ((data.length / 64 : Nat) : Int) := by rw [Int.tdiv_eq_ediv_of_nonneg (by omega)]; omega
  have e3 : IntKind.i64.wrap ((data.length / 64 : Nat) : Int) = ((data.length / 64 : Nat) : Int) := IntWalk.i64_in _ (by omega)
  have HWI := hidden (plainWithin_any g v P x ((data.length / 64 : Nat) : Int) w h hn (by omega))
  have cd := (blk_cell h.blk 3).trans rfl
  obtain ⟨r1, r2, r3, r4⟩ := hrel
  rw [r1] at HWI
  rw [r2] at cd
  have HR1 := hidden r1
  have HR2 := hidden r2
  clear h hR hsep r1 r2 r3 r4
  by_cases h64 : data.length % 64 = 0
  · by_cases hfit : fitsB D.b.length x ((data.length / 64 : Nat) : Int) = false
    · have hw : D.write x data = (1, D) := by unfold Disk.write; rw [if_pos (.inr hfit)]
      rw [hw]
      rw [hfit] at HWI
      have h64' : ((data.length % 64 : Nat) : Int) = 0 := by omega
      clear hw hfit h64
      go_enter Try.func69, Try.ntmps69
      go_wp2_with (go_at_call 68; refine HWI.out.mono ?_; rintro e w1 ⟨rfl, rfl⟩)
      go_ret
      exact ⟨rfl, _, _, H.out, HREL.out, Kept.refl _ _, .inl rfl, f1⟩
    · have hfit : fitsB D.b.length x ((data.length / 64 : Nat) : Int) = true := by simpa using hfit
      by_cases hdead : D.dead = true
      · have hw : D.write x data = (19, D) := by unfold Disk.write; rw [if_neg (by rintro (h | h); exact h h64; rw [hfit] at h; cases h), if_pos hdead]
        rw [hw]
        rw [hfit] at HWI
        rw [hdead] at cd
        have h64' : ((data.length % 64 : Nat) : Int) = 0 := by omega
        clear hw hfit h64 hdead
        go_enter Try.func69, Try.ntmps69
        go_wp2_with (go_at_call 68; refine HWI.out.mono ?_; rintro e w1 ⟨rfl, rfl⟩)
        go_ret
        exact ⟨rfl, _, _, H.out, HREL.out, Kept.refl _ _, .inl rfl, f1⟩
      · have hw : D.write x data = Disk.go x.toNat data (data.length / 64) 0 D := by unfold Disk.write; rw [if_neg (by rintro (h | h); exact h h64; rw [hfit] at h; cases h), if_neg hdead]
        rw [hw]
        obtain ⟨h1, h2, h3⟩ := fits_iff.1 hfit
        obtain ⟨p, rfl⟩ : ∃ p : Nat, x = p := ⟨x.toNat, by omega⟩
        have hpl : (p + data.length / 64) * 64 ≤ P.b.length := by rw [HR1.out]; omega
        exact plainWrite_go g v P D p A C (data.length / 64) data w H.out HREL.out hn (by rw [HR2.out]; simpa using hdead) (by omega) hpl HR.out hC hC2 HSEP.out f1 w0 w1
  · have hw : D.write x data = (1, D) := by unfold Disk.write; rw [if_pos (.inl h64)]
    rw [hw]
    have h64' : ¬ ((data.length % 64 : Nat) : Int) = 0 := by omega
    clear hw h64
    go_enter Try.func69, Try.ntmps69
    go_wp2_with (go_at_call 68; refine HWI.out.mono ?_; rintro e w1 ⟨rfl, rfl⟩)
    go_ret
    exact ⟨rfl, _, _, H.out, HREL.out, Kept.refl _ _, .inl rfl, f1⟩
end Go.Proofs.Ytfblececmkimiaa

/- SHA-256 as the program has it: padding. -/
import Derived.Test.YtcghjnegaiiieaaSha3
namespace Go.Proofs.Ytcghjnegaiiieaa
open Go.RowKit
theorem rd_byte {w : World} (x : Int) (e : TypeId) : RdInts (w.alloc (.cells #[.int .u8 x] e)) .u8 (some ⟨w.heap.size, 0, none⟩) [x] := fun i hi => by
  refine ⟨_, rfl, ?_⟩
  have ea : (⟨w.heap.size, 0, none⟩ : Addr).add i = ⟨w.heap.size, i, none⟩ := by
    unfold Addr.add
    split <;> simp_all
  rw [ea, blk_cell (heap_alloc_new w _)]
  match i, hi with
  | 0, _ => rfl
/-- A number's bytes, the highest first. -/
def lenB (m : Int) (j : Nat) : List Int := (List.range j).map fun t => m / 2 ^ (56 - 8 * t) % 256
def padF (xs : List Int) : List Int := xs ++ [128] ++ List.replicate ((119 - xs.length % 64) % 64) 0 ++ lenB (xs.length * 8) 8
set_option maxRecDepth 100000 in
set_option maxHeartbeats 8000000 in
theorem padded_any (A : Option Addr) (c : Nat) (xs : List Int) (w : World) (h : RdInts w .u8 A xs) (h0 : A = none → xs = []) (hn : xs.length ≤ 100000000) :
    Calls Try.prog 122 #[.slice A xs.length c] w fun e w' => (∃ v, e = .returned v ∧ OwnB w' w.heap.size v (padF xs)) ∧ Kept Nob w w' := by
  have HX := hidden h
  have HN := hidden h0
  obtain ⟨n, hxn⟩ : ∃ n, xs.length = n := ⟨_, rfl⟩
  rw [hxn] at hn ⊢
  have HXN := hidden hxn
  clear h h0 hxn
  go_enter Try.func122, Try.ntmps122
  go_wp2_with (first
    | (at_builtin; refine OwnB.app rfl (.const (.slice none 0 0)) (.tmp 10) rfl w.heap.size _ [] rfl (OwnB.nil _ _) A c xs (by rw [HXN.out]; rfl) HX.out HN.out (by rw [HXN.out]; simp; omega) (Nat.le_refl _) ?_; intro v1 w1 ho1 hk1; have HO1 := hidden ho1; have HK1 := hidden hk1; clear ho1 hk1)
    | (at_builtin; refine OwnB.app rfl (.tmp 11) (.tmp 12) rfl w.heap.size _ xs rfl (OwnB.keep HO1.out (by repeat (first | exact Kept.refl _ _ | apply Kept.alloc | apply Kept.drewN | apply Kept.drew)) (fun _ _ h => h)) _ 1 [128] rfl (rd_byte _ _) (fun e => by cases e) (by rw [HXN.out]; simp; omega) (by have := HK1.out.size; simp; omega) ?_; intro v2 w2 ho2 hk2; have HO2 := hidden ho2; have HK2 := hidden hk2; clear ho2 hk2))
  have HK0 : Hid (Kept Nob w w2) := hidden (Kept.then (Kept.alloc (Kept.then (Kept.refl Nob w) HK1.out (fun b hb h => by omega)) _) HK2.out (fun b hb h => by omega))
  obtain ⟨z, hz⟩ : ∃ z, (119 - n % 64) % 64 = z := ⟨_, rfl⟩
  have HZ := hidden hz
  have hz64 : z < 64 := by omega
  clear hz HK1
  have HO2' : Hid (OwnB w2 w.heap.size v2 (xs ++ [128])) := HO2
  go_loopw [4] (fun v wr => ∃ j : Nat, j ≤ z ∧ OwnB wr w.heap.size v (xs ++ [128] ++ List.replicate j 0) ∧ Kept Nob w wr) (fun v _ => z + n + 1 - (match v with | .slice _ l _ => l | _ => 0))
  case atStart => exact ⟨0, by omega, by simpa using HO2'.out, HK0.out⟩
  case round =>
    obtain ⟨j, hj, ho, hk⟩ := hrel
    have HO := hidden ho
    have HK := hidden hk
    obtain ⟨A', c', hv, hlc, _, _⟩ := ho.slice
    obtain ⟨m, hm⟩ : ∃ m, m = n + 1 + j := ⟨_, rfl⟩
    have hlen : (xs ++ [128] ++ List.replicate j (0 : Int)).length = m := by simp [HXN.out]; omega
    rw [hlen] at hv hlc
    subst hv
    have HM := hidden hm
    have HL := hidden hlen
    have hmb : m ≤ 200000000 := by omega
    clear ho hk hlen
    by_cases hjz : j < z
    · have y0 : ¬ ((m : Int) % 64 = 56) := by have := HZ.out; omega
      have y1 : ((m : Int) % 64 != 56) = true := by simpa using y0
      clear hm
      go_wp2_with (at_builtin; refine OwnB.app rfl (.tmp 18) (.tmp 19) rfl w.heap.size _ (xs ++ [128] ++ List.replicate j 0) (by rw [← HL.out]; rfl) (OwnB.keep HO.out (by repeat (first | exact Kept.refl _ _ | apply Kept.alloc | apply Kept.drewN | apply Kept.drew)) (fun _ _ h => h)) _ 1 [0] rfl (rd_byte _ _) (fun e => by cases e) (by rw [HL.out]; simp; omega) (by have := HK.out.size; simp; omega) ?_; intro v3 w3 ho3 hk3; have HO3 := hidden ho3; have HK3 := hidden hk3; clear ho3 hk3)
      go_roundw
      case rel => exact ⟨j + 1, by omega, by have := HO3.out; rw [List.append_assoc, ← List.replicate_succ'] at this; exact this, Kept.then (Kept.alloc HK.out _) HK3.out (fun b hb h => by omega)⟩
      case measure =>
        obtain ⟨A5, c5, hv5, _⟩ := HO3.out.slice
        rw [hv5]
        have := HL.out
        have := HM.out
        simp only [List.length_append, List.length_cons, List.length_nil] at *
        omega
    · obtain ⟨hjz'⟩ : Nonempty (j = z) := ⟨by omega⟩
      have y0 : (m : Int) % 64 = 56 := by have := HZ.out; omega
      have y1 : ((m : Int) % 64 != 56) = false := by simpa using y0
      have HB : Hid (OwnB wr w.heap.size (.slice A' m c') (xs ++ [128] ++ List.replicate ((119 - xs.length % 64) % 64) 0)) := hidden (by have := HO.out; rw [hjz', ← HZ.out, ← HXN.out] at this; exact this)
      obtain ⟨bs, hbs⟩ : ∃ bs, xs ++ [128] ++ List.replicate ((119 - xs.length % 64) % 64) 0 = bs := ⟨_, rfl⟩
      have HBS := hidden hbs
      have HPF : Hid (padF xs = bs ++ lenB (n * 8) 8) := hidden (by unfold padF; rw [hbs, HXN.out])
      rw [hbs] at HB
      have hbl : bs.length = m := by have := HL.out; rw [← hbs, HXN.out, HZ.out, ← hjz']; exact this
      have HBL := hidden hbl
      clear hbs hbl hm HO hjz' HL
      go_wp2
      clear y0 y1
      go_loopw [4, 5] (fun v i w5 => ∃ (j : Nat) (ii : Int), j ≤ 8 ∧ ii = 56 - 8 * j ∧ i = .int .i64 ii ∧ OwnB w5 w.heap.size v (bs ++ lenB (n * 8) j) ∧ Kept Nob w w5) (fun _ i _ => (intOf i + 8).toNat)
      case atStart => exact ⟨0, 56, by omega, by omega, rfl, by simpa [lenB] using HB.out, HK.out⟩
      case round =>
        obtain ⟨j, ii, hj, hii, rfl, ho, hk⟩ := hrel
        have HO5 := hidden ho
        have HK5 := hidden hk
        obtain ⟨A6, c6, hv, hlc, _, _⟩ := ho.slice
        obtain ⟨l, hl⟩ : ∃ l, (bs ++ lenB (n * 8) j).length = l := ⟨_, rfl⟩
        have hlb : l ≤ 200000008 := by rw [← hl, List.length_append, HBL.out]; simp [lenB]; omega
        rw [hl] at hv hlc
        subst hv
        have HL := hidden hl
        have HII := hidden hii
        clear ho hk hl
        by_cases hj8 : j < 8
        · have i0 : 0 ≤ ii := by omega
          have i1 : ii ≤ 56 := by omega
          clear hii
          go_wp2_with (at_builtin; refine OwnB.app rfl (.tmp 25) (.tmp 30) rfl w.heap.size _ (bs ++ lenB (n * 8) j) (by rw [← HL.out]; rfl) (OwnB.keep HO5.out (by repeat (first | exact Kept.refl _ _ | apply Kept.alloc | apply Kept.drewN | apply Kept.drew)) (fun _ _ h => h)) _ 1 [(n : Int) * 8 / 2 ^ ii.toNat % 256] rfl (rd_byte _ _) (fun e => by cases e) (by rw [HL.out]; simp; omega) (by have := HK5.out.size; simp; omega) ?_; intro v3 w3 ho3 hk3; have HO3 := hidden ho3; have HK3 := hidden hk3; clear ho3 hk3)
          go_roundw
          case rel => exact ⟨j + 1, ii - 8, by omega, by have := HII.out; omega, rfl, by have := HO3.out; rw [List.append_assoc] at this; unfold lenB; rw [List.range_succ, List.map_append]; have e : ii.toNat = 56 - 8 * j := (by have := HII.out; omega); rw [e] at this; exact this, Kept.then (Kept.alloc HK5.out _) HK3.out (fun b hb h => by omega)⟩
          case measure => simp [intOf]; omega
        · obtain ⟨hj8'⟩ : Nonempty (j = 8) := ⟨by omega⟩
          have i0 : ii < 0 := by omega
          clear hii
          go_wp2
          go_ret
          exact ⟨⟨_, rfl, by rw [HPF.out, ← hj8']; exact HO5.out⟩, HK5.out⟩
end Go.Proofs.Ytcghjnegaiiieaa

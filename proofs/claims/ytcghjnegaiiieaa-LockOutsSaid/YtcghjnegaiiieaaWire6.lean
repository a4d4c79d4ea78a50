/- Numbers as bytes, one below 0 as 0: a pen writes some (layer 1). -/
import Derived.Test.YtcghjnegaiiieaaWire5
namespace Go.Proofs.Ytcghjnegaiiieaa
open Go.RowKit
def numsI (l : List Int) : List Int := l.flatMap fun n => numB n.toNat
theorem pen_numI (n : Int) (base g : Nat) (xs : List Int) (w : World) (h : PenAt w base g xs) (hb : base ≤ w.heap.size) (hv : n < 9223372036854775808) (hx : xs.length ≤ 100000000) :
    Calls Try.prog 35 #[.pointer (some ⟨g, 0, none⟩), .int .i64 n] w fun e w' => e = .returned (.pointer (some ⟨g, 0, none⟩)) ∧ PenAt w' base g (xs ++ numB n.toNat) ∧ Kept (PenS base g) w w' := by
  by_cases hn : n < 0
  · rw [show n.toNat = 0 from by omega]
    exact pen_neg n hn base g xs w h hb hx
  · obtain ⟨v, rfl⟩ : ∃ v : Nat, n = v := ⟨n.toNat, by omega⟩
    exact pen_num v base g xs w h hb (by omega) hx
set_option maxRecDepth 100000 in
set_option maxHeartbeats 8000000 in
theorem pen_numsI (l : List Int) (LA : Option Addr) (lc : Nat) (F : Nat → Prop) (base g : Nat) (xs : List Int) (w : World) (h : PenAt w base g xs) (hb : base ≤ w.heap.size) (hl : Ints w F .i64 LA lc l) (hF : ∀ b, F b → b ≠ g ∧ b < base) (hv : ∀ v ∈ l, v < 9223372036854775808) (hx : xs.length + 10 * l.length ≤ 100000000) :
    Calls Try.prog 34 #[.pointer (some ⟨g, 0, none⟩), .slice LA l.length lc] w fun e w' => e = .returned (.pointer (some ⟨g, 0, none⟩)) ∧ PenAt w' base g (xs ++ numsI l) ∧ Kept (PenS base g) w w' := by
  have HP := hidden h
  have HKR := hidden (Kept.refl (PenS base g) w)
  have HL := hidden hl
  have HF := hidden hF
  have HV := hidden hv
  have hle := hl.le
  have hmx := hl.max
  unfold maxLen at hmx
  clear h hl hF hv
  go_enter Try.func34, Try.ntmps34
  go_wp2
  go_loopw [6, 9] (fun _ i wr => ∃ k : Nat, k ≤ l.length ∧ i = .int .i64 k ∧ PenAt wr base g (xs ++ numsI (l.take k)) ∧ Kept (PenS base g) w wr) (fun _ i _ => l.length - (intOf i).toNat)
  case atStart => exact ⟨0, Nat.zero_le _, rfl, by simpa [numsI] using HP.out, HKR.out⟩
  case round =>
    obtain ⟨k, hk, rfl, hp, hkp⟩ := hrel
    have HP2 := hidden hp
    have HK2 := hidden hkp
    clear hp hkp
    by_cases hlt : k < l.length
    · obtain ⟨ad, hA, hc⟩ := (HL.out.keep HK2.out (fun b hb h => by have := HF.out b hb; unfold PenS at h; omega)).rd k hlt
      subst hA
      have HTK : Hid (numsI (l.take (k + 1)) = numsI (l.take k) ++ numB l[k].toNat) := hidden (by unfold numsI; rw [List.take_succ_eq_append_getElem hlt, List.flatMap_append]; simp)
      have HLN : Hid ((xs ++ numsI (l.take k)).length ≤ 100000000) := hidden (by
        have : ∀ (m : List Int), (∀ v ∈ m, v < 9223372036854775808) → (numsI m).length ≤ 10 * m.length := by
          intro m
          induction m with
          | nil => intro _; simp [numsI]
          | cons a m ih =>
            intro hm
            have h1 := numB_len a.toNat (by have := hm a (by simp); omega)
            have h2 := ih (fun v hv => hm v (by simp [hv]))
            simp only [numsI, List.flatMap_cons, List.length_append, List.length_cons] at *
            omega
        have h3 := this (l.take k) (fun v hv => HV.out v (List.mem_of_mem_take hv))
        rw [List.length_append]
        rw [List.length_take] at h3
        omega)
      have HVK : Hid (l[k] < 9223372036854775808) := hidden (HV.out _ (List.getElem_mem hlt))
      have hc2 : wr.cell? (ad.add k) = some (.int .i64 l[k]) := by rw [hc]; simp [List.getD_eq_getElem?_getD, hlt]
      clear hc
      generalize l[k] = z at hc2 HTK HVK
      have HNUM := hidden (pen_numI z base g (xs ++ numsI (l.take k)) wr HP2.out (by have := HK2.out.size; omega) HVK.out HLN.out)
      go_wp2_with (go_at_call 35; refine HNUM.out.mono ?_; rintro e w3 ⟨rfl, hp3, hk3⟩; have HP3 := hidden hp3; have HK3 := hidden hk3; clear hp3 hk3; dsimp only)
      go_roundw
      case rel => exact ⟨k + 1, by omega, by go_num, by rw [HTK.out, ← List.append_assoc]; exact HP3.out, HK2.out.trans HK3.out⟩
      case measure => simp [intOf]; omega
    · obtain rfl : k = l.length := by omega
      go_wp2
      go_ret
      exact ⟨rfl, by have := HP2.out; rwa [List.take_length] at this, HK2.out⟩
end Go.Proofs.Ytcghjnegaiiieaa

/- Numbers as bytes: a pen writes one (layer 1). -/
import Derived.Test.YtcghjnegaiiieaaSha7
namespace Go.Proofs.Ytcghjnegaiiieaa
open Go.RowKit
/-- A number's bytes: seven bits each, the lowest first. -/
def numB (n : Nat) : List Int := if h : n < 128 then [(n : Int)] else ((n : Int) % 128 + 128) :: numB (n / 128)
termination_by n
decreasing_by omega
theorem or128 (x : Nat) : bits BinOp.or IntKind.u8 ((x : Int) % 256) 128 = (x : Int) % 128 + 128 := by
  have key : ∀ y : Fin 256, bits BinOp.or IntKind.u8 ((y.val : Nat) : Int) 128 = ((y.val % 128 + 128 : Nat) : Int) := by decide +kernel
  have h := key ⟨x % 256, Nat.mod_lt _ (by decide)⟩
  rw [show ((x % 256 : Nat) : Int) = (x : Int) % 256 from by omega] at h
  rw [h]
  show ((x % 256 % 128 + 128 : Nat) : Int) = _
  omega
/-- A pen at a block, with what it has written in a row of its own from 'base' on. -/
def PenAt (w : World) (base g : Nat) (xs : List Int) : Prop := g < base ∧ ∃ v, w.heap[g]? = some (.cells #[v] 50 (0, 0)) ∧ OwnB w base v xs
theorem PenAt.keep {S : Nat → Prop} {w w' : World} {base g : Nat} {xs : List Int} (h : PenAt w base g xs) (hk : Kept S w w') (hg : ¬ S g) (hn : ∀ b, base ≤ b → ¬ S b) : PenAt w' base g xs := by
  obtain ⟨h1, v, h2, h3⟩ := h
  exact ⟨h1, v, hk.blk h2 hg, h3.keep hk hn⟩
def PenS (base g : Nat) : Nat → Prop := fun b => b = g ∨ base ≤ b
set_option maxRecDepth 100000 in
set_option maxHeartbeats 8000000 in
theorem pen_num (v0 : Nat) (base g : Nat) (xs : List Int) (w : World) (h : PenAt w base g xs) (hb : base ≤ w.heap.size) (hv : v0 < 9223372036854775808) (hx : xs.length ≤ 100000000) :
    Calls Try.prog 35 #[.pointer (some ⟨g, 0, none⟩), .int .i64 v0] w fun e w' => e = .returned (.pointer (some ⟨g, 0, none⟩)) ∧ PenAt w' base g (xs ++ numB v0) ∧ Kept (PenS base g) w w' := by
  have HP := hidden h
  have HKR := hidden (Kept.refl (PenS base g) w)
  have hmx : max (v0 : Int) 0 = v0 := by omega
  clear h
  go_enter Try.func35, Try.ntmps35
  go_wp2
  go_loopw [5] (fun i wr => ∃ (v j : Nat) (ys : List Int), i = .int .u64 v ∧ v < 9223372036854775808 ∧ ys.length ≤ 100000000 + j ∧ j ≤ 10 ∧ v < 128 ^ (10 - j) ∧ ys ++ numB v = xs ++ numB v0 ∧ PenAt wr base g ys ∧ Kept (PenS base g) w wr) (fun i _ => (intOf i).toNat)
  case atStart => exact ⟨v0, 0, xs, rfl, hv, hx, by omega, by omega, rfl, HP.out, HKR.out⟩
  case round =>
    obtain ⟨v, j, ys, rfl, hv', hy, hj, hvj, he, hp, hk⟩ := hrel
    obtain ⟨hg, v9, hb9, ho9⟩ := hp
    obtain ⟨A, c, hv9, hlc, _, _⟩ := ho9.slice
    subst hv9
    have q0 : wr.cell? ⟨g, 0, none⟩ = some (.slice A ys.length c) := blk_cell hb9 0
    have HO := hidden ho9
    have HB := hidden hb9
    have HK := hidden hk
    have HE := hidden he
    have HY : Hid (ys.length ≤ 100000010) := hidden (by omega)
    clear ho9 hb9 hk he
    by_cases h128 : 128 ≤ v
    · have hor := or128 v
      have hj10 : j < 10 := by
        rcases Nat.lt_or_ge j 10 with h | h
        · exact h
        · rw [show 10 - j = 0 from by omega] at hvj; omega
      have HVJ : Hid (v / 128 < 128 ^ (10 - (j + 1))) := hidden (by rw [show 10 - j = 10 - (j + 1) + 1 from by omega, Nat.pow_succ] at hvj; omega)
      have HN : Hid (numB v = ((v : Int) % 128 + 128) :: numB (v / 128)) := hidden (by rw [numB]; rw [dif_neg (by omega)])
      clear hvj
      go_wp2_with (at_builtin; refine OwnB.app rfl (.tmp 18) (.tmp 22) rfl base _ ys rfl (OwnB.keep HO.out (by repeat (first | exact Kept.refl _ _ | apply Kept.alloc | apply Kept.drewN | apply Kept.drew)) (fun _ _ h => h)) _ 1 [(v : Int) % 128 + 128] rfl (rd_byte _ _) (fun e => by cases e) (by have := HY.out; simp; omega) (by have := HK.out.size; simp; omega) ?_; intro v3 w3 ho3 hk3; obtain ⟨A3, c3, hv3, _, _, _⟩ := ho3.slice; subst hv3; simp only [List.length_append, List.length_cons, List.length_nil, Nat.zero_add] at ho3; have b3 := hk3.blk (blk_alloc HB.out _) (fun h => by omega); have q3 : w3.cell? ⟨g, 0, none⟩ = some (.slice A ys.length c) := blk_cell b3 0; have f3 : w3.frozen? ⟨g, 0, none⟩ = false := blk_frozen b3 0; have HO3 := hidden ho3; have HK3 := hidden hk3; have HB3 := hidden b3; clear ho3 hk3 b3; dsimp only)
      go_roundw
      case rel => exact ⟨v / 128, j + 1, ys ++ [(v : Int) % 128 + 128], by go_num, by omega, by simp; omega, by omega, HVJ.out, by rw [← HE.out, HN.out, List.append_assoc]; rfl, ⟨hg, _, blk_set HB3.out 0 _, HO3.out.keep (Kept.setCell (S := fun b => b = g) (Kept.refl _ _) (p := ⟨g, 0, none⟩) (fun _ => rfl) _) (fun b hb h => by omega)⟩, Kept.setCell (Kept.then (Kept.alloc HK.out _) HK3.out (fun b hb h => .inr h)) (p := ⟨g, 0, none⟩) (fun _ => .inl rfl) _⟩
      case measure => simp [intOf]; omega
    · have HN : Hid (numB v = [(v : Int)]) := hidden (by rw [numB]; rw [dif_pos (by omega)])
      have hm : (v : Int) % 256 = v := by omega
      go_wp2_with (at_builtin; refine OwnB.app rfl (.tmp 32) (.tmp 35) rfl base _ ys rfl (OwnB.keep HO.out (by repeat (first | exact Kept.refl _ _ | apply Kept.alloc | apply Kept.drewN | apply Kept.drew)) (fun _ _ h => h)) _ 1 [(v : Int)] rfl (rd_byte _ _) (fun e => by cases e) (by have := HY.out; simp; omega) (by have := HK.out.size; simp; omega) ?_; intro v3 w3 ho3 hk3; obtain ⟨A3, c3, hv3, _, _, _⟩ := ho3.slice; subst hv3; simp only [List.length_append, List.length_cons, List.length_nil, Nat.zero_add] at ho3; have b3 := hk3.blk (blk_alloc HB.out _) (fun h => by omega); have q3 : w3.cell? ⟨g, 0, none⟩ = some (.slice A ys.length c) := blk_cell b3 0; have f3 : w3.frozen? ⟨g, 0, none⟩ = false := blk_frozen b3 0; have HO3 := hidden ho3; have HK3 := hidden hk3; have HB3 := hidden b3; clear ho3 hk3 b3; dsimp only)
      go_ret
      exact ⟨rfl, ⟨hg, _, blk_set HB3.out 0 _, by rw [← HE.out, HN.out]; exact HO3.out.keep (Kept.setCell (S := fun b => b = g) (Kept.refl _ _) (p := ⟨g, 0, none⟩) (fun _ => rfl) _) (fun b hb h => by omega)⟩, Kept.setCell (Kept.then (Kept.alloc HK.out _) HK3.out (fun b hb h => .inr h)) (p := ⟨g, 0, none⟩) (fun _ => .inl rfl) _⟩
end Go.Proofs.Ytcghjnegaiiieaa

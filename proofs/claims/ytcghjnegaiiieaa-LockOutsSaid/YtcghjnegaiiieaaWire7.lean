/- A pen writes a text (layer 1). -/
import Derived.Test.YtcghjnegaiiieaaWire6
namespace Go.Proofs.Ytcghjnegaiiieaa
open Go.RowKit
def textB (s : List Int) : List Int := numB s.length ++ s
set_option maxRecDepth 100000 in
set_option maxHeartbeats 8000000 in
theorem pen_text (s : List Int) (TA : Option Addr) (tc : Nat) (F : Nat → Prop) (base g : Nat) (xs : List Int) (w : World) (h : PenAt w base g xs) (hb : base ≤ w.heap.size) (hs : Ints w F .u8 TA tc s) (hF : ∀ b, F b → b ≠ g ∧ b < base) (hx : xs.length + s.length ≤ 90000000) :
    Calls Try.prog 72 #[.pointer (some ⟨g, 0, none⟩), .slice TA s.length tc] w fun e w' => e = .returned (.pointer (some ⟨g, 0, none⟩)) ∧ PenAt w' base g (xs ++ textB s) ∧ Kept (PenS base g) w w' := by
  have HNUM := hidden (pen_num s.length base g xs w h hb (by omega) (by omega))
  have HSI := hidden hs
  have HF := hidden hF
  have hle := hs.le
  have hmx := hs.max
  unfold maxLen at hmx
  have HNL := hidden (numB_len s.length (by omega))
  obtain ⟨ys, hys⟩ : ∃ ys, xs ++ numB s.length = ys := ⟨_, rfl⟩
  have HYL : Hid (ys.length ≤ 90000010) := hidden (by rw [← hys, List.length_append]; have := HNL.out; omega)
  have HYS := hidden hys
  rw [hys] at HNUM
  clear hys
  clear h hs hF
  go_enter Try.func72, Try.ntmps72
  go_wp2_with (first
    | (go_at_call 35; refine HNUM.out.mono ?_; rintro e w2 ⟨rfl, hp2, hk2⟩; obtain ⟨hg, v9, hb9, ho9⟩ := hp2; obtain ⟨A, c, hv9, hlc, _, _⟩ := ho9.slice; subst hv9; have q0 : w2.cell? ⟨g, 0, none⟩ = some (.slice A ys.length c) := blk_cell hb9 0; have HO := hidden ho9; have HB := hidden hb9; have HK2 := hidden hk2; clear ho9 hb9 hk2; dsimp only)
    | (at_builtin; refine OwnB.app rfl (.tmp 16) (.tmp 17) rfl base _ ys rfl HO.out TA tc s rfl (HSI.out.keep HK2.out (fun b hb h => by have := HF.out b hb; unfold PenS at h; omega)).rd (fun e => by have := (HSI.out.nil e).1; exact this) (by have := HYL.out; omega) (by have := HK2.out.size; omega) ?_; intro v3 w3 ho3 hk3; obtain ⟨A3, c3, hv3, _, _, _⟩ := ho3.slice; subst hv3; rw [List.length_append] at ho3; have b3 := hk3.blk HB.out (fun h => by omega); have q3 : w3.cell? ⟨g, 0, none⟩ = some (.slice A ys.length c) := blk_cell b3 0; have f3 : w3.frozen? ⟨g, 0, none⟩ = false := blk_frozen b3 0; have HO3 := hidden ho3; have HK3 := hidden hk3; have HB3 := hidden b3; clear ho3 hk3 b3; dsimp only))
  go_ret
  have ho := HO3.out
  refine ⟨rfl, ⟨by omega, _, blk_set HB3.out 0 _, ?_⟩, Kept.setCell (Kept.then HK2.out HK3.out (fun b hb h => .inr h)) (p := ⟨g, 0, none⟩) (fun _ => .inl rfl) _⟩
  have e : xs ++ textB s = ys ++ s := by rw [← HYS.out]; unfold textB; rw [List.append_assoc]
  rw [e]
  refine OwnB.keep (S := fun b => b = g) (w := w3) ?_ (Kept.setCell (S := fun b => b = g) (Kept.refl _ _) (p := ⟨g, 0, none⟩) (fun _ => rfl) _) (fun b hb h => by omega)
  first | exact ho | simpa using ho
end Go.Proofs.Ytcghjnegaiiieaa

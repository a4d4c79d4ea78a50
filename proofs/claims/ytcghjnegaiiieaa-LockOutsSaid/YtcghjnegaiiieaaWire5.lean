/- A pen writes a number below 0 as 0 (layer 1). -/
import Derived.Test.YtcghjnegaiiieaaWire4
namespace Go.Proofs.Ytcghjnegaiiieaa
open Go.RowKit
set_option maxRecDepth 100000 in
set_option maxHeartbeats 8000000 in
theorem pen_neg (n : Int) (hn : n < 0) (base g : Nat) (xs : List Int) (w : World) (h : PenAt w base g xs) (hb : base ≤ w.heap.size) (hx : xs.length ≤ 100000000) :
    Calls Try.prog 35 #[.pointer (some ⟨g, 0, none⟩), .int .i64 n] w fun e w' => e = .returned (.pointer (some ⟨g, 0, none⟩)) ∧ PenAt w' base g (xs ++ numB 0) ∧ Kept (PenS base g) w w' := by
  obtain ⟨hg, v9, hb9, ho9⟩ := h
  obtain ⟨A, c, hv9, hlc, _, _⟩ := ho9.slice
  subst hv9
  have q0 : w.cell? ⟨g, 0, none⟩ = some (.slice A xs.length c) := blk_cell hb9 0
  have HO := hidden ho9
  have HB := hidden hb9
  clear ho9 hb9
  have hmx : max n 0 = 0 := by omega
  go_enter Try.func35, Try.ntmps35
  go_wp2
  go_loopw [5] (fun i wr => i = .int .u64 0 ∧ wr = w) (fun _ _ => 0)
  case atStart => exact ⟨rfl, rfl⟩
  case round =>
    obtain ⟨rfl, rfl⟩ := hrel
    go_wp2_with (at_builtin; refine OwnB.app rfl (.tmp 32) (.tmp 35) rfl base _ xs rfl (OwnB.keep HO.out (by repeat (first | exact Kept.refl _ _ | apply Kept.alloc | apply Kept.drewN | apply Kept.drew)) (fun _ _ h => h)) _ 1 [0] rfl (rd_byte _ _) (fun e => by cases e) (by simp; omega) (by simp; omega) ?_; intro v3 w3 ho3 hk3; obtain ⟨A3, c3, hv3, _, _, _⟩ := ho3.slice; subst hv3; simp only [List.length_append, List.length_cons, List.length_nil, Nat.zero_add] at ho3; have b3 := hk3.blk (blk_alloc HB.out _) (fun h => by omega); have q3 : w3.cell? ⟨g, 0, none⟩ = some (.slice A xs.length c) := blk_cell b3 0; have f3 : w3.frozen? ⟨g, 0, none⟩ = false := blk_frozen b3 0; have HO3 := hidden ho3; have HK3 := hidden hk3; have HB3 := hidden b3; clear ho3 hk3 b3; dsimp only)
    go_ret
    exact ⟨rfl, ⟨hg, _, blk_set HB3.out 0 _, by rw [show numB 0 = [0] from by rw [numB]; rfl]; exact HO3.out.keep (Kept.setCell (S := fun b => b = g) (Kept.refl _ _) (p := ⟨g, 0, none⟩) (fun _ => rfl) _) (fun b hb h => by omega)⟩, Kept.setCell (Kept.then (Kept.alloc (Kept.refl (PenS base g) _) _) HK3.out (fun b hb h => .inr h)) (p := ⟨g, 0, none⟩) (fun _ => .inl rfl) _⟩
end Go.Proofs.Ytcghjnegaiiieaa

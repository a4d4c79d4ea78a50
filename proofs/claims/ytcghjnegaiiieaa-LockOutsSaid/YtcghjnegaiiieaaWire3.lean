/- A pen's bytes; an eye at the front of bytes (layer 1). -/
import Derived.Test.YtcghjnegaiiieaaWire2
namespace Go.Proofs.Ytcghjnegaiiieaa
open Go.RowKit
set_option maxRecDepth 100000 in
set_option maxHeartbeats 8000000 in
theorem pen_bytes (base g : Nat) (xs : List Int) (w : World) (h : PenAt w base g xs) (hx : xs.length ≤ 100000000) :
    Calls Try.prog 30 #[.pointer (some ⟨g, 0, none⟩)] w fun e w' => ∃ v, e = .returned v ∧ OwnB w' w.heap.size v xs ∧ Kept Nob w w' := by
  obtain ⟨hg, v9, hb9, ho9⟩ := h
  obtain ⟨A, c, hv9, hlc, hr, h0⟩ := ho9.slice
  subst hv9
  have q0 : w.cell? ⟨g, 0, none⟩ = some (.slice A xs.length c) := blk_cell hb9 0
  have HR := hidden hr
  have H0 := hidden h0
  clear hr h0 ho9 hb9
  go_enter Try.func30, Try.ntmps30
  go_wp2_with (at_builtin; refine OwnB.app rfl (.const (.slice none 0 0)) (.tmp 8) rfl w.heap.size _ [] rfl (OwnB.nil _ _) A c xs rfl HR.out H0.out (by simp; omega) (Nat.le_refl _) ?_; intro v1 w1 ho1 hk1; have HO1 := hidden ho1; have HK1 := hidden hk1; clear ho1 hk1; dsimp only)
  go_ret
  exact ⟨_, rfl, by have := HO1.out; rwa [List.nil_append] at this, HK1.out.mono (fun b hb h => by omega)⟩
/-- An eye at a block, over bytes yet to be read, with its first error. -/
def EyeAt (w : World) (F : Nat → Prop) (g : Nat) (xs : List Int) (er : Int) : Prop := ∃ A c, w.heap[g]? = some (.cells #[.slice A xs.length c, .int .i64 er] 134 (0, 0)) ∧ Ints w F .u8 A c xs
set_option maxRecDepth 100000 in
set_option maxHeartbeats 8000000 in
theorem eye_err (w : World) (F : Nat → Prop) (g : Nat) (xs : List Int) (er : Int) (h : EyeAt w F g xs er) :
    Calls Try.prog 28 #[.pointer (some ⟨g, 0, none⟩)] w fun e w' => e = .returned (.int .i64 er) ∧ w = w' := by
  obtain ⟨A, c, hb, _⟩ := h
  have q1 : w.cell? ⟨g, 1, none⟩ = some (.int .i64 er) := blk_cell hb 1
  clear hb
  go_enter Try.func28, Try.ntmps28
  go_wp2
  go_ret
  exact ⟨rfl, rfl⟩
theorem EyeAt.keep {S : Nat → Prop} {w w' : World} {F : Nat → Prop} {g : Nat} {xs : List Int} {er : Int} (h : EyeAt w F g xs er) (hk : Kept S w w') (hg : ¬ S g) (hf : ∀ b, F b → ¬ S b) : EyeAt w' F g xs er := by
  obtain ⟨A, c, h1, h2⟩ := h
  exact ⟨A, c, hk.blk h1 hg, h2.keep hk hf⟩
set_option maxRecDepth 100000 in
set_option maxHeartbeats 8000000 in
theorem look_any (A : Option Addr) (c : Nat) (xs : List Int) (F : Nat → Prop) (w : World) (h : Ints w F .u8 A c xs) :
    Calls Try.prog 26 #[.slice A xs.length c] w fun e w' => e = .returned (.pointer (some ⟨w.heap.size, 0, none⟩)) ∧ EyeAt w' F w.heap.size xs 0 ∧ Kept Nob w w' := by
  have H := hidden h
  clear h
  go_enter Try.func26, Try.ntmps26
  go_wp2
  go_ret
  exact ⟨rfl, ⟨A, c, heap_alloc_new _ _, H.out.keep (Kept.alloc (Kept.refl Nob w) _) (fun _ _ h => h)⟩, Kept.alloc (Kept.refl _ _) _⟩
set_option maxRecDepth 100000 in
set_option maxHeartbeats 8000000 in
theorem eye_fail (w : World) (F : Nat → Prop) (g : Nat) (xs : List Int) (er e0 : Int) (h : EyeAt w F g xs er) (hF : ∀ b, F b → b ≠ g) :
    Calls Try.prog 84 #[.pointer (some ⟨g, 0, none⟩), .int .i64 e0] w fun e w' => e = .returned (.tuple #[]) ∧ EyeAt w' F g xs (if er = 0 then e0 else er) ∧ Kept (fun b => b = g) w w' := by
  obtain ⟨A, c, hb, hi⟩ := h
  have q1 : w.cell? ⟨g, 1, none⟩ = some (.int .i64 er) := blk_cell hb 1
  have fz : w.frozen? ⟨g, 1, none⟩ = false := blk_frozen hb 1
  have HB := hidden hb
  have HI := hidden hi
  clear hb hi
  by_cases h0 : er = 0
  · have e1 : (er == 0) = true := by simpa using h0
    have e2 : (if er = 0 then e0 else er) = e0 := if_pos h0
    rw [e2]
    clear h0 e2
    go_enter Try.func84, Try.ntmps84
    go_wp2
    go_end0
    have hk : Kept (fun b => b = g) w (w.setCell ⟨g, 1, none⟩ (.int .i64 e0)) := Kept.setCell (S := fun b => b = g) (Kept.refl _ _) (p := ⟨g, 1, none⟩) (fun _ => rfl) _
    exact ⟨rfl, ⟨A, c, blk_set HB.out 1 _, HI.out.keep hk (fun b hb h => hF b hb h)⟩, hk⟩
  · have e1 : (er == 0) = false := by simpa using h0
    have e2 : (if er = 0 then e0 else er) = er := if_neg h0
    rw [e2]
    clear h0 e2
    go_enter Try.func84, Try.ntmps84
    go_wp2
    go_end0
    exact ⟨rfl, ⟨A, c, HB.out, HI.out⟩, Kept.refl _ _⟩
end Go.Proofs.Ytcghjnegaiiieaa

/- The machine of numbers: it plays what the document's does. -/
import Derived.Test.YtfblececmkimiaaMach3
import Derived.Test.YtfblececmkimiaaMach4
import Derived.Test.YtfblececmkimiaaMach5
import Derived.Test.YtfblececmkimiaaMach10
namespace Go.Proofs.Ytfblececmkimiaa
open Go.RowKit

theorem step_any (g : Nat) (v : Value) (m : Mach) (k x : Int) (i : Nat) (w : World) (h : MachAt 101 w g v m) (inv : m.Inv i) (hi : i ≤ 60) :
    Calls Try.prog 51 #[.pointer (some ⟨g, 0, none⟩), .agg #[.int .i64 k, .int .i64 x]] w fun e w' => e = .returned (.int .i64 (opE m k x)) ∧ MachOut 101 w g v (opM m k x) w' := by
  by_cases h1 : k = 0 ∨ k = 1
  · have e1 : opE m k x = signE m x := by unfold opE; rw [if_pos h1]
    have e2 : opM m k x = signM m x := by unfold opM; rw [if_pos h1]
    rw [e1, e2]
    by_cases hs : signE m x = 0
    · exact stepSign_ok g v m k x i w h inv hi h1 hs
    · exact stepSign_bad g v m k x i w h inv hi h1 hs
  · by_cases h2 : k = 2
    · have e1 : opE m k x = revokeE m := by unfold opE; rw [if_neg h1, if_pos h2]
      have e2 : opM m k x = revokeM m := by unfold opM; rw [if_neg h1, if_pos h2]
      rw [e1, e2]
      exact stepRevoke_any g v m k x i w h inv hi h2
    · by_cases h3 : k = 3
      · have e1 : opE m k x = watchE m := by unfold opE; rw [if_neg h1, if_neg h2, if_pos h3]
        have e2 : opM m k x = watchM m := by unfold opM; rw [if_neg h1, if_neg h2, if_pos h3]
        rw [e1, e2]
        exact stepWatch_any g v m k x i w h inv hi h3
      · by_cases h4 : k = 4
        · have e1 : opE m k x = giveE m := by unfold opE; rw [if_neg h1, if_neg h2, if_neg h3, if_pos h4]
          have e2 : opM m k x = giveM m := by unfold opM; rw [if_neg h1, if_neg h2, if_neg h3, if_pos h4]
          rw [e1, e2]
          exact stepGive_any g v m k x i w h inv hi h4
        · have e1 : opE m k x = closeE m := by unfold opE; rw [if_neg h1, if_neg h2, if_neg h3, if_neg h4]
          have e2 : opM m k x = closeM m := by unfold opM; rw [if_neg h1, if_neg h2, if_neg h3, if_neg h4]
          rw [e1, e2]
          exact stepClose_any g v m k x i w h inv hi (by omega)

theorem MachAt.own_blk {T : TypeId} {w : World} {g b : Nat} {v : Value} {m : Mach} (h : MachAt T w g v m) (hb : v.ownBlock = some b) : ∃ (cs : Array Value) (fr : Nat × Nat), w.heap[b]? = some (.cells cs 2 fr) := by
  obtain ⟨_, ⟨rfl, _⟩ | ⟨r, c, cur, rfl, _, hh, _⟩⟩ := h.row
  · simp [Value.ownBlock] at hb
  · simp [Value.ownBlock] at hb
    subst hb
    exact ⟨_, _, hh⟩

/-- Two machines, apart from each other. -/
structure Two (T U : TypeId) (w0 w : World) (g1 g2 : Nat) (v1 v2 : Value) (m1 m2 : Mach) : Prop where
  a : Mine T w0 w g1 v1 m1
  b : Mine U w0 w g2 v2 m2
  sep : ∀ b, v1.ownBlock = some b → v2.ownBlock ≠ some b
theorem Two.swap {T U : TypeId} {w0 w : World} {g1 g2 : Nat} {v1 v2 : Value} {m1 m2 : Mach} (h : Two T U w0 w g1 g2 v1 v2 m1 m2) : Two U T w0 w g2 g1 v2 v1 m2 m1 :=
  ⟨h.b, h.a, fun b h2 h1 => h.sep b h1 h2⟩
theorem Two.keep {T U : TypeId} {w0 w w' : World} {g1 g2 : Nat} {v1 v2 : Value} {m1 m2 : Mach} (h : Two T U w0 w g1 g2 v1 v2 m1 m2) (hk : Kept Nob w w') : Two T U w0 w' g1 g2 v1 v2 m1 m2 :=
  ⟨h.a.keep hk, h.b.keep hk, h.sep⟩
theorem Two.left {T U : TypeId} {w0 w w' : World} {g1 g2 : Nat} {v1 v2 : Value} {m1 m2 m' : Mach} (hTU : U ≠ T) (hT : T ≠ 2) (hU : U ≠ 2) (h : Two T U w0 w g1 g2 v1 v2 m1 m2) (ho : MachOut T w g1 v1 m' w') :
    ∃ v', Two T U w0 w' g1 g2 v' v2 m' m2 := by
  obtain ⟨v', h1, h2, h3⟩ := ho
  have hk : Kept Nob w0 w' := Kept.then h.a.kept h2 (fun k hk hs => by
    exfalso
    rcases hs with rfl | hs
    · exact absurd h.a.new (by omega)
    · exact absurd (h.a.own k hs) (by omega))
  refine ⟨v', ⟨h1, hk, h.a.new, fun b hb => ?_⟩, ⟨h.b.at_.kept h2 ?_ ?_, hk, h.b.new, h.b.own⟩, fun b hb hb2 => ?_⟩
  · rcases h3 with h3 | ⟨b', h3, h4⟩
    · exact h.a.own b (h3 ▸ hb)
    · rw [h3] at hb
      injection hb with hb
      have := h.a.kept.size
      omega
  · rintro (e | e)
    · exact blk_ne h.b.at_.blk h.a.at_.blk hTU e
    · obtain ⟨cs, fr, hc⟩ := h.a.at_.own_blk e
      exact blk_ne h.b.at_.blk hc hU rfl
  · intro b hb
    rintro (e | e)
    · obtain ⟨cs, fr, hc⟩ := h.b.at_.own_blk hb
      exact blk_ne h.a.at_.blk hc hT e.symm
    · exact h.sep b e hb
  · rcases h3 with h3 | ⟨b', h3, h4⟩
    · exact h.sep b (h3 ▸ hb) hb2
    · rw [h3] at hb
      injection hb with hb
      obtain ⟨cs, fr, hc⟩ := h.b.at_.own_blk hb2
      have := blk_lt hc
      omega
theorem Two.start {w0 w1 : World} {g1 : Nat} {v1 : Value} {t c : Int} (h : Mine 132 w0 w1 g1 v1 (Mach.new t c)) :
    Two 132 101 w0 ((w1.alloc (.cells #[.int .i64 c] 2)).alloc (.cells #[.int .i64 t, .slice (some ⟨w1.heap.size, 0, none⟩) 1 1, .int .i64 0, .int .i64 0, .int .i64 0, .bool false] 101)) g1 (w1.heap.size + 1)
      v1 (.slice (some ⟨w1.heap.size, 0, none⟩) 1 1) (Mach.new t c) (Mach.new t c) := by
  have hk : Kept Nob w1 ((w1.alloc (.cells #[.int .i64 c] 2)).alloc (.cells #[.int .i64 t, .slice (some ⟨w1.heap.size, 0, none⟩) 1 1, .int .i64 0, .int .i64 0, .int .i64 0, .bool false] 101)) := ((Kept.refl _ _).alloc _).alloc _
  refine ⟨h.keep hk, ⟨⟨blk_new_at (by simp), World.ownsRow.alloc ?_ _⟩, h.kept.trans hk, ?_, fun b hb => ?_⟩, fun b hb hb2 => ?_⟩
  · exact ⟨rfl, .inr ⟨_, 1, #[.int .i64 c], rfl, Nat.zero_le _, blk_new_at (by simp), Nat.le_refl _, by unfold maxLen; omega, rfl, rfl⟩⟩
  · have := h.kept.size
    omega
  · have := h.kept.size
    simp [Value.ownBlock] at hb
    omega
  · obtain ⟨cs, fr, hc⟩ := h.at_.own_blk hb
    have := blk_lt hc
    simp [Value.ownBlock] at hb2
    omega

set_option maxRecDepth 100000 in
set_option maxHeartbeats 8000000 in
theorem modelPlays_no (t c : Int) (vs : Value) (x y : Int) (w : World) (hn : ¬ newOk t c) : Calls Try.prog 12 #[.int .i64 t, .int .i64 c, vs, .int .i64 x, .int .i64 y] w fun e w' => e = .returned (.bool true) ∧ Kept Nob w w' := by
  have hcase : t < 1 ∨ (1 ≤ t ∧ 1125899906842624 < t) ∨ (1 ≤ t ∧ t ≤ 1125899906842624 ∧ c < 0) ∨ (1 ≤ t ∧ t ≤ 1125899906842624 ∧ 0 ≤ c ∧ t < c) := by
    unfold newOk at hn; omega
  have HN := hidden hn
  clear hn
  rcases hcase with h1 | ⟨h1, h2⟩ | ⟨h1, h2, h3⟩ | ⟨h1, h2, h3, h4⟩
  all_goals
    go_enter Try.func12, Try.ntmps12
    go_wp2_with (first
      | (go_at_call 46; refine (new_no t c _ HN.out).mono ?_; rintro e w1 ⟨rfl, hk⟩; have H1 := hidden hk; clear hk)
      | (go_at_call 47; refine (awake_any _).mono ?_; rintro e w2 ⟨rfl, hk⟩; have H2 := hidden hk; clear hk))
    go_ret
    exact ⟨rfl, H1.out.trans H2.out⟩
end Go.Proofs.Ytfblececmkimiaa

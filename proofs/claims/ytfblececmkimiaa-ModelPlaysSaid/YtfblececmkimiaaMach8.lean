/- The machine of numbers: chapter 38's example, and what the client is sure of. -/
import Derived.Test.YtfblececmkimiaaMach7
namespace Go.Proofs.Ytfblececmkimiaa
open Go.RowKit

/-- A machine that was made behind a world, and nothing older was written. -/
structure Mine (T : TypeId) (w0 w : World) (g : Nat) (v : Value) (m : Mach) : Prop where
  at_ : MachAt T w g v m
  kept : Kept Nob w0 w
  new : w0.heap.size ≤ g
  own : ∀ b, v.ownBlock = some b → w0.heap.size ≤ b
theorem Mine.out {T : TypeId} {w0 w w' : World} {g : Nat} {v : Value} {m m' : Mach} (h : Mine T w0 w g v m) (ho : MachOut T w g v m' w') : ∃ v', Mine T w0 w' g v' m' := by
  obtain ⟨v', h1, h2, h3⟩ := ho
  refine ⟨v', h1, Kept.then h.kept h2 (fun k hk hs => ?_), h.new, fun b hb => ?_⟩
  · exfalso
    rcases hs with rfl | hs
    · exact absurd h.new (by omega)
    · exact absurd (h.own k hs) (by omega)
  · rcases h3 with h3 | ⟨b', h3, h4⟩
    · exact h.own b (h3 ▸ hb)
    · rw [h3] at hb
      injection hb with hb
      have := h.kept.size
      omega
theorem Mine.still {T : TypeId} {w0 w w' : World} {g : Nat} {v : Value} {m : Mach} (h : Mine T w0 w g v m) (hs : Still w w') : Mine T w0 w' g v m := by
  refine ⟨h.at_.kept (Kept.still (S := Nob) hs) (fun h => h) (fun _ _ h => h), h.kept.trans (.still hs), h.new, h.own⟩
theorem Mine.keep {T : TypeId} {w0 w w' : World} {g : Nat} {v : Value} {m : Mach} (h : Mine T w0 w g v m) (hk : Kept Nob w w') : Mine T w0 w' g v m :=
  ⟨h.at_.kept hk (fun h => h) (fun _ _ h => h), h.kept.trans hk, h.new, h.own⟩
theorem Mine.made {w0 w' : World} {t c : Int} (h : MachAt 132 w' (w0.heap.size + 2) (.slice (some ⟨w0.heap.size + 1, 0, none⟩) 1 1) (Mach.new t c)) (hk : Kept Nob w0 w') :
    Mine 132 w0 w' (w0.heap.size + 2) (.slice (some ⟨w0.heap.size + 1, 0, none⟩) 1 1) (Mach.new t c) :=
  ⟨h, hk, by omega, fun b hb => by simp [Value.ownBlock] at hb; omega⟩
theorem Mach.new_inv {t c : Int} (h : newOk t c) : (Mach.new t c).Inv 0 := by
  obtain ⟨t0, t1, c0, c1⟩ := h
  exact ⟨by show 0 ≤ t; omega, t1, Int.le_refl _, by simp [Mach.new], by simp [Mach.new], by simp [Mach.new], Int.le_refl _, by simp [Mach.new], by simp [Mach.new], Int.le_refl _, by simp [Mach.new], fun j hj => by
    have : j = 0 := by simp [Mach.new] at hj; omega
    subst this
    exact ⟨c0, c1⟩⟩

set_option maxRecDepth 100000 in
set_option maxHeartbeats 8000000 in
theorem awake_any (w : World) : Calls Try.prog 47 #[] w fun e w' => e = .returned (.bool true) ∧ Kept Nob w w' := by
  have hn : newOk 10 6 := by unfold newOk; omega
  have hi := hidden ((opM_inv _ 0 0 2 (Mach.new_inv hn)).ok (by omega))
  have hi0 := hidden ((Mach.new_inv hn).ok (by omega))
  go_enter Try.func47, Try.ntmps47
  go_wp2_with (first
    | (go_at_call 46; refine (new_yes 10 6 _ hn).mono ?_; rintro e w1 ⟨rfl, ha, hk⟩; have H1 := hidden (Mine.made ha hk); clear ha hk)
    | (go_at_call 57; refine (sign_any _ _ _ 2 w1 H1.out.at_ hi0.out).mono ?_; rintro e w2 ⟨rfl, ho⟩; obtain ⟨v2, h2⟩ := H1.out.out ho; have H2 := hidden h2; clear ho h2; rw [show signE (Mach.new 10 6) 2 = 0 from by decide])
    | (go_at_call 50; refine (owed_any _ _ _ 0 w2 H2.out.at_ hi.out rfl).mono ?_; rintro e w3 ⟨rfl, ho⟩; have H3 := hidden (H2.out.still ho); clear ho; rw [show owedTo (signM (Mach.new 10 6) 2).l 0 (signM (Mach.new 10 6) 2).l.length = 4 from by decide])
    | (go_at_call 49; refine (worst_any _ _ _ w3 H3.out.at_ hi.out).mono ?_; rintro e w4 ⟨rfl, rfl⟩; rw [show worstTo (signM (Mach.new 10 6) 2) (signM (Mach.new 10 6) 2).l.length = 4 from by decide])
    | (go_at_call 60; refine (give_any _ _ _ w3 H3.out.at_ hi.out).mono ?_; rintro e w5 ⟨rfl, ho⟩; obtain ⟨v5, h5⟩ := H3.out.out ho; have H5 := hidden h5; clear ho h5; rw [show giveE (signM (Mach.new 10 6) 2) = 9 from by decide]))
  go_ret
  exact ⟨rfl, H5.out.kept⟩

theorem owed_le_at (l : List Int) (G : Nat) : ∀ n j, G ≤ j → j < n → owedTo l G n ≤ l.getD j 0
  | 0, _, _, h => by omega
  | n + 1, j, h1, h2 => by
    unfold owedTo
    by_cases e : j = n
    · subst e
      by_cases hc : l.getD j 0 < owedTo l G j
      · rw [if_pos ⟨h1, hc⟩]; omega
      · rw [if_neg (by omega)]; omega
    · have := owed_le_at l G n j h1 (by omega)
      split
      · rename_i h; omega
      · exact this
theorem worst_ge (m : Mach) (i G : Nat) (h : m.Inv i) (hG : m.given = G) : ∀ k, k ≤ m.l.length → owedTo m.l G m.l.length ≤ worstTo m k
  | 0, _ => (owedTo_range m.l G m.total (by have := h.lo; omega) h.vals m.l.length (Nat.le_refl _)).2
  | k + 1, hk => by
    have h1 := worst_ge m i G h hG k (by omega)
    have h2 : owedTo m.l G m.l.length ≤ (paysF m 1 k).1 := by
      unfold paysF
      rw [if_neg (by omega), if_neg (by omega)]
      by_cases hp : (k : Int) < m.peer
      · rw [if_pos ⟨rfl, hp⟩]
        exact (owedTo_range m.l G m.total (by have := h.lo; omega) h.vals m.l.length (Nat.le_refl _)).2
      · rw [if_neg (by omega), if_neg (by omega)]
        exact owed_le_at m.l G _ _ (by have := h.p0; omega) (by omega)
    unfold worstTo
    split <;> omega
theorem worst_le (m : Mach) : ∀ k, worstTo m k ≤ m.total
  | 0 => Int.le_refl _
  | k + 1 => by
    have := worst_le m k
    unfold worstTo
    split <;> omega
theorem opM_total (m : Mach) (k x : Int) : (opM m k x).total = m.total := by
  unfold opM signM revokeM watchM giveM closeM Mach.after
  repeat' split
  all_goals rfl
end Go.Proofs.Ytfblececmkimiaa

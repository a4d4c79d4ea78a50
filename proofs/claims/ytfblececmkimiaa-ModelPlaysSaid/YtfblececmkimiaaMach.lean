/- The walks of the machine of numbers (layer 38). -/
import Derived.Test.YtfblececmkimiaaRows
import Derived.Test.YtfblececmkimiaaLib
namespace Go.Proofs.Ytfblececmkimiaa
open Go.RowKit

structure Mach where
  total : Int
  l : List Int
  peer : Int
  given : Int
  seen : Int
  closed : Bool
structure Mach.Ok (m : Mach) : Prop where
  t0 : 0 ≤ m.total
  t1 : m.total ≤ 1125899906842624
  g0 : 0 ≤ m.given
  g1 : m.given < m.l.length
  len : m.l.length ≤ 100
  p0 : 0 ≤ m.peer
  p1 : m.peer ≤ 1000
  s0 : 0 ≤ m.seen
  s1 : m.seen ≤ 1000
  vals : ∀ i : Nat, i < m.l.length → 0 ≤ m.l.getD i 0 ∧ m.l.getD i 0 ≤ m.total
def Mach.cells (m : Mach) (v : Value) : Array Value := #[.int .i64 m.total, v, .int .i64 m.peer, .int .i64 m.given, .int .i64 m.seen, .bool m.closed]
structure MachAt (T : TypeId) (w : World) (g : Nat) (v : Value) (m : Mach) : Prop where
  blk : w.heap[g]? = some (.cells (m.cells v) T (0, 0))
  row : w.ownsRow 0 2 1 v m.l.length (nums .i64 m.l)

theorem MachAt.open_ {T : TypeId} {w : World} {g : Nat} {v : Value} {m : Mach} (h : MachAt T w g v m) (hn : 0 < m.l.length) :
    ∃ r c, v = .slice (some ⟨r, 0, none⟩) m.l.length c ∧ (∀ j, w.cell? ⟨g, j, none⟩ = (#[.int .i64 m.total, .slice (some ⟨r, 0, none⟩) m.l.length c, .int .i64 m.peer, .int .i64 m.given, .int .i64 m.seen, .bool m.closed] : Array Value)[j]?) ∧
      (∀ j, w.frozen? ⟨g, j, none⟩ = false) ∧ m.l.length ≤ c ∧ c ≤ maxLen ∧ (∀ i : Nat, i < m.l.length → w.cell? ⟨r, i, none⟩ = some (.int .i64 (m.l.getD i 0))) := by
  obtain ⟨r, c, rfl, h1, h2, _, _, h4⟩ := own_at h.row hn
  exact ⟨r, c, rfl, fun j => blk_cell h.blk j, fun j => blk_frozen h.blk j, h1, h2, h4⟩

set_option maxHeartbeats 400000 in
theorem none_no (g : Nat) (w : World) (A : Option Addr) (n c : Nat) (h1 : w.cell? ⟨g, 1, none⟩ = some (.slice A n c)) (hn : 0 < n) :
    Calls Try.prog 78 #[.pointer (some ⟨g, 0, none⟩)] w fun e w' => e = .returned (.bool false) ∧ w = w' := by
  have hn' : ((n : Int) == 0) = false := by simp; omega
  go_enter Try.func78, Try.ntmps78
  go_wp2
  go_ret
  exact ⟨rfl, rfl⟩

/-- What a call leaves: the other one, if it says OK. -/
def Mach.after (m : Mach) (E : Int) (m' : Mach) : Mach := if E = 0 then m' else m
def signE (m : Mach) (x : Int) : Int := if m.closed = true ∨ (m.l.length : Int) ≠ m.given + 1 then 9 else
  if x > m.total ∨ x < - m.total ∨ m.l.getD m.given.toNat 0 - x < 0 ∨ m.total < m.l.getD m.given.toNat 0 - x then 14 else 0
def signM (m : Mach) (x : Int) : Mach := m.after (signE m x) { m with l := m.l ++ [m.l.getD m.given.toNat 0 - x] }

theorem Try.info2 : (Try.prog.info? 2).map (fun i => (i.zero, i.size, i.bytes)) = some (some (.int .i64 0), 1, 8) := by kernel_rfl

/-- What is left of a machine whose row has grown by one. -/
theorem MachAt.push {T : TypeId} {w w1 W : World} {g r c : Nat} {v' : Value} {m : Mach} {x : Int} (hT : T ≠ 2) (h : MachAt T w g (.slice (some ⟨r, 0, none⟩) m.l.length c) m) (hn : 0 < m.l.length)
    (hk : Kept Nob w W) (hown : w1.ownsRow 0 2 1 v' (m.l.length + 1) (nums .i64 m.l ++ [.int .i64 x])) (hg : W.grownBy w1 (some r))
    (hv : v'.ownBlock = some r ∨ v'.ownBlock = some W.heap.size) :
    ∃ r' c', v' = .slice (some ⟨r', 0, none⟩) (m.l.length + 1) c' ∧ (r' = r ∨ w.heap.size ≤ r') ∧
    w1.heap[g]? = some (.cells (m.cells (.slice (some ⟨r, 0, none⟩) m.l.length c)) T (0, 0)) ∧
    MachAt T (w1.setCell ⟨g, 1, none⟩ (.slice (some ⟨r', 0, none⟩) (m.l.length + 1) c')) g (.slice (some ⟨r', 0, none⟩) (m.l.length + 1) c') { m with l := m.l ++ [x] } ∧
    Kept (fun k => k = g ∨ k = r) w (w1.setCell ⟨g, 1, none⟩ (.slice (some ⟨r', 0, none⟩) (m.l.length + 1) c')) := by
  obtain ⟨r1, c1, e1, _, _, _, ⟨cs, hr⟩, _⟩ := own_at h.row hn
  injection e1 with e1 _ _; injection e1 with e1; injection e1 with e1 _ _; subst e1
  have hne : g ≠ r := blk_ne h.blk hr hT
  have hgl := blk_lt h.blk
  have hsz := hk.size
  have hb : w1.heap[g]? = some (.cells (m.cells (.slice (some ⟨r, 0, none⟩) m.l.length c)) T (0, 0)) :=
    (hg.block g (by omega) (by simpa using hne)).trans ((hk.block g hgl (by simp [Nob])).trans h.blk)
  have e2 : nums .i64 (m.l ++ [x]) = nums .i64 m.l ++ [.int .i64 x] := by simp [nums]
  rw [← e2, show m.l.length + 1 = (m.l ++ [x]).length from by simp] at hown
  obtain ⟨r', c', rfl, _, _, _, _, _⟩ := own_at hown (by simp)
  have hr' : r' = r ∨ r' = W.heap.size := by simpa [Value.ownBlock] using hv
  rw [List.length_append] at hown
  refine ⟨r', c', by simp, by omega, hb, ⟨?_, ?_⟩, ?_⟩
  · rw [blk_set hb 1]; rfl
  · show World.ownsRow _ 0 2 1 _ (m.l ++ [x]).length (nums .i64 (m.l ++ [x]))
    rw [List.length_append]
    refine ownsRow_setCell_other hown (a := ⟨g, 1, none⟩) ?_ _
    simp [Value.ownBlock]; omega
  · refine Kept.setCell ?_ (fun _ => .inl rfl) _
    exact Kept.grown (hk.mono (fun _ _ h => by cases h)) hg (fun k hk _ => .inr (by simpa using hk.symm))

/-- What is left of a machine one of whose numbers was stored. -/
theorem MachAt.put {T : TypeId} {w W : World} {g : Nat} {v : Value} {m m' : Mach} (hT : T ≠ 2) (h : MachAt T w g v m) (hW : Still w W) (i : Nat) (u : Value) (hl : m'.l = m.l) (hc : (m.cells v).setIfInBounds i u = m'.cells v) :
    MachAt T (W.setCell ⟨g, i, none⟩ u) g v m' ∧ Kept (fun k => k = g) w (W.setCell ⟨g, i, none⟩ u) := by
  refine ⟨⟨?_, ?_⟩, Kept.setCell (S := fun k => k = g) (Kept.still hW) (fun _ => rfl) _⟩
  · rw [blk_set (w := W) (by rw [hW.heap]; exact h.blk) i u, hc]
  · rw [hl]
    refine ownsRow_setCell_other (w := W) (by unfold World.ownsRow; rw [hW.heap]; exact h.row) ?_ u
    obtain ⟨_, ⟨rfl, h0⟩ | ⟨r, c, cur, rfl, hb, hh, _⟩⟩ := h.row
    · simp [Value.ownBlock]
    · have := blk_ne h.blk hh hT
      simp [Value.ownBlock]; omega

/-- What a call leaves of a machine: its own blocks alone were written. -/
def MachOut (T : TypeId) (w : World) (g : Nat) (v : Value) (m' : Mach) (w' : World) : Prop :=
  ∃ v', MachAt T w' g v' m' ∧ Kept (fun k => k = g ∨ v.ownBlock = some k) w w' ∧ (v'.ownBlock = v.ownBlock ∨ ∃ b, v'.ownBlock = some b ∧ w.heap.size ≤ b)
theorem MachOut.same {T : TypeId} {w w' : World} {g : Nat} {v : Value} {m : Mach} (h : MachAt T w g v m) (hw : Still w w') : MachOut T w g v m w' :=
  ⟨v, ⟨by rw [hw.heap]; exact h.blk, by unfold World.ownsRow; rw [hw.heap]; exact h.row⟩, .still hw, .inl rfl⟩
theorem MachOut.put {T : TypeId} {w W : World} {g : Nat} {v : Value} {m m' : Mach} (hT : T ≠ 2) (h : MachAt T w g v m) (hW : Still w W) (i : Nat) (u : Value) (hl : m'.l = m.l) (hc : (m.cells v).setIfInBounds i u = m'.cells v) :
    MachOut T w g v m' (W.setCell ⟨g, i, none⟩ u) :=
  have k := h.put hT hW i u hl hc
  ⟨v, k.1, k.2.mono (fun _ _ e => .inl e), .inl rfl⟩
theorem MachOut.push {T : TypeId} {w w' : World} {g r c r' c' n : Nat} {m' : Mach} (h : MachAt T w' g (.slice (some ⟨r', 0, none⟩) n c') m') (hk : Kept (fun k => k = g ∨ k = r) w w') (hr : r' = r ∨ w.heap.size ≤ r') (k : Nat) :
    MachOut T w g (.slice (some ⟨r, 0, none⟩) k c) m' w' :=
  ⟨_, h, hk.mono (fun j _ e => e.elim .inl (fun e => .inr (by simp [Value.ownBlock, e]))), by simpa [Value.ownBlock] using hr⟩

theorem out_bad {T : TypeId} {w w' : World} {g : Nat} {v : Value} {m m' : Mach} {E n : Int} (hE : E = n) (hn : n ≠ 0) (h : MachOut T w g v m w') :
    Ending.returned (.int .i64 n) = .returned (.int .i64 E) ∧ MachOut T w g v (m.after E m') w' := by
  rw [Mach.after, hE, if_neg hn]; exact ⟨rfl, h⟩
theorem out_good {T : TypeId} {w w' : World} {g : Nat} {v : Value} {m m' : Mach} {E : Int} (hE : E = 0) (h : MachOut T w g v m' w') :
    Ending.returned (.int .i64 0) = .returned (.int .i64 E) ∧ MachOut T w g v (m.after E m') w' := by
  rw [Mach.after, hE, if_pos rfl]; exact ⟨rfl, h⟩

set_option maxRecDepth 100000 in
set_option maxHeartbeats 4000000 in
theorem sign_any (g : Nat) (v : Value) (m : Mach) (x : Int) (w : World) (h : MachAt 132 w g v m) (ok : m.Ok) :
    Calls Try.prog 57 #[.pointer (some ⟨g, 0, none⟩), .int .i64 x] w fun e w' => e = .returned (.int .i64 (signE m x)) ∧ MachOut 132 w g v (signM m x) w' := by
  obtain ⟨r, c, rfl, hc, hf, hc1, hc2, hr⟩ := h.open_ (by have := ok.g0; have := ok.g1; omega)
  obtain ⟨t0, t1, g0, g1, len, p0, p1, s0, s1, vals⟩ := ok
  have hrg := hr m.given.toNat (by omega)
  have hvg := vals m.given.toNat (by omega)
  have hse : signE m x = if m.closed = true ∨ (m.l.length : Int) ≠ m.given + 1 then 9 else if x > m.total ∨ x < - m.total ∨ m.l.getD m.given.toNat 0 - x < 0 ∨ m.total < m.l.getD m.given.toNat 0 - x then 14 else 0 := rfl
  obtain ⟨z, hz⟩ : ∃ z, z = m.l.getD m.given.toNat 0 := ⟨_, rfl⟩
  rw [← hz] at hrg hvg hse
  have HZ := hidden hz
  clear hz
  have hpos : 0 < m.l.length := by omega
  have hn' : ((m.l.length : Int) == 0) = false := by rw [beq_eq_false_iff_ne]; omega
  obtain ⟨i0, hi, hz0, hz1, hz2⟩ := info_parts Try.info2
  have H : Hid (MachAt 132 w g (.slice (some ⟨r, 0, none⟩) m.l.length c) m) := hidden h
  have HS := hidden hse
  clear h vals hr hse
  go_enter Try.func57, Try.ntmps57
  go_wp2_with (go_at_call 78; refine (none_no _ _ (some ⟨r, 0, none⟩) _ _ (by simp [hc]; exact ⟨rfl, rfl⟩) (by omega)).mono ?_; rintro e w' ⟨rfl, rfl⟩)
  all_goals (try ((refine wp_region_quiet_lit (by kernel_rfl) (by kernel_rfl) ?_); (repeat (any_goals (first | go_big_quiet_step (fail) | quiet_step (fail) | (refine wpQuiet_step (fun K hK => ?_); go_simp; split <;> (refine hK _ ?_; clear hK K))))); (all_goals (refine wpQuiet_nil ?_; intro _ hw'; obtain ⟨nq, hw''⟩ := hw'; subst hw''))))
  all_goals (try go_wp2_with fail)
  all_goals (try ((refine wp_region_quiet_lit (by kernel_rfl) (by kernel_rfl) ?_); (repeat (any_goals (first | go_big_quiet_step (fail) | quiet_step (fail) | (refine wpQuiet_step (fun K hK => ?_); go_simp; split <;> (refine hK _ ?_; clear hK K))))); (all_goals (refine wpQuiet_nil ?_; intro _ hw'; obtain ⟨nq, hw''⟩ := hw'; subst hw''))))
  all_goals (try go_wp2_with (at_builtin; refine wpList_append_own_at _ rfl (.tmp 69) (.tmp 71) 31 rfl 0 2 i0 (.int .i64 0) 1 8 Try.underlying31 hi hz0 hz1 hz2 rfl (by decide) (.slice (some ⟨r, 0, none⟩) m.l.length c) m.l.length (nums .i64 m.l) rfl (World.ownsRow.alloc (w := w.drewN _) H.out.row _) ⟨w.heap.size, 0, none⟩ 1 1 [.int .i64 (z - x)] rfl rfl (cell_one_new _ _ _) (by simp [Value.oneCell']) (by unfold maxLen; omega) (by omega) (Nat.zero_le _) ?_; intro v' w1 hown' hgrow hnil hat; obtain ⟨r', c', rfl, hr', hb, hat', hk'⟩ := MachAt.push (by decide) H.out hpos (((Kept.refl _ _).drewN _).alloc _) hown' hgrow hat; have hbc := blk_cell hb 1; have hbf := blk_frozen hb 1; simp only [Mach.cells] at hbc; have HA := hidden hat'; have HK := hidden hk'; clear hown' hgrow hnil hat hb hat' hk'))
  all_goals go_ret
  all_goals go_light
  all_goals first
    | exact out_bad (by rw [HS.out]; grind) (by decide) (.same H.out (by exact ⟨rfl, rfl, rfl, rfl⟩))
    | exact out_good (by rw [HS.out]; grind) (by rw [← HZ.out]; exact .push HA.out HK.out hr' _)

def revokeE (m : Mach) : Int := if (m.l.length : Int) ≠ m.given + 2 ∨ m.peer ≠ m.given then 9 else 0
def revokeM (m : Mach) : Mach := m.after (revokeE m) { m with peer := m.peer + 1 }
set_option maxRecDepth 100000 in
set_option maxHeartbeats 4000000 in
theorem revoke_any (g : Nat) (v : Value) (m : Mach) (w : World) (h : MachAt 132 w g v m) (ok : m.Ok) :
    Calls Try.prog 58 #[.pointer (some ⟨g, 0, none⟩)] w fun e w' => e = .returned (.int .i64 (revokeE m)) ∧ MachOut 132 w g v (revokeM m) w' := by
  obtain ⟨r, c, rfl, hc, hf, hc1, hc2, hr⟩ := h.open_ (by have := ok.g0; have := ok.g1; omega)
  obtain ⟨t0, t1, g0, g1, len, p0, p1, s0, s1, vals⟩ := ok
  have hpos : 0 < m.l.length := by omega
  have hn' : ((m.l.length : Int) == 0) = false := by rw [beq_eq_false_iff_ne]; omega
  have H : Hid (MachAt 132 w g (.slice (some ⟨r, 0, none⟩) m.l.length c) m) := hidden h
  have HS := hidden (show revokeE m = _ from rfl)
  unfold revokeE at HS
  clear h vals hr
  go_enter Try.func58, Try.ntmps58
  go_wp2_with (go_at_call 78; refine (none_no _ _ (some ⟨r, 0, none⟩) _ _ (by simp [hc]; exact ⟨rfl, rfl⟩) (by omega)).mono ?_; rintro e w' ⟨rfl, rfl⟩)
  all_goals (try ((refine wp_region_quiet_lit (by kernel_rfl) (by kernel_rfl) ?_); (repeat (any_goals (first | go_big_quiet_step (fail) | quiet_step (fail) | (refine wpQuiet_step (fun K hK => ?_); go_simp; split <;> (refine hK _ ?_; clear hK K))))); (all_goals (refine wpQuiet_nil ?_; intro _ hw'; obtain ⟨nq, hw''⟩ := hw'; subst hw''))))
  all_goals (try go_wp2_with fail)
  all_goals (try ((refine wp_region_quiet_lit (by kernel_rfl) (by kernel_rfl) ?_); (repeat (any_goals (first | go_big_quiet_step (fail) | quiet_step (fail) | (refine wpQuiet_step (fun K hK => ?_); go_simp; split <;> (refine hK _ ?_; clear hK K))))); (all_goals (refine wpQuiet_nil ?_; intro _ hw'; obtain ⟨nq, hw''⟩ := hw'; subst hw''))))
  all_goals (try go_wp2_with fail)
  all_goals go_ret
  all_goals go_light
  all_goals first
    | exact out_bad (by unfold revokeE; grind) (by decide) (.same H.out (by exact ⟨rfl, rfl, rfl, rfl⟩))
    | exact out_good (by unfold revokeE; grind) (.put (by decide) H.out (by exact ⟨rfl, rfl, rfl, rfl⟩) 2 (.int .i64 (m.peer + 1)) (by rfl) (by rfl))

def watchE (m : Mach) : Int := if m.peer ≠ m.given + 1 then 9 else 0
def watchM (m : Mach) : Mach := m.after (watchE m) { m with seen := m.given + 1 }
set_option maxRecDepth 100000 in
set_option maxHeartbeats 4000000 in
theorem watch_any (g : Nat) (v : Value) (m : Mach) (w : World) (h : MachAt 132 w g v m) (ok : m.Ok) :
    Calls Try.prog 59 #[.pointer (some ⟨g, 0, none⟩)] w fun e w' => e = .returned (.int .i64 (watchE m)) ∧ MachOut 132 w g v (watchM m) w' := by
  obtain ⟨r, c, rfl, hc, hf, hc1, hc2, hr⟩ := h.open_ (by have := ok.g0; have := ok.g1; omega)
  obtain ⟨t0, t1, g0, g1, len, p0, p1, s0, s1, vals⟩ := ok
  have hpos : 0 < m.l.length := by omega
  have hn' : ((m.l.length : Int) == 0) = false := by rw [beq_eq_false_iff_ne]; omega
  have H : Hid (MachAt 132 w g (.slice (some ⟨r, 0, none⟩) m.l.length c) m) := hidden h
  have HS := hidden (show watchE m = _ from rfl)
  unfold watchE at HS
  clear h vals hr
  go_enter Try.func59, Try.ntmps59
  go_wp2_with (go_at_call 78; refine (none_no _ _ (some ⟨r, 0, none⟩) _ _ (by simp [hc]; exact ⟨rfl, rfl⟩) (by omega)).mono ?_; rintro e w' ⟨rfl, rfl⟩)
  all_goals (try ((refine wp_region_quiet_lit (by kernel_rfl) (by kernel_rfl) ?_); (repeat (any_goals (first | go_big_quiet_step (fail) | quiet_step (fail) | (refine wpQuiet_step (fun K hK => ?_); go_simp; split <;> (refine hK _ ?_; clear hK K))))); (all_goals (refine wpQuiet_nil ?_; intro _ hw'; obtain ⟨nq, hw''⟩ := hw'; subst hw''))))
  all_goals (try go_wp2_with fail)
  all_goals (try ((refine wp_region_quiet_lit (by kernel_rfl) (by kernel_rfl) ?_); (repeat (any_goals (first | go_big_quiet_step (fail) | quiet_step (fail) | (refine wpQuiet_step (fun K hK => ?_); go_simp; split <;> (refine hK _ ?_; clear hK K))))); (all_goals (refine wpQuiet_nil ?_; intro _ hw'; obtain ⟨nq, hw''⟩ := hw'; subst hw''))))
  all_goals (try go_wp2_with fail)
  all_goals go_ret
  all_goals go_light
  all_goals first
    | exact out_bad (by unfold watchE; grind) (by decide) (.same H.out (by exact ⟨rfl, rfl, rfl, rfl⟩))
    | exact out_good (by unfold watchE; grind) (.put (by decide) H.out (by exact ⟨rfl, rfl, rfl, rfl⟩) 4 (.int .i64 (m.given + 1)) (by rfl) (by rfl))

def giveE (m : Mach) : Int := if m.closed = true ∨ m.peer ≠ m.given + 1 then 9 else if m.seen ≠ m.given + 1 then 22 else 0
def giveM (m : Mach) : Mach := m.after (giveE m) { m with given := m.given + 1 }
set_option maxRecDepth 100000 in
set_option maxHeartbeats 4000000 in
theorem give_any (g : Nat) (v : Value) (m : Mach) (w : World) (h : MachAt 132 w g v m) (ok : m.Ok) :
    Calls Try.prog 60 #[.pointer (some ⟨g, 0, none⟩)] w fun e w' => e = .returned (.int .i64 (giveE m)) ∧ MachOut 132 w g v (giveM m) w' := by
  obtain ⟨r, c, rfl, hc, hf, hc1, hc2, hr⟩ := h.open_ (by have := ok.g0; have := ok.g1; omega)
  obtain ⟨t0, t1, g0, g1, len, p0, p1, s0, s1, vals⟩ := ok
  have hpos : 0 < m.l.length := by omega
  have hn' : ((m.l.length : Int) == 0) = false := by rw [beq_eq_false_iff_ne]; omega
  have H : Hid (MachAt 132 w g (.slice (some ⟨r, 0, none⟩) m.l.length c) m) := hidden h
  have HS := hidden (show giveE m = _ from rfl)
  unfold giveE at HS
  clear h vals hr
  go_enter Try.func60, Try.ntmps60
  go_wp2_with (go_at_call 78; refine (none_no _ _ (some ⟨r, 0, none⟩) _ _ (by simp [hc]; exact ⟨rfl, rfl⟩) (by omega)).mono ?_; rintro e w' ⟨rfl, rfl⟩)
  all_goals (try ((refine wp_region_quiet_lit (by kernel_rfl) (by kernel_rfl) ?_); (repeat (any_goals (first | go_big_quiet_step (fail) | quiet_step (fail) | (refine wpQuiet_step (fun K hK => ?_); go_simp; split <;> (refine hK _ ?_; clear hK K))))); (all_goals (refine wpQuiet_nil ?_; intro _ hw'; obtain ⟨nq, hw''⟩ := hw'; subst hw''))))
  all_goals (try go_wp2_with fail)
  all_goals (try ((refine wp_region_quiet_lit (by kernel_rfl) (by kernel_rfl) ?_); (repeat (any_goals (first | go_big_quiet_step (fail) | quiet_step (fail) | (refine wpQuiet_step (fun K hK => ?_); go_simp; split <;> (refine hK _ ?_; clear hK K))))); (all_goals (refine wpQuiet_nil ?_; intro _ hw'; obtain ⟨nq, hw''⟩ := hw'; subst hw''))))
  all_goals (try go_wp2_with fail)
  all_goals go_ret
  all_goals go_light
  all_goals first
    | exact out_bad (by unfold giveE; grind) (by decide) (.same H.out (by exact ⟨rfl, rfl, rfl, rfl⟩))
    | exact out_good (by unfold giveE; grind) (.put (by decide) H.out (by exact ⟨rfl, rfl, rfl, rfl⟩) 3 (.int .i64 (m.given + 1)) (by rfl) (by rfl))

def closeE (m : Mach) : Int := if m.closed = true then 8 else 0
def closeM (m : Mach) : Mach := m.after (closeE m) { m with closed := true }
set_option maxRecDepth 100000 in
set_option maxHeartbeats 4000000 in
theorem close_any (g : Nat) (v : Value) (m : Mach) (w : World) (h : MachAt 132 w g v m) (ok : m.Ok) :
    Calls Try.prog 61 #[.pointer (some ⟨g, 0, none⟩)] w fun e w' => e = .returned (.int .i64 (closeE m)) ∧ MachOut 132 w g v (closeM m) w' := by
  obtain ⟨r, c, rfl, hc, hf, hc1, hc2, hr⟩ := h.open_ (by have := ok.g0; have := ok.g1; omega)
  obtain ⟨t0, t1, g0, g1, len, p0, p1, s0, s1, vals⟩ := ok
  have hpos : 0 < m.l.length := by omega
  have hn' : ((m.l.length : Int) == 0) = false := by rw [beq_eq_false_iff_ne]; omega
  have H : Hid (MachAt 132 w g (.slice (some ⟨r, 0, none⟩) m.l.length c) m) := hidden h
  have HS := hidden (show closeE m = _ from rfl)
  unfold closeE at HS
  clear h vals hr
  go_enter Try.func61, Try.ntmps61
  go_wp2_with (go_at_call 78; refine (none_no _ _ (some ⟨r, 0, none⟩) _ _ (by simp [hc]; exact ⟨rfl, rfl⟩) (by omega)).mono ?_; rintro e w' ⟨rfl, rfl⟩)
  all_goals (try ((refine wp_region_quiet_lit (by kernel_rfl) (by kernel_rfl) ?_); (repeat (any_goals (first | go_big_quiet_step (fail) | quiet_step (fail) | (refine wpQuiet_step (fun K hK => ?_); go_simp; split <;> (refine hK _ ?_; clear hK K))))); (all_goals (refine wpQuiet_nil ?_; intro _ hw'; obtain ⟨nq, hw''⟩ := hw'; subst hw''))))
  all_goals (try go_wp2_with fail)
  all_goals (try ((refine wp_region_quiet_lit (by kernel_rfl) (by kernel_rfl) ?_); (repeat (any_goals (first | go_big_quiet_step (fail) | quiet_step (fail) | (refine wpQuiet_step (fun K hK => ?_); go_simp; split <;> (refine hK _ ?_; clear hK K))))); (all_goals (refine wpQuiet_nil ?_; intro _ hw'; obtain ⟨nq, hw''⟩ := hw'; subst hw''))))
  all_goals (try go_wp2_with fail)
  all_goals go_ret
  all_goals go_light
  all_goals first
    | exact out_bad (by unfold closeE; grind) (by decide) (.same H.out (by exact ⟨rfl, rfl, rfl, rfl⟩))
    | exact out_good (by unfold closeE; grind) (.put (by decide) H.out (by exact ⟨rfl, rfl, rfl, rfl⟩) 5 (.bool true) (by rfl) (by rfl))

set_option maxHeartbeats 4000000 in
theorem states_any (g : Nat) (v : Value) (m : Mach) (w : World) (h : MachAt 132 w g v m) (ok : m.Ok) :
    Calls Try.prog 52 #[.pointer (some ⟨g, 0, none⟩)] w fun e w' => e = .returned (.int .i64 m.l.length) ∧ w = w' := by
  obtain ⟨r, c, rfl, hc, hf, hc1, hc2, hr⟩ := h.open_ (by have := ok.g0; have := ok.g1; omega)
  obtain ⟨t0, t1, g0, g1, len, p0, p1, s0, s1, vals⟩ := ok
  have hpos : 0 < m.l.length := by omega
  have hn' : ((m.l.length : Int) == 0) = false := by rw [beq_eq_false_iff_ne]; omega
  have H : Hid (MachAt 132 w g (.slice (some ⟨r, 0, none⟩) m.l.length c) m) := hidden h
  clear h vals hr
  go_enter Try.func52, Try.ntmps52
  go_wp2_with (go_at_call 78; refine (none_no _ _ (some ⟨r, 0, none⟩) _ _ (by simp [hc]; exact ⟨rfl, rfl⟩) (by omega)).mono ?_; rintro e w' ⟨rfl, rfl⟩)
  go_ret
  exact ⟨rfl, rfl⟩

set_option maxHeartbeats 4000000 in
theorem given_any (g : Nat) (v : Value) (m : Mach) (w : World) (h : MachAt 132 w g v m) (ok : m.Ok) :
    Calls Try.prog 53 #[.pointer (some ⟨g, 0, none⟩)] w fun e w' => e = .returned (.int .i64 m.given) ∧ w = w' := by
  obtain ⟨r, c, rfl, hc, hf, hc1, hc2, hr⟩ := h.open_ (by have := ok.g0; have := ok.g1; omega)
  obtain ⟨t0, t1, g0, g1, len, p0, p1, s0, s1, vals⟩ := ok
  have hpos : 0 < m.l.length := by omega
  have hn' : ((m.l.length : Int) == 0) = false := by rw [beq_eq_false_iff_ne]; omega
  have H : Hid (MachAt 132 w g (.slice (some ⟨r, 0, none⟩) m.l.length c) m) := hidden h
  clear h vals hr
  go_enter Try.func53, Try.ntmps53
  go_wp2_with (go_at_call 78; refine (none_no _ _ (some ⟨r, 0, none⟩) _ _ (by simp [hc]; exact ⟨rfl, rfl⟩) (by omega)).mono ?_; rintro e w' ⟨rfl, rfl⟩)
  go_ret
  exact ⟨rfl, rfl⟩

set_option maxHeartbeats 4000000 in
theorem total_any (g : Nat) (v : Value) (m : Mach) (w : World) (h : MachAt 132 w g v m) (ok : m.Ok) :
    Calls Try.prog 54 #[.pointer (some ⟨g, 0, none⟩)] w fun e w' => e = .returned (.int .i64 m.total) ∧ w = w' := by
  obtain ⟨r, c, rfl, hc, hf, hc1, hc2, hr⟩ := h.open_ (by have := ok.g0; have := ok.g1; omega)
  obtain ⟨t0, t1, g0, g1, len, p0, p1, s0, s1, vals⟩ := ok
  have hpos : 0 < m.l.length := by omega
  have hn' : ((m.l.length : Int) == 0) = false := by rw [beq_eq_false_iff_ne]; omega
  have H : Hid (MachAt 132 w g (.slice (some ⟨r, 0, none⟩) m.l.length c) m) := hidden h
  clear h vals hr
  go_enter Try.func54, Try.ntmps54
  go_wp2_with (go_at_call 78; refine (none_no _ _ (some ⟨r, 0, none⟩) _ _ (by simp [hc]; exact ⟨rfl, rfl⟩) (by omega)).mono ?_; rintro e w' ⟨rfl, rfl⟩)
  go_ret
  exact ⟨rfl, rfl⟩

end Go.Proofs.Ytfblececmkimiaa

/- The disk (layer 22): what it is, and what only reads it. -/
import Derived.Laws.CopyOwn
import Derived.Laws.BytesArg
import Derived.Deep.AppendLies
import Derived.Test.YtfblececmkimiaaRows
import Derived.Test.YtfblececmkimiaaLib
namespace Go.Proofs.Ytfblececmkimiaa
open Go.RowKit
attribute [local go_sem] lmax_two lmin_two

structure Disk where
  b : List Int
  fuse : Int
  dead : Bool
  wrote : Int
structure DiskAt (w : World) (g r : Nat) (D : Disk) : Prop where
  blk : w.heap[g]? = some (.cells #[.slice (some ⟨r, 0, none⟩) D.b.length D.b.length, .int .i64 D.fuse, .bool D.dead, .int .i64 D.wrote] 113 (0, 0))
  row : w.heap[r]? = some (.cells (nums .u8 D.b).toArray 5 (0, 0))

theorem own_full {w : World} {base g n : Nat} {e : TypeId} {xs : List Value} (h : w.ownsRow base e 1 (.slice (some ⟨g, 0, none⟩) n n) n xs) : w.heap[g]? = some (.cells xs.toArray e (0, 0)) := by
  obtain ⟨_, ⟨h2, _⟩ | ⟨r, c, cur, h2, _, hh, _, _, h5, h6⟩⟩ := h
  · cases h2
  · injection h2 with h2 _ h2c
    injection h2 with h2
    injection h2 with h2 _ _
    subst h2 h2c
    have : cur.toList = xs := by
      rw [← h6, List.take_of_length_le]
      simp [h5]
    rw [hh, ← this]
theorem DiskAt.cell {w : World} {g r : Nat} {D : Disk} (h : DiskAt w g r D) (i : Nat) (hi : i < D.b.length) : w.cell? ⟨r, i, none⟩ = some (.int .u8 (D.b.getD i 0)) := by
  rw [blk_cell h.row i]
  simp [nums, List.getD_eq_getElem?_getD, hi]
theorem DiskAt.ne {w : World} {g r : Nat} {D : Disk} (h : DiskAt w g r D) : g ≠ r := blk_ne h.blk h.row (by decide)
theorem DiskAt.kept {S : Nat → Prop} {w w' : World} {g r : Nat} {D : Disk} (h : DiskAt w g r D) (hk : Kept S w w') (hg : ¬ S g) (hr : ¬ S r) : DiskAt w' g r D := ⟨hk.blk h.blk hg, hk.blk h.row hr⟩
/-- A row of bytes that was made. -/
def BytesAt (w : World) (v : Value) (xs : List Int) : Prop := ∃ h c, v = .slice (some ⟨h, 0, none⟩) xs.length c ∧ ∀ i, i < xs.length → w.cell? ⟨h, i, none⟩ = some (.int .u8 (xs.getD i 0))
theorem nums_at (k : IntKind) (xs : List Int) (j : Nat) (u : Value) (h : (nums k xs)[j]? = some u) : j < xs.length ∧ u = .int k (xs.getD j 0) := by
  have hj : j < xs.length := by
    have := (List.getElem?_eq_some_iff.1 h).1
    rwa [nums_length] at this
  refine ⟨hj, ?_⟩
  simp [nums, hj] at h
  rw [← h]
  simp [List.getD_eq_getElem?_getD, hj]
theorem plain_add (b o j : Nat) : (⟨b, o, none⟩ : Addr).add j = ⟨b, o + j, none⟩ := by unfold Addr.add; split <;> simp_all

theorem size_none (w : World) : Calls Try.prog 35 #[.pointer none] w fun e w' => e = .returned (.int .i64 0) ∧ w = w' := by
  go_enter Try.func35, Try.ntmps35
  go_wp2
  go_ret
  exact ⟨rfl, rfl⟩
theorem size_any (g r : Nat) (D : Disk) (w : World) (h : DiskAt w g r D) (hn : D.b.length ≤ 2097152) : Calls Try.prog 35 #[.pointer (some ⟨g, 0, none⟩)] w fun e w' => e = .returned (.int .i64 ((D.b.length / 64 : Nat) : Int)) ∧ w = w' := by
  have e0 := (blk_cell h.blk 0).trans rfl
  have e1 : (D.b.length : Int).tdiv 64 = ((D.b.length / 64 : Nat) : Int) := by rw [Int.tdiv_eq_ediv_of_nonneg (by omega)]; omega
  have e2 : IntKind.i64.wrap ((D.b.length / 64 : Nat) : Int) = ((D.b.length / 64 : Nat) : Int) := IntWalk.i64_in _ (by omega)
  go_enter Try.func35, Try.ntmps35
  go_wp2
  go_ret
  exact ⟨rfl, rfl⟩
theorem on_none (w : World) : Calls Try.prog 34 #[.pointer none] w fun e w' => e = .returned (.bool false) ∧ w = w' := by
  go_enter Try.func34, Try.ntmps34
  go_wp2
  go_ret
  exact ⟨rfl, rfl⟩
theorem on_any (g r : Nat) (D : Disk) (w : World) (h : DiskAt w g r D) : Calls Try.prog 34 #[.pointer (some ⟨g, 0, none⟩)] w fun e w' => e = .returned (.bool (!D.dead)) ∧ w = w' := by
  have e0 := (blk_cell h.blk 2).trans rfl
  go_enter Try.func34, Try.ntmps34
  go_wp2
  go_ret
  exact ⟨rfl, rfl⟩
theorem wrote_none (w : World) : Calls Try.prog 38 #[.pointer none] w fun e w' => e = .returned (.int .i64 0) ∧ w = w' := by
  go_enter Try.func38, Try.ntmps38
  go_wp2
  go_ret
  exact ⟨rfl, rfl⟩
theorem wrote_any (g r : Nat) (D : Disk) (w : World) (h : DiskAt w g r D) : Calls Try.prog 38 #[.pointer (some ⟨g, 0, none⟩)] w fun e w' => e = .returned (.int .i64 D.wrote) ∧ w = w' := by
  have e0 := (blk_cell h.blk 3).trans rfl
  go_enter Try.func38, Try.ntmps38
  go_wp2
  go_ret
  exact ⟨rfl, rfl⟩
theorem new_bad (n : Int) (w : World) (hn : n < 1 ∨ 16384 < n) : Calls Try.prog 36 #[.int .i64 n] w fun e w' => e = .returned (.tuple #[.pointer none, .int .i64 1]) ∧ w = w' := by
  have hcase : n < 1 ∨ (1 ≤ n ∧ 16384 < n) := by omega
  clear hn
  rcases hcase with h1 | ⟨h1, h2⟩
  all_goals
    go_enter Try.func36, Try.ntmps36
    go_wp2
    go_ret2
    exact ⟨rfl, rfl⟩
theorem Try.info5 : (Try.prog.info? 5).map (fun i => (i.zero, i.size, i.bytes)) = some (some (.int .u8 0), 1, 1) := by kernel_rfl
def Disk.new (m : Nat) : Disk := ⟨List.replicate (64 * m) 0, -1, false, 0⟩

set_option maxRecDepth 100000 in
set_option maxHeartbeats 2000000 in
theorem new_good (m : Nat) (w : World) (h1 : 1 ≤ m) (h2 : m ≤ 16384) : Calls Try.prog 36 #[.int .i64 m] w fun e w' => ∃ g, e = .returned (.tuple #[.pointer (some ⟨g, 0, none⟩), .int .i64 0]) ∧
    w.heap.size < g ∧ DiskAt w' g w.heap.size (Disk.new m) ∧ Kept Nob w w' := by
  obtain ⟨i0, hi, hz0, hz1, hz2⟩ := info_parts Try.info5
  have hib : i0.bytes * (64 * m) ≤ 281474976710656 := by rw [hz2]; omega
  have e1 : IntKind.i64.wrap ((m : Int) * 64) = ((64 * m : Nat) : Int) := by rw [IntWalk.i64_in _ (by omega)]; omega
  have x1 : ¬ ((m : Int) < 1) := by omega
  have x2 : ¬ (16384 < (m : Int)) := by omega
  go_enter Try.func36, Try.ntmps36
  go_wp2_with (refine wpList_make_full _ rfl (.tmp 11) (.tmp 11) 55 rfl w.heap.size 5 i0 (.int .u8 0) 1 Try.underlying55 hi hz0 hz1 .i64 .i64 _ _ (64 * m) rfl rfl rfl rfl hib (by unfold maxLen; omega) (Nat.le_refl _) ?_; intro w1 hown hgr; rw [made_nums] at hown; have HO := hidden (own_full hown); have HG := hidden (Kept.grown (Kept.refl Nob w) hgr (by simp)); have hlt := hidden (blk_lt (own_full hown)); clear hown hgr)
  go_ret2
  refine ⟨_, rfl, hlt.out, ⟨?_, ?_⟩, Kept.alloc HG.out _⟩
  · have e : (Disk.new m).b.length = 64 * m := by simp [Disk.new]
    rw [e]
    exact heap_alloc_new _ _
  · exact blk_alloc HO.out _

theorem image_none (w : World) : Calls Try.prog 33 #[.pointer none] w fun e w' => e = .returned (.slice none 0 0) ∧ w = w' := by
  go_enter Try.func33, Try.ntmps33
  go_wp2
  go_ret
  exact ⟨rfl, rfl⟩
set_option maxRecDepth 100000 in
set_option maxHeartbeats 2000000 in
theorem image_any (g r : Nat) (D : Disk) (w : World) (h : DiskAt w g r D) (hn0 : 0 < D.b.length) (hn : D.b.length ≤ 2097152) : Calls Try.prog 33 #[.pointer (some ⟨g, 0, none⟩)] w fun e w' => ∃ v, e = .returned v ∧ BytesAt w' v D.b ∧ Kept Nob w w' := by
  have e0 := (blk_cell h.blk 0).trans rfl
  obtain ⟨i0, hi, hz0, hz1, hz2⟩ := info_parts Try.info5
  have H := hidden h
  clear h
  have hnil : w.ownsRow 0 5 1 (.slice none 0 0) 0 [] := ⟨rfl, .inl ⟨rfl, rfl⟩⟩
  have HN := hidden hnil
  clear hnil
  go_enter Try.func33, Try.ntmps33
  go_wp2_with (at_builtin; (refine wpList_append_lies _ rfl (.const (.slice none 0 0)) (.tmp 8) 55 rfl 0 5 i0 (.int .u8 0) 1 1 Try.underlying55 hi hz0 hz1 hz2 rfl (by omega) (.slice none 0 0) 0 [] rfl HN.out ⟨r, 0, none⟩ D.b.length D.b.length (nums .u8 D.b) rfl (by simp [nums]) (fun j u hj => by obtain ⟨h1, rfl⟩ := nums_at _ _ _ _ hj; rw [plain_add, Nat.zero_add]; exact H.out.cell j h1) (by simp [nums, Value.oneCell']) hn0 (by unfold maxLen; omega) (by omega) (Nat.zero_le _) w.heap.size rfl ?_); intro gg cap w1 hown1 hgrow hat hlt; rw [Nat.zero_add, List.nil_append] at hown1; have HO := hidden hown1; have HG := hidden (Kept.grown (Kept.refl Nob w) hgrow (by simp [Value.ownBlock])); clear hown1 hgrow hat hlt)
  go_ret
  exact ⟨_, rfl, ⟨gg, cap, rfl, fun i hi => own_cell HO.out i hi⟩, HG.out⟩
end Go.Proofs.Ytfblececmkimiaa

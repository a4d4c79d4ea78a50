/- The disk (layer 22): chapter 22's example, what is loaded, and a nil disk. -/
import Derived.Test.YtfblececmkimiaaDisk3
namespace Go.Proofs.Ytfblececmkimiaa
open Go.RowKit
attribute [local go_sem] lmax_two lmin_two

theorem row_set {w : World} {h : Nat} {xs : List Int} (hr : w.heap[h]? = some (.cells (nums .u8 xs).toArray 5 (0, 0))) (i : Nat) (x : Int) :
    (w.setCell ⟨h, i, none⟩ (.int .u8 x)).heap[h]? = some (.cells (nums .u8 (xs.set i x)).toArray 5 (0, 0)) := by
  rw [blk_set hr i, ← nums_set]
  simp
theorem row_rd {w : World} {h : Nat} {xs : List Int} (hr : w.heap[h]? = some (.cells (nums .u8 xs).toArray 5 (0, 0))) : RdInts w .u8 (some ⟨h, 0, none⟩) xs := fun i hi =>
  ⟨_, rfl, by rw [plain_add, Nat.zero_add, blk_cell hr]; simp [nums, List.getD_eq_getElem?_getD, hi]⟩
theorem RdInts.src {w : World} {k : IntKind} {ad : Addr} {xs : List Int} (h : RdInts w k (some ad) xs) (j : Nat) (u : Value) (hj : (nums k xs)[j]? = some u) : w.cell? (ad.add j) = some u := by
  obtain ⟨q1, rfl⟩ := nums_at _ _ _ _ hj
  obtain ⟨ad', e', hc⟩ := h j q1
  injection e' with e'
  subst e'
  exact hc
def awB : List Int := ((List.replicate 128 (0 : Int)).set 0 7).set 64 8
def awD : Disk := (((Disk.new 2).arm 1).write 0 awB).2
theorem awLB : awB.length = 128 := by decide +kernel
theorem awE : (((Disk.new 2).arm 1).write 0 awB).1 = 19 := by decide +kernel
theorem awL : awD.b.length = 128 := by decide +kernel
theorem aw0 : awD.b.getD 0 0 = 7 := by decide +kernel
theorem aw64 : awD.b.getD 64 0 = 0 := by decide +kernel
theorem awDead : awD.dead = true := by decide +kernel
theorem awIn : ((Disk.new 2).arm 1).b.length = 128 ∧ ((Disk.new 2).arm 1).fuse = 1 ∧ ((Disk.new 2).arm 1).wrote = 0 := ⟨by decide +kernel, by decide +kernel, by decide +kernel⟩

set_option maxRecDepth 100000 in
set_option maxHeartbeats 8000000 in
theorem awaked_any (w : World) : Calls Try.prog 32 #[] w fun e w' => e = .returned (.bool true) ∧ Kept Nob w w' := by
  obtain ⟨i0, hi, hz0, hz1, hz2⟩ := info_parts Try.info5
  have hib : i0.bytes * 128 ≤ 281474976710656 := by rw [hz2]; omega
  go_enter Try.func32, Try.ntmps32
  go_wp2_with (first
    | (go_at_call 36; refine (new_good 2 _ (by omega) (by omega)).mono ?_; rintro e w1 ⟨g, rfl, hg, hd, hk⟩; have HD1 := hidden hd; have HK1 := hidden hk; have HG := hidden hg; clear hd hk hg)
    | (go_at_call 39; refine (arm_any g _ _ 1 _ HD1.out).mono ?_; rintro e w2 ⟨rfl, hd, hk⟩; have HD2 := hidden hd; have HK2 := hidden (Kept.then HK1.out hk (fun k hk hs => by have := HG.out; omega)); clear hd hk)
    | (refine wpList_make_full _ rfl (.const (.int .i64 128)) (.const (.int .i64 128)) 55 rfl w2.heap.size 5 i0 (.int .u8 0) 1 Try.underlying55 hi hz0 hz1 .i64 .i64 _ _ 128 rfl rfl rfl rfl hib (by unfold maxLen; omega) (Nat.le_refl _) ?_; intro w3 hown hgr; rw [made_nums] at hown; have HR3 := hidden (own_full hown); have HK3 := hidden (HK2.out.trans (Kept.grown (Kept.refl Nob _) hgr (by simp))); have HD3 := hidden (HD2.out.kept (Kept.grown (Kept.refl Nob _) hgr (by simp)) (fun h => h) (fun h => h)); clear hown hgr; have c30 := (blk_cell HR3.out 0).trans rfl; have c31 := (blk_cell HR3.out 64).trans rfl; have z30 := blk_frozen HR3.out 0; have z31 := blk_frozen HR3.out 64)
    | (go_at_call 42; have hn1 := blk_lt HD2.out.blk; have hn2 := blk_lt HD2.out.row; have hw := write_any g _ _ 0 (some ⟨w2.heap.size, 0, none⟩) 128 awB ((w3.setCell ⟨w2.heap.size, 0, none⟩ (.int .u8 7)).setCell ⟨w2.heap.size, 64, none⟩ (.int .u8 8)) (HD3.out.kept (Kept.setCell (Kept.setCell (Kept.refl (fun k => k = w2.heap.size) w3) (fun _ => rfl) _) (fun _ => rfl) _) (by omega) (by omega)) (by rw [awIn.1]; omega) (row_rd (row_set (row_set HR3.out 0 7) 64 8)) (by rw [awLB]; omega) (by unfold maxLen; omega) (fun ad e _ => by injection e with e; subst e; constructor <;> (show w2.heap.size ≠ _; omega)) (by rw [awIn.2.1]; omega) (by rw [awIn.2.2]; omega) (by rw [awIn.2.2]; omega); rw [awLB] at hw; refine hw.mono ?_; rintro e w6 ⟨rfl, hd, hk⟩; have HD6 : Hid (DiskAt w6 g w.heap.size awD) := hidden hd; have HK6 := hidden (Kept.then (Kept.setCell (Kept.setCell HK3.out (fun h => by have := HK2.out.size; exact absurd h (by show ¬ (w2.heap.size < _); omega)) _) (fun h => by have := HK2.out.size; exact absurd h (by show ¬ (w2.heap.size < _); omega)) _) hk (fun k hk hs => by have := HG.out; omega)); clear hd hk hw; rw [awE])
    | (go_at_call 33; refine (image_any g _ awD _ HD6.out (by rw [awL]; omega) (by rw [awL]; omega)).mono ?_; rintro e w7 ⟨v, rfl, ⟨h7, c7, rfl, hc7⟩, hk⟩; have HD7 := hidden (HD6.out.kept hk (fun h => h) (fun h => h)); have HK7 := hidden (HK6.out.trans hk); have c70 := hc7 0 (by rw [awL]; omega); have c71 := hc7 64 (by rw [awL]; omega); rw [aw0] at c70; rw [aw64] at c71; clear hc7 hk; rw [awL])
    | (go_at_call 34; refine (on_any g _ awD _ HD7.out).mono ?_; rintro e w8 ⟨rfl, rfl⟩; rw [awDead]))
  go_ret
  exact ⟨rfl, HK7.out⟩

set_option maxRecDepth 100000 in
set_option maxHeartbeats 8000000 in
theorem diskNobody_any (x n : Int) (w : World) : Calls Try.prog 9 #[.int .i64 x, .int .i64 n] w fun e w' => e = .returned (.bool true) ∧ Kept Nob w w' := by
  go_enter Try.func9, Try.ntmps9
  go_wp2_with (first
    | (go_at_call 39; refine (arm_none _ _).mono ?_; rintro e w' ⟨rfl, rfl⟩)
    | (go_at_call 40; refine (wake_none _).mono ?_; rintro e w' ⟨rfl, rfl⟩)
    | (go_at_call 41; refine (read_none _ _ _).mono ?_; rintro e w' ⟨rfl, rfl⟩)
    | (go_at_call 42; refine (write_none _ _ _).mono ?_; rintro e w' ⟨rfl, rfl⟩)
    | (go_at_call 34; refine (on_none _).mono ?_; rintro e w' ⟨rfl, rfl⟩)
    | (go_at_call 35; refine (size_none _).mono ?_; rintro e w' ⟨rfl, rfl⟩)
    | (go_at_call 38; refine (wrote_none _).mono ?_; rintro e w' ⟨rfl, rfl⟩)
    | (go_at_call 33; refine (image_none _).mono ?_; rintro e w' ⟨rfl, rfl⟩)
    | (go_at_call 32; refine (awaked_any _).mono ?_; rintro e w1 ⟨rfl, hk⟩; have H1 := hidden hk; clear hk))
  go_ret
  exact ⟨rfl, H1.out⟩

set_option maxRecDepth 100000 in
set_option maxHeartbeats 8000000 in
theorem load_good (m : Nat) (A : Option Addr) (C : Nat) (data : List Int) (w : World) (h1 : 1 ≤ m) (h2 : m ≤ 16384) (hlen : data.length = 64 * m) (hR : RdInts w .u8 A data) :
    Calls Try.prog 31 #[.slice A data.length C] w fun e w' => ∃ g r, e = .returned (.tuple #[.pointer (some ⟨g, 0, none⟩), .int .i64 0]) ∧ w.heap.size ≤ g ∧ w.heap.size ≤ r ∧ DiskAt w' g r ⟨data, -1, false, 0⟩ ∧ Kept Nob w w' := by
  have e1 : (data.length : Int).tmod 64 = 0 := by rw [Int.tmod_eq_emod_of_nonneg (by omega)]; omega
  have e2 : (data.length : Int).tdiv 64 = (m : Int) := by rw [Int.tdiv_eq_ediv_of_nonneg (by omega)]; omega
  have e3 : IntKind.i64.wrap (m : Int) = (m : Int) := IntWalk.i64_in _ (by omega)
  have HLEN := hidden hlen
  obtain ⟨ad, rfl, hsrc⟩ := hR.drop_at 0 data.length (by omega)
  have HR := hidden hR
  have HNE : Hid ((Disk.new m).b.length = data.length) := hidden (by simp [Disk.new, hlen])
  clear hR hlen hsrc
  go_enter Try.func31, Try.ntmps31
  go_wp2_with (first
    | (go_at_call 36; refine (new_good m _ h1 h2).mono ?_; rintro e w1 ⟨g, rfl, hg, hd, hk⟩; have HD1 := hidden hd; have HK1 := hidden hk; have HG := hidden hg; have c0 := (blk_cell hd.blk 0).trans rfl; clear hd hk hg)
    | (refine wpList_copy_disk rfl (.tmp 24) (.tmp 25) rfl g w.heap.size _ HD1.out 0 _ _ _ _ ad rfl rfl data (by rw [HNE.out]; exact (Nat.min_self _).symm) (HR.out.kept HK1.out (fun _ _ h => h)).src (by rw [HNE.out]; omega) ?_; intro w2 hd hk; have HD2 := hidden hd; have HK2 := hidden hk; clear hd hk))
  go_ret2
  refine ⟨g, w.heap.size, rfl, by have := HG.out; omega, Nat.le_refl _, ?_, Kept.then HK1.out HK2.out (fun k hk hs => by have := HG.out; omega)⟩
  have e : splice (Disk.new m).b 0 data = data := by simp [splice, Disk.new, HLEN.out]
  have hd := HD2.out
  rw [e] at hd
  exact hd
set_option maxRecDepth 100000 in
set_option maxHeartbeats 8000000 in
theorem load_bad (A : Option Addr) (C n : Nat) (w : World) (h1 : n ≤ 4000) (hn : n = 0 ∨ n % 64 ≠ 0) :
    Calls Try.prog 31 #[.slice A n C] w fun e w' => e = .returned (.tuple #[.pointer none, .int .i64 1]) ∧ Kept Nob w w' := by
  have e1 : (n : Int).tmod 64 = ((n % 64 : Nat) : Int) := by rw [Int.tmod_eq_emod_of_nonneg (by omega)]; omega
  have e2 : (n : Int).tdiv 64 = ((n / 64 : Nat) : Int) := by rw [Int.tdiv_eq_ediv_of_nonneg (by omega)]; omega
  have e3 : IntKind.i64.wrap ((n / 64 : Nat) : Int) = ((n / 64 : Nat) : Int) := IntWalk.i64_in _ (by omega)
  have hcase : n / 64 = 0 ∨ (1 ≤ n / 64 ∧ n / 64 ≤ 16384 ∧ n % 64 ≠ 0) := by omega
  clear hn
  obtain ⟨q, hq⟩ : ∃ q, q = n / 64 := ⟨_, rfl⟩
  obtain ⟨u, hu⟩ : ∃ u, u = n % 64 := ⟨_, rfl⟩
  rw [← hq] at e2 e3 hcase
  rw [← hu] at e1 hcase
  clear hq hu
  rcases hcase with hc | ⟨hc1, hc2, hc3⟩
  · go_enter Try.func31, Try.ntmps31
    go_wp2_with (go_at_call 36; refine (new_bad _ _ (by omega)).mono ?_; rintro e w1 ⟨rfl, rfl⟩)
    go_ret2
    exact ⟨rfl, Kept.refl _ _⟩
  · have hc4 : ¬ ((u : Int) = 0) := by omega
    go_enter Try.func31, Try.ntmps31
    go_wp2_with (go_at_call 36; refine (new_good q _ hc1 hc2).mono ?_; rintro e w1 ⟨g, rfl, hg, hd, hk⟩; have HK1 := hidden hk; clear hg hd hk)
    go_ret2
    exact ⟨rfl, HK1.out⟩
end Go.Proofs.Ytfblececmkimiaa

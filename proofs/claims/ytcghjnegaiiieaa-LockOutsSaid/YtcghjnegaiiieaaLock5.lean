/- What is open (layer 7): a key among keys; ways without a hash. -/
import Derived.Test.YtcghjnegaiiieaaLock4
namespace Go.Proofs.Ytcghjnegaiiieaa
open Go.RowKit

def hasB (xs : List Int) (q : Int) : Bool := xs.contains q
theorem take_in (xs : List Int) (i : Nat) (q : Int) (hi : i < xs.length) : hasB (xs.take (i + 1)) q = (hasB (xs.take i) q || q == xs.getD i 0) := by
  unfold hasB
  rw [List.take_succ_eq_append_getElem hi, Bool.eq_iff_iff]
  simp only [List.contains_iff_mem, List.mem_append, List.mem_singleton, Bool.or_eq_true, beq_iff_eq, List.getD_eq_getElem?_getD, List.getElem?_eq_getElem hi, Option.getD_some]
set_option maxRecDepth 100000 in
set_option maxHeartbeats 4000000 in
theorem index_ints (A : Option Addr) (c : Nat) (xs : List Int) (q : Int) (F : Nat → Prop) (w : World) (h : Ints w F .i64 A c xs) :
    Calls Try.prog 124 #[.slice A xs.length c, .int .i64 q] w (IxPost (hasB xs q) w) := by
  have H := hidden h
  have hmax := h.max
  have hle := h.le
  unfold maxLen at hmax
  clear h
  go_enter Try.func124, Try.ntmps124
  go_wp2
  go_loop [8] (fun i => ∃ k : Nat, k ≤ xs.length ∧ i = .int .i64 k ∧ hasB (xs.take k) q = false) (fun i => xs.length - (intOf i).toNat)
  case atStart => exact ⟨0, Nat.zero_le _, rfl, rfl⟩
  case round =>
    obtain ⟨k, hk, rfl, hall⟩ := hrel
    have HALL := hidden hall
    clear hall
    by_cases hlt : k < xs.length
    · obtain ⟨ad, rfl, hc⟩ := H.out.rd k hlt
      have HSN := hidden (take_in xs k q hlt)
      have HIN : Hid (xs.getD k 0 = q → hasB xs q = true) := hidden (fun e => by unfold hasB; simp [List.getD_eq_getElem?_getD, hlt] at e; simp; exact e ▸ List.getElem_mem hlt)
      generalize xs.getD k 0 = z at hc HSN HIN
      by_cases hz : z = q
      · have hz' : (q == z) = true := by simp [hz]
        have HE := hidden (HIN.out hz)
        clear hz
        go_wp2
        go_ret
        exact ⟨k, rfl, by rw [HE.out]; simp, Kept.refl _ _⟩
      · have hz' : (q == z) = false := by simp; exact fun e => hz e.symm
        have HZ := hidden hz'
        clear hz
        go_wp2
        go_round
        case rel => exact ⟨k + 1, by omega, by go_num, by rw [HSN.out, HALL.out, HZ.out]; rfl⟩
        case measure => simp [intOf]; omega
    · obtain rfl : k = xs.length := by omega
      go_wp2
      go_ret
      refine ⟨-1, rfl, ?_, Kept.refl _ _⟩
      have := HALL.out
      rw [List.take_length] at this
      rw [this]
      rfl
theorem contains_ints (A : Option Addr) (c : Nat) (xs : List Int) (q : Int) (F : Nat → Prop) (w : World) (h : Ints w F .i64 A c xs) :
    Calls Try.prog 81 #[.slice A xs.length c, .int .i64 q] w fun e w' => e = .returned (.bool (hasB xs q)) ∧ Kept Nob w w' := by
  have HI := hidden (index_ints A c xs q F w h)
  clear h
  generalize hasB xs q = b at HI ⊢
  go_enter Try.func81, Try.ntmps81
  go_wp2_with (go_at_call 124; refine HI.out.mono ?_; rintro e w1 ⟨r, rfl, hr, hk1⟩; have HK1 := hidden hk1; have HRR := hidden hr; clear hk1 hr)
  go_ret
  exact ⟨ret_bool (by rw [← HRR.out]), HK1.out⟩

structure Tr where
  keys : List Int
  pre : List Int
  height : Int
  age : Int
def trCells (KA PA : Option Addr) (kc pc : Nat) (t : Tr) : Array Value := #[.slice KA t.keys.length kc, .slice PA t.pre.length pc, .int .i64 t.height, .int .i64 t.age]
def allIn (ks js : List Int) : Bool := ks.all fun k => hasB js k
theorem allIn_no {ks js : List Int} {i : Nat} (hi : i < ks.length) (h : hasB js (ks.getD i 0) = false) : allIn ks js = false := by
  unfold allIn
  rw [List.all_eq_false]
  refine ⟨ks[i], List.getElem_mem hi, ?_⟩
  simp [List.getD_eq_getElem?_getD, hi] at h
  simp [h]
theorem allIn_succ (ks js : List Int) (i : Nat) (hi : i < ks.length) : allIn (ks.take (i + 1)) js = (allIn (ks.take i) js && hasB js (ks.getD i 0)) := by
  unfold allIn
  rw [List.take_succ_eq_append_getElem hi, List.all_append]
  simp [List.getD_eq_getElem?_getD, hi]
def lateB (x : Way) (t : Tr) : Bool := decide (x.after ≤ t.height) && decide (x.wait ≤ t.age)

set_option maxRecDepth 100000 in
set_option maxHeartbeats 8000000 in
theorem opens_plain (x : Way) (t : Tr) (KA PA : Option Addr) (kc pc : Nat) (cs : List Value) (F : Nat → Prop) (w : World) (h : RWay w F cs x) (hz : x.hash = zero32) (hk : Ints w F .i64 KA kc t.keys) :
    Calls Try.prog 20 #[.agg cs.toArray, .agg (trCells KA PA kc pc t)] w fun e w' => e = .returned (.bool (allIn x.keys t.keys && lateB x t)) ∧ Kept Nob w w' := by
  obtain ⟨B, d, hcs, hi, hok⟩ := h.open_
  have g0 : cs.toArray[0]? = some (.slice B x.keys.length d) := by rw [hcs]; rfl
  have g33 : cs.toArray[33]? = some (.int .i64 x.after) := by rw [hcs]; simpa using way33 hok
  have g34 : cs.toArray[34]? = some (.int .i64 x.wait) := by rw [hcs]; simpa using way34 hok
  have hKB : Kept Nob w ((w.alloc (.cells cs.toArray 26)).alloc (.cells (trCells KA PA kc pc t) 29)) := Kept.alloc (Kept.alloc (Kept.refl _ _) _) _
  have HB1 : Hid (((w.alloc (.cells cs.toArray 26)).alloc (.cells (trCells KA PA kc pc t) 29)).heap[w.heap.size]? = some (.cells cs.toArray 26 (0, 0))) := hidden (blk_alloc (heap_alloc_new _ _) _)
  have HI := hidden (hi.keep hKB (fun _ _ h => h))
  have HK := hidden (hk.keep hKB (fun _ _ h => h))
  have hH : ∀ j u, (nums .u8 x.hash)[j]? = some u → cs.toArray[1 + j]? = some u := fun j u hj => by rw [hcs]; simpa using wayH hok j u hj
  have HH := hidden hH
  have HHL := hidden hok.hl
  have HZ := hidden hz
  have hle := hi.le
  have hmax := hi.max
  unfold maxLen at hmax
  have HKB := hidden hKB
  clear h hcs hi hok hk hz hH hKB
  generalize cs.toArray = CS at *
  have HB2 : Hid (((w.alloc (.cells CS 26)).alloc (.cells (trCells KA PA kc pc t) 29)).heap[w.heap.size + 1]? = some (.cells (trCells KA PA kc pc t) 29 (0, 0))) := hidden (blk_new_at (by simp))
  have HNZ : Hid (x.hash == zero32) := hidden (by rw [HZ.out]; simp)
  have eqz := neqZero x.hash HHL.out
  rw [HNZ.out] at eqz
  go_enter Try.func20, Try.ntmps20
  go_wp2
  go_loopw [10] (fun i wr => ∃ k : Nat, k ≤ x.keys.length ∧ i = .int .i64 k ∧ allIn (x.keys.take k) t.keys = true ∧ Kept Nob ((w.alloc (.cells CS 26)).alloc (.cells (trCells KA PA kc pc t) 29)) wr) (fun i _ => x.keys.length - (intOf i).toNat)
  case atStart => exact ⟨0, Nat.zero_le _, rfl, rfl, Kept.refl _ _⟩
  case round =>
    obtain ⟨k, hk, rfl, hall, hkp⟩ := hrel
    have HALL := hidden hall
    have HKP := hidden hkp
    have b2 := hkp.blk HB2.out (fun h => h)
    have q0 : wr.cell? ⟨w.heap.size + 1, 0, none⟩ = some (.slice KA t.keys.length kc) := (blk_cell b2 0).trans rfl
    have q2 : wr.cell? ⟨w.heap.size + 1, 2, none⟩ = some (.int .i64 t.height) := (blk_cell b2 2).trans rfl
    have q3 : wr.cell? ⟨w.heap.size + 1, 3, none⟩ = some (.int .i64 t.age) := (blk_cell b2 3).trans rfl
    have b1 := hkp.blk HB1.out (fun h => h)
    have p33 := (blk_cell b1 33).trans g33
    have p34 := (blk_cell b1 34).trans g34
    have HP1 := hidden b1
    clear hall hkp b1 b2
    by_cases hlt : k < x.keys.length
    · obtain ⟨ad, rfl, hc⟩ := (HI.out.keep HKP.out (fun _ _ h => h)).rd k hlt
      have HSN := hidden (allIn_succ x.keys t.keys k hlt)
      have HNO := hidden (allIn_no (js := t.keys) hlt)
      generalize x.keys.getD k 0 = z at hc HSN HNO
      have HC := hidden (contains_ints KA kc t.keys z F wr (HK.out.keep HKP.out (fun _ _ h => h)))
      generalize hasB t.keys z = b at HC HSN HNO
      cases b with
      | true =>
        go_wp2_with (go_at_call 81; refine HC.out.mono ?_; rintro e w1 ⟨rfl, hk1⟩; have HK1 := hidden hk1; clear hk1)
        go_roundw
        case rel => exact ⟨k + 1, by omega, by go_num, by rw [HSN.out, HALL.out]; rfl, HKP.out.trans HK1.out⟩
        case measure => simp [intOf]; omega
      | false =>
        go_wp2_with (go_at_call 81; refine HC.out.mono ?_; rintro e w1 ⟨rfl, hk1⟩; have HK1 := hidden hk1; clear hk1)
        go_ret
        exact ⟨ret_bool (by rw [HNO.out (by simp)]; rfl), HKB.out.trans (HKP.out.trans HK1.out)⟩
    · obtain rfl : k = x.keys.length := by omega
      have hall2 : allIn x.keys t.keys = true := by have := HALL.out; rwa [List.take_length] at this
      have HA2 := hidden hall2
      have HLD : Hid (∀ y, Kept Nob wr y → ∀ j u, (nums .u8 x.hash)[j]? = some u → y.cell? ((⟨w.heap.size, 1, none⟩ : Addr).add j) = some u) := hidden (fun y hy j u hj => by
        have ea : (⟨w.heap.size, 1, none⟩ : Addr).add j = ⟨w.heap.size, 1 + j, none⟩ := by unfold Addr.add; split <;> simp_all
        rw [ea, blk_cell (hy.blk HP1.out (fun h => h))]
        exact HH.out j u hj)
      clear hall2
      go_wp2
      refine region_E 12 (fun y => ∀ j u, (nums .u8 x.hash)[j]? = some u → y.cell? ((⟨w.heap.size, 1, none⟩ : Addr).add j) = some u) (by kernel_rfl) (by kernel_rfl) ?_ ?_
      · exact HLD.out _ (by repeat (first | exact Kept.refl _ _ | apply Kept.alloc | apply Kept.drewN | apply Kept.drew))
      intro HS_
      all_goals (first | (refine GE.skip (i := 0) (oi := ?_) ?_ ?_ ?_ ?_ ?_ ?_; rotate_left; (simp only [List.getElem?_toArray, List.getElem?_cons_zero]; exact rfl); kernel_rfl; rfl; exact fun _ _ _ h => h; exact HS_.out; (try simp only [Act.put, List.setIfInBounds_toArray, List.set_cons_zero, List.set_cons_succ])) | (refine GE.univR (i := 0) (oi := ?_) (v := ?_) ?_ ?_ ?_ ?_ ?_ ?_ ?_; rotate_left; rotate_left; (simp only [List.getElem?_toArray, List.getElem?_cons_zero]; exact rfl); kernel_rfl; rfl; exact fun _ _ _ h => h; exact HS_.out; (intro x; go_simp; rfl); (try simp only [Act.put, List.setIfInBounds_toArray, List.set_cons_zero, List.set_cons_succ])) | (refine GE.takeR (i := 0) (oi := ?_) (v := ?_) ?_ ?_ ?_ ?_ ?_ ?_ ?_; rotate_left; rotate_left; (simp only [List.getElem?_toArray, List.getElem?_cons_zero]; exact rfl); kernel_rfl; rfl; exact fun _ _ _ h => h; exact HS_.out; (intro x hx; (try dsimp only at hx); go_split_ands; go_simp; rfl); (try simp only [Act.put, List.setIfInBounds_toArray, List.set_cons_zero, List.set_cons_succ])) | (refine GE.step (i := 0) (o := ?_) ?_ ?_ ?_; rotate_left; (simp only [List.getElem?_toArray, List.getElem?_cons_zero]; exact rfl); kernel_rfl; go_wp2_with (fail); refine QE.keep ?_ ?_; (exact HS_.out); intro HS_))
      all_goals (first | (refine GE.skip (i := 1) (oi := ?_) ?_ ?_ ?_ ?_ ?_ ?_; rotate_left; (simp only [List.getElem?_toArray, List.getElem?_cons_succ, List.getElem?_cons_zero]; exact rfl); kernel_rfl; rfl; exact fun _ _ _ h => h; exact HS_.out; (try simp only [Act.put, List.setIfInBounds_toArray, List.set_cons_zero, List.set_cons_succ])) | (refine GE.takeR (i := 1) (oi := ?_) (v := .agg (nums .u8 x.hash).toArray) ?_ ?_ ?_ ?_ ?_ ?_ ?_; rotate_left; (simp only [List.getElem?_toArray, List.getElem?_cons_succ, List.getElem?_cons_zero]; exact rfl); kernel_rfl; rfl; exact fun _ _ _ h => h; exact HS_.out; exact (fun y hy => exec_load aggSum (x := .tmp 20) (ad := ⟨w.heap.size, 1, none⟩) (es := nums .u8 x.hash) rfl rfl (by rw [nums_length]; exact HHL.out) hy); (try simp only [Act.put, List.setIfInBounds_toArray, List.set_cons_zero, List.set_cons_succ])))
      all_goals (first | (refine GE.skip (i := 2) (oi := ?_) ?_ ?_ ?_ ?_ ?_ ?_; rotate_left; (simp only [List.getElem?_toArray, List.getElem?_cons_succ, List.getElem?_cons_zero]; exact rfl); kernel_rfl; rfl; exact fun _ _ _ h => h; exact HS_.out; (try simp only [Act.put, List.setIfInBounds_toArray, List.set_cons_zero, List.set_cons_succ])) | (refine GE.univR (i := 2) (oi := ?_) (v := ?_) ?_ ?_ ?_ ?_ ?_ ?_ ?_; rotate_left; rotate_left; (simp only [List.getElem?_toArray, List.getElem?_cons_succ, List.getElem?_cons_zero]; exact rfl); kernel_rfl; rfl; exact fun _ _ _ h => h; exact HS_.out; (intro x; go_simp; rfl); (try simp only [Act.put, List.setIfInBounds_toArray, List.set_cons_zero, List.set_cons_succ])) | (refine GE.takeR (i := 2) (oi := ?_) (v := ?_) ?_ ?_ ?_ ?_ ?_ ?_ ?_; rotate_left; rotate_left; (simp only [List.getElem?_toArray, List.getElem?_cons_succ, List.getElem?_cons_zero]; exact rfl); kernel_rfl; rfl; exact fun _ _ _ h => h; exact HS_.out; (intro x hx; (try dsimp only at hx); go_split_ands; go_simp; rfl); (try simp only [Act.put, List.setIfInBounds_toArray, List.set_cons_zero, List.set_cons_succ])) | (refine GE.step (i := 2) (o := ?_) ?_ ?_ ?_; rotate_left; (simp only [List.getElem?_toArray, List.getElem?_cons_succ, List.getElem?_cons_zero]; exact rfl); kernel_rfl; go_wp2_with (fail); refine QE.keep ?_ ?_; (exact HS_.out); intro HS_))
      all_goals (first | (refine GE.skip (i := 3) (oi := ?_) ?_ ?_ ?_ ?_ ?_ ?_; rotate_left; (simp only [List.getElem?_toArray, List.getElem?_cons_succ, List.getElem?_cons_zero]; exact rfl); kernel_rfl; rfl; exact fun _ _ _ h => h; exact HS_.out; (try simp only [Act.put, List.setIfInBounds_toArray, List.set_cons_zero, List.set_cons_succ])) | (refine GE.univR (i := 3) (oi := ?_) (v := ?_) ?_ ?_ ?_ ?_ ?_ ?_ ?_; rotate_left; rotate_left; (simp only [List.getElem?_toArray, List.getElem?_cons_succ, List.getElem?_cons_zero]; exact rfl); kernel_rfl; rfl; exact fun _ _ _ h => h; exact HS_.out; (intro x; go_simp; rfl); (try simp only [Act.put, List.setIfInBounds_toArray, List.set_cons_zero, List.set_cons_succ])) | (refine GE.takeR (i := 3) (oi := ?_) (v := ?_) ?_ ?_ ?_ ?_ ?_ ?_ ?_; rotate_left; rotate_left; (simp only [List.getElem?_toArray, List.getElem?_cons_succ, List.getElem?_cons_zero]; exact rfl); kernel_rfl; rfl; exact fun _ _ _ h => h; exact HS_.out; (intro x hx; (try dsimp only at hx); go_split_ands; go_simp; rfl); (try simp only [Act.put, List.setIfInBounds_toArray, List.set_cons_zero, List.set_cons_succ])) | (refine GE.step (i := 3) (o := ?_) ?_ ?_ ?_; rotate_left; (simp only [List.getElem?_toArray, List.getElem?_cons_succ, List.getElem?_cons_zero]; exact rfl); kernel_rfl; go_wp2_with (fail); refine QE.keep ?_ ?_; (exact HS_.out); intro HS_))
      all_goals (first | (refine GE.skip (i := 4) (oi := ?_) ?_ ?_ ?_ ?_ ?_ ?_; rotate_left; (simp only [List.getElem?_toArray, List.getElem?_cons_succ, List.getElem?_cons_zero]; exact rfl); kernel_rfl; rfl; exact fun _ _ _ h => h; exact HS_.out; (try simp only [Act.put, List.setIfInBounds_toArray, List.set_cons_zero, List.set_cons_succ])) | (refine GE.univR (i := 4) (oi := ?_) (v := ?_) ?_ ?_ ?_ ?_ ?_ ?_ ?_; rotate_left; rotate_left; (simp only [List.getElem?_toArray, List.getElem?_cons_succ, List.getElem?_cons_zero]; exact rfl); kernel_rfl; rfl; exact fun _ _ _ h => h; exact HS_.out; (intro x; go_simp; rfl); (try simp only [Act.put, List.setIfInBounds_toArray, List.set_cons_zero, List.set_cons_succ])) | (refine GE.takeR (i := 4) (oi := ?_) (v := ?_) ?_ ?_ ?_ ?_ ?_ ?_ ?_; rotate_left; rotate_left; (simp only [List.getElem?_toArray, List.getElem?_cons_succ, List.getElem?_cons_zero]; exact rfl); kernel_rfl; rfl; exact fun _ _ _ h => h; exact HS_.out; (intro x hx; (try dsimp only at hx); go_split_ands; go_simp; rfl); (try simp only [Act.put, List.setIfInBounds_toArray, List.set_cons_zero, List.set_cons_succ])) | (refine GE.step (i := 4) (o := ?_) ?_ ?_ ?_; rotate_left; (simp only [List.getElem?_toArray, List.getElem?_cons_succ, List.getElem?_cons_zero]; exact rfl); kernel_rfl; go_wp2_with (fail); refine QE.keep ?_ ?_; (exact HS_.out); intro HS_))
      all_goals (first | (refine GE.skip (i := 5) (oi := ?_) ?_ ?_ ?_ ?_ ?_ ?_; rotate_left; (simp only [List.getElem?_toArray, List.getElem?_cons_succ, List.getElem?_cons_zero]; exact rfl); kernel_rfl; rfl; exact fun _ _ _ h => h; exact HS_.out; (try simp only [Act.put, List.setIfInBounds_toArray, List.set_cons_zero, List.set_cons_succ])) | (refine GE.univR (i := 5) (oi := ?_) (v := ?_) ?_ ?_ ?_ ?_ ?_ ?_ ?_; rotate_left; rotate_left; (simp only [List.getElem?_toArray, List.getElem?_cons_succ, List.getElem?_cons_zero]; exact rfl); kernel_rfl; rfl; exact fun _ _ _ h => h; exact HS_.out; (intro x; go_simp; rfl); (try simp only [Act.put, List.setIfInBounds_toArray, List.set_cons_zero, List.set_cons_succ])) | (refine GE.takeR (i := 5) (oi := ?_) (v := ?_) ?_ ?_ ?_ ?_ ?_ ?_ ?_; rotate_left; rotate_left; (simp only [List.getElem?_toArray, List.getElem?_cons_succ, List.getElem?_cons_zero]; exact rfl); kernel_rfl; rfl; exact fun _ _ _ h => h; exact HS_.out; (intro x hx; (try dsimp only at hx); go_split_ands; go_simp; rfl); (try simp only [Act.put, List.setIfInBounds_toArray, List.set_cons_zero, List.set_cons_succ])) | (refine GE.step (i := 5) (o := ?_) ?_ ?_ ?_; rotate_left; (simp only [List.getElem?_toArray, List.getElem?_cons_succ, List.getElem?_cons_zero]; exact rfl); kernel_rfl; go_wp2_with (fail); refine QE.keep ?_ ?_; (exact HS_.out); intro HS_))
      all_goals (first | (refine GE.skip (i := 6) (oi := ?_) ?_ ?_ ?_ ?_ ?_ ?_; rotate_left; (simp only [List.getElem?_toArray, List.getElem?_cons_succ, List.getElem?_cons_zero]; exact rfl); kernel_rfl; rfl; exact fun _ _ _ h => h; exact HS_.out; (try simp only [Act.put, List.setIfInBounds_toArray, List.set_cons_zero, List.set_cons_succ])) | (refine GE.univR (i := 6) (oi := ?_) (v := ?_) ?_ ?_ ?_ ?_ ?_ ?_ ?_; rotate_left; rotate_left; (simp only [List.getElem?_toArray, List.getElem?_cons_succ, List.getElem?_cons_zero]; exact rfl); kernel_rfl; rfl; exact fun _ _ _ h => h; exact HS_.out; (intro x; go_simp; rfl); (try simp only [Act.put, List.setIfInBounds_toArray, List.set_cons_zero, List.set_cons_succ])) | (refine GE.takeR (i := 6) (oi := ?_) (v := ?_) ?_ ?_ ?_ ?_ ?_ ?_ ?_; rotate_left; rotate_left; (simp only [List.getElem?_toArray, List.getElem?_cons_succ, List.getElem?_cons_zero]; exact rfl); kernel_rfl; rfl; exact fun _ _ _ h => h; exact HS_.out; (intro x hx; (try dsimp only at hx); go_split_ands; go_simp; rfl); (try simp only [Act.put, List.setIfInBounds_toArray, List.set_cons_zero, List.set_cons_succ])) | (refine GE.step (i := 6) (o := ?_) ?_ ?_ ?_; rotate_left; (simp only [List.getElem?_toArray, List.getElem?_cons_succ, List.getElem?_cons_zero]; exact rfl); kernel_rfl; go_wp2_with (fail); refine QE.keep ?_ ?_; (exact HS_.out); intro HS_))
      all_goals (first | (refine GE.skip (i := 8) (oi := ?_) ?_ ?_ ?_ ?_ ?_ ?_; rotate_left; (simp only [List.getElem?_toArray, List.getElem?_cons_succ, List.getElem?_cons_zero]; exact rfl); kernel_rfl; rfl; exact fun _ _ _ h => h; exact HS_.out; (try simp only [Act.put, List.setIfInBounds_toArray, List.set_cons_zero, List.set_cons_succ])) | (refine GE.univR (i := 8) (oi := ?_) (v := ?_) ?_ ?_ ?_ ?_ ?_ ?_ ?_; rotate_left; rotate_left; (simp only [List.getElem?_toArray, List.getElem?_cons_succ, List.getElem?_cons_zero]; exact rfl); kernel_rfl; rfl; exact fun _ _ _ h => h; exact HS_.out; (intro x; go_simp; rfl); (try simp only [Act.put, List.setIfInBounds_toArray, List.set_cons_zero, List.set_cons_succ])) | (refine GE.takeR (i := 8) (oi := ?_) (v := ?_) ?_ ?_ ?_ ?_ ?_ ?_ ?_; rotate_left; rotate_left; (simp only [List.getElem?_toArray, List.getElem?_cons_succ, List.getElem?_cons_zero]; exact rfl); kernel_rfl; rfl; exact fun _ _ _ h => h; exact HS_.out; (intro x hx; (try dsimp only at hx); go_split_ands; go_simp; rfl); (try simp only [Act.put, List.setIfInBounds_toArray, List.set_cons_zero, List.set_cons_succ])) | (refine GE.step (i := 8) (o := ?_) ?_ ?_ ?_; rotate_left; (simp only [List.getElem?_toArray, List.getElem?_cons_succ, List.getElem?_cons_zero]; exact rfl); kernel_rfl; go_wp2_with (fail); refine QE.keep ?_ ?_; (exact HS_.out); intro HS_))
      all_goals (first | (refine GE.skip (i := 9) (oi := ?_) ?_ ?_ ?_ ?_ ?_ ?_; rotate_left; (simp only [List.getElem?_toArray, List.getElem?_cons_succ, List.getElem?_cons_zero]; exact rfl); kernel_rfl; rfl; exact fun _ _ _ h => h; exact HS_.out; (try simp only [Act.put, List.setIfInBounds_toArray, List.set_cons_zero, List.set_cons_succ])) | (refine GE.univR (i := 9) (oi := ?_) (v := ?_) ?_ ?_ ?_ ?_ ?_ ?_ ?_; rotate_left; rotate_left; (simp only [List.getElem?_toArray, List.getElem?_cons_succ, List.getElem?_cons_zero]; exact rfl); kernel_rfl; rfl; exact fun _ _ _ h => h; exact HS_.out; (intro x; go_simp; rfl); (try simp only [Act.put, List.setIfInBounds_toArray, List.set_cons_zero, List.set_cons_succ])) | (refine GE.takeR (i := 9) (oi := ?_) (v := ?_) ?_ ?_ ?_ ?_ ?_ ?_ ?_; rotate_left; rotate_left; (simp only [List.getElem?_toArray, List.getElem?_cons_succ, List.getElem?_cons_zero]; exact rfl); kernel_rfl; rfl; exact fun _ _ _ h => h; exact HS_.out; (intro x hx; (try dsimp only at hx); go_split_ands; go_simp; rfl); (try simp only [Act.put, List.setIfInBounds_toArray, List.set_cons_zero, List.set_cons_succ])) | (refine GE.step (i := 9) (o := ?_) ?_ ?_ ?_; rotate_left; (simp only [List.getElem?_toArray, List.getElem?_cons_succ, List.getElem?_cons_zero]; exact rfl); kernel_rfl; go_wp2_with (fail); refine QE.keep ?_ ?_; (exact HS_.out); intro HS_))
      all_goals (first | (refine GE.skip (i := 7) (oi := ?_) ?_ ?_ ?_ ?_ ?_ ?_; rotate_left; (simp only [List.getElem?_toArray, List.getElem?_cons_succ, List.getElem?_cons_zero]; exact rfl); kernel_rfl; rfl; exact fun _ _ _ h => h; exact HS_.out; (try simp only [Act.put, List.setIfInBounds_toArray, List.set_cons_zero, List.set_cons_succ])) | (refine GE.univR (i := 7) (oi := ?_) (v := ?_) ?_ ?_ ?_ ?_ ?_ ?_ ?_; rotate_left; rotate_left; (simp only [List.getElem?_toArray, List.getElem?_cons_succ, List.getElem?_cons_zero]; exact rfl); kernel_rfl; rfl; exact fun _ _ _ h => h; exact HS_.out; (intro x; go_simp; rfl); (try simp only [Act.put, List.setIfInBounds_toArray, List.set_cons_zero, List.set_cons_succ])) | (refine GE.takeR (i := 7) (oi := ?_) (v := ?_) ?_ ?_ ?_ ?_ ?_ ?_ ?_; rotate_left; rotate_left; (simp only [List.getElem?_toArray, List.getElem?_cons_succ, List.getElem?_cons_zero]; exact rfl); kernel_rfl; rfl; exact fun _ _ _ h => h; exact HS_.out; (intro x hx; (try dsimp only at hx); go_split_ands; go_simp; rfl); (try simp only [Act.put, List.setIfInBounds_toArray, List.set_cons_zero, List.set_cons_succ])) | (refine GE.step (i := 7) (o := ?_) ?_ ?_ ?_; rotate_left; (simp only [List.getElem?_toArray, List.getElem?_cons_succ, List.getElem?_cons_zero]; exact rfl); kernel_rfl; go_wp2_with (fail); refine QE.keep ?_ ?_; (exact HS_.out); intro HS_))
      all_goals (first | (refine GE.skip (i := 10) (oi := ?_) ?_ ?_ ?_ ?_ ?_ ?_; rotate_left; (simp only [List.getElem?_toArray, List.getElem?_cons_succ, List.getElem?_cons_zero]; exact rfl); kernel_rfl; rfl; exact fun _ _ _ h => h; exact HS_.out; (try simp only [Act.put, List.setIfInBounds_toArray, List.set_cons_zero, List.set_cons_succ])) | (refine GE.univR (i := 10) (oi := ?_) (v := ?_) ?_ ?_ ?_ ?_ ?_ ?_ ?_; rotate_left; rotate_left; (simp only [List.getElem?_toArray, List.getElem?_cons_succ, List.getElem?_cons_zero]; exact rfl); kernel_rfl; rfl; exact fun _ _ _ h => h; exact HS_.out; (intro x; go_simp; rfl); (try simp only [Act.put, List.setIfInBounds_toArray, List.set_cons_zero, List.set_cons_succ])) | (refine GE.takeR (i := 10) (oi := ?_) (v := ?_) ?_ ?_ ?_ ?_ ?_ ?_ ?_; rotate_left; rotate_left; (simp only [List.getElem?_toArray, List.getElem?_cons_succ, List.getElem?_cons_zero]; exact rfl); kernel_rfl; rfl; exact fun _ _ _ h => h; exact HS_.out; (intro x hx; (try dsimp only at hx); go_split_ands; go_simp; rfl); (try simp only [Act.put, List.setIfInBounds_toArray, List.set_cons_zero, List.set_cons_succ])) | (refine GE.step (i := 10) (o := ?_) ?_ ?_ ?_; rotate_left; (simp only [List.getElem?_toArray, List.getElem?_cons_succ, List.getElem?_cons_zero]; exact rfl); kernel_rfl; go_wp2_with (fail); refine QE.keep ?_ ?_; (exact HS_.out); intro HS_))
      all_goals (first | (refine GE.skip (i := 11) (oi := ?_) ?_ ?_ ?_ ?_ ?_ ?_; rotate_left; (simp only [List.getElem?_toArray, List.getElem?_cons_succ, List.getElem?_cons_zero]; exact rfl); kernel_rfl; rfl; exact fun _ _ _ h => h; exact HS_.out; (try simp only [Act.put, List.setIfInBounds_toArray, List.set_cons_zero, List.set_cons_succ])) | (refine GE.univR (i := 11) (oi := ?_) (v := ?_) ?_ ?_ ?_ ?_ ?_ ?_ ?_; rotate_left; rotate_left; (simp only [List.getElem?_toArray, List.getElem?_cons_succ, List.getElem?_cons_zero]; exact rfl); kernel_rfl; rfl; exact fun _ _ _ h => h; exact HS_.out; (intro x; go_simp; rfl); (try simp only [Act.put, List.setIfInBounds_toArray, List.set_cons_zero, List.set_cons_succ])) | (refine GE.takeR (i := 11) (oi := ?_) (v := ?_) ?_ ?_ ?_ ?_ ?_ ?_ ?_; rotate_left; rotate_left; (simp only [List.getElem?_toArray, List.getElem?_cons_succ, List.getElem?_cons_zero]; exact rfl); kernel_rfl; rfl; exact fun _ _ _ h => h; exact HS_.out; (intro x hx; (try dsimp only at hx); go_split_ands; go_simp; rfl); (try simp only [Act.put, List.setIfInBounds_toArray, List.set_cons_zero, List.set_cons_succ])) | (refine GE.step (i := 11) (o := ?_) ?_ ?_ ?_; rotate_left; (simp only [List.getElem?_toArray, List.getElem?_cons_succ, List.getElem?_cons_zero]; exact rfl); kernel_rfl; go_wp2_with (fail); refine QE.keep ?_ ?_; (exact HS_.out); intro HS_))
      all_goals refine GE.done (by kernel_rfl) ?_
      by_cases ha : x.after ≤ t.height
      · have ha' : decide (x.after ≤ t.height) = true := by simpa using ha
        go_wp2
        go_ret
        exact ⟨ret_bool (by rw [HA2.out]; unfold lateB; rw [Bool.eq_iff_iff]; simp; omega), HKB.out.trans HKP.out.drew⟩
      · have ha' : decide (x.after ≤ t.height) = false := by simpa using ha
        go_wp2
        go_ret
        exact ⟨ret_bool (by rw [HA2.out]; unfold lateB; rw [Bool.eq_iff_iff]; simp; omega), HKB.out.trans HKP.out.drew⟩
end Go.Proofs.Ytcghjnegaiiieaa

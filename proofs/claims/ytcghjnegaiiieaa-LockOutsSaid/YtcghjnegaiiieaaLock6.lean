/- Outs that are alike (layer 7): the law's word. -/
import Derived.Deep.CutRange
import Derived.Deep.DeepCutAuto
import Derived.Test.YtcghjnegaiiieaaLock5
namespace Go.Proofs.Ytcghjnegaiiieaa
open Go.RowKit

def eqI (a b : List Int) : Bool := a == b
def sameWay (x y : Way) : Bool := !(!(x.hash == y.hash) || !(x.after == y.after) || !(x.wait == y.wait) || !(x.keys == y.keys))
def sameWays : List Way → List Way → Bool
  | [], [] => true
  | x :: xs, y :: ys => sameWay x y && sameWays xs ys
  | _, _ => false
def sameOut (a b : Out) : Bool := (a.amount == b.amount) && sameWays a.ways b.ways
theorem sameWays_length : ∀ {xs ys : List Way}, xs.length ≠ ys.length → sameWays xs ys = false
  | [], [], h => absurd rfl h
  | [], _ :: _, _ => rfl
  | _ :: _, [], _ => rfl
  | x :: xs, y :: ys, h => by
    unfold sameWays
    rw [sameWays_length (xs := xs) (ys := ys) (by simpa using h)]
    simp
theorem sameWays_drop (xs ys : List Way) (i : Nat) (hx : i < xs.length) (hy : i < ys.length) : sameWays (xs.drop i) (ys.drop i) = (sameWay xs[i] ys[i] && sameWays (xs.drop (i + 1)) (ys.drop (i + 1))) := by
  rw [List.drop_eq_getElem_cons hx, List.drop_eq_getElem_cons hy]
  rfl
theorem eq_drop (a b : List Int) (i : Nat) (ha : i < a.length) (hb : i < b.length) : (a.drop i == b.drop i) = ((a.getD i 0 == b.getD i 0) && (a.drop (i + 1) == b.drop (i + 1))) := by
  rw [drop_cons a i ha, drop_cons b i hb, List.cons_beq_cons]

theorem row_hash {w : World} {g : Nat} {t : TypeId} {fr : Nat × Nat} {B : Option Addr} {d : Nat} {x : Way} (h : w.heap[g]? = some (.cells (wayCells B d x).toArray t fr)) (hx : WayOk x) (j : Nat) (u : Value) (hj : (nums .u8 x.hash)[j]? = some u) :
    w.cell? ((⟨g, 1, none⟩ : Addr).add j) = some u := by
  have ea : (⟨g, 1, none⟩ : Addr).add j = ⟨g, 1 + j, none⟩ := by unfold Addr.add; split <;> simp_all
  rw [ea, blk_cell h]
  simpa using wayH (A := B) (c := d) hx j u hj
theorem row0 {w : World} {g : Nat} {t : TypeId} {fr : Nat × Nat} {B : Option Addr} {d : Nat} {x : Way} (h : w.heap[g]? = some (.cells (wayCells B d x).toArray t fr)) : w.cell? ⟨g, 0, none⟩ = some (.slice B x.keys.length d) := (blk_cell h 0).trans rfl
theorem row33 {w : World} {g : Nat} {t : TypeId} {fr : Nat × Nat} {B : Option Addr} {d : Nat} {x : Way} (h : w.heap[g]? = some (.cells (wayCells B d x).toArray t fr)) (hx : WayOk x) : w.cell? ⟨g, 33, none⟩ = some (.int .i64 x.after) := (blk_cell h 33).trans (by simpa using way33 (A := B) (c := d) hx)
theorem row34 {w : World} {g : Nat} {t : TypeId} {fr : Nat × Nat} {B : Option Addr} {d : Nat} {x : Way} (h : w.heap[g]? = some (.cells (wayCells B d x).toArray t fr)) (hx : WayOk x) : w.cell? ⟨g, 34, none⟩ = some (.int .i64 x.wait) := (blk_cell h 34).trans (by simpa using way34 (A := B) (c := d) hx)

set_option maxRecDepth 100000 in
set_option maxHeartbeats 16000000 in
theorem same_any (a b : Out) (A B : Option Addr) (c d : Nat) (F : Nat → Prop) (w : World) (ha : Ways w F A c a.ways) (hb : Ways w F B d b.ways) :
    Calls Try.prog 25 #[.agg #[.int .i64 a.amount, .slice A a.ways.length c], .agg #[.int .i64 b.amount, .slice B b.ways.length d]] w fun e w' => e = .returned (.bool (sameOut a b)) ∧ Kept Nob w w' := by
  have hK : Kept Nob w ((w.alloc (.cells #[.int .i64 a.amount, .slice A a.ways.length c] 38)).alloc (.cells #[.int .i64 b.amount, .slice B b.ways.length d] 38)) := Kept.alloc (Kept.alloc (Kept.refl _ _) _) _
  have HA := hidden (ha.keep hK (fun _ _ h => h))
  have HB := hidden (hb.keep hK (fun _ _ h => h))
  have HK := hidden hK
  have m1 := ha.le
  have m2 := ha.max
  have m3 := hb.le
  have m4 := hb.max
  unfold maxLen at m2 m4
  have hs : sameOut a b = ((a.amount == b.amount) && sameWays a.ways b.ways) := rfl
  rw [hs]
  have HSL := hidden (@sameWays_length a.ways b.ways)
  have hb0 : ((w.alloc (.cells #[.int .i64 a.amount, .slice A a.ways.length c] 38)).alloc (.cells #[.int .i64 b.amount, .slice B b.ways.length d] 38)).heap[w.heap.size]? = some (.cells #[.int .i64 a.amount, .slice A a.ways.length c] 38 (0, 0)) := blk_alloc (heap_alloc_new _ _) _
  have hb1 : ((w.alloc (.cells #[.int .i64 a.amount, .slice A a.ways.length c] 38)).alloc (.cells #[.int .i64 b.amount, .slice B b.ways.length d] 38)).heap[w.heap.size + 1]? = some (.cells #[.int .i64 b.amount, .slice B b.ways.length d] 38 (0, 0)) := blk_new_at (by simp)
  have HB0 := hidden hb0
  have HB1 := hidden hb1
  obtain ⟨v, hv⟩ : ∃ v, v = sameWays a.ways b.ways := ⟨_, rfl⟩
  have HV := hidden hv
  rw [← hv]
  clear hv ha hb hs hK hb0 hb1
  generalize a.amount = p at *
  generalize b.amount = q at *
  generalize a.ways = xs at *
  generalize b.ways = ys at *
  by_cases hpq : p = q
  · by_cases hl : xs.length = ys.length
    · have e1 : (p != q) = false := by simpa using hpq
      have e2 : ((p == q) && v) = v := by simp [hpq]
      have e3 : ((xs.length : Int) != (ys.length : Int)) = false := by simp [hl]
      have HL := hidden hl
      rw [e2]
      clear hl hpq e2
      go_enter Try.func25, Try.ntmps25
      go_wp2
      go_loopw [5] (fun i wr => ∃ k : Nat, k ≤ xs.length ∧ i = .int .i64 k ∧ sameWays (xs.drop k) (ys.drop k) = v ∧ Kept Nob ((w.alloc (.cells #[.int .i64 p, .slice A xs.length c] 38)).alloc (.cells #[.int .i64 q, .slice B ys.length d] 38)) wr) (fun i _ => xs.length - (intOf i).toNat)
      case atStart => exact ⟨0, Nat.zero_le _, rfl, HV.out.symm, Kept.refl _ _⟩
      case round =>
        obtain ⟨k, hk, rfl, hsv, hkp⟩ := hrel
        have HSV := hidden hsv
        have HKP := hidden hkp
        have b0 := (blk_cell (hkp.blk HB0.out (fun h => h)) 1).trans rfl
        have b1 := (blk_cell (hkp.blk HB1.out (fun h => h)) 1).trans rfl
        clear hsv hkp
        by_cases hlt : k < xs.length
        · have hlt2 : k < ys.length := by rw [← HL.out]; exact hlt
          obtain ⟨ax, BX, dX, rfl, _, cx, ix, okx⟩ := (HA.out.keep HKP.out (fun _ _ h => h)).at_ k hlt
          obtain ⟨ay, BY, dY, rfl, _, cy, iy, oky⟩ := (HB.out.keep HKP.out (fun _ _ h => h)).at_ k hlt2
          have OKX := hidden okx
          have OKY := hidden oky
          have CX := hidden cx
          have CY := hidden cy
          have IX := hidden ix
          have IY := hidden iy
          have RX := hidden (RWay.mk' ix okx)
          have RY := hidden (RWay.mk' iy oky)
          have HD := hidden (sameWays_drop xs ys k hlt hlt2)
          have HSK : Hid (∀ y, Kept Nob wr y → (y.cell? ⟨w.heap.size, 1, none⟩ = some (.slice (some ax) xs.length c) ∧ y.cell? ⟨w.heap.size + 1, 1, none⟩ = some (.slice (some ay) ys.length d)) ∧ (∀ j u, (wayCells BX dX xs[k])[j]? = some u → y.cell? ((ax.add (k * 35)).add j) = some u) ∧ (∀ j u, (wayCells BY dY ys[k])[j]? = some u → y.cell? ((ay.add (k * 35)).add j) = some u)) := hidden (fun y hy => ⟨⟨hy.at b0 (fun h => h), hy.at b1 (fun h => h)⟩, fun j u hj => hy.at (cx j u hj) (fun h => h), fun j u hj => hy.at (cy j u hj) (fun h => h)⟩)
          clear okx oky cx cy ix iy
          go_wp2_with fail
          go_cut [6, 7] (fun s6 s7 wx => ∃ g6 g7 : Nat, s6 = .pointer (some ⟨g6, 0, none⟩) ∧ s7 = .pointer (some ⟨g7, 0, none⟩) ∧ wx.heap[g6]? = some (.cells (wayCells BX dX xs[k]).toArray 26 (0, 0)) ∧ wx.heap[g7]? = some (.cells (wayCells BY dY ys[k]).toArray 26 (0, 0)) ∧ Kept Nob wr wx)
          case first =>
           refine region_E 14 (fun y => (y.cell? ⟨w.heap.size, 1, none⟩ = some (.slice (some ax) xs.length c) ∧ y.cell? ⟨w.heap.size + 1, 1, none⟩ = some (.slice (some ay) ys.length d)) ∧ (∀ j u, (wayCells BX dX xs[k])[j]? = some u → y.cell? ((ax.add (k * 35)).add j) = some u) ∧ (∀ j u, (wayCells BY dY ys[k])[j]? = some u → y.cell? ((ay.add (k * 35)).add j) = some u)) (by kernel_rfl) (by kernel_rfl) ?_ ?_
           · exact HSK.out _ (by repeat (first | exact Kept.refl _ _ | apply Kept.alloc | apply Kept.drewN | apply Kept.drew))
           intro HS_
           all_goals (first | (refine GE.skip (i := 0) (oi := ?_) ?_ ?_ ?_ ?_ ?_ ?_; rotate_left; (simp only [List.getElem?_toArray, List.getElem?_cons_zero]; exact rfl); kernel_rfl; rfl; exact fun _ _ _ h => h; exact HS_.out; (try simp only [Act.put, List.setIfInBounds_toArray, List.set_cons_zero, List.set_cons_succ])) | (refine GE.univR (i := 0) (oi := ?_) (v := ?_) ?_ ?_ ?_ ?_ ?_ ?_ ?_; rotate_left; rotate_left; (simp only [List.getElem?_toArray, List.getElem?_cons_zero]; exact rfl); kernel_rfl; rfl; exact fun _ _ _ h => h; exact HS_.out; (intro x; go_simp; rfl); (try simp only [Act.put, List.setIfInBounds_toArray, List.set_cons_zero, List.set_cons_succ])) | (refine GE.takeR (i := 0) (oi := ?_) (v := ?_) ?_ ?_ ?_ ?_ ?_ ?_ ?_; rotate_left; rotate_left; (simp only [List.getElem?_toArray, List.getElem?_cons_zero]; exact rfl); kernel_rfl; rfl; exact fun _ _ _ h => h; exact HS_.out; (intro x hx; (try dsimp only at hx); go_split_ands; go_simp; rfl); (try simp only [Act.put, List.setIfInBounds_toArray, List.set_cons_zero, List.set_cons_succ])) | (refine GE.step (i := 0) (o := ?_) ?_ ?_ ?_; rotate_left; (simp only [List.getElem?_toArray, List.getElem?_cons_zero]; exact rfl); kernel_rfl; go_wp2_with (first | (refine load_at aggWay (.tmp 33) rfl rfl _ rfl _ (way_len OKX.out) CX.out ?_) | (refine store_row aggWay (.tmp 6) (.tmp 34) rfl rfl _ rfl (wayCells BX dX xs[k]).toArray rfl (by simpa using way_len OKX.out) (by simpa using RWay.good.one RX.out) _ _ (by first | exact (show (World.drew _).heap[wr.heap.size]? = _ from blk_alloc (heap_alloc_new wr _) _) | exact (show (World.drew _).heap[wr.heap.size + 1]? = _ from blk_new_at (by simp))) rfl ?_; intro w5 hb5 hk5; have HB5 := hidden hb5; have HK5 := hidden hk5; have HKW := hidden (Kept.then (S := Nob) (a := wr) (by repeat (first | exact Kept.refl _ _ | apply Kept.alloc | apply Kept.drewN | apply Kept.drew)) hk5 (fun k hk hs => by omega)); clear hb5 hk5) | (refine store_row aggWay (.tmp 7) (.tmp 39) rfl rfl _ rfl (wayCells BY dY ys[k]).toArray rfl (by simpa using way_len OKY.out) (by simpa using RWay.good.one RY.out) _ _ (by first | exact HK5.out.blk (show (World.drew _).heap[wr.heap.size + 1]? = _ from blk_new_at (by simp)) (by simp) | exact HK5.out.blk (show (World.drew _).heap[wr.heap.size]? = _ from blk_alloc (heap_alloc_new wr _) _) (by simp)) rfl ?_; intro w6 hb6 hk6; have HB6 := hidden hb6; have HK6 := hidden hk6; clear hb6 hk6)); refine QE.keep (HSK.out _ (by repeat (first | exact Kept.refl _ _ | apply Kept.alloc | apply Kept.drewN | apply Kept.drew))) ?_; intro HS_))
           all_goals (first | (refine GE.skip (i := 1) (oi := ?_) ?_ ?_ ?_ ?_ ?_ ?_; rotate_left; (simp only [List.getElem?_toArray, List.getElem?_cons_succ, List.getElem?_cons_zero]; exact rfl); kernel_rfl; rfl; exact fun _ _ _ h => h; exact HS_.out; (try simp only [Act.put, List.setIfInBounds_toArray, List.set_cons_zero, List.set_cons_succ])) | (refine GE.takeR (i := 1) (oi := ?_) (v := .slice (some ax) xs.length c) ?_ ?_ ?_ ?_ ?_ ?_ ?_; rotate_left; (simp only [List.getElem?_toArray, List.getElem?_cons_succ, List.getElem?_cons_zero]; exact rfl); kernel_rfl; rfl; exact fun _ _ _ h => h; exact HS_.out; exact (fun y hy => by obtain ⟨⟨h1, h2⟩, h3, h4⟩ := hy; go_simp); (try simp only [Act.put, List.setIfInBounds_toArray, List.set_cons_zero, List.set_cons_succ])))
           all_goals (first | (refine GE.skip (i := 2) (oi := ?_) ?_ ?_ ?_ ?_ ?_ ?_; rotate_left; (simp only [List.getElem?_toArray, List.getElem?_cons_succ, List.getElem?_cons_zero]; exact rfl); kernel_rfl; rfl; exact fun _ _ _ h => h; exact HS_.out; (try simp only [Act.put, List.setIfInBounds_toArray, List.set_cons_zero, List.set_cons_succ])) | (refine GE.univR (i := 2) (oi := ?_) (v := ?_) ?_ ?_ ?_ ?_ ?_ ?_ ?_; rotate_left; rotate_left; (simp only [List.getElem?_toArray, List.getElem?_cons_succ, List.getElem?_cons_zero]; exact rfl); kernel_rfl; rfl; exact fun _ _ _ h => h; exact HS_.out; (intro x; go_simp; rfl); (try simp only [Act.put, List.setIfInBounds_toArray, List.set_cons_zero, List.set_cons_succ])) | (refine GE.takeR (i := 2) (oi := ?_) (v := ?_) ?_ ?_ ?_ ?_ ?_ ?_ ?_; rotate_left; rotate_left; (simp only [List.getElem?_toArray, List.getElem?_cons_succ, List.getElem?_cons_zero]; exact rfl); kernel_rfl; rfl; exact fun _ _ _ h => h; exact HS_.out; (intro x hx; (try dsimp only at hx); go_split_ands; go_simp; rfl); (try simp only [Act.put, List.setIfInBounds_toArray, List.set_cons_zero, List.set_cons_succ])) | (refine GE.step (i := 2) (o := ?_) ?_ ?_ ?_; rotate_left; (simp only [List.getElem?_toArray, List.getElem?_cons_succ, List.getElem?_cons_zero]; exact rfl); kernel_rfl; go_wp2_with (first | (refine load_at aggWay (.tmp 33) rfl rfl _ rfl _ (way_len OKX.out) CX.out ?_) | (refine store_row aggWay (.tmp 6) (.tmp 34) rfl rfl _ rfl (wayCells BX dX xs[k]).toArray rfl (by simpa using way_len OKX.out) (by simpa using RWay.good.one RX.out) _ _ (by first | exact (show (World.drew _).heap[wr.heap.size]? = _ from blk_alloc (heap_alloc_new wr _) _) | exact (show (World.drew _).heap[wr.heap.size + 1]? = _ from blk_new_at (by simp))) rfl ?_; intro w5 hb5 hk5; have HB5 := hidden hb5; have HK5 := hidden hk5; have HKW := hidden (Kept.then (S := Nob) (a := wr) (by repeat (first | exact Kept.refl _ _ | apply Kept.alloc | apply Kept.drewN | apply Kept.drew)) hk5 (fun k hk hs => by omega)); clear hb5 hk5) | (refine store_row aggWay (.tmp 7) (.tmp 39) rfl rfl _ rfl (wayCells BY dY ys[k]).toArray rfl (by simpa using way_len OKY.out) (by simpa using RWay.good.one RY.out) _ _ (by first | exact HK5.out.blk (show (World.drew _).heap[wr.heap.size + 1]? = _ from blk_new_at (by simp)) (by simp) | exact HK5.out.blk (show (World.drew _).heap[wr.heap.size]? = _ from blk_alloc (heap_alloc_new wr _) _) (by simp)) rfl ?_; intro w6 hb6 hk6; have HB6 := hidden hb6; have HK6 := hidden hk6; clear hb6 hk6)); refine QE.keep (HSK.out _ (by repeat (first | exact Kept.refl _ _ | apply Kept.alloc | apply Kept.drewN | apply Kept.drew))) ?_; intro HS_))
           all_goals (first | (refine GE.skip (i := 3) (oi := ?_) ?_ ?_ ?_ ?_ ?_ ?_; rotate_left; (simp only [List.getElem?_toArray, List.getElem?_cons_succ, List.getElem?_cons_zero]; exact rfl); kernel_rfl; rfl; exact fun _ _ _ h => h; exact HS_.out; (try simp only [Act.put, List.setIfInBounds_toArray, List.set_cons_zero, List.set_cons_succ])) | (refine GE.univR (i := 3) (oi := ?_) (v := ?_) ?_ ?_ ?_ ?_ ?_ ?_ ?_; rotate_left; rotate_left; (simp only [List.getElem?_toArray, List.getElem?_cons_succ, List.getElem?_cons_zero]; exact rfl); kernel_rfl; rfl; exact fun _ _ _ h => h; exact HS_.out; (intro x; go_simp; rfl); (try simp only [Act.put, List.setIfInBounds_toArray, List.set_cons_zero, List.set_cons_succ])) | (refine GE.takeR (i := 3) (oi := ?_) (v := ?_) ?_ ?_ ?_ ?_ ?_ ?_ ?_; rotate_left; rotate_left; (simp only [List.getElem?_toArray, List.getElem?_cons_succ, List.getElem?_cons_zero]; exact rfl); kernel_rfl; rfl; exact fun _ _ _ h => h; exact HS_.out; (intro x hx; (try dsimp only at hx); go_split_ands; go_simp; rfl); (try simp only [Act.put, List.setIfInBounds_toArray, List.set_cons_zero, List.set_cons_succ])) | (refine GE.step (i := 3) (o := ?_) ?_ ?_ ?_; rotate_left; (simp only [List.getElem?_toArray, List.getElem?_cons_succ, List.getElem?_cons_zero]; exact rfl); kernel_rfl; go_wp2_with (first | (refine load_at aggWay (.tmp 33) rfl rfl _ rfl _ (way_len OKX.out) CX.out ?_) | (refine store_row aggWay (.tmp 6) (.tmp 34) rfl rfl _ rfl (wayCells BX dX xs[k]).toArray rfl (by simpa using way_len OKX.out) (by simpa using RWay.good.one RX.out) _ _ (by first | exact (show (World.drew _).heap[wr.heap.size]? = _ from blk_alloc (heap_alloc_new wr _) _) | exact (show (World.drew _).heap[wr.heap.size + 1]? = _ from blk_new_at (by simp))) rfl ?_; intro w5 hb5 hk5; have HB5 := hidden hb5; have HK5 := hidden hk5; have HKW := hidden (Kept.then (S := Nob) (a := wr) (by repeat (first | exact Kept.refl _ _ | apply Kept.alloc | apply Kept.drewN | apply Kept.drew)) hk5 (fun k hk hs => by omega)); clear hb5 hk5) | (refine store_row aggWay (.tmp 7) (.tmp 39) rfl rfl _ rfl (wayCells BY dY ys[k]).toArray rfl (by simpa using way_len OKY.out) (by simpa using RWay.good.one RY.out) _ _ (by first | exact HK5.out.blk (show (World.drew _).heap[wr.heap.size + 1]? = _ from blk_new_at (by simp)) (by simp) | exact HK5.out.blk (show (World.drew _).heap[wr.heap.size]? = _ from blk_alloc (heap_alloc_new wr _) _) (by simp)) rfl ?_; intro w6 hb6 hk6; have HB6 := hidden hb6; have HK6 := hidden hk6; clear hb6 hk6)); refine QE.keep (HSK.out _ (by repeat (first | exact Kept.refl _ _ | apply Kept.alloc | apply Kept.drewN | apply Kept.drew))) ?_; intro HS_))
           all_goals (first | (refine GE.skip (i := 4) (oi := ?_) ?_ ?_ ?_ ?_ ?_ ?_; rotate_left; (simp only [List.getElem?_toArray, List.getElem?_cons_succ, List.getElem?_cons_zero]; exact rfl); kernel_rfl; rfl; exact fun _ _ _ h => h; exact HS_.out; (try simp only [Act.put, List.setIfInBounds_toArray, List.set_cons_zero, List.set_cons_succ])) | (refine GE.takeR (i := 4) (oi := ?_) (v := .agg (wayCells BX dX xs[k]).toArray) ?_ ?_ ?_ ?_ ?_ ?_ ?_; rotate_left; (simp only [List.getElem?_toArray, List.getElem?_cons_succ, List.getElem?_cons_zero]; exact rfl); kernel_rfl; rfl; exact fun _ _ _ h => h; exact HS_.out; exact (fun y hy => exec_load aggWay (x := .tmp 33) (ad := ax.add (k * 35)) (es := wayCells BX dX xs[k]) rfl rfl (way_len OKX.out) hy.2.1); (try simp only [Act.put, List.setIfInBounds_toArray, List.set_cons_zero, List.set_cons_succ])))
           all_goals (first | (refine GE.skip (i := 5) (oi := ?_) ?_ ?_ ?_ ?_ ?_ ?_; rotate_left; (simp only [List.getElem?_toArray, List.getElem?_cons_succ, List.getElem?_cons_zero]; exact rfl); kernel_rfl; rfl; exact fun _ _ _ h => h; exact HS_.out; (try simp only [Act.put, List.setIfInBounds_toArray, List.set_cons_zero, List.set_cons_succ])) | (refine GE.univR (i := 5) (oi := ?_) (v := ?_) ?_ ?_ ?_ ?_ ?_ ?_ ?_; rotate_left; rotate_left; (simp only [List.getElem?_toArray, List.getElem?_cons_succ, List.getElem?_cons_zero]; exact rfl); kernel_rfl; rfl; exact fun _ _ _ h => h; exact HS_.out; (intro x; go_simp; rfl); (try simp only [Act.put, List.setIfInBounds_toArray, List.set_cons_zero, List.set_cons_succ])) | (refine GE.takeR (i := 5) (oi := ?_) (v := ?_) ?_ ?_ ?_ ?_ ?_ ?_ ?_; rotate_left; rotate_left; (simp only [List.getElem?_toArray, List.getElem?_cons_succ, List.getElem?_cons_zero]; exact rfl); kernel_rfl; rfl; exact fun _ _ _ h => h; exact HS_.out; (intro x hx; (try dsimp only at hx); go_split_ands; go_simp; rfl); (try simp only [Act.put, List.setIfInBounds_toArray, List.set_cons_zero, List.set_cons_succ])) | (refine GE.step (i := 5) (o := ?_) ?_ ?_ ?_; rotate_left; (simp only [List.getElem?_toArray, List.getElem?_cons_succ, List.getElem?_cons_zero]; exact rfl); kernel_rfl; go_wp2_with (first | (refine load_at aggWay (.tmp 33) rfl rfl _ rfl _ (way_len OKX.out) CX.out ?_) | (refine store_row aggWay (.tmp 6) (.tmp 34) rfl rfl _ rfl (wayCells BX dX xs[k]).toArray rfl (by simpa using way_len OKX.out) (by simpa using RWay.good.one RX.out) _ _ (by first | exact (show (World.drew _).heap[wr.heap.size]? = _ from blk_alloc (heap_alloc_new wr _) _) | exact (show (World.drew _).heap[wr.heap.size + 1]? = _ from blk_new_at (by simp))) rfl ?_; intro w5 hb5 hk5; have HB5 := hidden hb5; have HK5 := hidden hk5; have HKW := hidden (Kept.then (S := Nob) (a := wr) (by repeat (first | exact Kept.refl _ _ | apply Kept.alloc | apply Kept.drewN | apply Kept.drew)) hk5 (fun k hk hs => by omega)); clear hb5 hk5) | (refine store_row aggWay (.tmp 7) (.tmp 39) rfl rfl _ rfl (wayCells BY dY ys[k]).toArray rfl (by simpa using way_len OKY.out) (by simpa using RWay.good.one RY.out) _ _ (by first | exact HK5.out.blk (show (World.drew _).heap[wr.heap.size + 1]? = _ from blk_new_at (by simp)) (by simp) | exact HK5.out.blk (show (World.drew _).heap[wr.heap.size]? = _ from blk_alloc (heap_alloc_new wr _) _) (by simp)) rfl ?_; intro w6 hb6 hk6; have HB6 := hidden hb6; have HK6 := hidden hk6; clear hb6 hk6)); refine QE.keep (HSK.out _ (by repeat (first | exact Kept.refl _ _ | apply Kept.alloc | apply Kept.drewN | apply Kept.drew))) ?_; intro HS_))
           all_goals (first | (refine GE.skip (i := 6) (oi := ?_) ?_ ?_ ?_ ?_ ?_ ?_; rotate_left; (simp only [List.getElem?_toArray, List.getElem?_cons_succ, List.getElem?_cons_zero]; exact rfl); kernel_rfl; rfl; exact fun _ _ _ h => h; exact HS_.out; (try simp only [Act.put, List.setIfInBounds_toArray, List.set_cons_zero, List.set_cons_succ])) | (refine GE.takeR (i := 6) (oi := ?_) (v := .slice (some ay) ys.length d) ?_ ?_ ?_ ?_ ?_ ?_ ?_; rotate_left; (simp only [List.getElem?_toArray, List.getElem?_cons_succ, List.getElem?_cons_zero]; exact rfl); kernel_rfl; rfl; exact fun _ _ _ h => h; exact HS_.out; exact (fun y hy => by obtain ⟨⟨h1, h2⟩, h3, h4⟩ := hy; go_simp); (try simp only [Act.put, List.setIfInBounds_toArray, List.set_cons_zero, List.set_cons_succ])))
           all_goals (first | (refine GE.skip (i := 7) (oi := ?_) ?_ ?_ ?_ ?_ ?_ ?_; rotate_left; (simp only [List.getElem?_toArray, List.getElem?_cons_succ, List.getElem?_cons_zero]; exact rfl); kernel_rfl; rfl; exact fun _ _ _ h => h; exact HS_.out; (try simp only [Act.put, List.setIfInBounds_toArray, List.set_cons_zero, List.set_cons_succ])) | (refine GE.univR (i := 7) (oi := ?_) (v := ?_) ?_ ?_ ?_ ?_ ?_ ?_ ?_; rotate_left; rotate_left; (simp only [List.getElem?_toArray, List.getElem?_cons_succ, List.getElem?_cons_zero]; exact rfl); kernel_rfl; rfl; exact fun _ _ _ h => h; exact HS_.out; (intro x; go_simp; rfl); (try simp only [Act.put, List.setIfInBounds_toArray, List.set_cons_zero, List.set_cons_succ])) | (refine GE.takeR (i := 7) (oi := ?_) (v := ?_) ?_ ?_ ?_ ?_ ?_ ?_ ?_; rotate_left; rotate_left; (simp only [List.getElem?_toArray, List.getElem?_cons_succ, List.getElem?_cons_zero]; exact rfl); kernel_rfl; rfl; exact fun _ _ _ h => h; exact HS_.out; (intro x hx; (try dsimp only at hx); go_split_ands; go_simp; rfl); (try simp only [Act.put, List.setIfInBounds_toArray, List.set_cons_zero, List.set_cons_succ])) | (refine GE.step (i := 7) (o := ?_) ?_ ?_ ?_; rotate_left; (simp only [List.getElem?_toArray, List.getElem?_cons_succ, List.getElem?_cons_zero]; exact rfl); kernel_rfl; go_wp2_with (first | (refine load_at aggWay (.tmp 33) rfl rfl _ rfl _ (way_len OKX.out) CX.out ?_) | (refine store_row aggWay (.tmp 6) (.tmp 34) rfl rfl _ rfl (wayCells BX dX xs[k]).toArray rfl (by simpa using way_len OKX.out) (by simpa using RWay.good.one RX.out) _ _ (by first | exact (show (World.drew _).heap[wr.heap.size]? = _ from blk_alloc (heap_alloc_new wr _) _) | exact (show (World.drew _).heap[wr.heap.size + 1]? = _ from blk_new_at (by simp))) rfl ?_; intro w5 hb5 hk5; have HB5 := hidden hb5; have HK5 := hidden hk5; have HKW := hidden (Kept.then (S := Nob) (a := wr) (by repeat (first | exact Kept.refl _ _ | apply Kept.alloc | apply Kept.drewN | apply Kept.drew)) hk5 (fun k hk hs => by omega)); clear hb5 hk5) | (refine store_row aggWay (.tmp 7) (.tmp 39) rfl rfl _ rfl (wayCells BY dY ys[k]).toArray rfl (by simpa using way_len OKY.out) (by simpa using RWay.good.one RY.out) _ _ (by first | exact HK5.out.blk (show (World.drew _).heap[wr.heap.size + 1]? = _ from blk_new_at (by simp)) (by simp) | exact HK5.out.blk (show (World.drew _).heap[wr.heap.size]? = _ from blk_alloc (heap_alloc_new wr _) _) (by simp)) rfl ?_; intro w6 hb6 hk6; have HB6 := hidden hb6; have HK6 := hidden hk6; clear hb6 hk6)); refine QE.keep (HSK.out _ (by repeat (first | exact Kept.refl _ _ | apply Kept.alloc | apply Kept.drewN | apply Kept.drew))) ?_; intro HS_))
           all_goals (first | (refine GE.skip (i := 8) (oi := ?_) ?_ ?_ ?_ ?_ ?_ ?_; rotate_left; (simp only [List.getElem?_toArray, List.getElem?_cons_succ, List.getElem?_cons_zero]; exact rfl); kernel_rfl; rfl; exact fun _ _ _ h => h; exact HS_.out; (try simp only [Act.put, List.setIfInBounds_toArray, List.set_cons_zero, List.set_cons_succ])) | (refine GE.univR (i := 8) (oi := ?_) (v := ?_) ?_ ?_ ?_ ?_ ?_ ?_ ?_; rotate_left; rotate_left; (simp only [List.getElem?_toArray, List.getElem?_cons_succ, List.getElem?_cons_zero]; exact rfl); kernel_rfl; rfl; exact fun _ _ _ h => h; exact HS_.out; (intro x; go_simp; rfl); (try simp only [Act.put, List.setIfInBounds_toArray, List.set_cons_zero, List.set_cons_succ])) | (refine GE.takeR (i := 8) (oi := ?_) (v := ?_) ?_ ?_ ?_ ?_ ?_ ?_ ?_; rotate_left; rotate_left; (simp only [List.getElem?_toArray, List.getElem?_cons_succ, List.getElem?_cons_zero]; exact rfl); kernel_rfl; rfl; exact fun _ _ _ h => h; exact HS_.out; (intro x hx; (try dsimp only at hx); go_split_ands; go_simp; rfl); (try simp only [Act.put, List.setIfInBounds_toArray, List.set_cons_zero, List.set_cons_succ])) | (refine GE.step (i := 8) (o := ?_) ?_ ?_ ?_; rotate_left; (simp only [List.getElem?_toArray, List.getElem?_cons_succ, List.getElem?_cons_zero]; exact rfl); kernel_rfl; go_wp2_with (first | (refine load_at aggWay (.tmp 33) rfl rfl _ rfl _ (way_len OKX.out) CX.out ?_) | (refine store_row aggWay (.tmp 6) (.tmp 34) rfl rfl _ rfl (wayCells BX dX xs[k]).toArray rfl (by simpa using way_len OKX.out) (by simpa using RWay.good.one RX.out) _ _ (by first | exact (show (World.drew _).heap[wr.heap.size]? = _ from blk_alloc (heap_alloc_new wr _) _) | exact (show (World.drew _).heap[wr.heap.size + 1]? = _ from blk_new_at (by simp))) rfl ?_; intro w5 hb5 hk5; have HB5 := hidden hb5; have HK5 := hidden hk5; have HKW := hidden (Kept.then (S := Nob) (a := wr) (by repeat (first | exact Kept.refl _ _ | apply Kept.alloc | apply Kept.drewN | apply Kept.drew)) hk5 (fun k hk hs => by omega)); clear hb5 hk5) | (refine store_row aggWay (.tmp 7) (.tmp 39) rfl rfl _ rfl (wayCells BY dY ys[k]).toArray rfl (by simpa using way_len OKY.out) (by simpa using RWay.good.one RY.out) _ _ (by first | exact HK5.out.blk (show (World.drew _).heap[wr.heap.size + 1]? = _ from blk_new_at (by simp)) (by simp) | exact HK5.out.blk (show (World.drew _).heap[wr.heap.size]? = _ from blk_alloc (heap_alloc_new wr _) _) (by simp)) rfl ?_; intro w6 hb6 hk6; have HB6 := hidden hb6; have HK6 := hidden hk6; clear hb6 hk6)); refine QE.keep (HSK.out _ (by repeat (first | exact Kept.refl _ _ | apply Kept.alloc | apply Kept.drewN | apply Kept.drew))) ?_; intro HS_))
           all_goals (first | (refine GE.skip (i := 9) (oi := ?_) ?_ ?_ ?_ ?_ ?_ ?_; rotate_left; (simp only [List.getElem?_toArray, List.getElem?_cons_succ, List.getElem?_cons_zero]; exact rfl); kernel_rfl; rfl; exact fun _ _ _ h => h; exact HS_.out; (try simp only [Act.put, List.setIfInBounds_toArray, List.set_cons_zero, List.set_cons_succ])) | (refine GE.takeR (i := 9) (oi := ?_) (v := .agg (wayCells BY dY ys[k]).toArray) ?_ ?_ ?_ ?_ ?_ ?_ ?_; rotate_left; (simp only [List.getElem?_toArray, List.getElem?_cons_succ, List.getElem?_cons_zero]; exact rfl); kernel_rfl; rfl; exact fun _ _ _ h => h; exact HS_.out; exact (fun y hy => exec_load aggWay (x := .tmp 38) (ad := ay.add (k * 35)) (es := wayCells BY dY ys[k]) rfl rfl (way_len OKY.out) hy.2.2); (try simp only [Act.put, List.setIfInBounds_toArray, List.set_cons_zero, List.set_cons_succ])))
           all_goals (refine GE.fork (i := 10) (j := 11) (oi := ?_) (oj := ?_) ?_ ?_ ?_ ?_ ?_; rotate_left; rotate_left; (simp only [List.getElem?_toArray, List.getElem?_cons_succ, List.getElem?_cons_zero]; exact rfl); (simp only [List.getElem?_toArray, List.getElem?_cons_succ, List.getElem?_cons_zero]; exact rfl); kernel_rfl; all_goals (go_wp2_with (first | (refine load_at aggWay (.tmp 33) rfl rfl _ rfl _ (way_len OKX.out) CX.out ?_) | (refine store_row aggWay (.tmp 6) (.tmp 34) rfl rfl _ rfl (wayCells BX dX xs[k]).toArray rfl (by simpa using way_len OKX.out) (by simpa using RWay.good.one RX.out) _ _ (by first | exact (show (World.drew _).heap[wr.heap.size]? = _ from blk_alloc (heap_alloc_new wr _) _) | exact (show (World.drew _).heap[wr.heap.size + 1]? = _ from blk_new_at (by simp))) rfl ?_; intro w5 hb5 hk5; have HB5 := hidden hb5; have HK5 := hidden hk5; have HKW := hidden (Kept.then (S := Nob) (a := wr) (by repeat (first | exact Kept.refl _ _ | apply Kept.alloc | apply Kept.drewN | apply Kept.drew)) hk5 (fun k hk hs => by omega)); clear hb5 hk5) | (refine store_row aggWay (.tmp 7) (.tmp 39) rfl rfl _ rfl (wayCells BY dY ys[k]).toArray rfl (by simpa using way_len OKY.out) (by simpa using RWay.good.one RY.out) _ _ (by first | exact HK5.out.blk (show (World.drew _).heap[wr.heap.size + 1]? = _ from blk_new_at (by simp)) (by simp) | exact HK5.out.blk (show (World.drew _).heap[wr.heap.size]? = _ from blk_alloc (heap_alloc_new wr _) _) (by simp)) rfl ?_; intro w6 hb6 hk6; have HB6 := hidden hb6; have HK6 := hidden hk6; clear hb6 hk6)); (first | (refine QE.keep (HSK.out _ (by repeat (first | exact Kept.refl _ _ | apply Kept.alloc | apply Kept.drewN | apply Kept.drew))) ?_; intro HS_)); (try simp only [Act.put, List.setIfInBounds_toArray, List.set_cons_zero, List.set_cons_succ])))
           all_goals (first | (first | (refine GE.skip (i := 10) (oi := ?_) ?_ ?_ ?_ ?_ ?_ ?_; rotate_left; (simp only [List.getElem?_toArray, List.getElem?_cons_succ, List.getElem?_cons_zero]; exact rfl); (decide +kernel); rfl; exact fun _ _ _ h => h; exact HS_.out; (try simp only [Act.put, List.setIfInBounds_toArray, List.set_cons_zero, List.set_cons_succ])) | (refine GE.univR (i := 10) (oi := ?_) (v := ?_) ?_ ?_ ?_ ?_ ?_ ?_ ?_; rotate_left; rotate_left; (simp only [List.getElem?_toArray, List.getElem?_cons_succ, List.getElem?_cons_zero]; exact rfl); (decide +kernel); rfl; exact fun _ _ _ h => h; exact HS_.out; (intro x; go_simp; rfl); (try simp only [Act.put, List.setIfInBounds_toArray, List.set_cons_zero, List.set_cons_succ])) | (refine GE.takeR (i := 10) (oi := ?_) (v := ?_) ?_ ?_ ?_ ?_ ?_ ?_ ?_; rotate_left; rotate_left; (simp only [List.getElem?_toArray, List.getElem?_cons_succ, List.getElem?_cons_zero]; exact rfl); (decide +kernel); rfl; exact fun _ _ _ h => h; exact HS_.out; (intro x hx; (try dsimp only at hx); go_split_ands; go_simp; rfl); (try simp only [Act.put, List.setIfInBounds_toArray, List.set_cons_zero, List.set_cons_succ])) | (refine GE.step (i := 10) (o := ?_) ?_ ?_ ?_; rotate_left; (simp only [List.getElem?_toArray, List.getElem?_cons_succ, List.getElem?_cons_zero]; exact rfl); (decide +kernel); go_wp2_with (first | (refine load_at aggWay (.tmp 33) rfl rfl _ rfl _ (way_len OKX.out) CX.out ?_) | (refine store_row aggWay (.tmp 6) (.tmp 34) rfl rfl _ rfl (wayCells BX dX xs[k]).toArray rfl (by simpa using way_len OKX.out) (by simpa using RWay.good.one RX.out) _ _ (by first | exact (show (World.drew _).heap[wr.heap.size]? = _ from blk_alloc (heap_alloc_new wr _) _) | exact (show (World.drew _).heap[wr.heap.size + 1]? = _ from blk_new_at (by simp))) rfl ?_; intro w5 hb5 hk5; have HB5 := hidden hb5; have HK5 := hidden hk5; have HKW := hidden (Kept.then (S := Nob) (a := wr) (by repeat (first | exact Kept.refl _ _ | apply Kept.alloc | apply Kept.drewN | apply Kept.drew)) hk5 (fun k hk hs => by omega)); clear hb5 hk5) | (refine store_row aggWay (.tmp 7) (.tmp 39) rfl rfl _ rfl (wayCells BY dY ys[k]).toArray rfl (by simpa using way_len OKY.out) (by simpa using RWay.good.one RY.out) _ _ (by first | exact HK5.out.blk (show (World.drew _).heap[wr.heap.size + 1]? = _ from blk_new_at (by simp)) (by simp) | exact HK5.out.blk (show (World.drew _).heap[wr.heap.size]? = _ from blk_alloc (heap_alloc_new wr _) _) (by simp)) rfl ?_; intro w6 hb6 hk6; have HB6 := hidden hb6; have HK6 := hidden hk6; clear hb6 hk6)); refine QE.keep (HSK.out _ (by repeat (first | exact Kept.refl _ _ | apply Kept.alloc | apply Kept.drewN | apply Kept.drew))) ?_; intro HS_)) | (first | (refine GE.skip (i := 11) (oi := ?_) ?_ ?_ ?_ ?_ ?_ ?_; rotate_left; (simp only [List.getElem?_toArray, List.getElem?_cons_succ, List.getElem?_cons_zero]; exact rfl); (decide +kernel); rfl; exact fun _ _ _ h => h; exact HS_.out; (try simp only [Act.put, List.setIfInBounds_toArray, List.set_cons_zero, List.set_cons_succ])) | (refine GE.univR (i := 11) (oi := ?_) (v := ?_) ?_ ?_ ?_ ?_ ?_ ?_ ?_; rotate_left; rotate_left; (simp only [List.getElem?_toArray, List.getElem?_cons_succ, List.getElem?_cons_zero]; exact rfl); (decide +kernel); rfl; exact fun _ _ _ h => h; exact HS_.out; (intro x; go_simp; rfl); (try simp only [Act.put, List.setIfInBounds_toArray, List.set_cons_zero, List.set_cons_succ])) | (refine GE.takeR (i := 11) (oi := ?_) (v := ?_) ?_ ?_ ?_ ?_ ?_ ?_ ?_; rotate_left; rotate_left; (simp only [List.getElem?_toArray, List.getElem?_cons_succ, List.getElem?_cons_zero]; exact rfl); (decide +kernel); rfl; exact fun _ _ _ h => h; exact HS_.out; (intro x hx; (try dsimp only at hx); go_split_ands; go_simp; rfl); (try simp only [Act.put, List.setIfInBounds_toArray, List.set_cons_zero, List.set_cons_succ])) | (refine GE.step (i := 11) (o := ?_) ?_ ?_ ?_; rotate_left; (simp only [List.getElem?_toArray, List.getElem?_cons_succ, List.getElem?_cons_zero]; exact rfl); (decide +kernel); go_wp2_with (first | (refine load_at aggWay (.tmp 33) rfl rfl _ rfl _ (way_len OKX.out) CX.out ?_) | (refine store_row aggWay (.tmp 6) (.tmp 34) rfl rfl _ rfl (wayCells BX dX xs[k]).toArray rfl (by simpa using way_len OKX.out) (by simpa using RWay.good.one RX.out) _ _ (by first | exact (show (World.drew _).heap[wr.heap.size]? = _ from blk_alloc (heap_alloc_new wr _) _) | exact (show (World.drew _).heap[wr.heap.size + 1]? = _ from blk_new_at (by simp))) rfl ?_; intro w5 hb5 hk5; have HB5 := hidden hb5; have HK5 := hidden hk5; have HKW := hidden (Kept.then (S := Nob) (a := wr) (by repeat (first | exact Kept.refl _ _ | apply Kept.alloc | apply Kept.drewN | apply Kept.drew)) hk5 (fun k hk hs => by omega)); clear hb5 hk5) | (refine store_row aggWay (.tmp 7) (.tmp 39) rfl rfl _ rfl (wayCells BY dY ys[k]).toArray rfl (by simpa using way_len OKY.out) (by simpa using RWay.good.one RY.out) _ _ (by first | exact HK5.out.blk (show (World.drew _).heap[wr.heap.size + 1]? = _ from blk_new_at (by simp)) (by simp) | exact HK5.out.blk (show (World.drew _).heap[wr.heap.size]? = _ from blk_alloc (heap_alloc_new wr _) _) (by simp)) rfl ?_; intro w6 hb6 hk6; have HB6 := hidden hb6; have HK6 := hidden hk6; clear hb6 hk6)); refine QE.keep (HSK.out _ (by repeat (first | exact Kept.refl _ _ | apply Kept.alloc | apply Kept.drewN | apply Kept.drew))) ?_; intro HS_)))
           all_goals (first | (refine GE.skip (i := 12) (oi := ?_) ?_ ?_ ?_ ?_ ?_ ?_; rotate_left; (simp only [List.getElem?_toArray, List.getElem?_cons_succ, List.getElem?_cons_zero]; exact rfl); kernel_rfl; rfl; exact fun _ _ _ h => h; exact HS_.out; (try simp only [Act.put, List.setIfInBounds_toArray, List.set_cons_zero, List.set_cons_succ])) | (refine GE.univR (i := 12) (oi := ?_) (v := ?_) ?_ ?_ ?_ ?_ ?_ ?_ ?_; rotate_left; rotate_left; (simp only [List.getElem?_toArray, List.getElem?_cons_succ, List.getElem?_cons_zero]; exact rfl); kernel_rfl; rfl; exact fun _ _ _ h => h; exact HS_.out; (intro x; go_simp; rfl); (try simp only [Act.put, List.setIfInBounds_toArray, List.set_cons_zero, List.set_cons_succ])) | (refine GE.takeR (i := 12) (oi := ?_) (v := ?_) ?_ ?_ ?_ ?_ ?_ ?_ ?_; rotate_left; rotate_left; (simp only [List.getElem?_toArray, List.getElem?_cons_succ, List.getElem?_cons_zero]; exact rfl); kernel_rfl; rfl; exact fun _ _ _ h => h; exact HS_.out; (intro x hx; (try dsimp only at hx); go_split_ands; go_simp; rfl); (try simp only [Act.put, List.setIfInBounds_toArray, List.set_cons_zero, List.set_cons_succ])) | (refine GE.step (i := 12) (o := ?_) ?_ ?_ ?_; rotate_left; (simp only [List.getElem?_toArray, List.getElem?_cons_succ, List.getElem?_cons_zero]; exact rfl); kernel_rfl; go_wp2_with (first | (refine load_at aggWay (.tmp 33) rfl rfl _ rfl _ (way_len OKX.out) CX.out ?_) | (refine store_row aggWay (.tmp 6) (.tmp 34) rfl rfl _ rfl (wayCells BX dX xs[k]).toArray rfl (by simpa using way_len OKX.out) (by simpa using RWay.good.one RX.out) _ _ (by first | exact (show (World.drew _).heap[wr.heap.size]? = _ from blk_alloc (heap_alloc_new wr _) _) | exact (show (World.drew _).heap[wr.heap.size + 1]? = _ from blk_new_at (by simp))) rfl ?_; intro w5 hb5 hk5; have HB5 := hidden hb5; have HK5 := hidden hk5; have HKW := hidden (Kept.then (S := Nob) (a := wr) (by repeat (first | exact Kept.refl _ _ | apply Kept.alloc | apply Kept.drewN | apply Kept.drew)) hk5 (fun k hk hs => by omega)); clear hb5 hk5) | (refine store_row aggWay (.tmp 7) (.tmp 39) rfl rfl _ rfl (wayCells BY dY ys[k]).toArray rfl (by simpa using way_len OKY.out) (by simpa using RWay.good.one RY.out) _ _ (by first | exact HK5.out.blk (show (World.drew _).heap[wr.heap.size + 1]? = _ from blk_new_at (by simp)) (by simp) | exact HK5.out.blk (show (World.drew _).heap[wr.heap.size]? = _ from blk_alloc (heap_alloc_new wr _) _) (by simp)) rfl ?_; intro w6 hb6 hk6; have HB6 := hidden hb6; have HK6 := hidden hk6; clear hb6 hk6)); refine QE.keep (HSK.out _ HKW.out) ?_; intro HS_))
           all_goals (first | (refine GE.skip (i := 13) (oi := ?_) ?_ ?_ ?_ ?_ ?_ ?_; rotate_left; (simp only [List.getElem?_toArray, List.getElem?_cons_succ, List.getElem?_cons_zero]; exact rfl); kernel_rfl; rfl; exact fun _ _ _ h => h; exact HS_.out; (try simp only [Act.put, List.setIfInBounds_toArray, List.set_cons_zero, List.set_cons_succ])) | (refine GE.univR (i := 13) (oi := ?_) (v := ?_) ?_ ?_ ?_ ?_ ?_ ?_ ?_; rotate_left; rotate_left; (simp only [List.getElem?_toArray, List.getElem?_cons_succ, List.getElem?_cons_zero]; exact rfl); kernel_rfl; rfl; exact fun _ _ _ h => h; exact HS_.out; (intro x; go_simp; rfl); (try simp only [Act.put, List.setIfInBounds_toArray, List.set_cons_zero, List.set_cons_succ])) | (refine GE.takeR (i := 13) (oi := ?_) (v := ?_) ?_ ?_ ?_ ?_ ?_ ?_ ?_; rotate_left; rotate_left; (simp only [List.getElem?_toArray, List.getElem?_cons_succ, List.getElem?_cons_zero]; exact rfl); kernel_rfl; rfl; exact fun _ _ _ h => h; exact HS_.out; (intro x hx; (try dsimp only at hx); go_split_ands; go_simp; rfl); (try simp only [Act.put, List.setIfInBounds_toArray, List.set_cons_zero, List.set_cons_succ])) | (refine GE.step (i := 13) (o := ?_) ?_ ?_ ?_; rotate_left; (simp only [List.getElem?_toArray, List.getElem?_cons_succ, List.getElem?_cons_zero]; exact rfl); kernel_rfl; go_wp2_with (first | (refine load_at aggWay (.tmp 33) rfl rfl _ rfl _ (way_len OKX.out) CX.out ?_) | (refine store_row aggWay (.tmp 6) (.tmp 34) rfl rfl _ rfl (wayCells BX dX xs[k]).toArray rfl (by simpa using way_len OKX.out) (by simpa using RWay.good.one RX.out) _ _ (by first | exact (show (World.drew _).heap[wr.heap.size]? = _ from blk_alloc (heap_alloc_new wr _) _) | exact (show (World.drew _).heap[wr.heap.size + 1]? = _ from blk_new_at (by simp))) rfl ?_; intro w5 hb5 hk5; have HB5 := hidden hb5; have HK5 := hidden hk5; have HKW := hidden (Kept.then (S := Nob) (a := wr) (by repeat (first | exact Kept.refl _ _ | apply Kept.alloc | apply Kept.drewN | apply Kept.drew)) hk5 (fun k hk hs => by omega)); clear hb5 hk5) | (refine store_row aggWay (.tmp 7) (.tmp 39) rfl rfl _ rfl (wayCells BY dY ys[k]).toArray rfl (by simpa using way_len OKY.out) (by simpa using RWay.good.one RY.out) _ _ (by first | exact HK5.out.blk (show (World.drew _).heap[wr.heap.size + 1]? = _ from blk_new_at (by simp)) (by simp) | exact HK5.out.blk (show (World.drew _).heap[wr.heap.size]? = _ from blk_alloc (heap_alloc_new wr _) _) (by simp)) rfl ?_; intro w6 hb6 hk6; have HB6 := hidden hb6; have HK6 := hidden hk6; clear hb6 hk6)); refine QE.drop (fun _ => True) (by kernel_rfl) trivial ?_; intro HS_))
           all_goals refine GE.done (by kernel_rfl) ?_
           all_goals
            go_wp2_with fail
            go_meet
            exact ⟨_, _, rfl, rfl, HK6.out.blk HB5.out (by simp), HB6.out, Kept.then (S := Nob) HKW.out HK6.out (fun k hk hs => by omega)⟩
          case rest =>
            obtain ⟨g6, g7, rfl, rfl, hc6, hb6, hkw⟩ := hcut
            have HC6 := hidden hc6
            have HB6 := hidden hb6
            have HKW6 := hidden hkw
            obtain ⟨w6, rfl⟩ : ∃ w6 : World, w6 = wc := ⟨_, rfl⟩
            clear hc6 hb6 hkw b0 b1
            obtain ⟨x, hx⟩ : ∃ x, x = xs[k] := ⟨_, rfl⟩
            obtain ⟨y, hy⟩ : ∃ y, y = ys[k] := ⟨_, rfl⟩
            rw [← hx] at OKX IX HC6 HD
            rw [← hy] at OKY IY HB6 HD
            have IX6 := hidden (IX.out.keep HKW6.out (fun _ _ h => h))
            have IY6 := hidden (IY.out.keep HKW6.out (fun _ _ h => h))
            have x0 := row0 HC6.out
            have x33 := row33 HC6.out OKX.out
            have x34 := row34 HC6.out OKX.out
            have y0 := row0 HB6.out
            have y33 := row33 HB6.out OKY.out
            have y34 := row34 HB6.out OKY.out
            have HXH := hidden (row_hash HC6.out OKX.out)
            have HYH := hidden (row_hash HB6.out OKY.out)
            have HXL := hidden OKX.out.hl
            have HYL := hidden OKY.out.hl
            have eqz := neqSum x.hash y.hash OKX.out.hl OKY.out.hl
            have HSW : Hid (sameWay x y = !(!(x.hash == y.hash) || (x.after != y.after) || (x.wait != y.wait) || !(x.keys == y.keys))) := hidden rfl
            have HKL : Hid (x.keys.length ≠ y.keys.length → (x.keys == y.keys) = false) := hidden (fun h => by
              cases hb : (x.keys == y.keys) with
              | false => rfl
              | true => exact absurd (by rw [eq_of_beq hb]) h)
            have hxm := IX.out.le
            have hxm2 := IX.out.max
            unfold maxLen at hxm2
            clear hx hy HSK CX CY RX RY IX IY OKX OKY
            generalize (!(x.hash == y.hash)) = h1 at eqz HSW
            obtain ⟨b2, e2⟩ : ∃ b, (x.after != y.after) = b := ⟨_, rfl⟩
            obtain ⟨b3, e3⟩ : ∃ b, (x.wait != y.wait) = b := ⟨_, rfl⟩
            rw [e2, e3] at HSW
            have hcase : (sameWay x y = false ∧ h1 = true) ∨ (sameWay x y = false ∧ h1 = false ∧ b2 = true) ∨ (sameWay x y = false ∧ h1 = false ∧ b2 = false ∧ b3 = true) ∨ (h1 = false ∧ b2 = false ∧ b3 = false) := by
              rw [HSW.out]; cases h1 <;> cases b2 <;> cases b3 <;> simp
            rcases hcase with ⟨hs, hz⟩ | ⟨hs, hz, hz2⟩ | ⟨hs, hz, hz2, hz3⟩ | ⟨hz, hz2, hz3⟩
            · have HFV : Hid (v = false) := hidden (by rw [← HSV.out, HD.out, hs]; rfl)
              subst hz
              clear hs e2 e3
              go_wp2_with (first | ((with_reducible refine load_lit aggSum (.tmp 40) ⟨g6, 1, none⟩ (nums .u8 x.hash) ?_ ?_ ?_ ?_ ?_); rfl; rfl; (rw [nums_length]; exact HXL.out); exact HXH.out) | ((with_reducible refine load_lit aggSum (.tmp 42) ⟨g7, 1, none⟩ (nums .u8 y.hash) ?_ ?_ ?_ ?_ ?_); rfl; rfl; (rw [nums_length]; exact HYL.out); exact HYH.out))
              go_ret
              exact ⟨ret_bool HFV.out.symm, HK.out.trans (HKP.out.trans HKW6.out)⟩
            · have HFV : Hid (v = false) := hidden (by rw [← HSV.out, HD.out, hs]; rfl)
              subst hz
              subst hz2
              clear hs e3
              go_wp2_with (first | ((with_reducible refine load_lit aggSum (.tmp 40) ⟨g6, 1, none⟩ (nums .u8 x.hash) ?_ ?_ ?_ ?_ ?_); rfl; rfl; (rw [nums_length]; exact HXL.out); exact HXH.out) | ((with_reducible refine load_lit aggSum (.tmp 42) ⟨g7, 1, none⟩ (nums .u8 y.hash) ?_ ?_ ?_ ?_ ?_); rfl; rfl; (rw [nums_length]; exact HYL.out); exact HYH.out))
              go_ret
              exact ⟨ret_bool HFV.out.symm, HK.out.trans (HKP.out.trans HKW6.out)⟩
            · have HFV : Hid (v = false) := hidden (by rw [← HSV.out, HD.out, hs]; rfl)
              subst hz
              subst hz2
              subst hz3
              clear hs
              go_wp2_with (first | ((with_reducible refine load_lit aggSum (.tmp 40) ⟨g6, 1, none⟩ (nums .u8 x.hash) ?_ ?_ ?_ ?_ ?_); rfl; rfl; (rw [nums_length]; exact HXL.out); exact HXH.out) | ((with_reducible refine load_lit aggSum (.tmp 42) ⟨g7, 1, none⟩ (nums .u8 y.hash) ?_ ?_ ?_ ?_ ?_); rfl; rfl; (rw [nums_length]; exact HYL.out); exact HYH.out))
              go_ret
              exact ⟨ret_bool HFV.out.symm, HK.out.trans (HKP.out.trans HKW6.out)⟩
            · subst hz hz2 hz3
              by_cases hkl : x.keys.length = y.keys.length
              · have e4 : ((x.keys.length : Int) != (y.keys.length : Int)) = false := by simp [hkl]
                have HKE := hidden hkl
                clear hkl
                go_wp2_with (first | ((with_reducible refine load_lit aggSum (.tmp 40) ⟨g6, 1, none⟩ (nums .u8 x.hash) ?_ ?_ ?_ ?_ ?_); rfl; rfl; (rw [nums_length]; exact HXL.out); exact HXH.out) | ((with_reducible refine load_lit aggSum (.tmp 42) ⟨g7, 1, none⟩ (nums .u8 y.hash) ?_ ?_ ?_ ?_ ?_); rfl; rfl; (rw [nums_length]; exact HYL.out); exact HYH.out))
                obtain ⟨wo, rfl⟩ : ∃ wo : World, wo = wr := ⟨_, rfl⟩
                go_loopw [8] (fun i w7 => ∃ j : Nat, j ≤ x.keys.length ∧ i = .int .i64 j ∧ (x.keys.drop j == y.keys.drop j) = (x.keys == y.keys) ∧ Still w6 w7) (fun i _ => x.keys.length - (intOf i).toNat)
                case atStart => exact ⟨0, Nat.zero_le _, rfl, rfl, Still.refl _⟩
                case round =>
                  obtain ⟨j, hj, rfl, he, hst⟩ := hrel
                  have HE := hidden he
                  have HST := hidden hst
                  have u0 := (hst.cell _).trans x0
                  have v0 := (hst.cell _).trans y0
                  clear he hst
                  by_cases hlt3 : j < x.keys.length
                  · have hlt4 : j < y.keys.length := by rw [← HKE.out]; exact hlt3
                    obtain ⟨kx, rfl, c1⟩ := IX6.out.rd j hlt3
                    obtain ⟨ky, rfl, c2⟩ := IY6.out.rd j hlt4
                    have c1 := (HST.out.cell _).trans c1
                    have c2 := (HST.out.cell _).trans c2
                    have HEQ := hidden (eq_drop x.keys y.keys j hlt3 hlt4)
                    generalize x.keys.getD j 0 = zx at c1 HEQ
                    generalize y.keys.getD j 0 = zy at c2 HEQ
                    by_cases hzz : zx = zy
                    · have ez : (zx != zy) = false := by simp [hzz]
                      have HZZ : Hid ((zx == zy) = true) := hidden (by simp [hzz])
                      clear hzz
                      go_wp2
                      ((refine wp_region_quiet_lit (by kernel_rfl) (by kernel_rfl) ?_); (repeat (any_goals (first | go_big_quiet_step (fail) | quiet_step (fail) | (refine wpQuiet_step (fun K hK => ?_); go_simp; split <;> (refine hK _ ?_; clear hK K))))); (all_goals (refine wpQuiet_nil ?_; intro _ hw'; obtain ⟨nq, hw''⟩ := hw'; subst hw'')))
                      go_wp2
                      go_roundw
                      case rel => exact ⟨j + 1, by omega, by go_num, by rw [← HE.out, HEQ.out, HZZ.out]; rfl, HST.out.drewN _⟩
                      case measure => simp [intOf]; omega
                    · have ez : (zx != zy) = true := by simp [hzz]
                      have hz2 : (zx == zy) = false := by simpa using hzz
                      have HFV : Hid (v = false) := hidden (by rw [← HSV.out, HD.out, HSW.out, ← HE.out, HEQ.out, hz2]; rfl)
                      clear hzz hz2
                      go_wp2
                      ((refine wp_region_quiet_lit (by kernel_rfl) (by kernel_rfl) ?_); (repeat (any_goals (first | go_big_quiet_step (fail) | quiet_step (fail) | (refine wpQuiet_step (fun K hK => ?_); go_simp; split <;> (refine hK _ ?_; clear hK K))))); (all_goals (refine wpQuiet_nil ?_; intro _ hw'; obtain ⟨nq, hw''⟩ := hw'; subst hw'')))
                      go_wp2
                      go_ret
                      exact ⟨ret_bool HFV.out.symm, HK.out.trans (HKP.out.trans (HKW6.out.trans ((Kept.still HST.out).drewN _)))⟩
                  · obtain rfl : j = x.keys.length := by omega
                    have hall : (x.keys == y.keys) = true := by
                      rw [← HE.out, List.drop_eq_nil_of_le (Nat.le_refl _), List.drop_eq_nil_of_le (by rw [HKE.out]; exact Nat.le_refl _)]; rfl
                    have HALL := hidden hall
                    clear hall
                    go_wp2
                    go_roundw
                    case rel => exact ⟨k + 1, by omega, by go_num, by rw [← HSV.out, HD.out, HSW.out, HALL.out]; rfl, HKP.out.trans (HKW6.out.trans (Kept.still HST.out))⟩
                    case measure => simp [intOf]; omega
              · have e4 : ((x.keys.length : Int) != (y.keys.length : Int)) = true := by simp; omega
                have HFV : Hid (v = false) := hidden (by rw [← HSV.out, HD.out, HSW.out, HKL.out hkl]; rfl)
                clear hkl
                go_wp2_with (first | ((with_reducible refine load_lit aggSum (.tmp 40) ⟨g6, 1, none⟩ (nums .u8 x.hash) ?_ ?_ ?_ ?_ ?_); rfl; rfl; (rw [nums_length]; exact HXL.out); exact HXH.out) | ((with_reducible refine load_lit aggSum (.tmp 42) ⟨g7, 1, none⟩ (nums .u8 y.hash) ?_ ?_ ?_ ?_ ?_); rfl; rfl; (rw [nums_length]; exact HYL.out); exact HYH.out))
                go_ret
                exact ⟨ret_bool HFV.out.symm, HK.out.trans (HKP.out.trans HKW6.out)⟩
        · obtain rfl : k = xs.length := by omega
          have HFV : Hid (v = true) := hidden (by rw [← HSV.out, List.drop_eq_nil_of_le (Nat.le_refl _), List.drop_eq_nil_of_le (by rw [HL.out]; exact Nat.le_refl _)]; rfl)
          go_wp2
          go_ret
          exact ⟨ret_bool HFV.out.symm, HK.out.trans HKP.out⟩
    · have e1 : (p != q) = false := by simpa using hpq
      have e3 : ((xs.length : Int) != (ys.length : Int)) = true := by simp; omega
      have HFV : Hid (((p == q) && v) = false) := hidden (by rw [HV.out, HSL.out hl]; simp)
      clear hl hpq
      go_enter Try.func25, Try.ntmps25
      go_wp2
      go_ret
      exact ⟨ret_bool HFV.out.symm, HK.out⟩
  · have e1 : (p != q) = true := by simpa using hpq
    have HFV : Hid (((p == q) && v) = false) := hidden (by simp [hpq])
    clear hpq
    go_enter Try.func25, Try.ntmps25
    go_wp2
    go_ret
    exact ⟨ret_bool HFV.out.symm, HK.out⟩
end Go.Proofs.Ytcghjnegaiiieaa

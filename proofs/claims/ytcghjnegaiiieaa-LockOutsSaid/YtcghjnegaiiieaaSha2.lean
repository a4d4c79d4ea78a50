/- SHA-256 as the program has it: a block. -/
import Derived.Test.YtcghjnegaiiieaaSha
import Derived.Laws.CopyOwn
import Derived.Outline
namespace Go.Proofs.Ytcghjnegaiiieaa
set_option linter.unusedSimpArgs false
open Go.RowKit
theorem Kept.setRow {S : Nat → Prop} {a w : World} (h : Kept S a w) {g : Nat} (hp : g < a.heap.size → S g) (cs : Array Value) : Kept S a (w.setRow g cs) :=
  ⟨h.os, h.tape, h.output, by simpa [World.setRow] using h.size, fun k hk hn => (setRow_other w g k cs (fun e => hn (e ▸ hp (e ▸ hk)))).trans (h.block k hk hn)⟩
theorem wpList_copy_nums {P : Program} {ops : Array Oper} {rest : List Oper} {o : Oper} {a : Act} {w : World} {Q : Exit → Act → World → Prop} (hgd : o.guard = none) (d s : Operand) (dT sT : TypeId)
    (ho : o.op = .call { callee := .builtin .copy, args := #[d, s], argTypes := #[dT, sT] }) (elem : TypeId) (hu : P.underlying dT = some (.slice elem)) (hsz : (P.info? elem).map (·.size) = some 1) (g lo dLen dCap sLen sCap : Nat) (ad : Addr)
    (hd : a.eval d = .slice (some ⟨g, lo, none⟩) dLen dCap) (hs : a.eval s = .slice (some ad) sLen sCap) (k : IntKind) (cur : List Int) (t : TypeId) (hg : w.heap[g]? = some (.cells (nums k cur).toArray t (0, 0))) (cs : List Int) (hn : cs.length = Nat.min sLen dLen)
    (hsrc : ∀ j v, (nums k cs)[j]? = some v → w.cell? (ad.add j) = some v) (hfit : lo + cs.length ≤ cur.length)
    (hK : ∀ w', w'.heap[g]? = some (.cells (nums k (cur.take lo ++ (cs ++ cur.drop (lo + cs.length)))).toArray t (0, 0)) → Kept (fun b => b = g) w w' → wpList P ops Q rest (a.put o.dst (goInt cs.length)) w') :
    wpList P ops Q (o :: rest) a w := by
  refine wpList_copy_own hgd d s dT sT ho elem hu hsz g lo dLen dCap ad sLen sCap hd hs (nums k cur).toArray t hg (nums k cs) (by rw [nums_length]; exact hn) hsrc
    (by rw [nums_length]; simpa [nums] using hfit) (nums_oneC _ _) ?_
  rw [nums_length]
  refine hK _ ?_ (Kept.setRow (S := fun b => b = g) (Kept.refl _ _) (fun _ => rfl) _)
  rw [setRow_heap w g _ _ t (0, 0) hg]
  simp [nums]
theorem list8 {l : List Int} (h : l.length = 8) : ∃ a b c d e f g i, l = [a, b, c, d, e, f, g, i] := by
  match l, h with
  | [a, b, c, d, e, f, g, i], _ => exact ⟨a, b, c, d, e, f, g, i, rfl⟩
def ttF (v4 v5 v6 v7 kk ww : Int) : Int :=
  (v7 + bits .xor .u32 (bits .xor .u32 (rotF v4 26) (rotF v4 21)) (rotF v4 7) + bits .xor .u32 (bits .and .u32 v4 v5) (bits .and .u32 (bits .xor .u32 IntKind.u32.max v4) v6) + kk + ww) % 4294967296
def uuF (v0 v1 v2 : Int) : Int :=
  (bits .xor .u32 (bits .xor .u32 (rotF v0 30) (rotF v0 19)) (rotF v0 10) + bits .xor .u32 (bits .xor .u32 (bits .and .u32 v0 v1) (bits .and .u32 v0 v2)) (bits .and .u32 v1 v2)) % 4294967296
theorem ttF_u (a b c d e f : Int) : U32 (ttF a b c d e f) := u32_mod _
theorem uuF_u (a b c : Int) : U32 (uuF a b c) := u32_mod _
def rndF : List Int → Int → Int → List Int
  | [v0, v1, v2, v3, v4, v5, v6, v7], kk, ww => [(ttF v4 v5 v6 v7 kk ww + uuF v0 v1 v2) % 4294967296, v0, v1, v2, (v3 + ttF v4 v5 v6 v7 kk ww) % 4294967296, v4, v5, v6]
  | v, _, _ => v
/-- The state behind so many rounds. -/
def vF (hs ks ss : List Int) : Nat → List Int
  | 0 => hs
  | k + 1 => rndF (vF hs ks ss k) (ks.getD k 0) (ss.getD k 0)
theorem vF_ok (hs ks ss : List Int) (hl : hs.length = 8) (hu : ∀ x ∈ hs, U32 x) (k : Nat) : (vF hs ks ss k).length = 8 ∧ ∀ x ∈ vF hs ks ss k, U32 x := by
  induction k with
  | zero => exact ⟨hl, hu⟩
  | succ k ih =>
    obtain ⟨a, b, c, d, e, f, g, i, h⟩ := list8 ih.1
    unfold vF
    rw [h] at ih ⊢
    refine ⟨rfl, fun x hx => ?_⟩
    simp only [rndF, List.mem_cons, List.not_mem_nil, or_false] at hx
    rcases hx with rfl | rfl | rfl | rfl | rfl | rfl | rfl | rfl
    · exact u32_mod _
    · exact ih.2 _ (by simp)
    · exact ih.2 _ (by simp)
    · exact ih.2 _ (by simp)
    · exact u32_mod _
    · exact ih.2 _ (by simp)
    · exact ih.2 _ (by simp)
    · exact ih.2 _ (by simp)
def addF (hs vs : List Int) : Nat → List Int
  | 0 => hs
  | k + 1 => (addF hs vs k).set k (((addF hs vs k).getD k 0 + vs.getD k 0) % 4294967296)
theorem addF_ok (hs vs : List Int) (hl : hs.length = 8) (hu : ∀ x ∈ hs, U32 x) (k : Nat) : (addF hs vs k).length = 8 ∧ ∀ x ∈ addF hs vs k, U32 x := by
  induction k with
  | zero => exact ⟨hl, hu⟩
  | succ k ih => exact ⟨by simp [addF, ih.1], u32_set ih.2 k (u32_mod _)⟩
theorem agg8 : AggT Try.prog 183 8 := ⟨⟨_, Try.underlying183, rfl⟩, by kernel_rfl⟩
set_option maxRecDepth 100000 in
set_option maxHeartbeats 16000000 in
theorem block_gen (H Kb : Nat) (A : Option Addr) (c : Nat) (hs ks ss : List Int) (w : World) (hH : w.heap[H]? = some (.cells (nums .u32 hs).toArray 183 (0, 0))) (hKb : w.heap[Kb]? = some (.cells (nums .u32 ks).toArray 185 (0, 0)))
    (HSP : Hid (Calls Try.prog 139 #[.slice A 64 c] w fun e w' => e = .returned (.agg (nums .u32 ss).toArray) ∧ Kept Nob w w')) (HSL : ss.length = 64) (HSU : Hid (∀ x ∈ ss, U32 x))
    (hlh : hs.length = 8) (hlk : ks.length = 64) (hus : ∀ x ∈ hs, U32 x) (hku : ∀ x ∈ ks, U32 x) :
    Calls Try.prog 123 #[.pointer (some ⟨H, 0, none⟩), .slice A 64 c, .pointer (some ⟨Kb, 0, none⟩)] w fun e w' => e = .returned (.tuple #[]) ∧ (∃ n m : Nat, n = 8 ∧ m = 64 ∧ w'.heap[H]? = some (.cells (nums .u32 (addF hs (vF hs ks ss m) n)).toArray 183 (0, 0))) ∧ Kept (fun b => b = H) w w' := by
  have HKB := hidden hKb
  have HH := hidden hH
  have HLH := hidden hlh
  have HUS := hidden hus
  have HKU := hidden hku
  clear hKb hH hlh hus hku
  go_enter Try.func123, Try.ntmps123
  go_wp2_with (first
    | (go_at_call 139; refine HSP.out.mono ?_; rintro e w1 ⟨rfl, hk1⟩; have HK1 := hidden hk1; clear hk1; dsimp only)
    | ((with_reducible refine store_lit agg64 (.tmp 6) (.tmp 16) w1.heap.size (nums .u32 ss) ?_ ?_ ?_ ?_ ?_ ?_ ?_); rfl; rfl; rfl; exact (nums_length _ _).trans HSL; exact nums_oneC _ _; exact ⟨_, _, heap_alloc_new _ _, rfl⟩; intro w2 hb2 hk2; have HB2 := hidden hb2; have HK2 := hidden hk2; clear hb2 hk2)
    | ((with_reducible refine load_lit agg8 (.tmp 18) ⟨H, 0, none⟩ (nums .u32 hs) ?_ ?_ ?_ ?_ ?_); rfl; rfl; exact (nums_length _ _).trans HLH.out; exact row_cells (HK2.out.blk (blk_alloc (HK1.out.blk HH.out (fun h => h)) _) (fun h => by have := blk_lt (HK1.out.blk HH.out (fun h => h)); omega)))
    | ((with_reducible refine store_lit agg8 (.tmp 7) (.tmp 19) w2.heap.size (nums .u32 hs) ?_ ?_ ?_ ?_ ?_ ?_ ?_); rfl; rfl; rfl; exact (nums_length _ _).trans HLH.out; exact nums_oneC _ _; exact ⟨_, _, heap_alloc_new _ _, rfl⟩; intro w3 hb3 hk3; have HB3 := hidden hb3; have HK3 := hidden hk3; clear hb3 hk3))
  obtain ⟨ty2, hb2⟩ := HB2.out
  obtain ⟨ty3, hb3⟩ := HB3.out
  have hw0 := HK3.out.blk (blk_alloc hb2 _) (fun h => by have := blk_lt hb2; omega)
  obtain ⟨gw, hgw⟩ : ∃ g, w1.heap.size = g := ⟨_, rfl⟩
  obtain ⟨gv, hgv⟩ : ∃ g, w2.heap.size = g := ⟨_, rfl⟩
  have HGW : Hid (w.heap.size ≤ gw) := hidden (by have := HK1.out.size; omega)
  have HGV : Hid (gw < gv) := hidden (by have := blk_lt hb2; omega)
  have HKW : Hid (Kept Nob w w3) := hidden (Kept.then (Kept.alloc (Kept.then (Kept.alloc HK1.out _) HK2.out (fun b hb h => by have := HK1.out.size; omega)) _) HK3.out (fun b hb h => by have := HGW.out; have := HGV.out; omega))
  rw [hgw] at hw0
  rw [hgv] at hb3
  have HW := hidden hw0
  have HV := hidden hb3
  rw [hgw, hgv]
  clear hb2 hb3 hgw hgv HB2 HB3 HK1 HK2 HK3 HSP hw0
  have HHs : Hid (H < w.heap.size) := hidden (blk_lt HH.out)
  have HKs : Hid (Kb < w.heap.size) := hidden (blk_lt HKB.out)
  go_loopw [8, 9, 10, 11, 12, 13, 20] (fun _ _ _ _ _ _ i wr => ∃ k : Nat, k ≤ 64 ∧ i = .int .i64 k ∧ wr.heap[gv]? = some (.cells (nums .u32 (vF hs ks ss k)).toArray ty3 (0, 0)) ∧ Kept (fun b => b = gv) w3 wr) (fun _ _ _ _ _ _ i _ => 64 - (intOf i).toNat)
  case atStart => exact ⟨0, by omega, rfl, HV.out, Kept.refl _ _⟩
  case round =>
    obtain ⟨k, hk, rfl, hbk, hst⟩ := hrel
    have HBK := hidden hbk
    have HST := hidden hst
    clear hbk hst
    by_cases hlt : k < 64
    · obtain ⟨v0, v1, v2, v3, v4, v5, v6, v7, hv⟩ := list8 (vF_ok hs ks ss HLH.out HUS.out k).1
      have HUV := (vF_ok hs ks ss HLH.out HUS.out k).2
      have hb := HBK.out
      rw [hv] at hb HUV
      have HB := hidden hb
      have hw := HST.out.blk HW.out (fun h => by have := HGV.out; omega)
      have hkb := HST.out.blk (HKW.out.blk HKB.out (fun h => h)) (fun h => by have := HGV.out; have := HGW.out; have := HKs.out; omega)
      have cw := row_at hw (i := k) (by omega)
      have ck := row_at hkb (i := k) (by omega)
      have c0 : wr.cell? ⟨gv, 0, none⟩ = some (.int .u32 v0) := (blk_cell hb 0).trans rfl
      have c1 : wr.cell? ⟨gv, 1, none⟩ = some (.int .u32 v1) := (blk_cell hb 1).trans rfl
      have c2 : wr.cell? ⟨gv, 2, none⟩ = some (.int .u32 v2) := (blk_cell hb 2).trans rfl
      have c3 : wr.cell? ⟨gv, 3, none⟩ = some (.int .u32 v3) := (blk_cell hb 3).trans rfl
      have c4 : wr.cell? ⟨gv, 4, none⟩ = some (.int .u32 v4) := (blk_cell hb 4).trans rfl
      have c5 : wr.cell? ⟨gv, 5, none⟩ = some (.int .u32 v5) := (blk_cell hb 5).trans rfl
      have c6 : wr.cell? ⟨gv, 6, none⟩ = some (.int .u32 v6) := (blk_cell hb 6).trans rfl
      have c7 : wr.cell? ⟨gv, 7, none⟩ = some (.int .u32 v7) := (blk_cell hb 7).trans rfl
      have HSRC : Hid (∀ j v, (nums .u32 [v0, v1, v2, v3, v4, v5, v6])[j]? = some v → ∀ x, Kept Nob wr x → x.cell? ((⟨gv, 0, none⟩ : Addr).add j) = some v) := hidden (fun j v hj x hx => hx.at ((row_cells (es := nums .u32 [v0, v1, v2, v3, v4, v5, v6, v7]) hb) j v (by match j, hj with | 0, hj => exact hj | 1, hj => exact hj | 2, hj => exact hj | 3, hj => exact hj | 4, hj => exact hj | 5, hj => exact hj | 6, hj => exact hj)) (fun h => h))
      obtain ⟨u00, u01⟩ := HUV v0 (by simp)
      obtain ⟨u10, u11⟩ := HUV v1 (by simp)
      obtain ⟨u20, u21⟩ := HUV v2 (by simp)
      obtain ⟨u30, u31⟩ := HUV v3 (by simp)
      obtain ⟨u40, u41⟩ := HUV v4 (by simp)
      obtain ⟨u50, u51⟩ := HUV v5 (by simp)
      obtain ⟨u60, u61⟩ := HUV v6 (by simp)
      obtain ⟨u70, u71⟩ := HUV v7 (by simp)
      obtain ⟨x00, x01⟩ := u32_getD HKU.out k
      obtain ⟨x10, x11⟩ := u32_getD HSU.out k
      have HV8 := hidden hv
      clear HUV hb hw hkb hv
      generalize hkk : ks.getD k 0 = kk at ck x00 x01
      generalize hww : ss.getD k 0 = ww at cw x10 x11
      have HKK := hidden hkk
      have HWW := hidden hww
      clear hkk hww
      go_wp2_with (go_at_call 140; (first | (with_reducible refine (rot_any _ (-6) 26 _ (by omega) (by omega) (by decide) (by decide)).mono ?_) | (with_reducible refine (rot_any _ (-11) 21 _ (by omega) (by omega) (by decide) (by decide)).mono ?_) | (with_reducible refine (rot_any _ (-25) 7 _ (by omega) (by omega) (by decide) (by decide)).mono ?_) | (with_reducible refine (rot_any _ (-2) 30 _ (by omega) (by omega) (by decide) (by decide)).mono ?_) | (with_reducible refine (rot_any _ (-13) 19 _ (by omega) (by omega) (by decide) (by decide)).mono ?_) | (with_reducible refine (rot_any _ (-22) 10 _ (by omega) (by omega) (by decide) (by decide)).mono ?_)); rintro e w8 ⟨rfl, rfl⟩; dsimp only)
      refine region_plan (.seg [0] (.seg [1] (.seg [2] (.seg [3] (.seg [4] (.seg [5] (.seg [6] (.seg [7] (.seg [8] (.seg [9] (.seg [10] (.seg [11] (.seg [12] (.seg [13] (.seg [14] (.seg [15] (.seg [16] (.seg [17] (.seg [18] (.seg [19] (.seg [20] (.seg [21] (.seg [22] (.seg [23] (.seg [24] (.seg [25] .nil)))))))))))))))))))))))))) (by kernel_rfl) ?_
      all_goals (refine plan_one (o := ?_) ?_ ?_ ?_; rotate_left; (simp only [List.getElem?_toArray, List.getElem?_cons_zero]; exact rfl); rfl; intro NX; (repeat' (first | go_step | go_upon)); all_goals (refine seg_end (by kernel_rfl) ?_; clear NX))
      all_goals (refine plan_one (o := ?_) ?_ ?_ ?_; rotate_left; (simp only [List.getElem?_toArray, List.getElem?_cons_succ, List.getElem?_cons_zero]; exact rfl); rfl; intro NX; (repeat' (first | go_step | go_upon)); all_goals (refine seg_end (by kernel_rfl) ?_; clear NX))
      all_goals (refine plan_one (o := ?_) ?_ ?_ ?_; rotate_left; (simp only [List.getElem?_toArray, List.getElem?_cons_succ, List.getElem?_cons_zero]; exact rfl); rfl; intro NX; (repeat' (first | go_step | go_upon)); all_goals (refine seg_end (by kernel_rfl) ?_; clear NX))
      all_goals (refine plan_one (o := ?_) ?_ ?_ ?_; rotate_left; (simp only [List.getElem?_toArray, List.getElem?_cons_succ, List.getElem?_cons_zero]; exact rfl); rfl; intro NX; (repeat' (first | go_step | go_upon)); all_goals (refine seg_end (by kernel_rfl) ?_; clear NX))
      all_goals (refine plan_one (o := ?_) ?_ ?_ ?_; rotate_left; (simp only [List.getElem?_toArray, List.getElem?_cons_succ, List.getElem?_cons_zero]; exact rfl); rfl; intro NX; (repeat' (first | go_step | go_upon)); all_goals (refine seg_end (by kernel_rfl) ?_; clear NX))
      all_goals (refine plan_one (o := ?_) ?_ ?_ ?_; rotate_left; (simp only [List.getElem?_toArray, List.getElem?_cons_succ, List.getElem?_cons_zero]; exact rfl); rfl; intro NX; (repeat' (first | go_step | go_upon)); all_goals (refine seg_end (by kernel_rfl) ?_; clear NX))
      all_goals (refine plan_one (o := ?_) ?_ ?_ ?_; rotate_left; (simp only [List.getElem?_toArray, List.getElem?_cons_succ, List.getElem?_cons_zero]; exact rfl); rfl; intro NX; (repeat' (first | go_step | go_upon)); all_goals (refine seg_end (by kernel_rfl) ?_; clear NX))
      all_goals (refine plan_one (o := ?_) ?_ ?_ ?_; rotate_left; (simp only [List.getElem?_toArray, List.getElem?_cons_succ, List.getElem?_cons_zero]; exact rfl); rfl; intro NX; (repeat' (first | go_step | go_upon)); all_goals (refine seg_end (by kernel_rfl) ?_; clear NX))
      all_goals (refine plan_one (o := ?_) ?_ ?_ ?_; rotate_left; (simp only [List.getElem?_toArray, List.getElem?_cons_succ, List.getElem?_cons_zero]; exact rfl); rfl; intro NX; (repeat' (first | go_step | go_upon)); all_goals (refine seg_end (by kernel_rfl) ?_; clear NX))
      all_goals (refine plan_one (o := ?_) ?_ ?_ ?_; rotate_left; (simp only [List.getElem?_toArray, List.getElem?_cons_succ, List.getElem?_cons_zero]; exact rfl); rfl; intro NX; (repeat' (first | go_step | go_upon)); all_goals (refine seg_end (by kernel_rfl) ?_; clear NX))
      all_goals (refine plan_one (o := ?_) ?_ ?_ ?_; rotate_left; (simp only [List.getElem?_toArray, List.getElem?_cons_succ, List.getElem?_cons_zero]; exact rfl); rfl; intro NX; (repeat' (first | go_step | go_upon)); all_goals (refine seg_end (by kernel_rfl) ?_; clear NX))
      all_goals (refine plan_one (o := ?_) ?_ ?_ ?_; rotate_left; (simp only [List.getElem?_toArray, List.getElem?_cons_succ, List.getElem?_cons_zero]; exact rfl); rfl; intro NX; (repeat' (first | go_step | go_upon)); all_goals (refine seg_end (by kernel_rfl) ?_; clear NX))
      all_goals (refine plan_one (o := ?_) ?_ ?_ ?_; rotate_left; (simp only [List.getElem?_toArray, List.getElem?_cons_succ, List.getElem?_cons_zero]; exact rfl); rfl; intro NX; (repeat' (first | go_step | go_upon)); all_goals (refine seg_end (by kernel_rfl) ?_; clear NX))
      all_goals (refine plan_one (o := ?_) ?_ ?_ ?_; rotate_left; (simp only [List.getElem?_toArray, List.getElem?_cons_succ, List.getElem?_cons_zero]; exact rfl); rfl; intro NX; (repeat' (first | go_step | go_upon)); all_goals (refine seg_end (by kernel_rfl) ?_; clear NX))
      all_goals (refine plan_one (o := ?_) ?_ ?_ ?_; rotate_left; (simp only [List.getElem?_toArray, List.getElem?_cons_succ, List.getElem?_cons_zero]; exact rfl); rfl; intro NX; (repeat' (first | go_step | go_upon)); all_goals (refine seg_end (by kernel_rfl) ?_; clear NX))
      all_goals (refine plan_one (o := ?_) ?_ ?_ ?_; rotate_left; (simp only [List.getElem?_toArray, List.getElem?_cons_succ, List.getElem?_cons_zero]; exact rfl); rfl; intro NX; (repeat' (first | go_step | go_upon)); all_goals (refine seg_end (by kernel_rfl) ?_; clear NX))
      all_goals (refine plan_one (o := ?_) ?_ ?_ ?_; rotate_left; (simp only [List.getElem?_toArray, List.getElem?_cons_succ, List.getElem?_cons_zero]; exact rfl); rfl; intro NX; (repeat' (first | go_step | go_upon)); all_goals (refine seg_end (by kernel_rfl) ?_; clear NX))
      all_goals (refine plan_one (o := ?_) ?_ ?_ ?_; rotate_left; (simp only [List.getElem?_toArray, List.getElem?_cons_succ, List.getElem?_cons_zero]; exact rfl); rfl; intro NX; (repeat' (first | go_step | go_upon)); all_goals (refine seg_end (by kernel_rfl) ?_; clear NX))
      all_goals (refine plan_one (o := ?_) ?_ ?_ ?_; rotate_left; (simp only [List.getElem?_toArray, List.getElem?_cons_succ, List.getElem?_cons_zero]; exact rfl); rfl; intro NX; (repeat' (first | go_step | go_upon)); all_goals (refine seg_end (by kernel_rfl) ?_; clear NX))
      all_goals (refine plan_one (o := ?_) ?_ ?_ ?_; rotate_left; (simp only [List.getElem?_toArray, List.getElem?_cons_succ, List.getElem?_cons_zero]; exact rfl); rfl; intro NX; (repeat' (first | go_step | go_upon)); all_goals (refine seg_end (by kernel_rfl) ?_; clear NX))
      all_goals (refine plan_one (o := ?_) ?_ ?_ ?_; rotate_left; (simp only [List.getElem?_toArray, List.getElem?_cons_succ, List.getElem?_cons_zero]; exact rfl); rfl; intro NX; (repeat' (first | go_step | go_upon)); all_goals (refine seg_end (by kernel_rfl) ?_; clear NX))
      all_goals (refine plan_one (o := ?_) ?_ ?_ ?_; rotate_left; (simp only [List.getElem?_toArray, List.getElem?_cons_succ, List.getElem?_cons_zero]; exact rfl); rfl; intro NX; (repeat' (first | go_step | go_upon)); all_goals (refine seg_end (by kernel_rfl) ?_; clear NX))
      all_goals (refine plan_one (o := ?_) ?_ ?_ ?_; rotate_left; (simp only [List.getElem?_toArray, List.getElem?_cons_succ, List.getElem?_cons_zero]; exact rfl); rfl; intro NX; (repeat' (first | go_step | go_upon)); all_goals (refine seg_end (by kernel_rfl) ?_; clear NX))
      all_goals (refine plan_one (o := ?_) ?_ ?_ ?_; rotate_left; (simp only [List.getElem?_toArray, List.getElem?_cons_succ, List.getElem?_cons_zero]; exact rfl); rfl; intro NX; (repeat' (first | go_step | go_upon)); all_goals (refine seg_end (by kernel_rfl) ?_; clear NX))
      all_goals (refine plan_one (o := ?_) ?_ ?_ ?_; rotate_left; (simp only [List.getElem?_toArray, List.getElem?_cons_succ, List.getElem?_cons_zero]; exact rfl); rfl; intro NX; (repeat' (first | go_step | go_upon)); all_goals (refine seg_end (by kernel_rfl) ?_; clear NX))
      all_goals (refine plan_one (o := ?_) ?_ ?_ ?_; rotate_left; (simp only [List.getElem?_toArray, List.getElem?_cons_succ, List.getElem?_cons_zero]; exact rfl); rfl; intro NX; (repeat' (first | go_step | go_upon)); all_goals (refine seg_end (by kernel_rfl) ?_; clear NX))
      all_goals refine plan_nil ?_
      go_wp2_with (go_at_call 140; (first | (with_reducible refine (rot_any _ (-6) 26 _ (by omega) (by omega) (by decide) (by decide)).mono ?_) | (with_reducible refine (rot_any _ (-11) 21 _ (by omega) (by omega) (by decide) (by decide)).mono ?_) | (with_reducible refine (rot_any _ (-25) 7 _ (by omega) (by omega) (by decide) (by decide)).mono ?_) | (with_reducible refine (rot_any _ (-2) 30 _ (by omega) (by omega) (by decide) (by decide)).mono ?_) | (with_reducible refine (rot_any _ (-13) 19 _ (by omega) (by omega) (by decide) (by decide)).mono ?_) | (with_reducible refine (rot_any _ (-22) 10 _ (by omega) (by omega) (by decide) (by decide)).mono ?_)); rintro e w8 ⟨rfl, rfl⟩; dsimp only)
      have HTT : Hid (∀ x, x = ttF v4 v5 v6 v7 kk ww → 0 ≤ x ∧ x ≤ 4294967295) := hidden (fun x hx => hx ▸ ttF_u v4 v5 v6 v7 kk ww)
      have HUU : Hid (∀ x, x = uuF v0 v1 v2 → 0 ≤ x ∧ x ≤ 4294967295) := hidden (fun x hx => hx ▸ uuF_u v0 v1 v2)
      generalize hT : (v7 + bits .xor .u32 (bits .xor .u32 (rotF v4 26) (rotF v4 21)) (rotF v4 7) + bits .xor .u32 (bits .and .u32 v4 v5) (bits .and .u32 (bits .xor .u32 IntKind.u32.max v4) v6) + kk + ww) % 4294967296 = tt
      generalize hU : (bits .xor .u32 (bits .xor .u32 (rotF v0 30) (rotF v0 19)) (rotF v0 10) + bits .xor .u32 (bits .xor .u32 (bits .and .u32 v0 v1) (bits .and .u32 v0 v2)) (bits .and .u32 v1 v2)) % 4294967296 = uu
      have HT : Hid (ttF v4 v5 v6 v7 kk ww = tt) := hidden hT
      have HU : Hid (uuF v0 v1 v2 = uu) := hidden hU
      obtain ⟨t0, t1⟩ := HTT.out tt HT.out.symm
      obtain ⟨q0, q1⟩ := HUU.out uu HU.out.symm
      clear hT hU HTT HUU c0 c1 c2 c3 c4 c5 c6 c7 cw ck
      refine region_plan (.seg [0] (.seg [1] (.eff 2 false .nil))) (by kernel_rfl) ?_
      all_goals (refine plan_one (o := ?_) ?_ ?_ ?_; rotate_left; (simp only [List.getElem?_toArray, List.getElem?_cons_zero]; exact rfl); rfl; intro NX; (repeat' (first | go_step | go_upon)); all_goals (refine seg_end (by kernel_rfl) ?_; clear NX))
      all_goals (refine plan_one (o := ?_) ?_ ?_ ?_; rotate_left; (simp only [List.getElem?_toArray, List.getElem?_cons_succ, List.getElem?_cons_zero]; exact rfl); rfl; intro NX; (repeat' (first | go_step | go_upon)); all_goals (refine seg_end (by kernel_rfl) ?_; clear NX))
      all_goals (refine plan_eff (o := ?_) ?_ ?_; rotate_left; (simp only [List.getElem?_toArray, List.getElem?_cons_succ, List.getElem?_cons_zero]; exact rfl); intro NX)
      all_goals go_wp2_with ((refine wpList_copy_nums rfl (.tmp 85) (.tmp 86) 207 207 rfl 181 Try.underlying207 (by kernel_rfl) gv 1 7 7 7 8 ⟨gv, 0, none⟩ rfl rfl .u32 [v0, v1, v2, v3, v4, v5, v6, v7] ty3 HB.out [v0, v1, v2, v3, v4, v5, v6] rfl (fun j v hj => HSRC.out j v hj _ (by repeat (first | exact Kept.refl _ _ | apply Kept.alloc | apply Kept.drewN | apply Kept.drew))) (by simp) ?_; intro w5 hb5 hk5; have HB5 := hidden hb5; have HK5 := hidden hk5; clear hb5 hk5))
      all_goals refine eff_free ?_
      all_goals refine plan_nil ?_
      have hb5 : w5.heap[gv]? = some (.cells #[.int .u32 v0, .int .u32 v0, .int .u32 v1, .int .u32 v2, .int .u32 v3, .int .u32 v4, .int .u32 v5, .int .u32 v6] ty3 (0, 0)) := HB5.out
      have d4 : w5.cell? ⟨gv, 4, none⟩ = some (.int .u32 v3) := blk_cell hb5 4
      have d0 : w5.cell? ⟨gv, 0, none⟩ = some (.int .u32 v0) := blk_cell hb5 0
      have f4 := blk_frozen hb5 4
      have f0 := blk_frozen hb5 0
      have HB5' := hidden hb5
      clear hb5
      go_wp2
      go_roundw
      case rel =>
        refine ⟨k + 1, by omega, by go_num, ?_, ?_⟩
        · have h1 := blk_set (blk_set HB5'.out 4 (.int .u32 ((v3 + tt) % 4294967296))) 0 (.int .u32 ((tt + uu) % 4294967296))
          unfold vF
          rw [HV8.out, HKK.out, HWW.out]
          show _ = some (Obj.cells (nums .u32 [(ttF v4 v5 v6 v7 kk ww + uuF v0 v1 v2) % 4294967296, v0, v1, v2, (v3 + ttF v4 v5 v6 v7 kk ww) % 4294967296, v4, v5, v6]).toArray ty3 (0, 0))
          rw [HT.out, HU.out]
          exact h1
        · exact Kept.setCell (Kept.setCell (HST.out.drew.drew.trans HK5.out) (fun _ => rfl) _) (fun _ => rfl) _
      case measure => simp [intOf]; omega
    · have HK64 : Hid (k = 64) := hidden (by omega)
      have HVO := hidden (vF_ok hs ks ss HLH.out HUS.out k)
      have HRD : Hid (wr.heap[H]? = some (.cells (nums .u32 (addF hs (vF hs ks ss k) 0)).toArray 183 (0, 0))) := hidden (HST.out.blk (HKW.out.blk HH.out (fun h => h)) (fun h => by have := HGV.out; have := HGW.out; have := HHs.out; omega))
      go_wp2
      go_loopw [14, 98] (fun _ i w2 => ∃ j : Nat, j ≤ 8 ∧ i = .int .i64 j ∧ w2.heap[H]? = some (.cells (nums .u32 (addF hs (vF hs ks ss k) j)).toArray 183 (0, 0)) ∧ Kept (fun b => b = H) wr w2) (fun _ i _ => 8 - (intOf i).toNat)
      case atStart => exact ⟨0, by omega, rfl, HRD.out, Kept.refl _ _⟩
      case round =>
        obtain ⟨j, hj, rfl, hbj, hsj⟩ := hrel
        rename_i w2 _ _
        have HBJ := hidden hbj
        have HSJ := hidden hsj
        clear hbj hsj
        have HAO := hidden (addF_ok hs (vF hs ks ss k) HLH.out HUS.out j)
        by_cases hlt2 : j < 8
        · have cH := row_at HBJ.out (i := j) (by have := HAO.out.1; omega)
          have fH := blk_frozen HBJ.out j
          have cV := row_at (HSJ.out.blk HBK.out (fun h => by have := HGV.out; have := HGW.out; have := HHs.out; omega)) (i := j) (by have := HVO.out.1; omega)
          have HAD : Hid (addF hs (vF hs ks ss k) (j + 1) = (addF hs (vF hs ks ss k) j).set j (((addF hs (vF hs ks ss k) j).getD j 0 + (vF hs ks ss k).getD j 0) % 4294967296)) := hidden rfl
          obtain ⟨a0, a1⟩ := u32_getD HAO.out.2 j
          obtain ⟨b0, b1⟩ := u32_getD HVO.out.2 j
          generalize hx : (addF hs (vF hs ks ss k) j).getD j 0 = x at cH a0 a1
          generalize hy : (vF hs ks ss k).getD j 0 = y at cV b0 b1
          have HX := hidden hx
          have HY := hidden hy
          clear hx hy
          go_wp2
          refine region_plan (.seg [0] (.seg [1] (.seg [2] (.seg [3] (.seg [4] (.seg [5] (.seg [6] (.seg [7] (.seg [8] (.seg [9] (.seg [10] (.eff 11 false .nil)))))))))))) (by kernel_rfl) ?_
          all_goals (refine plan_one (o := ?_) ?_ ?_ ?_; rotate_left; (simp only [List.getElem?_toArray, List.getElem?_cons_zero]; exact rfl); rfl; intro NX; (repeat' (first | go_step | go_upon)); all_goals (refine seg_end (by kernel_rfl) ?_; clear NX))
          all_goals (refine plan_one (o := ?_) ?_ ?_ ?_; rotate_left; (simp only [List.getElem?_toArray, List.getElem?_cons_succ, List.getElem?_cons_zero]; exact rfl); rfl; intro NX; (repeat' (first | go_step | go_upon)); all_goals (refine seg_end (by kernel_rfl) ?_; clear NX))
          all_goals (refine plan_one (o := ?_) ?_ ?_ ?_; rotate_left; (simp only [List.getElem?_toArray, List.getElem?_cons_succ, List.getElem?_cons_zero]; exact rfl); rfl; intro NX; (repeat' (first | go_step | go_upon)); all_goals (refine seg_end (by kernel_rfl) ?_; clear NX))
          all_goals (refine plan_one (o := ?_) ?_ ?_ ?_; rotate_left; (simp only [List.getElem?_toArray, List.getElem?_cons_succ, List.getElem?_cons_zero]; exact rfl); rfl; intro NX; (repeat' (first | go_step | go_upon)); all_goals (refine seg_end (by kernel_rfl) ?_; clear NX))
          all_goals (refine plan_one (o := ?_) ?_ ?_ ?_; rotate_left; (simp only [List.getElem?_toArray, List.getElem?_cons_succ, List.getElem?_cons_zero]; exact rfl); rfl; intro NX; (repeat' (first | go_step | go_upon)); all_goals (refine seg_end (by kernel_rfl) ?_; clear NX))
          all_goals (refine plan_one (o := ?_) ?_ ?_ ?_; rotate_left; (simp only [List.getElem?_toArray, List.getElem?_cons_succ, List.getElem?_cons_zero]; exact rfl); rfl; intro NX; (repeat' (first | go_step | go_upon)); all_goals (refine seg_end (by kernel_rfl) ?_; clear NX))
          all_goals (refine plan_one (o := ?_) ?_ ?_ ?_; rotate_left; (simp only [List.getElem?_toArray, List.getElem?_cons_succ, List.getElem?_cons_zero]; exact rfl); rfl; intro NX; (repeat' (first | go_step | go_upon)); all_goals (refine seg_end (by kernel_rfl) ?_; clear NX))
          all_goals (refine plan_one (o := ?_) ?_ ?_ ?_; rotate_left; (simp only [List.getElem?_toArray, List.getElem?_cons_succ, List.getElem?_cons_zero]; exact rfl); rfl; intro NX; (repeat' (first | go_step | go_upon)); all_goals (refine seg_end (by kernel_rfl) ?_; clear NX))
          all_goals (refine plan_one (o := ?_) ?_ ?_ ?_; rotate_left; (simp only [List.getElem?_toArray, List.getElem?_cons_succ, List.getElem?_cons_zero]; exact rfl); rfl; intro NX; (repeat' (first | go_step | go_upon)); all_goals (refine seg_end (by kernel_rfl) ?_; clear NX))
          all_goals (refine plan_one (o := ?_) ?_ ?_ ?_; rotate_left; (simp only [List.getElem?_toArray, List.getElem?_cons_succ, List.getElem?_cons_zero]; exact rfl); rfl; intro NX; (repeat' (first | go_step | go_upon)); all_goals (refine seg_end (by kernel_rfl) ?_; clear NX))
          all_goals (refine plan_one (o := ?_) ?_ ?_ ?_; rotate_left; (simp only [List.getElem?_toArray, List.getElem?_cons_succ, List.getElem?_cons_zero]; exact rfl); rfl; intro NX; (repeat' (first | go_step | go_upon)); all_goals (refine seg_end (by kernel_rfl) ?_; clear NX))
          all_goals (refine plan_eff (o := ?_) ?_ ?_; rotate_left; (simp only [List.getElem?_toArray, List.getElem?_cons_succ, List.getElem?_cons_zero]; exact rfl); intro NX)
          all_goals go_wp2_with (fail)
          all_goals refine eff_free ?_
          all_goals refine plan_nil ?_
          go_wp2
          go_roundw
          case rel => exact ⟨j + 1, by omega, by go_num, by rw [HAD.out, HX.out, HY.out]; exact row_set HBJ.out j _, (HSJ.out.setCell (fun _ => rfl) _).drew⟩
          case measure => simp [intOf]; omega
        · have HJ8 : Hid (j = 8) := hidden (by omega)
          go_wp2
          go_end0
          refine ⟨rfl, ⟨j, k, HJ8.out, HK64.out, HBJ.out⟩, ?_⟩
          exact Kept.then (Kept.mono (Kept.then HKW.out HST.out (fun b hb h => by have := HGV.out; have := HGW.out; omega)) (fun _ _ h => h.elim)) HSJ.out (fun b hb h => h)
end Go.Proofs.Ytcghjnegaiiieaa

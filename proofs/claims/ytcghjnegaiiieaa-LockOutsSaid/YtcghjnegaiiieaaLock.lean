/- Outs (layer 7): the first functions. -/
import Derived.Test.YtcghjnegaiiieaaLockD
namespace Go.Proofs.Ytcghjnegaiiieaa
open Go.RowKit

def wayTo (k : Int) : Way := ⟨[k], List.replicate 32 0, 0, 0⟩
def outTo (k a : Int) : Out := ⟨a, [wayTo k]⟩
theorem wayTo_ok (k : Int) : WayOk (wayTo k) := ⟨by simp [wayTo], fun h hh => by simp [wayTo] at hh; subst hh; decide, by show (Lit.int .i64 0).wf = true; decide, by show (Lit.int .i64 0).wf = true; decide⟩
theorem wayTo_cells (A : Option Addr) (c : Nat) (k : Int) : wayCells A c (wayTo k) = .slice A 1 c :: (List.replicate 32 (.int .u8 0) ++ [.int .i64 0, .int .i64 0]) := by simp [wayCells, wayTo, nums]

set_option maxRecDepth 100000 in
set_option maxHeartbeats 4000000 in
theorem to_any (k a : Int) (w : World) (hk : (Lit.int .i64 k).wf = true) (ha : (Lit.int .i64 a).wf = true) :
    Calls Try.prog 23 #[.int .i64 k, .int .i64 a] w fun e w' => ∃ cs, e = .returned (.agg cs.toArray) ∧ ROut w' (fun b => w.heap.size ≤ b) cs (outTo k a) ∧ Kept Nob w w' := by
  go_enter Try.func23, Try.ntmps23
  go_wp2
  refine bodyPost_ret (results_cell_row rfl _ _ w.heap.size _ _ _ _ rfl (blk_alloc (blk_alloc (heap_alloc_new _ _) _) _) Try.underlying38 rfl (by kernel_rfl)) rfl ⟨[.int .i64 a, .slice (some ⟨w.heap.size + 1 + 1, 0, none⟩) 1 1], rfl, ?_, (by repeat (first | exact Kept.refl _ _ | apply Kept.alloc | apply Kept.drewN | apply Kept.drew))⟩
  refine ROut.mk' (o := outTo k a) (A := some ⟨w.heap.size + 1 + 1, 0, none⟩) (c := 1) (Ways.one (A := some ⟨w.heap.size + 1, 0, none⟩) (c := 1) (x := wayTo k) (blk_new_at (by simp)) (by show w.heap.size ≤ w.heap.size + 1 + 1; omega) ?_ (wayTo_ok k)) ha
  exact Ints.blk (k := .i64) (xs := [k]) (blk_alloc (blk_new_at (by simp)) _) (by show w.heap.size ≤ w.heap.size + 1; omega) (by simp [maxLen]) (by simpa using hk)

def smallB (xs : List Way) : Bool := decide (xs.length ≤ 20) && xs.all (fun x => decide (x.keys.length ≤ 20))
set_option maxRecDepth 100000 in
set_option maxHeartbeats 4000000 in
theorem small_any (a : Int) (A : Option Addr) (c : Nat) (xs : List Way) (F : Nat → Prop) (w : World) (h : Ways w F A c xs) :
    Calls Try.prog 22 #[.agg #[.int .i64 a, .slice A xs.length c]] w fun e w' => e = .returned (.bool (smallB xs)) ∧ Kept Nob w w' := by
  have H := hidden (h.keep (Kept.alloc (Kept.refl Nob w) (.cells #[.int .i64 a, .slice A xs.length c] 38)) (fun _ _ h => h))
  have hmax := h.max
  have hle := h.le
  unfold maxLen at hmax
  clear h
  by_cases h20 : xs.length ≤ 20
  · have x1 : ¬ (20 < (xs.length : Int)) := by omega
    have hs : smallB xs = xs.all (fun x => decide (x.keys.length ≤ 20)) := by unfold smallB; simp [h20]
    have HS := hidden hs
    clear hs
    go_enter Try.func22, Try.ntmps22
    go_wp2
    go_loop [3] (fun i => ∃ k : Nat, k ≤ xs.length ∧ i = .int .i64 k ∧ (xs.take k).all (fun x => decide (x.keys.length ≤ 20)) = true) (fun i => xs.length - (intOf i).toNat)
    case atStart => exact ⟨0, Nat.zero_le _, rfl, rfl⟩
    case round =>
      obtain ⟨k, hk, rfl, hall⟩ := hrel
      have HALL := hidden hall
      clear hall
      by_cases hlt : k < xs.length
      · obtain ⟨ad, B, d, rfl, _, hc, _, _⟩ := H.out.at_ k hlt
        have c0 := hc 0 _ way0
        have hsn : (xs.take (k + 1)).all (fun x => decide (x.keys.length ≤ 20)) = decide (xs[k].keys.length ≤ 20) := by
          rw [List.take_succ_eq_append_getElem hlt, List.all_append, HALL.out]; simp
        have HSN := hidden hsn
        have hin : xs.all (fun x => decide (x.keys.length ≤ 20)) = true → xs[k].keys.length ≤ 20 := fun h => by
          have := List.all_eq_true.1 h xs[k] (List.getElem_mem hlt)
          simpa using this
        have HIN := hidden hin
        rw [show ((ad.add (k * 35)).add 0) = ad.add (k * 35) from rfl] at c0
        clear hc hsn hin
        generalize xs[k].keys.length = n at c0 HSN HIN
        by_cases hn : n ≤ 20
        · have y1 : ¬ (20 < (n : Int)) := by omega
          go_wp2
          go_round
          case rel => exact ⟨k + 1, by omega, by go_num, by rw [HSN.out]; simpa using hn⟩
          case measure => simp [intOf]; omega
        · have y1 : 20 < (n : Int) := by omega
          go_wp2
          go_ret
          refine ⟨ret_bool ?_, Kept.alloc (Kept.refl _ _) _⟩
          rw [HS.out]
          cases hb : xs.all (fun x => decide (x.keys.length ≤ 20)) with
          | false => rfl
          | true => exact absurd (HIN.out hb) hn
      · go_wp2
        go_ret
        refine ⟨ret_bool ?_, Kept.alloc (Kept.refl _ _) _⟩
        have := HALL.out
        rw [List.take_of_length_le (by omega)] at this
        rw [HS.out, this]
  · have x1 : 20 < (xs.length : Int) := by omega
    have hs : smallB xs = false := by unfold smallB; simp [h20]
    rw [hs]
    go_enter Try.func22, Try.ntmps22
    go_wp2
    go_ret
    exact ⟨rfl, Kept.alloc (Kept.refl _ _) _⟩

theorem add_at (ad : Addr) (p : Nat) (hp : 0 < p) : ad.add p = ⟨ad.block, ad.off + p, none⟩ := by
  unfold Addr.add
  rw [if_neg (by omega)]
theorem add_field (ad : Addr) (p j : Nat) (hp : 0 < p) : (⟨ad.block, ad.off + p, none⟩ : Addr).add j = ad.add (p + j) := by
  rw [add_at ad (p + j) (by omega)]
  unfold Addr.add
  split
  · rename_i h; subst h; rfl
  · simp [Nat.add_assoc]
/-- The cells of a way, as the walks have them. -/
structure WayAt (w : World) (ad : Addr) (B : Option Addr) (d : Nat) (x : Way) : Prop where
  c0 : w.cell? ad = some (.slice B x.keys.length d)
  cH : ∀ j u, (nums .u8 x.hash)[j]? = some u → w.cell? ((⟨ad.block, ad.off + 1, none⟩ : Addr).add j) = some u
  c33 : w.cell? ⟨ad.block, ad.off + 33, none⟩ = some (.int .i64 x.after)
  c34 : w.cell? ⟨ad.block, ad.off + 34, none⟩ = some (.int .i64 x.wait)
  all : ∀ j u, (wayCells B d x)[j]? = some u → w.cell? (ad.add j) = some u
theorem wayAt {w : World} {ad : Addr} {B : Option Addr} {d : Nat} {x : Way} (hx : WayOk x) (h : ∀ j u, (wayCells B d x)[j]? = some u → w.cell? (ad.add j) = some u) : WayAt w ad B d x := by
  refine ⟨h 0 _ way0, fun j u hj => ?_, ?_, ?_, h⟩
  · rw [add_field ad 1 j (by omega)]
    exact h (1 + j) u (wayH hx j u hj)
  · rw [← add_at ad 33 (by omega)]
    exact h 33 _ (way33 hx)
  · rw [← add_at ad 34 (by omega)]
    exact h 34 _ (way34 hx)
theorem Ways.way {w : World} {F : Nat → Prop} {A : Option Addr} {c : Nat} {xs : List Way} (h : Ways w F A c xs) (i : Nat) (hi : i < xs.length) :
    ∃ ad B d, A = some ad ∧ F ad.block ∧ WayAt w (ad.add (i * 35)) B d xs[i] ∧ Ints w F .i64 B d xs[i].keys ∧ WayOk xs[i] := by
  obtain ⟨ad, B, d, e, hb, hc, h1, h2⟩ := h.at_ i hi
  exact ⟨ad, B, d, e, hb, wayAt h2 hc, h1, h2⟩

def soleB : List Way → Int → Bool
  | [x], key => x.keys == [key] && x.hash == zero32 && x.after == 0 && x.wait == 0
  | _, _ => false
set_option maxRecDepth 100000 in
set_option maxHeartbeats 8000000 in
theorem sole_any (a key : Int) (A : Option Addr) (c : Nat) (xs : List Way) (F : Nat → Prop) (w : World) (h : Ways w F A c xs) :
    Calls Try.prog 24 #[.agg #[.int .i64 a, .slice A xs.length c], .int .i64 key] w fun e w' => e = .returned (.bool (soleB xs key)) ∧ Kept Nob w w' := by
  have H := hidden (h.keep (Kept.alloc (Kept.refl Nob w) (.cells #[.int .i64 a, .slice A xs.length c] 38)) (fun _ _ h => h))
  have hmax := h.max
  have hle := h.le
  unfold maxLen at hmax
  clear h
  by_cases h1 : xs.length = 1
  · match xs, h1 with
    | [x], _ =>
      obtain ⟨ad, B, d, rfl, _, hw, hi, hok⟩ := H.out.way 0 (by simp)
      have hw : WayAt (w.alloc (.cells #[.int .i64 a, .slice (some ad) 1 c] 38)) ad B d x := hw
      have hi : Ints (w.alloc (.cells #[.int .i64 a, .slice (some ad) 1 c] 38)) F .i64 B d x.keys := hi
      have hok : WayOk x := hok
      have c0 := hw.c0
      have c33 := hw.c33
      have c34 := hw.c34
      have HW := hidden hw
      have HI := hidden hi
      have HE := hidden (eqlZero x.hash hok.hl)
      have HLN := hidden hok.hl
      have hs : soleB [x] key = (x.keys == [key] && x.hash == zero32 && x.after == 0 && x.wait == 0) := rfl
      rw [hs]
      clear hw hi hok H hs hle hmax
      by_cases hk : x.keys.length = 1
      · obtain ⟨q, hq⟩ : ∃ q, x.keys = [q] := List.length_eq_one_iff.1 hk
        obtain ⟨bd, hB, hcq⟩ := HI.out.rd 0 (by omega)
        subst hB
        rw [hq] at hcq
        have cq : (w.alloc (.cells #[.int .i64 a, .slice (some ad) 1 c] 38)).cell? bd = some (.int .i64 q) := hcq
        have HQ := hidden hq
        rw [hk] at c0
        have e1 : (x.keys == [key]) = (q == key) := by rw [HQ.out]; simp
        rw [e1]
        have eqZ := HE.out
        clear hcq hq hk HE e1
        generalize (x.hash == zero32) = b3 at eqZ
        obtain ⟨b2, hb2⟩ : ∃ b, (q == key) = b := ⟨_, rfl⟩
        obtain ⟨b4, hb4⟩ : ∃ b, (x.after == 0) = b := ⟨_, rfl⟩
        obtain ⟨b5, hb5⟩ : ∃ b, (x.wait == 0) = b := ⟨_, rfl⟩
        rw [hb2, hb4, hb5]
        have hcase : (b2 = false) ∨ (b2 = true ∧ b3 = false) ∨ (b2 = true ∧ b3 = true ∧ b4 = false) ∨ (b2 = true ∧ b3 = true ∧ b4 = true) := by cases b2 <;> cases b3 <;> cases b4 <;> simp
        rcases hcase with hz | ⟨hz, hz2⟩ | ⟨hz, hz2, hz3⟩ | ⟨hz, hz2, hz3⟩
        all_goals
          subst hz
          try subst hz2
          try subst hz3
          go_enter Try.func24, Try.ntmps24
          go_wp2_with ((with_reducible refine load_lit aggSum (.tmp 33) ⟨ad.block, ad.off + 1, none⟩ (nums .u8 x.hash) ?_ ?_ ?_ ?_ ?_); rfl; rfl; (rw [nums_length]; exact HLN.out); exact HW.out.cH)
          go_ret
          exact ⟨ret_bool (by simp), Kept.alloc (Kept.refl _ _) _⟩
      · have e1 : (x.keys == [key]) = false := by
          cases hb : (x.keys == [key]) with
          | false => rfl
          | true => exact absurd (by rw [eq_of_beq hb]; rfl) hk
        have e2 : ((x.keys.length : Int) == 1) = false := by rw [beq_eq_false_iff_ne]; omega
        rw [e1]
        clear e1 hk HE
        go_enter Try.func24, Try.ntmps24
        go_wp2
        go_ret
        exact ⟨ret_bool (by simp), Kept.alloc (Kept.refl _ _) _⟩
  · have e1 : soleB xs key = false := by
      match xs, h1 with
      | [], _ => rfl
      | [_], h => exact absurd rfl h
      | _ :: _ :: _, _ => rfl
    have e2 : ((xs.length : Int) == 1) = false := by rw [beq_eq_false_iff_ne]; omega
    rw [e1]
    clear e1 h1
    go_enter Try.func24, Try.ntmps24
    go_wp2
    go_ret
    exact ⟨rfl, Kept.alloc (Kept.refl _ _) _⟩
end Go.Proofs.Ytcghjnegaiiieaa

/- The disk (layer 22): what is read, and the document's disk. -/
import Derived.Deep.DeepAppendWide
import Derived.Test.YtfblececmkimiaaDisk5
namespace Go.Proofs.Ytfblececmkimiaa
open Go.RowKit

/-- A row of bytes, or nil. -/
def BytesIn (w : World) (v : Value) (xs : List Int) : Prop := ∃ A c, v = .slice A xs.length c ∧ RdInts w .u8 A xs ∧ (A = none → xs = [])
theorem own_bytes {w : World} {base : Nat} {v : Value} {xs : List Int} (h : w.ownsRow base 5 1 v xs.length (nums .u8 xs)) : BytesIn w v xs := by
  obtain ⟨_, ⟨rfl, h0⟩ | ⟨r, c, cur, rfl, _, hh, _, _, _, h6⟩⟩ := h
  · have : xs = [] := List.eq_nil_of_length_eq_zero h0
    subst this
    exact ⟨none, 0, rfl, fun i hi => by simp at hi, fun _ => rfl⟩
  · refine ⟨some ⟨r, 0, none⟩, c, rfl, fun i hi => ⟨_, rfl, ?_⟩, fun e => by cases e⟩
    rw [plain_add, Nat.zero_add, blk_cell hh]
    have h7 : (cur.toList.take (xs.length * 1))[i]? = (nums .u8 xs)[i]? := by rw [h6]
    rw [List.getElem?_take, if_pos (by omega)] at h7
    rw [← Array.getElem?_toList, h7]
    simp [nums, List.getD_eq_getElem?_getD, hi]
theorem BytesIn.conv {w : World} {v : Value} {xs : List Int} (h : BytesIn w v xs) : (convert 55 9 v).run Try.prog w = .ok (.string (strOfNums xs)) w := by
  obtain ⟨A, c, rfl, h1, h2⟩ := h
  cases A with
  | none =>
    rw [h2 rfl, run_convert_bytes_nil w 55 5 Try.underlying55 Try.underlying5 _ c 9 Try.underlying9]
    rfl
  | some ad =>
    by_cases h0 : xs = []
    · subst h0
      rw [run_convert_bytes_string w 55 9 5 _ _ _ Try.underlying55 Try.underlying5 Try.underlying9]
      show (Conv.bytesToString (.slice (some ad) 0 c)).run Try.prog w = _
      rw [run_bytesToString w ad 0 c [] (by simpa using run_loadCells_list (P := Try.prog) w ad [] (by simp))]
      rfl
    · have hpos : 0 < xs.length := List.length_pos_iff.2 h0
      obtain ⟨ad', e, hc⟩ := h1 0 hpos
      obtain rfl : ad = ad' := Option.some.inj e
      have hc' : w.cell? ad = some (.int .u8 (xs.getD 0 0)) := hc
      obtain ⟨b, o, e2⟩ := addr_plain hc'
      rw [e2] at h1 ⊢
      exact conv_of h1
theorem BytesIn.kept {w w' : World} {v : Value} {xs : List Int} (h : BytesIn w v xs) (hk : Kept Nob w w') : BytesIn w' v xs := by
  obtain ⟨A, c, e, h1, h2⟩ := h
  exact ⟨A, c, e, h1.kept hk (fun _ _ h => h), h2⟩

theorem nums_one (k : IntKind) (xs : List Int) : ∀ u ∈ nums k xs, u.oneCell' = true := by simp [nums, Value.oneCell']

/-- What is read: its error, and its bytes. -/
def Disk.readE (D : Disk) (x y : Int) : Int := if fitsB D.b.length x y = false then 1 else if D.dead = true then 19 else 0
def Disk.readB (D : Disk) (x y : Int) : List Int := if D.readE x y = 0 then (D.b.drop (x.toNat * 64)).take (y.toNat * 64) else []

set_option maxRecDepth 100000 in
set_option maxHeartbeats 8000000 in
theorem read_any (g r : Nat) (D : Disk) (x y : Int) (w : World) (h : DiskAt w g r D) (hn : D.b.length ≤ 2097152) (hy : y ≤ 9223372036854775807) :
    Calls Try.prog 41 #[.pointer (some ⟨g, 0, none⟩), .int .i64 x, .int .i64 y] w fun e w' => ∃ v, e = .returned (.tuple #[v, .int .i64 (D.readE x y)]) ∧ BytesIn w' v (D.readB x y) ∧ Kept Nob w w' := by
  have HWI := hidden (within_any g r D x y w h hn hy)
  have c2 := (blk_cell h.blk 2).trans rfl
  have c0 := (blk_cell h.blk 0).trans rfl
  have H := hidden h
  have hnil : BytesIn w (.slice none 0 0) [] := ⟨none, 0, rfl, fun i hi => by simp at hi, fun _ => rfl⟩
  have HN := hidden hnil
  clear h hnil
  by_cases hf : fitsB D.b.length x y = false
  · have e1 : D.readE x y = 1 := by unfold Disk.readE; rw [if_pos hf]
    have e2 : D.readB x y = [] := by unfold Disk.readB; rw [e1]; rfl
    rw [e1, e2]
    rw [hf] at HWI
    clear hf e1 e2
    go_enter Try.func41, Try.ntmps41
    go_wp2_with (go_at_call 70; refine HWI.out.mono ?_; rintro e w1 ⟨rfl, rfl⟩)
    go_ret2
    exact ⟨_, rfl, HN.out, Kept.refl _ _⟩
  · have hf : fitsB D.b.length x y = true := by simpa using hf
    obtain ⟨q1, q2, q3⟩ := fits_iff.1 hf
    by_cases hd : D.dead = true
    · have e1 : D.readE x y = 19 := by unfold Disk.readE; rw [if_neg (by rw [hf]; simp), if_pos hd]
      have e2 : D.readB x y = [] := by unfold Disk.readB; rw [e1]; rfl
      rw [e1, e2]
      rw [hf] at HWI
      rw [hd] at c2
      clear hf e1 e2 hd
      go_enter Try.func41, Try.ntmps41
      go_wp2_with (go_at_call 70; refine HWI.out.mono ?_; rintro e w1 ⟨rfl, rfl⟩)
      go_ret2
      exact ⟨_, rfl, HN.out, Kept.refl _ _⟩
    · have hd : D.dead = false := by simpa using hd
      have e1 : D.readE x y = 0 := by unfold Disk.readE; rw [if_neg (by rw [hf]; simp), if_neg (by rw [hd]; simp)]
      have e2 : D.readB x y = (D.b.drop (x.toNat * 64)).take (y.toNat * 64) := by unfold Disk.readB; rw [if_pos e1]
      rw [e1, e2]
      rw [hf] at HWI
      rw [hd] at c2
      obtain ⟨p, rfl⟩ : ∃ p : Nat, x = p := ⟨x.toNat, by omega⟩
      obtain ⟨q, rfl⟩ : ∃ q : Nat, y = q := ⟨y.toNat, by omega⟩
      obtain ⟨lo, hlo⟩ : ∃ lo, lo = p * 64 := ⟨_, rfl⟩
      obtain ⟨s, hs⟩ : ∃ s, s = p + q := ⟨_, rfl⟩
      obtain ⟨hi, hhi⟩ : ∃ hi, hi = s * 64 := ⟨_, rfl⟩
      have b1 : lo ≤ hi := by omega
      have b2 : hi ≤ D.b.length := by omega
      have b3 : lo ≤ D.b.length := by omega
      have e3 : IntKind.i64.wrap ((p : Int) * 64) = (lo : Int) := by rw [IntWalk.i64_in _ (by omega)]; omega
      have e4 : IntKind.i64.wrap ((p : Int) + (q : Int)) = (s : Int) := by rw [IntWalk.i64_in _ (by omega)]; omega
      have e5 : IntKind.i64.wrap ((s : Int) * 64) = (hi : Int) := by rw [IntWalk.i64_in _ (by omega)]; omega
      have hb : (D.b.drop ((p : Int).toNat * 64)).take ((q : Int).toNat * 64) = (D.b.drop lo).take (hi - lo) := by
        rw [show (p : Int).toNat * 64 = lo from by omega, show (q : Int).toNat * 64 = hi - lo from by omega]
      rw [hb]
      obtain ⟨i0, hi0, hz0, hz1, hz2⟩ := info_parts Try.info5
      have HNO : Hid (w.ownsRow 0 5 1 (.slice none 0 0) 0 (nums .u8 [])) := hidden ⟨rfl, .inl ⟨rfl, rfl⟩⟩
      have hcl : ((D.b.drop lo).take (hi - lo)).length = hi - lo := by rw [List.length_take, List.length_drop]; omega
      have HCL := hidden hcl
      have HCELL : Hid (∀ j u, (nums .u8 ((D.b.drop lo).take (hi - lo)))[j]? = some u → w.cell? ⟨r, lo + j, none⟩ = some u) := hidden (fun j u hj => by
        obtain ⟨k1, rfl⟩ := nums_at _ _ _ _ hj
        rw [hcl] at k1
        rw [H.out.cell (lo + j) (by omega)]
        simp [List.getD_eq_getElem?_getD, List.getElem?_drop, k1])
      clear hf hd e1 e2 hb hlo hs hhi q1 q2 q3 hcl
      rcases Nat.lt_or_ge lo D.b.length with hlt | hge
      · have b4 : ¬ (D.b.length = lo) := by omega
        go_enter Try.func41, Try.ntmps41
        go_wp2_with (first
          | (go_at_call 70; refine HWI.out.mono ?_; rintro e w1 ⟨rfl, rfl⟩)
          | (at_builtin; (refine wpList_append_own_wide _ rfl (.const (.slice none 0 0)) (.tmp 33) 55 rfl 0 5 i0 (.int .u8 0) 1 1 Try.underlying55 hi0 hz0 hz1 hz2 rfl (by omega) (.slice none 0 0) 0 (nums .u8 []) rfl HNO.out ⟨r, lo, none⟩ (hi - lo) _ (nums .u8 ((D.b.drop lo).take (hi - lo))) rfl (by rw [nums_length, HCL.out, Nat.mul_one]) (fun j u hj => by rw [plain_add]; exact HCELL.out j u hj) (nums_one _ _) (by unfold maxLen; omega) (by omega) (Nat.zero_le _) ?_); intro v1 w1 hown1 hgrow hnil; rw [Nat.zero_add, ← nums_append, List.nil_append] at hown1; have HO := hidden hown1; have HG := hidden (Kept.grown (Kept.refl Nob w) hgrow (by simp [Value.ownBlock])); clear hown1 hgrow hnil))
        go_ret2
        refine ⟨_, rfl, own_bytes (base := 0) ?_, HG.out⟩
        rw [HCL.out]
        exact HO.out
      · have b4 : D.b.length = lo := by omega
        have b5 : hi = lo := by omega
        subst b5
        have e0 : (D.b.drop hi).take (hi - hi) = [] := by simp
        rw [e0]
        go_enter Try.func41, Try.ntmps41
        go_wp2_with (first
          | (go_at_call 70; refine HWI.out.mono ?_; rintro e w1 ⟨rfl, rfl⟩)
          | (at_builtin; (refine wpList_append_own_wide _ rfl (.const (.slice none 0 0)) (.tmp 33) 55 rfl 0 5 i0 (.int .u8 0) 1 1 Try.underlying55 hi0 hz0 hz1 hz2 rfl (by omega) (.slice none 0 0) 0 (nums .u8 []) rfl HNO.out ⟨r, 0, none⟩ (0) _ (nums .u8 []) rfl rfl (fun j u hj => by simp [nums] at hj) (nums_one _ _) (by unfold maxLen; omega) (by omega) (Nat.zero_le _) ?_); intro v1 w1 hown1 hgrow hnil; rw [Nat.zero_add, ← nums_append, List.nil_append] at hown1; have HO := hidden hown1; have HG := hidden (Kept.grown (Kept.refl Nob w) hgrow (by simp [Value.ownBlock])); clear hown1 hgrow hnil))
        go_ret2
        exact ⟨_, rfl, own_bytes (base := 0) HO.out, HG.out⟩

end Go.Proofs.Ytfblececmkimiaa

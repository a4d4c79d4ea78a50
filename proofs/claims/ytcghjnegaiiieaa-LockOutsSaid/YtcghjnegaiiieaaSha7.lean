/- SHA-256 as the program has it: the sum of parts. -/
import Derived.Test.YtcghjnegaiiieaaSha6
namespace Go.Proofs.Ytcghjnegaiiieaa
open Go.RowKit
def n4 (n : Int) : List Int := [n / 16777216 % 256, n / 65536 % 256, n / 256 % 256, n % 256]
/-- What is summed: a tag, and of each part how many bytes it has, and it. -/
def joinB (tag : Int) (ps : List (List Int)) : List Int := tag :: (ps.flatMap fun p => n4 p.length ++ p)
theorem joinB_take (tag : Int) (ps : List (List Int)) (k : Nat) (hk : k < ps.length) : joinB tag (ps.take (k + 1)) = joinB tag (ps.take k) ++ n4 (ps[k]).length ++ ps[k] := by
  unfold joinB
  rw [List.take_succ_eq_append_getElem hk, List.flatMap_append]
  simp
theorem joinB_len (tag : Int) (ps : List (List Int)) (k : Nat) : (joinB tag (ps.take k)).length ≤ (joinB tag ps).length := by
  unfold joinB
  have e := congrArg (fun l => (l.flatMap fun p : List Int => n4 p.length ++ p).length) (List.take_append_drop k ps)
  simp only [List.flatMap_append, List.length_append] at e
  simp only [List.length_cons]
  omega
theorem byte_wf {x : Int} (h : 0 ≤ x ∧ x ≤ 255) : (Lit.int .u8 x).wf = true := by simp [Lit.wf, IntKind.min, IntKind.max, IntKind.signed, IntKind.bits]; omega
theorem joinB_wf (tag : Int) (ps : List (List Int)) (ht : (Lit.int .u8 tag).wf = true) (h : ∀ p ∈ ps, ∀ x ∈ p, (Lit.int .u8 x).wf = true) : ∀ x ∈ joinB tag ps, (Lit.int .u8 x).wf = true := fun x hx => by
  unfold joinB at hx
  simp only [List.mem_cons, List.mem_flatMap, List.mem_append, n4, List.not_mem_nil, or_false] at hx
  rcases hx with rfl | ⟨p, hp, (rfl | rfl | rfl | rfl) | hx⟩
  · exact ht
  · exact byte_wf ⟨by omega, by omega⟩
  · exact byte_wf ⟨by omega, by omega⟩
  · exact byte_wf ⟨by omega, by omega⟩
  · exact byte_wf ⟨by omega, by omega⟩
  · exact h p hp x hx
/-- The sum of parts. -/
noncomputable def joinF (tag : Int) (ps : List (List Int)) : List Int := ofF (joinB tag ps)
theorem joinF_len (tag : Int) (ps : List (List Int)) : (joinF tag ps).length = 32 := ofF_len _
theorem joinF_wf (tag : Int) (ps : List (List Int)) : ∀ x ∈ joinF tag ps, (Lit.int .u8 x).wf = true := ofF_wf _
theorem rd_four {w : World} (a b c d : Int) (e : TypeId) : RdInts (w.alloc (.cells #[.int .u8 a, .int .u8 b, .int .u8 c, .int .u8 d] e)) .u8 (some ⟨w.heap.size, 0, none⟩) [a, b, c, d] := fun i hi => by
  refine ⟨_, rfl, ?_⟩
  have ea : (⟨w.heap.size, 0, none⟩ : Addr).add i = ⟨w.heap.size, i, none⟩ := by
    unfold Addr.add
    split <;> simp_all
  rw [ea, blk_cell (heap_alloc_new w _)]
  match i, hi with
  | 0, _ => rfl
  | 1, _ => rfl
  | 2, _ => rfl
  | 3, _ => rfl
abbrev RBs : Rl (List Int) := RSl (RInt .u8) 1
/-- A part, where it lies. -/
theorem parts_at {w : World} {F : Nat → Prop} {A : Option Addr} {ps : List (List Int)} (h : Elems RBs 1 w F A ps) (i : Nat) (hi : i < ps.length) :
    ∃ ad B d, A = some ad ∧ w.cell? (ad.add i) = some (.slice B ps[i].length d) ∧ Ints w F .u8 B d ps[i] := by
  obtain ⟨ad, e, _, es, _, hc, hr⟩ := h i hi
  obtain ⟨B, d, he, hi'⟩ := RSl.ints hr
  refine ⟨ad, B, d, e, ?_, hi'⟩
  have := hc 0 (.slice B ps[i].length d) (by rw [he]; rfl)
  rwa [Nat.mul_one, show (ad.add i).add 0 = ad.add i from rfl] at this
set_option maxRecDepth 100000 in
set_option maxHeartbeats 8000000 in
theorem join_any (tag : Int) (A : Option Addr) (c : Nat) (ps : List (List Int)) (F : Nat → Prop) (w : World) (h : Elems RBs 1 w F A ps) (hF : ∀ b, F b → b < w.heap.size) (ht : (Lit.int .u8 tag).wf = true) (hn : (joinB tag ps).length ≤ 100000000) (hp : ps.length ≤ 1000000) :
    Calls Try.prog 19 #[.int .u8 tag, .slice A ps.length c] w fun e w' => e = .returned (.agg (nums .u8 (joinF tag ps)).toArray) ∧ Kept Nob w w' := by
  have HE := hidden h
  have HF := hidden hF
  have HT := hidden ht
  have HN := hidden hn
  obtain ⟨n, hpn⟩ : ∃ n, ps.length = n := ⟨_, rfl⟩
  rw [hpn] at hp ⊢
  have HPN := hidden hpn
  clear h hF ht hn hpn
  go_enter Try.func19, Try.ntmps19
  go_wp2
  obtain ⟨W, hW⟩ : ∃ W, (w.alloc (.cells #[.int .u8 0, .int .u8 0, .int .u8 0, .int .u8 0, .int .u8 0, .int .u8 0, .int .u8 0, .int .u8 0, .int .u8 0, .int .u8 0, .int .u8 0, .int .u8 0, .int .u8 0, .int .u8 0, .int .u8 0, .int .u8 0, .int .u8 0, .int .u8 0, .int .u8 0, .int .u8 0, .int .u8 0, .int .u8 0, .int .u8 0, .int .u8 0, .int .u8 0, .int .u8 0, .int .u8 0, .int .u8 0, .int .u8 0, .int .u8 0, .int .u8 0, .int .u8 0] 24)).alloc (.cells #[.int .u8 tag] 5) = W := ⟨_, rfl⟩
  have HR : Hid (∃ cs, W.heap[w.heap.size]? = some (.cells cs 24 (0, 0)) ∧ cs.size = 32) := hidden ⟨_, by rw [← hW]; exact blk_alloc (heap_alloc_new _ _) _, rfl⟩
  have HO : Hid (OwnB W (w.heap.size + 1) (.slice (some ⟨w.heap.size + 1, 0, none⟩) 1 1) [tag]) := hidden (OwnB.lit (xs := [tag]) (by rw [← hW]; exact blk_new_at (by simp)) (Nat.le_refl _) (by simp [maxLen]))
  have HK : Hid (Kept Nob w W) := hidden (by rw [← hW]; exact (by repeat (first | exact Kept.refl _ _ | apply Kept.alloc | apply Kept.drewN | apply Kept.drew)))
  have HSZ : Hid (w.heap.size + 1 ≤ W.heap.size) := hidden (by rw [← hW]; simp)
  rw [hW]
  clear hW
  go_loopw [5, 7, 8, 13] (fun v _ _ i wr => ∃ k : Nat, k ≤ n ∧ i = .int .i64 k ∧ OwnB wr (w.heap.size + 1) v (joinB tag (ps.take k)) ∧ Kept (fun b => w.heap.size + 1 ≤ b) W wr) (fun _ _ _ i _ => n - (intOf i).toNat)
  case atStart => exact ⟨0, by omega, rfl, HO.out, Kept.refl _ _⟩
  case round =>
    obtain ⟨k, hk, rfl, ho, hks⟩ := hrel
    have HO := hidden ho
    have HKS := hidden hks
    obtain ⟨A5, c5, hv, _⟩ := ho.slice
    obtain ⟨l, hl⟩ : ∃ l, (joinB tag (ps.take k)).length = l := ⟨_, rfl⟩
    rw [hl] at hv
    subst hv
    have HL := hidden hl
    have hlb : l ≤ 100000000 := by have := joinB_len tag ps k; have := HN.out; omega
    clear ho hks hl
    by_cases hlt : k < n
    · obtain ⟨ad, B, d, rfl, c0, hi⟩ := parts_at (HE.out.keep (RSl.good (RInt.good _)) (Kept.then HK.out HKS.out (fun b hb h => by omega)) (fun _ _ h => h)) k (by rw [HPN.out]; exact hlt)
      have HTK := hidden (joinB_take tag ps k (by rw [HPN.out]; exact hlt))
      have HLB := hidden (joinB_len tag ps (k + 1))
      obtain ⟨p, hpp⟩ : ∃ p, ps[k]'(by rw [HPN.out]; exact hlt) = p := ⟨_, rfl⟩
      rw [hpp] at c0 hi HTK
      have HI := hidden hi
      obtain ⟨m, hm⟩ : ∃ m, p.length = m := ⟨_, rfl⟩
      have hmb : m ≤ 100000000 := by
        have h1 := HLB.out
        have h2 := HN.out
        rw [HTK.out] at h1
        simp at h1
        omega
      rw [hm] at c0
      have HM := hidden hm
      have HN4 : Hid (n4 m = [(m : Int) / 16777216, (m : Int) / 65536 % 256, (m : Int) / 256 % 256, (m : Int) % 256]) := hidden (by unfold n4; rw [show (m : Int) / 16777216 % 256 = (m : Int) / 16777216 from by omega])
      clear hi hpp hm
      go_wp2_with (first
        | (at_builtin; refine OwnB.app rfl (.tmp 19) (.tmp 31) rfl (w.heap.size + 1) _ (joinB tag (ps.take k)) (by rw [← HL.out]; rfl) (OwnB.keep HO.out (by repeat (first | exact Kept.refl _ _ | apply Kept.alloc | apply Kept.drewN | apply Kept.drew)) (fun _ _ h => h)) _ 4 [(m : Int) / 16777216, (m : Int) / 65536 % 256, (m : Int) / 256 % 256, (m : Int) % 256] rfl (rd_four _ _ _ _ _) (fun e => by cases e) (by rw [HL.out]; simp; omega) (by have := HKS.out.size; have := HSZ.out; simp; omega) ?_; intro v1 w1 ho1 hk1; rw [← HN4.out] at ho1; have HO1 := hidden ho1; have HK1 := hidden hk1; clear ho1 hk1)
        | (at_builtin; refine OwnB.app rfl (.tmp 33) (.tmp 34) rfl (w.heap.size + 1) _ (joinB tag (ps.take k) ++ n4 m) rfl HO1.out B d p (by rw [HM.out]; rfl) (HI.out.keep (Kept.trans (Kept.alloc (Kept.refl _ wr) _) HK1.out) (fun b hb h => by have := HF.out b hb; omega)).rd (fun e => (HI.out.nil e).1) (by rw [List.length_append, HL.out, HM.out]; simp [n4]; omega) (by have := HK1.out.size; have := HKS.out.size; have := HSZ.out; simp at *; omega) ?_; intro v2 w2 ho2 hk2; have HO2 := hidden ho2; have HK2 := hidden hk2; clear ho2 hk2))
      go_roundw
      case rel => exact ⟨k + 1, by omega, by go_num, by rw [HTK.out, HM.out]; exact HO2.out, HKS.out.trans ((Kept.trans (Kept.alloc (Kept.refl _ wr) _) HK1.out).trans HK2.out)⟩
      case measure => simp [intOf]; omega
    · have HOF : Hid (Calls Try.prog 80 #[.slice A5 l c5] wr fun e w' => e = .returned (.agg (nums .u8 (joinF tag ps)).toArray) ∧ Kept Nob wr w') := hidden (by
        have hkn : k = n := by omega
        have ho := HO.out
        have hl := HL.out
        rw [List.take_of_length_le (by rw [HPN.out]; omega)] at ho hl
        have hps : ∀ p ∈ ps, ∀ x ∈ p, (Lit.int .u8 x).wf = true := fun p hp x hx => by
          obtain ⟨i, hi, rfl⟩ := List.getElem_of_mem hp
          obtain ⟨_, _, _, _, _, h⟩ := parts_at HE.out i hi
          exact h.wf x hx
        obtain ⟨A6, c6, e, _, hr, hnil⟩ := ho.slice
        rw [hl] at e
        cases e
        have := of_any A5 c5 (joinB tag ps) wr hr hnil (joinB_wf tag ps HT.out hps) HN.out
        rw [hl] at this
        exact this)
      have HFL := hidden (joinF_len tag ps)
      obtain ⟨cs, hcs, hc32⟩ := HR.out
      have HRR : Hid (wr.heap[w.heap.size]? = some (.cells cs 24 (0, 0))) := hidden (HKS.out.blk hcs (fun h => by omega))
      have HC := hidden hc32
      clear hcs hc32 HO HL
      go_wp2_with (first
        | (go_at_call 80; refine HOF.out.mono ?_; rintro e w3 ⟨rfl, hk3⟩; have HK3 := hidden hk3; clear hk3; dsimp only)
        | ((with_reducible refine store_litT agg32 (.tmp 4) (.tmp 38) w.heap.size (nums .u8 (joinF tag ps)) 24 ?_ ?_ ?_ ?_ ?_ ?_ ?_); rfl; rfl; rfl; exact (nums_length _ _).trans HFL.out; exact nums_oneC _ _; exact ⟨_, HK3.out.blk HRR.out (fun h => h), HC.out⟩; intro w9 hb9 hk9; have HB9 := hidden hb9; have HK9 := hidden hk9; clear hb9 hk9))
      refine bodyPost_ret (results_cell_row rfl _ _ w.heap.size _ _ _ _ rfl HB9.out Try.underlying24 rfl (by rw [show (nums IntKind.u8 (joinF tag ps)).toArray.size = 32 by simp [nums_length, HFL.out]]; kernel_rfl)) rfl ⟨rfl, ?_⟩
      exact Kept.then ((Kept.then HK.out HKS.out (fun b hb h => by omega)).trans HK3.out) HK9.out (fun b hb h => by omega)
/-- One part in a block of its own. -/
theorem parts_one {w : World} {F : Nat → Prop} {g : Nat} {t : TypeId} {fr : Nat × Nat} {A : Option Addr} {c : Nat} {xs : List Int} (h : w.heap[g]? = some (.cells #[.slice A xs.length c] t fr)) (hF : F g) (hi : Ints w F .u8 A c xs) : Elems RBs 1 w F (some ⟨g, 0, none⟩) [xs] := fun i hl => by
  have h0 : i = 0 := by simpa using hl
  subst h0
  refine ⟨⟨g, 0, none⟩, rfl, hF, [.slice A xs.length c], rfl, fun j u hj => ?_, hi.sl⟩
  have ea : ((⟨g, 0, none⟩ : Addr).add (0 * 1)).add j = ⟨g, j, none⟩ := by unfold Addr.add; split <;> simp_all
  rw [ea, blk_cell h]
  simpa using hj
/-- What a text is summed to, where it has to be shown. -/
noncomputable def hashF (xs : List Int) : List Int := joinF 31 [xs]
theorem hashF_len (xs : List Int) : (hashF xs).length = 32 := joinF_len _ _
set_option maxRecDepth 100000 in
set_option maxHeartbeats 8000000 in
theorem hash_any (A : Option Addr) (c : Nat) (xs : List Int) (F : Nat → Prop) (w : World) (h : Ints w F .u8 A c xs) (hF : ∀ b, F b → b < w.heap.size) (hn : xs.length ≤ 10000000) :
    Calls Try.prog 21 #[.slice A xs.length c] w fun e w' => e = .returned (.agg (nums .u8 (hashF xs)).toArray) ∧ Kept Nob w w' := by
  have HI := hidden h
  have HF := hidden hF
  have HN := hidden hn
  have HFL := hidden (hashF_len xs)
  clear h hF hn
  go_enter Try.func21, Try.ntmps21
  go_wp2_with (first
    | (go_at_call 19; refine (join_any 31 (some ⟨w.heap.size + 1, 0, none⟩) 1 [xs] (fun b => b < w.heap.size + 2) _ (parts_one (blk_new_at (by simp)) (by omega) ((HI.out.keep (S := Nob) (by repeat (first | exact Kept.refl _ _ | apply Kept.alloc | apply Kept.drewN | apply Kept.drew)) (fun _ _ h => h)).mono (fun b hb => by have := HF.out b hb; omega))) (fun b hb => by simp; omega) (by decide) (by have := HN.out; simp [joinB, n4]; omega) (by simp)).mono ?_; rintro e w3 ⟨rfl, hk3⟩; have HK3 := hidden hk3; clear hk3; dsimp only)
    | ((with_reducible refine store_litT agg32 (.tmp 2) (.tmp 5) w.heap.size (nums .u8 (hashF xs)) 24 ?_ ?_ ?_ ?_ ?_ ?_ ?_); rfl; rfl; rfl; exact (nums_length _ _).trans HFL.out; exact nums_oneC _ _; exact ⟨_, HK3.out.blk (blk_alloc (heap_alloc_new _ _) _) (fun h => h), rfl⟩; intro w9 hb9 hk9; have HB9 := hidden hb9; have HK9 := hidden hk9; clear hb9 hk9))
  refine bodyPost_ret (results_cell_row rfl _ _ w.heap.size _ _ _ _ rfl HB9.out Try.underlying24 rfl (by rw [show (nums IntKind.u8 (hashF xs)).toArray.size = 32 by simp [nums_length, HFL.out]]; kernel_rfl)) rfl ⟨rfl, ?_⟩
  exact Kept.then ((Kept.alloc (Kept.alloc (Kept.refl Nob w) _) _).trans HK3.out) HK9.out (fun b hb h => by omega)
end Go.Proofs.Ytcghjnegaiiieaa

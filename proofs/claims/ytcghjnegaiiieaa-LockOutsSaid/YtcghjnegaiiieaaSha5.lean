/- SHA-256 as the program has it: the sum of bytes. -/
import Derived.Test.YtcghjnegaiiieaaSha4
namespace Go.Proofs.Ytcghjnegaiiieaa
open Go.RowKit
theorem blkF_ex : ∃ f : List Int → List Int → List Int, f = fun hs xs => addF hs (vF hs roundsL (spF xs 64) 64) 8 := ⟨_, rfl⟩
/-- What a block makes of a state. (Behind a choice, so that nothing reckons it.) -/
noncomputable def blkF : List Int → List Int → List Int := Classical.choose blkF_ex
theorem blkF_eq (hs xs : List Int) : blkF hs xs = addF hs (vF hs roundsL (spF xs 64) 64) 8 := congrFun (congrFun (Classical.choose_spec blkF_ex) hs) xs
theorem blkF_ok (hs xs : List Int) (hl : hs.length = 8) (hu : ∀ x ∈ hs, U32 x) : (blkF hs xs).length = 8 ∧ ∀ x ∈ blkF hs xs, U32 x := by
  rw [blkF_eq]
  exact addF_ok _ _ hl hu 8
theorem block_any (H Kb : Nat) (A : Option Addr) (c : Nat) (hs xs : List Int) (F : Nat → Prop) (w : World) (hH : w.heap[H]? = some (.cells (nums .u32 hs).toArray 183 (0, 0))) (hKb : w.heap[Kb]? = some (.cells (nums .u32 roundsL).toArray 185 (0, 0)))
    (h : Ints w F .u8 A c xs) (hF : ∀ b, F b → b < w.heap.size) (hl : xs.length = 64) (hlh : hs.length = 8) (hus : ∀ x ∈ hs, U32 x) :
    Calls Try.prog 123 #[.pointer (some ⟨H, 0, none⟩), .slice A 64 c, .pointer (some ⟨Kb, 0, none⟩)] w fun e w' => e = .returned (.tuple #[]) ∧ w'.heap[H]? = some (.cells (nums .u32 (blkF hs xs)).toArray 183 (0, 0)) ∧ Kept (fun b => b = H) w w' := by
  have h1 := spread_any A c xs F w h hF hl
  have h2 := (spF_ok xs 64).1
  have h3 := (spF_ok xs 64).2
  have h4 := blkF_eq hs xs
  generalize spF xs 64 = ss at h1 h2 h3 h4
  refine (block_gen H Kb A c hs roundsL ss w hH hKb (hidden h1) h2 (hidden h3) hlh rfl hus roundsL_u).mono ?_
  rintro e w' ⟨he, ⟨n, m, hn, hm, hb⟩, hk⟩
  refine ⟨he, ?_, hk⟩
  rw [h4, ← hn, ← hm]
  exact hb
theorem padF_len (xs : List Int) : ∃ N, (padF xs).length = 64 * N := by
  refine ⟨(padF xs).length / 64, ?_⟩
  unfold padF lenB
  simp
  omega
theorem padF_wf (xs : List Int) (h : ∀ x ∈ xs, (Lit.int .u8 x).wf = true) : ∀ x ∈ padF xs, (Lit.int .u8 x).wf = true := fun x hx => by
  have key : 0 ≤ x ∧ x ≤ 255 → (Lit.int .u8 x).wf = true := fun h => by simp [Lit.wf, IntKind.min, IntKind.max, IntKind.signed, IntKind.bits]; omega
  unfold padF lenB at hx
  simp only [List.mem_append, List.mem_replicate, List.mem_map, List.mem_cons, List.not_mem_nil, or_false] at hx
  rcases hx with ((hx | rfl) | ⟨_, rfl⟩) | ⟨t, _, rfl⟩
  · exact h x hx
  · exact key (by omega)
  · exact key (by omega)
  · exact key ⟨by omega, by omega⟩
/-- The states behind so many blocks of some bytes. -/
noncomputable def hF (ps : List Int) : Nat → List Int
  | 0 => firstL
  | k + 1 => blkF (hF ps k) ((ps.drop (64 * k)).take 64)
theorem hF_ok (ps : List Int) (k : Nat) : (hF ps k).length = 8 ∧ ∀ x ∈ hF ps k, U32 x := by
  induction k with
  | zero => exact ⟨rfl, firstL_u⟩
  | succ k ih => exact blkF_ok _ _ ih.1 ih.2
theorem rd_drop {w : World} {k : IntKind} {ad : Addr} {xs : List Int} (h : RdInts w k (some ad) xs) (n : Nat) : RdInts w k (some (ad.add n)) (xs.drop n) := fun i hi => by
  simp at hi
  obtain ⟨ad', e, hc⟩ := h (n + i) (by omega)
  cases e
  refine ⟨_, rfl, ?_⟩
  have ea : (ad.add n).add i = ad.add (n + i) := by
    unfold Addr.add
    by_cases h1 : n = 0 <;> by_cases h2 : i = 0 <;> simp_all [Nat.add_assoc]
  rw [ea, hc]
  simp [List.getD_eq_getElem?_getD]
def outF (hs : List Int) : Nat → List Int
  | 0 => List.replicate 32 0
  | k + 1 => ((((outF hs k).set (4 * k) (hs.getD k 0 / 16777216 % 256)).set (4 * k + 1) (hs.getD k 0 / 65536 % 256)).set (4 * k + 2) (hs.getD k 0 / 256 % 256)).set (4 * k + 3) (hs.getD k 0 % 256)
theorem outF_len (hs : List Int) (k : Nat) : (outF hs k).length = 32 := by
  induction k with
  | zero => simp [outF]
  | succ k ih => simp [outF, ih]
theorem outF_wf (hs : List Int) (k : Nat) : ∀ x ∈ outF hs k, (Lit.int .u8 x).wf = true := by
  have key : ∀ x : Int, 0 ≤ x ∧ x ≤ 255 → (Lit.int .u8 x).wf = true := fun x h => by simp [Lit.wf, IntKind.min, IntKind.max, IntKind.signed, IntKind.bits]; omega
  induction k with
  | zero => exact fun x hx => by simp [outF] at hx; exact key x (by omega)
  | succ k ih =>
    intro x hx
    unfold outF at hx
    rcases List.mem_or_eq_of_mem_set hx with hx | rfl
    · rcases List.mem_or_eq_of_mem_set hx with hx | rfl
      · rcases List.mem_or_eq_of_mem_set hx with hx | rfl
        · rcases List.mem_or_eq_of_mem_set hx with hx | rfl
          · exact ih x hx
          · exact key _ ⟨by omega, by omega⟩
        · exact key _ ⟨by omega, by omega⟩
      · exact key _ ⟨by omega, by omega⟩
    · exact key _ ⟨by omega, by omega⟩
theorem ofF_ex : ∃ f : List Int → List Int, f = fun xs => outF (hF (padF xs) ((padF xs).length / 64)) 8 := ⟨_, rfl⟩
/-- The sum of bytes. -/
noncomputable def ofF : List Int → List Int := Classical.choose ofF_ex
theorem ofF_eq (xs : List Int) : ofF xs = outF (hF (padF xs) ((padF xs).length / 64)) 8 := congrFun (Classical.choose_spec ofF_ex) xs
theorem ofF_len (xs : List Int) : (ofF xs).length = 32 := by rw [ofF_eq]; exact outF_len _ _
theorem ofF_wf (xs : List Int) : ∀ x ∈ ofF xs, (Lit.int .u8 x).wf = true := by rw [ofF_eq]; exact outF_wf _ _
theorem agg32 : AggT Try.prog 24 32 := ⟨⟨_, Try.underlying24, rfl⟩, by kernel_rfl⟩
end Go.Proofs.Ytcghjnegaiiieaa

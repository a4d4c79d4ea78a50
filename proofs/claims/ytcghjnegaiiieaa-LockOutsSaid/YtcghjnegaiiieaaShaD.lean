/- SHA-256 as the program has it: what each function hands over, as a function of what it is handed. -/
import Derived.Test.YtcghjnegaiiieaaCalm3
import Derived.Test.YtcghjnegaiiieaaDat
import Derived.Test.YtcghjnegaiiieaaRows
import Derived.Outline
namespace Go.Proofs.Ytcghjnegaiiieaa
open Go.RowKit
set_option maxRecDepth 100000 in
set_option maxHeartbeats 4000000 in
theorem rot_gen (x k s : Int) (w : World) (h0 : 0 ≤ x) (h1 : x ≤ 4294967295) (hs : bits BinOp.and IntKind.u64 (IntKind.u64.wrap k) 31 = s) (s0 : 0 ≤ s) (s1 : s ≤ 31) :
    Calls Try.prog 140 #[.int .u32 x, .int .i64 k] w fun e w' => e = .returned (.int .u32 (bits BinOp.or IntKind.u32 (x * 2 ^ s.toNat % 4294967296) (x / 2 ^ (32 - s).toNat))) ∧ w = w' := by
  have ns : ¬ (s < 0) := by omega
  have ns' : ¬ (32 - s < 0) := by omega
  go_enter Try.func140, Try.ntmps140
  go_wp2
  go_ret
  exact ⟨rfl, rfl⟩
def rotF (x : Int) (s : Nat) : Int := bits BinOp.or IntKind.u32 (x * 2 ^ s % 4294967296) (x / 2 ^ (32 - s))
theorem rotF_ge (x : Int) (s : Nat) : 0 ≤ rotF x s ∧ rotF x s ≤ 4294967295 := by
  have := wf_bits .or .u32 (x * 2 ^ s % 4294967296) (x / 2 ^ (32 - s))
  simp [Lit.wf, IntKind.min, IntKind.max, IntKind.signed, IntKind.bits] at this
  unfold rotF; omega
/-- A word that is turned, by as many places as the function's second argument says. -/
theorem rot_any (x k : Int) (s : Nat) (w : World) (h0 : 0 ≤ x) (h1 : x ≤ 4294967295) (hs : bits BinOp.and IntKind.u64 (IntKind.u64.wrap k) 31 = s) (s1 : s ≤ 31) :
    Calls Try.prog 140 #[.int .u32 x, .int .i64 k] w fun e w' => e = .returned (.int .u32 (rotF x s)) ∧ w = w' :=
  (rot_gen x k s w h0 h1 hs (by omega) (by omega)).mono fun e w' ⟨h, hw⟩ => ⟨by
    rw [h]; unfold rotF
    rw [show ((s : Int)).toNat = s from by simp, show ((32 : Int) - s).toNat = 32 - s from by omega], hw⟩
theorem row_at {w : World} {g : Nat} {t : TypeId} {fr : Nat × Nat} {k : IntKind} {xs : List Int} (h : w.heap[g]? = some (.cells (nums k xs).toArray t fr)) {i : Nat} (hi : i < xs.length) : w.cell? ⟨g, i, none⟩ = some (.int k (xs.getD i 0)) := by
  rw [blk_cell h]
  simp [nums, hi, List.getD_eq_getElem?_getD]
theorem row_set {w : World} {g : Nat} {t : TypeId} {k : IntKind} {xs : List Int} (h : w.heap[g]? = some (.cells (nums k xs).toArray t (0, 0))) (i : Nat) (x : Int) : (w.setCell ⟨g, i, none⟩ (.int k x)).heap[g]? = some (.cells (nums k (xs.set i x)).toArray t (0, 0)) := by
  rw [blk_set h, ← nums_set]
  simp
theorem add_off (ad : Addr) (p : Nat) (hp : 0 < p) : ad.add p = ⟨ad.block, ad.off + p, none⟩ := by
  unfold Addr.add
  rw [if_neg (by omega)]
def U32 (x : Int) : Prop := 0 ≤ x ∧ x ≤ 4294967295
theorem u32_bits (op : BinOp) (x y : Int) : U32 (bits op .u32 x y) := by
  have := wf_bits op .u32 x y
  simp [Lit.wf, IntKind.min, IntKind.max, IntKind.signed, IntKind.bits] at this
  unfold U32; omega
theorem u32_mod (x : Int) : U32 (x % 4294967296) := ⟨by omega, by omega⟩
theorem u32_getD {ws : List Int} (h : ∀ x ∈ ws, U32 x) (k : Nat) : 0 ≤ ws.getD k 0 ∧ ws.getD k 0 ≤ 4294967295 := by
  rw [List.getD_eq_getElem?_getD]
  cases hk : ws[k]? with
  | none => simp
  | some x => exact h x (List.mem_of_getElem? hk)
theorem u32_set {ws : List Int} (h : ∀ x ∈ ws, U32 x) (k : Nat) {y : Int} (hy : U32 y) : ∀ x ∈ ws.set k y, U32 x := fun x hx => by
  rcases List.mem_or_eq_of_mem_set hx with h1 | h1
  · exact h x h1
  · rw [h1]; exact hy
theorem u32_wf {ws : List Int} (h : ∀ x ∈ ws, U32 x) : ∀ x ∈ ws, (Lit.int .u32 x).wf = true := fun x hx => by
  have := h x hx
  unfold U32 at this
  simp [Lit.wf, IntKind.min, IntKind.max, IntKind.signed, IntKind.bits]; omega
theorem byte_getD {xs : List Int} (h : ∀ x ∈ xs, (Lit.int .u8 x).wf = true) (k : Nat) : 0 ≤ xs.getD k 0 ∧ xs.getD k 0 ≤ 255 := by
  rw [List.getD_eq_getElem?_getD]
  cases hk : xs[k]? with
  | none => simp
  | some x => exact wf_byte (h x (List.mem_of_getElem? hk))
def wordF (xs : List Int) (k : Nat) : Int :=
  bits .or .u32 (bits .or .u32 (bits .or .u32 (xs.getD (4 * k) 0 * 16777216) (xs.getD (4 * k + 1) 0 * 65536)) (xs.getD (4 * k + 2) 0 * 256)) (xs.getD (4 * k + 3) 0)
def nxtF (ws : List Int) (i : Nat) : Int :=
  (ws.getD (i - 16) 0 + bits .xor .u32 (bits .xor .u32 (rotF (ws.getD (i - 15) 0) 25) (rotF (ws.getD (i - 15) 0) 14)) (ws.getD (i - 15) 0 / 8) + ws.getD (i - 7) 0
    + bits .xor .u32 (bits .xor .u32 (rotF (ws.getD (i - 2) 0) 15) (rotF (ws.getD (i - 2) 0) 13)) (ws.getD (i - 2) 0 / 1024)) % 4294967296
/-- The words of a block, the first so many of them reckoned. -/
def spF (xs : List Int) : Nat → List Int
  | 0 => List.replicate 64 0
  | k + 1 => (spF xs k).set k (if k < 16 then wordF xs k else nxtF (spF xs k) k)
theorem spF_ok (xs : List Int) : ∀ k, (spF xs k).length = 64 ∧ ∀ x ∈ spF xs k, U32 x
  | 0 => ⟨by simp [spF], fun x hx => by simp [spF] at hx; rw [hx]; exact ⟨by omega, by omega⟩⟩
  | k + 1 => ⟨by simp [spF, (spF_ok xs k).1], by
      unfold spF
      refine u32_set (spF_ok xs k).2 k ?_
      split
      · exact u32_bits _ _ _
      · exact u32_mod _⟩
theorem agg64 : AggT Try.prog 185 64 := ⟨⟨_, Try.underlying185, rfl⟩, by kernel_rfl⟩
end Go.Proofs.Ytcghjnegaiiieaa

/- SHA-256 as the program has it: the constants; rows of bytes that grow. -/
import Derived.Test.YtcghjnegaiiieaaSha2
namespace Go.Proofs.Ytcghjnegaiiieaa
open Go.RowKit
def firstL : List Int := [1779033703, 3144134277, 1013904242, 2773480762, 1359893119, 2600822924, 528734635, 1541459225]
def roundsL : List Int := [1116352408, 1899447441, 3049323471, 3921009573, 961987163, 1508970993, 2453635748, 2870763221, 3624381080, 310598401, 607225278, 1426881987, 1925078388, 2162078206, 2614888103, 3248222580, 3835390401, 4022224774, 264347078, 604807628, 770255983, 1249150122, 1555081692, 1996064986, 2554220882, 2821834349, 2952996808, 3210313671, 3336571891, 3584528711, 113926993, 338241895, 666307205, 773529912, 1294757372, 1396182291, 1695183700, 1986661051, 2177026350, 2456956037, 2730485921, 2820302411, 3259730800, 3345764771, 3516065817, 3600352804, 4094571909, 275423344, 430227734, 506948616, 659060556, 883997877, 958139571, 1322822218, 1537002063, 1747873779, 1955562222, 2024104815, 2227730452, 2361852424, 2428436474, 2756734187, 3204031479, 3329325298]
set_option maxRecDepth 100000 in
set_option maxHeartbeats 4000000 in
theorem first_any (w : World) : Calls Try.prog 120 #[] w fun e w' => e = .returned (.agg (nums .u32 firstL).toArray) ∧ Kept Nob w w' := by
  go_enter Try.func120, Try.ntmps120
  go_wp2_with ((with_reducible refine store_lit agg8 (.tmp 0) (.tmp 1) w.heap.size (nums .u32 firstL) ?_ ?_ ?_ ?_ ?_ ?_ ?_); rfl; rfl; rfl; rfl; exact nums_oneC _ _; exact ⟨_, _, heap_alloc_new _ _, rfl⟩; intro w2 hb2 hk2; have HB2 := hidden hb2; have HK2 := hidden hk2; clear hb2 hk2)
  obtain ⟨t9, hb9⟩ := HB2.out
  exact bodyPost_ret (results_cell_row rfl _ _ w.heap.size _ _ _ _ rfl hb9 Try.underlying183 rfl (by kernel_rfl)) rfl ⟨rfl, Kept.then (Kept.alloc (Kept.refl Nob w) _) HK2.out (fun b hb h => by omega)⟩
set_option maxRecDepth 100000 in
set_option maxHeartbeats 4000000 in
theorem rounds_any (w : World) : Calls Try.prog 121 #[] w fun e w' => e = .returned (.agg (nums .u32 roundsL).toArray) ∧ Kept Nob w w' := by
  go_enter Try.func121, Try.ntmps121
  go_wp2_with ((with_reducible refine store_lit agg64 (.tmp 0) (.tmp 1) w.heap.size (nums .u32 roundsL) ?_ ?_ ?_ ?_ ?_ ?_ ?_); rfl; rfl; rfl; rfl; exact nums_oneC _ _; exact ⟨_, _, heap_alloc_new _ _, rfl⟩; intro w2 hb2 hk2; have HB2 := hidden hb2; have HK2 := hidden hk2; clear hb2 hk2)
  obtain ⟨t9, hb9⟩ := HB2.out
  exact bodyPost_ret (results_cell_row rfl _ _ w.heap.size _ _ _ _ rfl hb9 Try.underlying185 rfl (by kernel_rfl)) rfl ⟨rfl, Kept.then (Kept.alloc (Kept.refl Nob w) _) HK2.out (fun b hb h => by omega)⟩
theorem u32_all {l : List Int} (h : l.all (fun x => decide (0 ≤ x) && decide (x ≤ 4294967295)) = true) : ∀ x ∈ l, U32 x := fun x hx => by
  have := List.all_eq_true.1 h x hx
  simpa [U32] using this
theorem firstL_u : ∀ x ∈ firstL, U32 x := u32_all (by decide +kernel)
theorem roundsL_u : ∀ x ∈ roundsL, U32 x := u32_all (by decide +kernel)

/-! ### Rows of bytes that a call makes and lets grow -/
theorem e8 : ElemT Try.prog 27 5 1 1 := ElemT.mk' Try.underlying27 (z := .int .u8 0) (by kernel_rfl) rfl (by decide)
/-- A row of bytes of the call's own, its block from 'base' on (or nil). -/
def OwnB (w : World) (base : Nat) (v : Value) (xs : List Int) : Prop := w.ownsRow base 5 1 v xs.length (nums .u8 xs)
theorem OwnB.nil (w : World) (base : Nat) : OwnB w base (.slice none 0 0) [] := ⟨by simp [nums], .inl ⟨rfl, rfl⟩⟩
theorem OwnB.lit {w : World} {base g : Nat} {xs : List Int} (h : w.heap[g]? = some (.cells (nums .u8 xs).toArray 5 (0, 0))) (hb : base ≤ g) (hm : xs.length ≤ maxLen) : OwnB w base (.slice (some ⟨g, 0, none⟩) xs.length xs.length) xs :=
  ⟨by simp [nums_length], .inr ⟨g, xs.length, _, rfl, hb, h, Nat.le_refl _, hm, by simp [nums_length], by simp [List.take_of_length_le, nums_length]⟩⟩
theorem OwnB.keep {S : Nat → Prop} {w w' : World} {base : Nat} {v : Value} {xs : List Int} (h : OwnB w base v xs) (hk : Kept S w w') (hn : ∀ b, base ≤ b → ¬ S b) : OwnB w' base v xs :=
  own_keep h hk (fun b hb => hn b (own_ge h hb))
theorem OwnB.slice {w : World} {base : Nat} {v : Value} {xs : List Int} (h : OwnB w base v xs) : ∃ A c, v = .slice A xs.length c ∧ xs.length ≤ c ∧ RdInts w .u8 A xs ∧ (A = none → xs = []) := own_rd h
theorem OwnB.ints {w : World} {base : Nat} {v : Value} {xs : List Int} (h : OwnB w base v xs) (hw : ∀ x ∈ xs, (Lit.int .u8 x).wf = true) : ∃ A c, v = .slice A xs.length c ∧ Ints w (fun b => base ≤ b) .u8 A c xs := by
  obtain ⟨hl, ⟨rfl, h0⟩ | ⟨r, c, cur, rfl, hb, hh, hc, hm, hs, ht⟩⟩ := h
  · have : xs = [] := List.eq_nil_of_length_eq_zero h0
    subst this
    exact ⟨none, 0, rfl, ⟨fun i hi => by simp at hi, (fun ad e => by cases e), Nat.le_refl _, by decide, fun _ => ⟨rfl, rfl⟩, hw⟩⟩
  · obtain ⟨A, c', e, h1, h2, h3⟩ := own_rd (k := .u8) (xs := xs) (show w.ownsRow base 5 1 (.slice (some ⟨r, 0, none⟩) xs.length c) xs.length (nums .u8 xs) from ⟨hl, .inr ⟨r, c, cur, rfl, hb, hh, hc, hm, hs, ht⟩⟩)
    cases e
    exact ⟨_, _, rfl, ⟨h2, fun ad e _ => by cases e; exact hb, hc, hm, (fun e => by cases e), hw⟩⟩
theorem OwnB.app {w : World} {ops : Array Oper} {rest : List Oper} {o : Oper} {a : Act} {Q : Exit → Act → World → Prop} (hgd : o.guard = none) (s x : Operand)
    (ho : o.op = .call { callee := .builtin .append, args := #[s, x], argTypes := #[27, 27] })
    (base : Nat) (v : Value) (xs : List Int) (hs : a.eval s = v) (hown : OwnB w base v xs)
    (A : Option Addr) (c : Nat) (news : List Int) (hx : a.eval x = .slice A news.length c) (hr : RdInts w .u8 A news) (h0 : A = none → news = [])
    (h63 : xs.length + news.length ≤ 140737488355328) (hbase : base ≤ w.heap.size)
    (h : ∀ v' w', OwnB w' base v' (xs ++ news) → Kept (fun b => base ≤ b) w w' → wpList Try.prog ops Q rest (a.put o.dst v') w') : wpList Try.prog ops Q (o :: rest) a w := by
  refine Go.Proofs.Ytcghjnegaiiieaa.app e8 hgd s x ho base v xs.length (nums .u8 xs) hs hown A news.length c (nums .u8 news) hx (by rw [nums_length, Nat.mul_one]) hr.src' (fun e => by rw [h0 e]; rfl) (nums_oneC .u8 news) (by unfold maxLen; omega) (by omega) hbase ?_
  intro v' w' h1 h2 h3
  refine h v' w' ?_ ?_
  · unfold OwnB
    rw [List.length_append, nums_append]
    exact h1
  · exact Kept.grown (Kept.refl _ _) h2 (fun k e _ => by
      have := own_ge hown e
      exact this)
end Go.Proofs.Ytcghjnegaiiieaa

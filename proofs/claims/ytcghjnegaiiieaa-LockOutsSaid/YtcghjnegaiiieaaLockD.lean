/- What a way and an out are (layer 7). -/
import Derived.Test.YtcghjnegaiiieaaRows
import Derived.Test.YtcghjnegaiiieaaDat
import Derived.Test.YtcghjnegaiiieaaLibE
namespace Go.Proofs.Ytcghjnegaiiieaa
open Go.RowKit

structure Way where
  keys : List Int
  hash : List Int
  after : Int
  wait : Int
def RWay : Rl Way := RBy (RCons (RSl (RInt .i64) 1) 1 (RCons (RArr .u8 32) 32 (RCons (RInt .i64) 1 (RCons (RInt .i64) 1 RNil)))) (fun x => (x.keys, x.hash, x.after, x.wait, ()))
theorem RWay.good : Good RWay 35 := RBy.good (RCons.good (RSl.good (RInt.good _)) (RCons.good (RArr.good _ _) (RCons.good (RInt.good _) (RCons.good (RInt.good _) RNil.good)))) _
def wayCells (A : Option Addr) (c : Nat) (x : Way) : List Value := .slice A x.keys.length c :: (nums .u8 x.hash ++ [.int .i64 x.after, .int .i64 x.wait])
structure WayOk (x : Way) : Prop where
  hl : x.hash.length = 32
  hw : ∀ h ∈ x.hash, (Lit.int .u8 h).wf = true
  aw : (Lit.int .i64 x.after).wf = true
  ww : (Lit.int .i64 x.wait).wf = true
theorem RWay.open_ {w : World} {F : Nat → Prop} {cs : List Value} {x : Way} (h : RWay w F cs x) : ∃ A c, cs = wayCells A c x ∧ Ints w F .i64 A c x.keys ∧ WayOk x := by
  obtain ⟨c1, d1, rfl, _, h1, c2, d2, rfl, _, ⟨rfl, h2, h3⟩, c3, d3, rfl, _, ⟨rfl, h4⟩, c4, d4, rfl, _, ⟨rfl, h5⟩, h6⟩ := h
  cases h6
  obtain ⟨A, c, rfl, hi⟩ := RSl.ints h1
  exact ⟨A, c, by simp [wayCells], hi, h2, h3, h4, h5⟩
theorem RWay.mk' {w : World} {F : Nat → Prop} {A : Option Addr} {c : Nat} {x : Way} (h : Ints w F .i64 A c x.keys) (hx : WayOk x) : RWay w F (wayCells A c x) x :=
  ⟨[.slice A x.keys.length c], _, rfl, rfl, h.sl, nums .u8 x.hash, _, rfl, by rw [nums_length, hx.hl], ⟨rfl, hx.hl, hx.hw⟩, [.int .i64 x.after], _, rfl, rfl, ⟨rfl, hx.aw⟩, [.int .i64 x.wait], _, rfl, rfl, ⟨rfl, hx.ww⟩, rfl⟩
section
variable {A : Option Addr} {c : Nat} {x : Way}
theorem way_len (h : WayOk x) : (wayCells A c x).length = 35 := by simp [wayCells, nums_length, h.hl]
theorem way0 : (wayCells A c x)[0]? = some (.slice A x.keys.length c) := rfl
theorem way33 (h : WayOk x) : (wayCells A c x)[33]? = some (.int .i64 x.after) := by
  unfold wayCells
  rw [List.getElem?_cons_succ, List.getElem?_append_right (by rw [nums_length, h.hl]; omega), nums_length, h.hl]
  rfl
theorem way34 (h : WayOk x) : (wayCells A c x)[34]? = some (.int .i64 x.wait) := by
  unfold wayCells
  rw [List.getElem?_cons_succ, List.getElem?_append_right (by rw [nums_length, h.hl]; omega), nums_length, h.hl]
  rfl
theorem wayH (h : WayOk x) (j : Nat) (u : Value) (hj : (nums .u8 x.hash)[j]? = some u) : (wayCells A c x)[1 + j]? = some u := by
  have hl : j < (nums .u8 x.hash).length := (List.getElem?_eq_some_iff.1 hj).1
  unfold wayCells
  rw [Nat.add_comm, List.getElem?_cons_succ, List.getElem?_append_left hl, hj]
end
structure Out where
  amount : Int
  ways : List Way
def ROut : Rl Out := RBy (RCons (RInt .i64) 1 (RCons (RSl RWay 35) 1 RNil)) (fun o => (o.amount, o.ways, ()))
theorem ROut.good : Good ROut 2 := RBy.good (RCons.good (RInt.good _) (RCons.good (RSl.good RWay.good) RNil.good)) _
/-- The ways of an out. -/
structure Ways (w : World) (F : Nat → Prop) (A : Option Addr) (c : Nat) (xs : List Way) : Prop where
  el : Elems RWay 35 w F A xs
  le : xs.length ≤ c
  max : c ≤ maxLen
  nil : A = none → xs = [] ∧ c = 0
theorem ROut.open_ {w : World} {F : Nat → Prop} {cs : List Value} {o : Out} (h : ROut w F cs o) : ∃ A c, cs = [.int .i64 o.amount, .slice A o.ways.length c] ∧ Ways w F A c o.ways ∧ (Lit.int .i64 o.amount).wf = true := by
  obtain ⟨c1, d1, rfl, _, ⟨rfl, h1⟩, c2, d2, rfl, _, ⟨A, c, rfl, h2, h3, h4, h5⟩, h6⟩ := h
  cases h6
  exact ⟨A, c, rfl, ⟨h5, h2, h3, h4⟩, h1⟩
theorem ROut.mk' {w : World} {F : Nat → Prop} {A : Option Addr} {c : Nat} {o : Out} (h : Ways w F A c o.ways) (hx : (Lit.int .i64 o.amount).wf = true) : ROut w F [.int .i64 o.amount, .slice A o.ways.length c] o :=
  ⟨[.int .i64 o.amount], _, rfl, rfl, ⟨rfl, hx⟩, [.slice A o.ways.length c], _, rfl, rfl, ⟨A, c, rfl, h.le, h.max, h.nil, h.el⟩, rfl⟩
theorem Ways.keep {w w' : World} {F S : Nat → Prop} {A : Option Addr} {c : Nat} {xs : List Way} (h : Ways w F A c xs) (hk : Kept S w w') (hf : ∀ b, F b → ¬ S b) : Ways w' F A c xs := { h with el := h.el.keep RWay.good hk hf }
theorem Ways.mono {w : World} {F F' : Nat → Prop} {A : Option Addr} {c : Nat} {xs : List Way} (h : Ways w F A c xs) (hf : ∀ b, F b → F' b) : Ways w F' A c xs := { h with el := h.el.mono RWay.good hf }
/-- A way of an out: where its cells lie. -/
theorem Ways.at_ {w : World} {F : Nat → Prop} {A : Option Addr} {c : Nat} {xs : List Way} (h : Ways w F A c xs) (i : Nat) (hi : i < xs.length) :
    ∃ ad B d, A = some ad ∧ F ad.block ∧ (∀ j u, (wayCells B d xs[i])[j]? = some u → w.cell? ((ad.add (i * 35)).add j) = some u) ∧ Ints w F .i64 B d xs[i].keys ∧ WayOk xs[i] := by
  obtain ⟨ad, e, hb, es, _, hc, hr⟩ := h.el i hi
  obtain ⟨B, d, rfl, h1, h2⟩ := hr.open_
  exact ⟨ad, B, d, e, hb, hc, h1, h2⟩
theorem aggSum : AggT Try.prog 24 32 := ⟨⟨_, Try.underlying24, rfl⟩, by kernel_rfl⟩
theorem aggWay : AggT Try.prog 26 35 := ⟨⟨_, Try.underlying26, rfl⟩, by kernel_rfl⟩
theorem aggOut : AggT Try.prog 38 2 := ⟨⟨_, Try.underlying38, rfl⟩, by kernel_rfl⟩
/-- One way in a block of its own. -/
theorem Ways.one {w : World} {F : Nat → Prop} {g : Nat} {t : TypeId} {fr : Nat × Nat} {A : Option Addr} {c : Nat} {x : Way} (h : w.heap[g]? = some (.cells (wayCells A c x).toArray t fr)) (hF : F g) (hk : Ints w F .i64 A c x.keys) (hx : WayOk x) :
    Ways w F (some ⟨g, 0, none⟩) 1 [x] := by
  refine ⟨fun i hi => ?_, Nat.le_refl _, by decide, fun e => by cases e⟩
  have h0 : i = 0 := by simpa using hi
  subst h0
  refine ⟨⟨g, 0, none⟩, rfl, hF, wayCells A c x, way_len hx, fun j u hj => ?_, RWay.mk' hk hx⟩
  have ea : ((⟨g, 0, none⟩ : Addr).add (0 * 35)).add j = ⟨g, j, none⟩ := by unfold Addr.add; split <;> simp_all
  rw [ea, blk_cell h]
  simpa using hj
theorem size1 (w : World) : (sizeOf 5).run Try.prog w = .ok 1 w := by kernel_rfl
theorem eqlSum (a b : List Int) (ha : a.length = 32) (hb : b.length = 32) (w : World) : (binOp .eql 24 (.agg (nums .u8 a).toArray) (.agg (nums .u8 b).toArray)).run Try.prog w = .ok (.bool (a == b)) w :=
  run_eql_nums w _ _ 32 .u8 Try.underlying24 Try.underlying5 size1 a b ha hb
theorem neqSum (a b : List Int) (ha : a.length = 32) (hb : b.length = 32) (w : World) : (binOp .neq 24 (.agg (nums .u8 a).toArray) (.agg (nums .u8 b).toArray)).run Try.prog w = .ok (.bool (!(a == b))) w :=
  run_neq_nums w _ _ 32 .u8 Try.underlying24 Try.underlying5 size1 a b ha hb
def zero32 : List Int := List.replicate 32 0
theorem eqlZero (a : List Int) (ha : a.length = 32) (w : World) : (binOp .eql 24 (.agg (nums .u8 a).toArray) (.agg #[.int .u8 0, .int .u8 0, .int .u8 0, .int .u8 0, .int .u8 0, .int .u8 0, .int .u8 0, .int .u8 0, .int .u8 0, .int .u8 0, .int .u8 0, .int .u8 0, .int .u8 0, .int .u8 0, .int .u8 0, .int .u8 0, .int .u8 0, .int .u8 0, .int .u8 0, .int .u8 0, .int .u8 0, .int .u8 0, .int .u8 0, .int .u8 0, .int .u8 0, .int .u8 0, .int .u8 0, .int .u8 0, .int .u8 0, .int .u8 0, .int .u8 0, .int .u8 0])).run Try.prog w = .ok (.bool (a == zero32)) w := eqlSum a zero32 ha rfl w
theorem neqZero (a : List Int) (ha : a.length = 32) (w : World) : (binOp .neq 24 (.agg (nums .u8 a).toArray) (.agg #[.int .u8 0, .int .u8 0, .int .u8 0, .int .u8 0, .int .u8 0, .int .u8 0, .int .u8 0, .int .u8 0, .int .u8 0, .int .u8 0, .int .u8 0, .int .u8 0, .int .u8 0, .int .u8 0, .int .u8 0, .int .u8 0, .int .u8 0, .int .u8 0, .int .u8 0, .int .u8 0, .int .u8 0, .int .u8 0, .int .u8 0, .int .u8 0, .int .u8 0, .int .u8 0, .int .u8 0, .int .u8 0, .int .u8 0, .int .u8 0, .int .u8 0, .int .u8 0])).run Try.prog w = .ok (.bool (!(a == zero32))) w := neqSum a zero32 ha rfl w
end Go.Proofs.Ytcghjnegaiiieaa

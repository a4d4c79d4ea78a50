/- Part 6 of the texts that LawCommitFunds needs, pruned and joined. -/
import Derived.Test.YtcghjnegaiiieaaRows
import Derived.Test.YtcghjnegaiiieaaCF5
set_option linter.unusedSimpArgs false
namespace Go.Proofs.Ytcghjnegaiiieaa
open Go.RowKit
def c0 : Chan := ⟨0, 1, 2, Z32, 0, 5, 4, 3⟩
def d0 : Chan := ⟨0, 1, 2, Z32, 0, 5, 3, 3⟩
def s0 : CSt := ⟨0, 5, 0, Z32.set 0 1, Z32.set 0 2⟩
theorem awakeBuild_ap : AP Try.prog 48 [cChan c0, cCSt s0, ic .i64 1] [cTxx (comTx c0 2 1 0 5 (Z32.set 0 2)), ic .i64 0] := by
  have h := commitBuild1_ap c0 s0
  obtain ⟨e1, e2⟩ := build_ok (c := c0) (s := s0) (o := 1) (by decide)
  rw [e1, e2] at h
  exact h
theorem okSmall {n : Int} (h : 0 ≤ n) (h2 : n ≤ 1125899906842624) : (Lit.int .i64 n).wf = true := by
  simp [Lit.wf, IntKind.min, IntKind.max, IntKind.signed, IntKind.bits]
  omega
theorem okZ32 : ArOk .u8 32 Z32 := ⟨rfl, by decide⟩
theorem okKeys {l : List Int} (h : ∀ x ∈ l, (Lit.int .i64 x).wf = true) (hl : l.length ≤ 1000000) : SlOk (fun n => (Lit.int .i64 n).wf = true) l := ⟨by unfold maxLen; omega, h⟩
theorem okZero : (Lit.int .i64 0).wf = true := okSmall (by omega) (by omega)
theorem okOne {l : List Int} {n : Int} (hl : l.length ≤ 1000000) (hk : ∀ x ∈ l, (Lit.int .i64 x).wf = true) (hn : (Lit.int .i64 n).wf = true) : OkOut ⟨n, [⟨l, Z32, 0, 0⟩]⟩ :=
  ⟨hn, by unfold maxLen; simp, fun x hx => by
    simp at hx
    subst hx
    exact ⟨okKeys hk hl, okZ32, okZero, okZero⟩⟩
theorem okTo {k n : Int} (hk : (Lit.int .i64 k).wf = true) (hn : (Lit.int .i64 n).wf = true) : OkOut (toOut k n) := okOne (by simp) (fun x hx => by simp at hx; subst hx; exact hk) hn
structure OkChan (c : Chan) : Prop where
  id : (Lit.int .i64 c.id).wf = true
  client : (Lit.int .i64 c.client).wf = true
  peer : (Lit.int .i64 c.peer).wf = true
  ft : ArOk .u8 32 c.ft
  fa : (Lit.int .i64 c.fa).wf = true
  cap : (Lit.int .i64 c.cap).wf = true
  wait : (Lit.int .i64 c.wait).wf = true
  window : (Lit.int .i64 c.window).wf = true
theorem okFund {c : Chan} (h : OkChan c) : OkOut (fundOut c) := okOne (by simp) (fun x hx => by
  simp at hx
  rcases hx with rfl | rfl <;> split <;> first | exact h.client | exact h.peer) h.cap
set_option maxRecDepth 100000 in
set_option maxHeartbeats 4000000 in
theorem awake14_ap : AP Try.prog 47 [] [.pv (.bool true)] := by
  refine ap_of (fun _ _ => Try.call47 _ _) Try.func47 rfl Try.ntmps47 (by simp) (zs := [RZ.mk 0 none]) (by kernel_rfl) (fun w F => ?_)
  simp only [List.map_cons, List.map_nil, argT, Nat.reduceAdd]
  refine at_seq fun K1 hK1 => ?_
  refine at_region [It.mk (some 0) none (IK.p (PK.mov (Operand.const (Value.bool false))))] (by kernel_rfl) ?_
  simp (maxSteps := 999999) (disch := omega) only [av1, av2, av3, eq_self, exists_const, forall_const, implies_true, storeOk, AS.gd, PK.more, PK.cond, PK.val, AV.get, CV.get, AV.ok, CV.ok, AV.off, CV.off, AV.set, CV.set, AV.fits, CV.fits, AV.size, AV.agg, CV.agg, AV.solid, AV.int?, AV.bool?, binOk, AV.els, CV.isByte, Sh.agg, Sh.fits, Sh.fitsL, Sh.fitsR, CV.eqv, CV.eqvs, AV.closed, rsAV, thenQ, AObj.lt, CV.numOf, Nat.reduceAdd, Nat.reduceLT, Nat.reduceMul, reduceCtorEq, ↓reduceIte, Nat.reduceEqDiff, Nat.reduceLeDiff, Nat.reduceSub, Nat.reduceBEq, Nat.reduceBNe, Int.reduceLT, Int.reduceEq, Int.reduceAdd, Int.reduceToNat, Int.reduceLE, Int.reduceBEq, Int.reduceBNe, enc1, toOut, comTx, zOpx]
  (repeat ((with_reducible refine And.intro ?_ ?_); (first | trivial | assumption | omega | (exact nf_imp _) | (exact fn_imp _) | (intro hq; exact ⟨hq, by omega⟩) | (simp; done) | (intro hq; simp [hq]; done) | (intro hq; refine ⟨hq, fun hq2 => ?_⟩; rw [hq, hq2]; rfl))))
  refine hK1 _ ?_
  (try clear hK1)
  refine at_seq fun K2 hK2 => ?_
  refine at_region [It.mk (some 5) none (IK.p (PK.bld (CV.st [CV.pv (Value.int IntKind.i64 0), CV.pv (Value.int IntKind.i64 0), CV.pv (Value.int IntKind.i64 0), CV.st [CV.ar IntKind.u8 32 (List.replicate 32 0), CV.pv (Value.int IntKind.i64 0)], CV.pv (Value.int IntKind.i64 0), CV.pv (Value.int IntKind.i64 0), CV.pv (Value.int IntKind.i64 0)]) [(0, 1), (1, 1), (2, 1), (3, 33), (36, 1), (37, 1), (38, 1)] [(1, Operand.const (Value.int IntKind.i64 1)), (2, Operand.const (Value.int IntKind.i64 2)), (4, Operand.const (Value.int IntKind.i64 5)), (6, Operand.const (Value.int IntKind.i64 3)), (5, Operand.const (Value.int IntKind.i64 4))])), It.mk (some 1) none (IK.alloc (CV.st [CV.pv (Value.int IntKind.i64 0), CV.pv (Value.int IntKind.i64 0), CV.pv (Value.int IntKind.i64 0), CV.st [CV.ar IntKind.u8 32 (List.replicate 32 0), CV.pv (Value.int IntKind.i64 0)], CV.pv (Value.int IntKind.i64 0), CV.pv (Value.int IntKind.i64 0), CV.pv (Value.int IntKind.i64 0)])), It.mk none none (IK.store (Operand.tmp 1) (Operand.tmp 5) 39)] (by kernel_rfl) ?_
  simp (maxSteps := 999999) (disch := omega) only [av1, av2, av3, eq_self, exists_const, forall_const, implies_true, storeOk, AS.gd, PK.more, PK.cond, PK.val, AV.get, CV.get, AV.ok, CV.ok, AV.off, CV.off, AV.set, CV.set, AV.fits, CV.fits, AV.size, AV.agg, CV.agg, AV.solid, AV.int?, AV.bool?, binOk, AV.els, CV.isByte, Sh.agg, Sh.fits, Sh.fitsL, Sh.fitsR, CV.eqv, CV.eqvs, AV.closed, rsAV, thenQ, AObj.lt, CV.numOf, Nat.reduceAdd, Nat.reduceLT, Nat.reduceMul, reduceCtorEq, ↓reduceIte, Nat.reduceEqDiff, Nat.reduceLeDiff, Nat.reduceSub, Nat.reduceBEq, Nat.reduceBNe, Int.reduceLT, Int.reduceEq, Int.reduceAdd, Int.reduceToNat, Int.reduceLE, Int.reduceBEq, Int.reduceBNe, enc1, toOut, comTx, zOpx]
  (repeat ((with_reducible refine And.intro ?_ ?_); (first | trivial | assumption | omega | (exact nf_imp _) | (exact fn_imp _) | (intro hq; exact ⟨hq, by omega⟩) | (simp; done) | (intro hq; simp [hq]; done) | (intro hq; refine ⟨hq, fun hq2 => ?_⟩; rw [hq, hq2]; rfl))))
  refine hK2 _ ?_
  (try clear hK2)
  refine at_seq fun K3 hK3 => ?_
  refine at_region [It.mk (some 6) none (IK.p (PK.load (Operand.tmp 1) 39 true)), It.mk (some 2) none (IK.alloc (CV.st [CV.pv (Value.int IntKind.i64 0), CV.pv (Value.int IntKind.i64 0), CV.pv (Value.int IntKind.i64 0), CV.st [CV.ar IntKind.u8 32 (List.replicate 32 0), CV.pv (Value.int IntKind.i64 0)], CV.pv (Value.int IntKind.i64 0), CV.pv (Value.int IntKind.i64 0), CV.pv (Value.int IntKind.i64 0)])), It.mk none none (IK.store (Operand.tmp 2) (Operand.tmp 6) 39)] (by kernel_rfl) ?_
  simp (maxSteps := 999999) (disch := omega) only [av1, av2, av3, eq_self, exists_const, forall_const, implies_true, storeOk, AS.gd, PK.more, PK.cond, PK.val, AV.get, CV.get, AV.ok, CV.ok, AV.off, CV.off, AV.set, CV.set, AV.fits, CV.fits, AV.size, AV.agg, CV.agg, AV.solid, AV.int?, AV.bool?, binOk, AV.els, CV.isByte, Sh.agg, Sh.fits, Sh.fitsL, Sh.fitsR, CV.eqv, CV.eqvs, AV.closed, rsAV, thenQ, AObj.lt, CV.numOf, Nat.reduceAdd, Nat.reduceLT, Nat.reduceMul, reduceCtorEq, ↓reduceIte, Nat.reduceEqDiff, Nat.reduceLeDiff, Nat.reduceSub, Nat.reduceBEq, Nat.reduceBNe, Int.reduceLT, Int.reduceEq, Int.reduceAdd, Int.reduceToNat, Int.reduceLE, Int.reduceBEq, Int.reduceBNe, enc1, toOut, comTx, zOpx]
  (repeat ((with_reducible refine And.intro ?_ ?_); (first | trivial | assumption | omega | (exact nf_imp _) | (exact fn_imp _) | (intro hq; exact ⟨hq, by omega⟩) | (simp; done) | (intro hq; simp [hq]; done) | (intro hq; refine ⟨hq, fun hq2 => ?_⟩; rw [hq, hq2]; rfl))))
  refine hK3 _ ?_
  (try clear hK3)
  refine at_seq fun K4 hK4 => ?_
  refine at_region [It.mk (some 7) none (IK.p (PK.fAddr (Operand.tmp 2) 5 37)), It.mk none none (IK.store (Operand.tmp 7) (Operand.const (Value.int IntKind.i64 3)) 1)] (by kernel_rfl) ?_
  simp (maxSteps := 999999) (disch := omega) only [av1, av2, av3, eq_self, exists_const, forall_const, implies_true, storeOk, AS.gd, PK.more, PK.cond, PK.val, AV.get, CV.get, AV.ok, CV.ok, AV.off, CV.off, AV.set, CV.set, AV.fits, CV.fits, AV.size, AV.agg, CV.agg, AV.solid, AV.int?, AV.bool?, binOk, AV.els, CV.isByte, Sh.agg, Sh.fits, Sh.fitsL, Sh.fitsR, CV.eqv, CV.eqvs, AV.closed, rsAV, thenQ, AObj.lt, CV.numOf, Nat.reduceAdd, Nat.reduceLT, Nat.reduceMul, reduceCtorEq, ↓reduceIte, Nat.reduceEqDiff, Nat.reduceLeDiff, Nat.reduceSub, Nat.reduceBEq, Nat.reduceBNe, Int.reduceLT, Int.reduceEq, Int.reduceAdd, Int.reduceToNat, Int.reduceLE, Int.reduceBEq, Int.reduceBNe, enc1, toOut, comTx, zOpx]
  (repeat ((with_reducible refine And.intro ?_ ?_); (first | trivial | assumption | omega | (exact nf_imp _) | (exact fn_imp _) | (intro hq; exact ⟨hq, by omega⟩) | (simp; done) | (intro hq; simp [hq]; done) | (intro hq; refine ⟨hq, fun hq2 => ?_⟩; rw [hq, hq2]; rfl))))
  refine hK4 _ ?_
  (try clear hK4)
  refine at_seq fun K5 hK5 => ?_
  refine at_region [It.mk (some 9) none (IK.p (PK.load (Operand.tmp 1) 39 true)), It.mk (some 10) none (IK.p (PK.bld (CV.ar IntKind.u8 32 (List.replicate 32 0)) [(0, 1), (1, 1), (2, 1), (3, 1), (4, 1), (5, 1), (6, 1), (7, 1), (8, 1), (9, 1), (10, 1), (11, 1), (12, 1), (13, 1), (14, 1), (15, 1), (16, 1), (17, 1), (18, 1), (19, 1), (20, 1), (21, 1), (22, 1), (23, 1), (24, 1), (25, 1), (26, 1), (27, 1), (28, 1), (29, 1), (30, 1), (31, 1)] [(0, Operand.const (Value.int IntKind.u8 1))])), It.mk (some 11) none (IK.p (PK.bld (CV.ar IntKind.u8 32 (List.replicate 32 0)) [(0, 1), (1, 1), (2, 1), (3, 1), (4, 1), (5, 1), (6, 1), (7, 1), (8, 1), (9, 1), (10, 1), (11, 1), (12, 1), (13, 1), (14, 1), (15, 1), (16, 1), (17, 1), (18, 1), (19, 1), (20, 1), (21, 1), (22, 1), (23, 1), (24, 1), (25, 1), (26, 1), (27, 1), (28, 1), (29, 1), (30, 1), (31, 1)] [(0, Operand.const (Value.int IntKind.u8 2))])), It.mk (some 12) none (IK.p (PK.bld (CV.st [CV.ar IntKind.u8 32 (List.replicate 32 0), CV.ar IntKind.u8 32 (List.replicate 32 0)]) [(0, 32), (32, 32)] [(0, Operand.tmp 10), (1, Operand.tmp 11)])), It.mk (some 13) none (IK.p (PK.bld (CV.st [CV.pv (Value.int IntKind.i64 0), CV.pv (Value.int IntKind.i64 0), CV.pv (Value.int IntKind.i64 0), CV.st [CV.ar IntKind.u8 32 (List.replicate 32 0), CV.ar IntKind.u8 32 (List.replicate 32 0)]]) [(0, 1), (1, 1), (2, 1), (3, 64)] [(1, Operand.const (Value.int IntKind.i64 5)), (3, Operand.tmp 12)])), It.mk (some 14) none (IK.call 48 [Operand.tmp 9, Operand.tmp 13, Operand.const (Value.int IntKind.i64 1)]), It.mk (some 8) none (IK.p (PK.mov (Operand.tmp 14))), It.mk (some 15) none (IK.p (PK.ext (Operand.tmp 8) 0)), It.mk (some 16) none (IK.p (PK.ext (Operand.tmp 8) 1)), It.mk (some 3) none (IK.alloc (CV.st [CV.pv (Value.slice none 0 0), CV.pv (Value.slice none 0 0), CV.st [CV.pv (Value.int IntKind.i64 0), CV.pv (Value.int IntKind.i64 0), CV.pv (Value.int IntKind.i64 0), CV.pv (Value.int IntKind.i64 0), CV.ar IntKind.u8 32 (List.replicate 32 0), CV.pv (Value.slice none 0 0)], CV.pv (Value.slice none 0 0)])), It.mk none none (IK.store (Operand.tmp 3) (Operand.tmp 15) 40), It.mk (some 4) none (IK.p (PK.mov (Operand.tmp 16)))] (by kernel_rfl) ?_
  refine apl_cut [It.mk (some 9) none (IK.p (PK.load (Operand.tmp 1) 39 true)), It.mk (some 10) none (IK.p (PK.bld (CV.ar IntKind.u8 32 (List.replicate 32 0)) [(0, 1), (1, 1), (2, 1), (3, 1), (4, 1), (5, 1), (6, 1), (7, 1), (8, 1), (9, 1), (10, 1), (11, 1), (12, 1), (13, 1), (14, 1), (15, 1), (16, 1), (17, 1), (18, 1), (19, 1), (20, 1), (21, 1), (22, 1), (23, 1), (24, 1), (25, 1), (26, 1), (27, 1), (28, 1), (29, 1), (30, 1), (31, 1)] [(0, Operand.const (Value.int IntKind.u8 1))])), It.mk (some 11) none (IK.p (PK.bld (CV.ar IntKind.u8 32 (List.replicate 32 0)) [(0, 1), (1, 1), (2, 1), (3, 1), (4, 1), (5, 1), (6, 1), (7, 1), (8, 1), (9, 1), (10, 1), (11, 1), (12, 1), (13, 1), (14, 1), (15, 1), (16, 1), (17, 1), (18, 1), (19, 1), (20, 1), (21, 1), (22, 1), (23, 1), (24, 1), (25, 1), (26, 1), (27, 1), (28, 1), (29, 1), (30, 1), (31, 1)] [(0, Operand.const (Value.int IntKind.u8 2))])), It.mk (some 12) none (IK.p (PK.bld (CV.st [CV.ar IntKind.u8 32 (List.replicate 32 0), CV.ar IntKind.u8 32 (List.replicate 32 0)]) [(0, 32), (32, 32)] [(0, Operand.tmp 10), (1, Operand.tmp 11)])), It.mk (some 13) none (IK.p (PK.bld (CV.st [CV.pv (Value.int IntKind.i64 0), CV.pv (Value.int IntKind.i64 0), CV.pv (Value.int IntKind.i64 0), CV.st [CV.ar IntKind.u8 32 (List.replicate 32 0), CV.ar IntKind.u8 32 (List.replicate 32 0)]]) [(0, 1), (1, 1), (2, 1), (3, 64)] [(1, Operand.const (Value.int IntKind.i64 5)), (3, Operand.tmp 12)]))] [It.mk (some 14) none (IK.call 48 [Operand.tmp 9, Operand.tmp 13, Operand.const (Value.int IntKind.i64 1)]), It.mk (some 8) none (IK.p (PK.mov (Operand.tmp 14))), It.mk (some 15) none (IK.p (PK.ext (Operand.tmp 8) 0)), It.mk (some 16) none (IK.p (PK.ext (Operand.tmp 8) 1)), It.mk (some 3) none (IK.alloc (CV.st [CV.pv (Value.slice none 0 0), CV.pv (Value.slice none 0 0), CV.st [CV.pv (Value.int IntKind.i64 0), CV.pv (Value.int IntKind.i64 0), CV.pv (Value.int IntKind.i64 0), CV.pv (Value.int IntKind.i64 0), CV.ar IntKind.u8 32 (List.replicate 32 0), CV.pv (Value.slice none 0 0)], CV.pv (Value.slice none 0 0)])), It.mk none none (IK.store (Operand.tmp 3) (Operand.tmp 15) 40), It.mk (some 4) none (IK.p (PK.mov (Operand.tmp 16)))] (fun K6 hK6 => ?_)
  simp (maxSteps := 999999) (disch := omega) only [av1, av2, av3, eq_self, exists_const, forall_const, implies_true, storeOk, AS.gd, PK.more, PK.cond, PK.val, AV.get, CV.get, AV.ok, CV.ok, AV.off, CV.off, AV.set, CV.set, AV.fits, CV.fits, AV.size, AV.agg, CV.agg, AV.solid, AV.int?, AV.bool?, binOk, AV.els, CV.isByte, Sh.agg, Sh.fits, Sh.fitsL, Sh.fitsR, CV.eqv, CV.eqvs, AV.closed, rsAV, thenQ, AObj.lt, CV.numOf, Nat.reduceAdd, Nat.reduceLT, Nat.reduceMul, reduceCtorEq, ↓reduceIte, Nat.reduceEqDiff, Nat.reduceLeDiff, Nat.reduceSub, Nat.reduceBEq, Nat.reduceBNe, Int.reduceLT, Int.reduceEq, Int.reduceAdd, Int.reduceToNat, Int.reduceLE, Int.reduceBEq, Int.reduceBNe, enc1, toOut, comTx, zOpx]
  (repeat ((with_reducible refine And.intro ?_ ?_); (first | trivial | assumption | omega | (exact nf_imp _) | (exact fn_imp _) | (intro hq; exact ⟨hq, by omega⟩) | (simp; done) | (intro hq; simp [hq]; done) | (intro hq; refine ⟨hq, fun hq2 => ?_⟩; rw [hq, hq2]; rfl))))
  refine hK6 _ ?_
  (try clear hK6)
  refine apl_cut [It.mk (some 14) none (IK.call 48 [Operand.tmp 9, Operand.tmp 13, Operand.const (Value.int IntKind.i64 1)])] [It.mk (some 8) none (IK.p (PK.mov (Operand.tmp 14))), It.mk (some 15) none (IK.p (PK.ext (Operand.tmp 8) 0)), It.mk (some 16) none (IK.p (PK.ext (Operand.tmp 8) 1)), It.mk (some 3) none (IK.alloc (CV.st [CV.pv (Value.slice none 0 0), CV.pv (Value.slice none 0 0), CV.st [CV.pv (Value.int IntKind.i64 0), CV.pv (Value.int IntKind.i64 0), CV.pv (Value.int IntKind.i64 0), CV.pv (Value.int IntKind.i64 0), CV.ar IntKind.u8 32 (List.replicate 32 0), CV.pv (Value.slice none 0 0)], CV.pv (Value.slice none 0 0)])), It.mk none none (IK.store (Operand.tmp 3) (Operand.tmp 15) 40), It.mk (some 4) none (IK.p (PK.mov (Operand.tmp 16)))] (fun K7 hK7 => ?_)
  simp (maxSteps := 999999) (disch := omega) only [av1, av2, av3, eq_self, exists_const, forall_const, implies_true, storeOk, AS.gd, PK.more, PK.cond, PK.val, AV.get, CV.get, AV.ok, CV.ok, AV.off, CV.off, AV.set, CV.set, AV.fits, CV.fits, AV.size, AV.agg, CV.agg, AV.solid, AV.int?, AV.bool?, binOk, AV.els, CV.isByte, Sh.agg, Sh.fits, Sh.fitsL, Sh.fitsR, CV.eqv, CV.eqvs, AV.closed, rsAV, thenQ, AObj.lt, CV.numOf, Nat.reduceAdd, Nat.reduceLT, Nat.reduceMul, reduceCtorEq, ↓reduceIte, Nat.reduceEqDiff, Nat.reduceLeDiff, Nat.reduceSub, Nat.reduceBEq, Nat.reduceBNe, Int.reduceLT, Int.reduceEq, Int.reduceAdd, Int.reduceToNat, Int.reduceLE, Int.reduceBEq, Int.reduceBNe, enc1, toOut, comTx, zOpx]
  apply Exists.intro
  apply And.intro
  · first | exact (awakeBuild_ap) | exact (fun _ => (awakeBuild_ap)) | exact (fun h => ⟨h, (awakeBuild_ap)⟩) | exact (fun h => ⟨by simp_all, (awakeBuild_ap)⟩)
  (try simp only [rsAV, List.map_cons, List.map_nil, thenQ])
  refine hK7 _ ?_
  (try clear hK7)
  simp (maxSteps := 999999) (disch := omega) only [av1, av2, av3, eq_self, exists_const, forall_const, implies_true, storeOk, AS.gd, PK.more, PK.cond, PK.val, AV.get, CV.get, AV.ok, CV.ok, AV.off, CV.off, AV.set, CV.set, AV.fits, CV.fits, AV.size, AV.agg, CV.agg, AV.solid, AV.int?, AV.bool?, binOk, AV.els, CV.isByte, Sh.agg, Sh.fits, Sh.fitsL, Sh.fitsR, CV.eqv, CV.eqvs, AV.closed, rsAV, thenQ, AObj.lt, CV.numOf, Nat.reduceAdd, Nat.reduceLT, Nat.reduceMul, reduceCtorEq, ↓reduceIte, Nat.reduceEqDiff, Nat.reduceLeDiff, Nat.reduceSub, Nat.reduceBEq, Nat.reduceBNe, Int.reduceLT, Int.reduceEq, Int.reduceAdd, Int.reduceToNat, Int.reduceLE, Int.reduceBEq, Int.reduceBNe, enc1, toOut, comTx, zOpx]
  (repeat ((with_reducible refine And.intro ?_ ?_); (first | trivial | assumption | omega | (exact nf_imp _) | (exact fn_imp _) | (intro hq; exact ⟨hq, by omega⟩) | (simp; done) | (intro hq; simp [hq]; done) | (intro hq; refine ⟨hq, fun hq2 => ?_⟩; rw [hq, hq2]; rfl))))
  refine hK5 _ ?_
  (try clear hK5)
  refine at_seq fun K8 hK8 => ?_
  refine at_region [It.mk (some 17) none (IK.p (PK.load (Operand.tmp 1) 39 true)), It.mk (some 18) none (IK.call 50 [Operand.tmp 17]), It.mk (some 19) none (IK.p (PK.mov (Operand.tmp 18))), It.mk (some 20) (some (19, true)) (IK.p (PK.load (Operand.tmp 2) 39 true)), It.mk (some 21) (some (19, true)) (IK.call 50 [Operand.tmp 20]), It.mk (some 22) (some (19, true)) (IK.p (PK.not (Operand.tmp 21))), It.mk (some 23) none (IK.p (PK.pick (Operand.tmp 19) (Operand.tmp 22) (Operand.const (Value.bool false)))), It.mk (some 24) none (IK.p (PK.mov (Operand.tmp 23))), It.mk (some 25) (some (24, true)) (IK.p (PK.mov (Operand.tmp 4))), It.mk (some 26) (some (24, true)) (IK.p (PK.bin BinOp.eql (Operand.tmp 25) (Operand.const (Value.int IntKind.i64 0)))), It.mk (some 27) none (IK.p (PK.pick (Operand.tmp 24) (Operand.tmp 26) (Operand.const (Value.bool false)))), It.mk (some 28) none (IK.p (PK.mov (Operand.tmp 27))), It.mk (some 29) (some (28, true)) (IK.p (PK.fAddr (Operand.tmp 3) 1 1)), It.mk (some 30) (some (28, true)) (IK.p (PK.load (Operand.tmp 29) 1 false)), It.mk (some 31) (some (28, true)) (IK.p (PK.len false (Operand.tmp 30))), It.mk (some 32) (some (28, true)) (IK.p (PK.bin BinOp.eql (Operand.tmp 31) (Operand.const (Value.int IntKind.i64 2)))), It.mk (some 33) none (IK.p (PK.pick (Operand.tmp 28) (Operand.tmp 32) (Operand.const (Value.bool false)))), It.mk (some 34) none (IK.p (PK.mov (Operand.tmp 33))), It.mk (some 35) (some (34, true)) (IK.p (PK.load (Operand.tmp 1) 39 true)), It.mk (some 36) (some (34, true)) (IK.p (PK.load (Operand.tmp 3) 40 true)), It.mk (some 37) (some (34, true)) (IK.call 56 [Operand.tmp 35, Operand.tmp 36]), It.mk (some 38) (some (34, true)) (IK.p (PK.bin BinOp.eql (Operand.tmp 37) (Operand.const (Value.int IntKind.i64 1)))), It.mk (some 39) none (IK.p (PK.pick (Operand.tmp 34) (Operand.tmp 38) (Operand.const (Value.bool false)))), It.mk (some 0) none (IK.p (PK.mov (Operand.tmp 39)))] (by kernel_rfl) ?_
  refine apl_cut [It.mk (some 17) none (IK.p (PK.load (Operand.tmp 1) 39 true))] [It.mk (some 18) none (IK.call 50 [Operand.tmp 17]), It.mk (some 19) none (IK.p (PK.mov (Operand.tmp 18))), It.mk (some 20) (some (19, true)) (IK.p (PK.load (Operand.tmp 2) 39 true)), It.mk (some 21) (some (19, true)) (IK.call 50 [Operand.tmp 20]), It.mk (some 22) (some (19, true)) (IK.p (PK.not (Operand.tmp 21))), It.mk (some 23) none (IK.p (PK.pick (Operand.tmp 19) (Operand.tmp 22) (Operand.const (Value.bool false)))), It.mk (some 24) none (IK.p (PK.mov (Operand.tmp 23))), It.mk (some 25) (some (24, true)) (IK.p (PK.mov (Operand.tmp 4))), It.mk (some 26) (some (24, true)) (IK.p (PK.bin BinOp.eql (Operand.tmp 25) (Operand.const (Value.int IntKind.i64 0)))), It.mk (some 27) none (IK.p (PK.pick (Operand.tmp 24) (Operand.tmp 26) (Operand.const (Value.bool false)))), It.mk (some 28) none (IK.p (PK.mov (Operand.tmp 27))), It.mk (some 29) (some (28, true)) (IK.p (PK.fAddr (Operand.tmp 3) 1 1)), It.mk (some 30) (some (28, true)) (IK.p (PK.load (Operand.tmp 29) 1 false)), It.mk (some 31) (some (28, true)) (IK.p (PK.len false (Operand.tmp 30))), It.mk (some 32) (some (28, true)) (IK.p (PK.bin BinOp.eql (Operand.tmp 31) (Operand.const (Value.int IntKind.i64 2)))), It.mk (some 33) none (IK.p (PK.pick (Operand.tmp 28) (Operand.tmp 32) (Operand.const (Value.bool false)))), It.mk (some 34) none (IK.p (PK.mov (Operand.tmp 33))), It.mk (some 35) (some (34, true)) (IK.p (PK.load (Operand.tmp 1) 39 true)), It.mk (some 36) (some (34, true)) (IK.p (PK.load (Operand.tmp 3) 40 true)), It.mk (some 37) (some (34, true)) (IK.call 56 [Operand.tmp 35, Operand.tmp 36]), It.mk (some 38) (some (34, true)) (IK.p (PK.bin BinOp.eql (Operand.tmp 37) (Operand.const (Value.int IntKind.i64 1)))), It.mk (some 39) none (IK.p (PK.pick (Operand.tmp 34) (Operand.tmp 38) (Operand.const (Value.bool false)))), It.mk (some 0) none (IK.p (PK.mov (Operand.tmp 39)))] (fun K9 hK9 => ?_)
  simp (maxSteps := 999999) (disch := omega) only [av1, av2, av3, eq_self, exists_const, forall_const, implies_true, storeOk, AS.gd, PK.more, PK.cond, PK.val, AV.get, CV.get, AV.ok, CV.ok, AV.off, CV.off, AV.set, CV.set, AV.fits, CV.fits, AV.size, AV.agg, CV.agg, AV.solid, AV.int?, AV.bool?, binOk, AV.els, CV.isByte, Sh.agg, Sh.fits, Sh.fitsL, Sh.fitsR, CV.eqv, CV.eqvs, AV.closed, rsAV, thenQ, AObj.lt, CV.numOf, Nat.reduceAdd, Nat.reduceLT, Nat.reduceMul, reduceCtorEq, ↓reduceIte, Nat.reduceEqDiff, Nat.reduceLeDiff, Nat.reduceSub, Nat.reduceBEq, Nat.reduceBNe, Int.reduceLT, Int.reduceEq, Int.reduceAdd, Int.reduceToNat, Int.reduceLE, Int.reduceBEq, Int.reduceBNe, enc1, toOut, comTx, zOpx]
  (repeat ((with_reducible refine And.intro ?_ ?_); (first | trivial | assumption | omega | (exact nf_imp _) | (exact fn_imp _) | (intro hq; exact ⟨hq, by omega⟩) | (simp; done) | (intro hq; simp [hq]; done) | (intro hq; refine ⟨hq, fun hq2 => ?_⟩; rw [hq, hq2]; rfl))))
  refine hK9 _ ?_
  (try clear hK9)
  refine apl_cut [It.mk (some 18) none (IK.call 50 [Operand.tmp 17])] [It.mk (some 19) none (IK.p (PK.mov (Operand.tmp 18))), It.mk (some 20) (some (19, true)) (IK.p (PK.load (Operand.tmp 2) 39 true)), It.mk (some 21) (some (19, true)) (IK.call 50 [Operand.tmp 20]), It.mk (some 22) (some (19, true)) (IK.p (PK.not (Operand.tmp 21))), It.mk (some 23) none (IK.p (PK.pick (Operand.tmp 19) (Operand.tmp 22) (Operand.const (Value.bool false)))), It.mk (some 24) none (IK.p (PK.mov (Operand.tmp 23))), It.mk (some 25) (some (24, true)) (IK.p (PK.mov (Operand.tmp 4))), It.mk (some 26) (some (24, true)) (IK.p (PK.bin BinOp.eql (Operand.tmp 25) (Operand.const (Value.int IntKind.i64 0)))), It.mk (some 27) none (IK.p (PK.pick (Operand.tmp 24) (Operand.tmp 26) (Operand.const (Value.bool false)))), It.mk (some 28) none (IK.p (PK.mov (Operand.tmp 27))), It.mk (some 29) (some (28, true)) (IK.p (PK.fAddr (Operand.tmp 3) 1 1)), It.mk (some 30) (some (28, true)) (IK.p (PK.load (Operand.tmp 29) 1 false)), It.mk (some 31) (some (28, true)) (IK.p (PK.len false (Operand.tmp 30))), It.mk (some 32) (some (28, true)) (IK.p (PK.bin BinOp.eql (Operand.tmp 31) (Operand.const (Value.int IntKind.i64 2)))), It.mk (some 33) none (IK.p (PK.pick (Operand.tmp 28) (Operand.tmp 32) (Operand.const (Value.bool false)))), It.mk (some 34) none (IK.p (PK.mov (Operand.tmp 33))), It.mk (some 35) (some (34, true)) (IK.p (PK.load (Operand.tmp 1) 39 true)), It.mk (some 36) (some (34, true)) (IK.p (PK.load (Operand.tmp 3) 40 true)), It.mk (some 37) (some (34, true)) (IK.call 56 [Operand.tmp 35, Operand.tmp 36]), It.mk (some 38) (some (34, true)) (IK.p (PK.bin BinOp.eql (Operand.tmp 37) (Operand.const (Value.int IntKind.i64 1)))), It.mk (some 39) none (IK.p (PK.pick (Operand.tmp 34) (Operand.tmp 38) (Operand.const (Value.bool false)))), It.mk (some 0) none (IK.p (PK.mov (Operand.tmp 39)))] (fun K10 hK10 => ?_)
  simp (maxSteps := 999999) (disch := omega) only [av1, av2, av3, eq_self, exists_const, forall_const, implies_true, storeOk, AS.gd, PK.more, PK.cond, PK.val, AV.get, CV.get, AV.ok, CV.ok, AV.off, CV.off, AV.set, CV.set, AV.fits, CV.fits, AV.size, AV.agg, CV.agg, AV.solid, AV.int?, AV.bool?, binOk, AV.els, CV.isByte, Sh.agg, Sh.fits, Sh.fitsL, Sh.fitsR, CV.eqv, CV.eqvs, AV.closed, rsAV, thenQ, AObj.lt, CV.numOf, Nat.reduceAdd, Nat.reduceLT, Nat.reduceMul, reduceCtorEq, ↓reduceIte, Nat.reduceEqDiff, Nat.reduceLeDiff, Nat.reduceSub, Nat.reduceBEq, Nat.reduceBNe, Int.reduceLT, Int.reduceEq, Int.reduceAdd, Int.reduceToNat, Int.reduceLE, Int.reduceBEq, Int.reduceBNe, enc1, toOut, comTx, zOpx]
  apply Exists.intro
  apply And.intro
  · first | exact (rightChannel_ap c0) | exact (fun _ => (rightChannel_ap c0)) | exact (fun h => ⟨h, (rightChannel_ap c0)⟩) | exact (fun h => ⟨by simp_all, (rightChannel_ap c0)⟩)
  (try simp only [rsAV, List.map_cons, List.map_nil, thenQ])
  refine hK10 _ ?_
  (try clear hK10)
  refine apl_cut [It.mk (some 19) none (IK.p (PK.mov (Operand.tmp 18))), It.mk (some 20) (some (19, true)) (IK.p (PK.load (Operand.tmp 2) 39 true))] [It.mk (some 21) (some (19, true)) (IK.call 50 [Operand.tmp 20]), It.mk (some 22) (some (19, true)) (IK.p (PK.not (Operand.tmp 21))), It.mk (some 23) none (IK.p (PK.pick (Operand.tmp 19) (Operand.tmp 22) (Operand.const (Value.bool false)))), It.mk (some 24) none (IK.p (PK.mov (Operand.tmp 23))), It.mk (some 25) (some (24, true)) (IK.p (PK.mov (Operand.tmp 4))), It.mk (some 26) (some (24, true)) (IK.p (PK.bin BinOp.eql (Operand.tmp 25) (Operand.const (Value.int IntKind.i64 0)))), It.mk (some 27) none (IK.p (PK.pick (Operand.tmp 24) (Operand.tmp 26) (Operand.const (Value.bool false)))), It.mk (some 28) none (IK.p (PK.mov (Operand.tmp 27))), It.mk (some 29) (some (28, true)) (IK.p (PK.fAddr (Operand.tmp 3) 1 1)), It.mk (some 30) (some (28, true)) (IK.p (PK.load (Operand.tmp 29) 1 false)), It.mk (some 31) (some (28, true)) (IK.p (PK.len false (Operand.tmp 30))), It.mk (some 32) (some (28, true)) (IK.p (PK.bin BinOp.eql (Operand.tmp 31) (Operand.const (Value.int IntKind.i64 2)))), It.mk (some 33) none (IK.p (PK.pick (Operand.tmp 28) (Operand.tmp 32) (Operand.const (Value.bool false)))), It.mk (some 34) none (IK.p (PK.mov (Operand.tmp 33))), It.mk (some 35) (some (34, true)) (IK.p (PK.load (Operand.tmp 1) 39 true)), It.mk (some 36) (some (34, true)) (IK.p (PK.load (Operand.tmp 3) 40 true)), It.mk (some 37) (some (34, true)) (IK.call 56 [Operand.tmp 35, Operand.tmp 36]), It.mk (some 38) (some (34, true)) (IK.p (PK.bin BinOp.eql (Operand.tmp 37) (Operand.const (Value.int IntKind.i64 1)))), It.mk (some 39) none (IK.p (PK.pick (Operand.tmp 34) (Operand.tmp 38) (Operand.const (Value.bool false)))), It.mk (some 0) none (IK.p (PK.mov (Operand.tmp 39)))] (fun K11 hK11 => ?_)
  simp (maxSteps := 999999) (disch := omega) only [av1, av2, av3, eq_self, exists_const, forall_const, implies_true, storeOk, AS.gd, PK.more, PK.cond, PK.val, AV.get, CV.get, AV.ok, CV.ok, AV.off, CV.off, AV.set, CV.set, AV.fits, CV.fits, AV.size, AV.agg, CV.agg, AV.solid, AV.int?, AV.bool?, binOk, AV.els, CV.isByte, Sh.agg, Sh.fits, Sh.fitsL, Sh.fitsR, CV.eqv, CV.eqvs, AV.closed, rsAV, thenQ, AObj.lt, CV.numOf, Nat.reduceAdd, Nat.reduceLT, Nat.reduceMul, reduceCtorEq, ↓reduceIte, Nat.reduceEqDiff, Nat.reduceLeDiff, Nat.reduceSub, Nat.reduceBEq, Nat.reduceBNe, Int.reduceLT, Int.reduceEq, Int.reduceAdd, Int.reduceToNat, Int.reduceLE, Int.reduceBEq, Int.reduceBNe, enc1, toOut, comTx, zOpx]
  (repeat ((with_reducible refine And.intro ?_ ?_); (first | trivial | assumption | omega | (exact nf_imp _) | (exact fn_imp _) | (intro hq; exact ⟨hq, by omega⟩) | (simp; done) | (intro hq; simp [hq]; done) | (intro hq; refine ⟨hq, fun hq2 => ?_⟩; rw [hq, hq2]; rfl))))
  refine hK11 _ ?_
  (try clear hK11)
  refine apl_cut [It.mk (some 21) (some (19, true)) (IK.call 50 [Operand.tmp 20])] [It.mk (some 22) (some (19, true)) (IK.p (PK.not (Operand.tmp 21))), It.mk (some 23) none (IK.p (PK.pick (Operand.tmp 19) (Operand.tmp 22) (Operand.const (Value.bool false)))), It.mk (some 24) none (IK.p (PK.mov (Operand.tmp 23))), It.mk (some 25) (some (24, true)) (IK.p (PK.mov (Operand.tmp 4))), It.mk (some 26) (some (24, true)) (IK.p (PK.bin BinOp.eql (Operand.tmp 25) (Operand.const (Value.int IntKind.i64 0)))), It.mk (some 27) none (IK.p (PK.pick (Operand.tmp 24) (Operand.tmp 26) (Operand.const (Value.bool false)))), It.mk (some 28) none (IK.p (PK.mov (Operand.tmp 27))), It.mk (some 29) (some (28, true)) (IK.p (PK.fAddr (Operand.tmp 3) 1 1)), It.mk (some 30) (some (28, true)) (IK.p (PK.load (Operand.tmp 29) 1 false)), It.mk (some 31) (some (28, true)) (IK.p (PK.len false (Operand.tmp 30))), It.mk (some 32) (some (28, true)) (IK.p (PK.bin BinOp.eql (Operand.tmp 31) (Operand.const (Value.int IntKind.i64 2)))), It.mk (some 33) none (IK.p (PK.pick (Operand.tmp 28) (Operand.tmp 32) (Operand.const (Value.bool false)))), It.mk (some 34) none (IK.p (PK.mov (Operand.tmp 33))), It.mk (some 35) (some (34, true)) (IK.p (PK.load (Operand.tmp 1) 39 true)), It.mk (some 36) (some (34, true)) (IK.p (PK.load (Operand.tmp 3) 40 true)), It.mk (some 37) (some (34, true)) (IK.call 56 [Operand.tmp 35, Operand.tmp 36]), It.mk (some 38) (some (34, true)) (IK.p (PK.bin BinOp.eql (Operand.tmp 37) (Operand.const (Value.int IntKind.i64 1)))), It.mk (some 39) none (IK.p (PK.pick (Operand.tmp 34) (Operand.tmp 38) (Operand.const (Value.bool false)))), It.mk (some 0) none (IK.p (PK.mov (Operand.tmp 39)))] (fun K12 hK12 => ?_)
  simp (maxSteps := 999999) (disch := omega) only [av1, av2, av3, eq_self, exists_const, forall_const, implies_true, storeOk, AS.gd, PK.more, PK.cond, PK.val, AV.get, CV.get, AV.ok, CV.ok, AV.off, CV.off, AV.set, CV.set, AV.fits, CV.fits, AV.size, AV.agg, CV.agg, AV.solid, AV.int?, AV.bool?, binOk, AV.els, CV.isByte, Sh.agg, Sh.fits, Sh.fitsL, Sh.fitsR, CV.eqv, CV.eqvs, AV.closed, rsAV, thenQ, AObj.lt, CV.numOf, Nat.reduceAdd, Nat.reduceLT, Nat.reduceMul, reduceCtorEq, ↓reduceIte, Nat.reduceEqDiff, Nat.reduceLeDiff, Nat.reduceSub, Nat.reduceBEq, Nat.reduceBNe, Int.reduceLT, Int.reduceEq, Int.reduceAdd, Int.reduceToNat, Int.reduceLE, Int.reduceBEq, Int.reduceBNe, enc1, toOut, comTx, zOpx]
  apply Exists.intro
  apply And.intro
  · first | exact (rightChannel_ap d0) | exact (fun _ => (rightChannel_ap d0)) | exact (fun h => ⟨h, (rightChannel_ap d0)⟩) | exact (fun h => ⟨by simp_all, (rightChannel_ap d0)⟩)
  (try simp only [rsAV, List.map_cons, List.map_nil, thenQ])
  refine hK12 _ ?_
  (try clear hK12)
  refine apl_cut [It.mk (some 22) (some (19, true)) (IK.p (PK.not (Operand.tmp 21))), It.mk (some 23) none (IK.p (PK.pick (Operand.tmp 19) (Operand.tmp 22) (Operand.const (Value.bool false)))), It.mk (some 24) none (IK.p (PK.mov (Operand.tmp 23))), It.mk (some 25) (some (24, true)) (IK.p (PK.mov (Operand.tmp 4))), It.mk (some 26) (some (24, true)) (IK.p (PK.bin BinOp.eql (Operand.tmp 25) (Operand.const (Value.int IntKind.i64 0)))), It.mk (some 27) none (IK.p (PK.pick (Operand.tmp 24) (Operand.tmp 26) (Operand.const (Value.bool false)))), It.mk (some 28) none (IK.p (PK.mov (Operand.tmp 27))), It.mk (some 29) (some (28, true)) (IK.p (PK.fAddr (Operand.tmp 3) 1 1)), It.mk (some 30) (some (28, true)) (IK.p (PK.load (Operand.tmp 29) 1 false)), It.mk (some 31) (some (28, true)) (IK.p (PK.len false (Operand.tmp 30))), It.mk (some 32) (some (28, true)) (IK.p (PK.bin BinOp.eql (Operand.tmp 31) (Operand.const (Value.int IntKind.i64 2)))), It.mk (some 33) none (IK.p (PK.pick (Operand.tmp 28) (Operand.tmp 32) (Operand.const (Value.bool false)))), It.mk (some 34) none (IK.p (PK.mov (Operand.tmp 33))), It.mk (some 35) (some (34, true)) (IK.p (PK.load (Operand.tmp 1) 39 true)), It.mk (some 36) (some (34, true)) (IK.p (PK.load (Operand.tmp 3) 40 true))] [It.mk (some 37) (some (34, true)) (IK.call 56 [Operand.tmp 35, Operand.tmp 36]), It.mk (some 38) (some (34, true)) (IK.p (PK.bin BinOp.eql (Operand.tmp 37) (Operand.const (Value.int IntKind.i64 1)))), It.mk (some 39) none (IK.p (PK.pick (Operand.tmp 34) (Operand.tmp 38) (Operand.const (Value.bool false)))), It.mk (some 0) none (IK.p (PK.mov (Operand.tmp 39)))] (fun K13 hK13 => ?_)
  simp (maxSteps := 999999) (disch := omega) only [av1, av2, av3, eq_self, exists_const, forall_const, implies_true, storeOk, AS.gd, PK.more, PK.cond, PK.val, AV.get, CV.get, AV.ok, CV.ok, AV.off, CV.off, AV.set, CV.set, AV.fits, CV.fits, AV.size, AV.agg, CV.agg, AV.solid, AV.int?, AV.bool?, binOk, AV.els, CV.isByte, Sh.agg, Sh.fits, Sh.fitsL, Sh.fitsR, CV.eqv, CV.eqvs, AV.closed, rsAV, thenQ, AObj.lt, CV.numOf, Nat.reduceAdd, Nat.reduceLT, Nat.reduceMul, reduceCtorEq, ↓reduceIte, Nat.reduceEqDiff, Nat.reduceLeDiff, Nat.reduceSub, Nat.reduceBEq, Nat.reduceBNe, Int.reduceLT, Int.reduceEq, Int.reduceAdd, Int.reduceToNat, Int.reduceLE, Int.reduceBEq, Int.reduceBNe, enc1, toOut, comTx, zOpx]
  (repeat ((with_reducible refine And.intro ?_ ?_); (first | trivial | assumption | omega | (exact nf_imp _) | (exact fn_imp _) | (intro hq; exact ⟨hq, by omega⟩) | (simp; done) | (intro hq; simp [hq]; done) | (intro hq; refine ⟨hq, fun hq2 => ?_⟩; rw [hq, hq2]; rfl))))
  refine hK13 _ ?_
  (try clear hK13)
  refine apl_cut [It.mk (some 37) (some (34, true)) (IK.call 56 [Operand.tmp 35, Operand.tmp 36])] [It.mk (some 38) (some (34, true)) (IK.p (PK.bin BinOp.eql (Operand.tmp 37) (Operand.const (Value.int IntKind.i64 1)))), It.mk (some 39) none (IK.p (PK.pick (Operand.tmp 34) (Operand.tmp 38) (Operand.const (Value.bool false)))), It.mk (some 0) none (IK.p (PK.mov (Operand.tmp 39)))] (fun K14 hK14 => ?_)
  simp (maxSteps := 999999) (disch := omega) only [av1, av2, av3, eq_self, exists_const, forall_const, implies_true, storeOk, AS.gd, PK.more, PK.cond, PK.val, AV.get, CV.get, AV.ok, CV.ok, AV.off, CV.off, AV.set, CV.set, AV.fits, CV.fits, AV.size, AV.agg, CV.agg, AV.solid, AV.int?, AV.bool?, binOk, AV.els, CV.isByte, Sh.agg, Sh.fits, Sh.fitsL, Sh.fitsR, CV.eqv, CV.eqvs, AV.closed, rsAV, thenQ, AObj.lt, CV.numOf, Nat.reduceAdd, Nat.reduceLT, Nat.reduceMul, reduceCtorEq, ↓reduceIte, Nat.reduceEqDiff, Nat.reduceLeDiff, Nat.reduceSub, Nat.reduceBEq, Nat.reduceBNe, Int.reduceLT, Int.reduceEq, Int.reduceAdd, Int.reduceToNat, Int.reduceLE, Int.reduceBEq, Int.reduceBNe, enc1, toOut, comTx, zOpx]
  apply Exists.intro
  apply And.intro
  · first | exact (ownerFull_ap c0 ⟨Z32, 0, 0, []⟩ 0 2 1 ⟨[2], Z32, 0, 4⟩ ⟨[1], Z32.set 0 2, 0, 0⟩ (toOut 1 5) zOpx [] rfl rfl (okTo (okSmall (by decide) (by decide)) (okSmall (by decide) (by decide))) rfl rfl rfl) | exact (fun _ => (ownerFull_ap c0 ⟨Z32, 0, 0, []⟩ 0 2 1 ⟨[2], Z32, 0, 4⟩ ⟨[1], Z32.set 0 2, 0, 0⟩ (toOut 1 5) zOpx [] rfl rfl (okTo (okSmall (by decide) (by decide)) (okSmall (by decide) (by decide))) rfl rfl rfl)) | exact (fun h => ⟨h, (ownerFull_ap c0 ⟨Z32, 0, 0, []⟩ 0 2 1 ⟨[2], Z32, 0, 4⟩ ⟨[1], Z32.set 0 2, 0, 0⟩ (toOut 1 5) zOpx [] rfl rfl (okTo (okSmall (by decide) (by decide)) (okSmall (by decide) (by decide))) rfl rfl rfl)⟩) | exact (fun h => ⟨by simp_all, (ownerFull_ap c0 ⟨Z32, 0, 0, []⟩ 0 2 1 ⟨[2], Z32, 0, 4⟩ ⟨[1], Z32.set 0 2, 0, 0⟩ (toOut 1 5) zOpx [] rfl rfl (okTo (okSmall (by decide) (by decide)) (okSmall (by decide) (by decide))) rfl rfl rfl)⟩)
  (try simp only [rsAV, List.map_cons, List.map_nil, thenQ])
  refine hK14 _ ?_
  (try clear hK14)
  simp (maxSteps := 999999) (disch := omega) only [av1, av2, av3, eq_self, exists_const, forall_const, implies_true, storeOk, AS.gd, PK.more, PK.cond, PK.val, AV.get, CV.get, AV.ok, CV.ok, AV.off, CV.off, AV.set, CV.set, AV.fits, CV.fits, AV.size, AV.agg, CV.agg, AV.solid, AV.int?, AV.bool?, binOk, AV.els, CV.isByte, Sh.agg, Sh.fits, Sh.fitsL, Sh.fitsR, CV.eqv, CV.eqvs, AV.closed, rsAV, thenQ, AObj.lt, CV.numOf, Nat.reduceAdd, Nat.reduceLT, Nat.reduceMul, reduceCtorEq, ↓reduceIte, Nat.reduceEqDiff, Nat.reduceLeDiff, Nat.reduceSub, Nat.reduceBEq, Nat.reduceBNe, Int.reduceLT, Int.reduceEq, Int.reduceAdd, Int.reduceToNat, Int.reduceLE, Int.reduceBEq, Int.reduceBNe, enc1, toOut, comTx, zOpx]
  (repeat ((with_reducible refine And.intro ?_ ?_); (first | trivial | assumption | omega | (exact nf_imp _) | (exact fn_imp _) | (intro hq; exact ⟨hq, by omega⟩) | (simp; done) | (intro hq; simp [hq]; done) | (intro hq; refine ⟨hq, fun hq2 => ?_⟩; rw [hq, hq2]; rfl))))
  refine hK8 _ ?_
  (try clear hK8)
  refine at_ret ?_
  simp (maxSteps := 999999) (disch := omega) only [av1, av2, av3, eq_self, exists_const, forall_const, implies_true, storeOk, AS.gd, PK.more, PK.cond, PK.val, AV.get, CV.get, AV.ok, CV.ok, AV.off, CV.off, AV.set, CV.set, AV.fits, CV.fits, AV.size, AV.agg, CV.agg, AV.solid, AV.int?, AV.bool?, binOk, AV.els, CV.isByte, Sh.agg, Sh.fits, Sh.fitsL, Sh.fitsR, CV.eqv, CV.eqvs, AV.closed, rsAV, thenQ, AObj.lt, CV.numOf, Nat.reduceAdd, Nat.reduceLT, Nat.reduceMul, reduceCtorEq, ↓reduceIte, Nat.reduceEqDiff, Nat.reduceLeDiff, Nat.reduceSub, Nat.reduceBEq, Nat.reduceBNe, Int.reduceLT, Int.reduceEq, Int.reduceAdd, Int.reduceToNat, Int.reduceLE, Int.reduceBEq, Int.reduceBNe, enc1, toOut, comTx, zOpx, blockQ, retQ, RetOk, ResOk, AV.fin, AV.fins, CV.le, CV.les]
  (refine pv_bool ?_; decide)
theorem fund_same {c : Chan} {x y : Int} (h : (c.client ≤ c.peer ∧ x = c.client ∧ y = c.peer) ∨ (c.peer < c.client ∧ x = c.peer ∧ y = c.client)) : sameOut (fundOut c) ⟨c.cap, [⟨[x, y], Z32, 0, 0⟩]⟩ = true := by
  have e : fundOut c = ⟨c.cap, [⟨[x, y], Z32, 0, 0⟩]⟩ := by
    unfold fundOut
    rcases h with ⟨h1, rfl, rfl⟩ | ⟨h1, rfl, rfl⟩
    · by_cases h2 : c.peer > c.client
      · rw [if_neg (by omega), if_pos h2]
      · rw [if_neg (by omega), if_neg h2, show c.peer = c.client by omega]
    · rw [if_pos h1, if_neg (by omega)]
  rw [e]
  exact sameOut_self _
set_option maxRecDepth 100000 in
set_option maxHeartbeats 4000000 in
theorem commitFunds_ap (c : Chan) (hc : OkChan c) : AP Try.prog 8 [cChan c] [.pv (.bool true)] := by
  refine ap_of (fun _ _ => Try.call8 _ _) Try.func8 rfl Try.ntmps8 (by simp) (zs := [RZ.mk 2 none]) (by kernel_rfl) (fun w F => ?_)
  simp only [List.map_cons, List.map_nil, argT, Nat.reduceAdd]
  refine at_seq fun K1 hK1 => ?_
  refine at_region [It.mk (some 1) none (IK.box (Operand.tmp 0)), It.mk (some 2) none (IK.p (PK.mov (Operand.const (Value.bool false))))] (by kernel_rfl) ?_
  simp (maxSteps := 999999) (disch := omega) only [av1, av2, av3, eq_self, exists_const, forall_const, implies_true, storeOk, AS.gd, PK.more, PK.cond, PK.val, AV.get, CV.get, AV.ok, CV.ok, AV.off, CV.off, AV.set, CV.set, AV.fits, CV.fits, AV.size, AV.agg, CV.agg, AV.solid, AV.int?, AV.bool?, binOk, AV.els, CV.isByte, Sh.agg, Sh.fits, Sh.fitsL, Sh.fitsR, CV.eqv, CV.eqvs, AV.closed, rsAV, thenQ, AObj.lt, CV.numOf, Nat.reduceAdd, Nat.reduceLT, Nat.reduceMul, reduceCtorEq, ↓reduceIte, Nat.reduceEqDiff, Nat.reduceLeDiff, Nat.reduceSub, Nat.reduceBEq, Nat.reduceBNe, Int.reduceLT, Int.reduceEq, Int.reduceAdd, Int.reduceToNat, Int.reduceLE, Int.reduceBEq, Int.reduceBNe, enc1, cChan]
  (repeat ((with_reducible refine And.intro ?_ ?_); (first | trivial | assumption | omega | (exact nf_imp _) | (exact fn_imp _) | (intro hq; exact ⟨hq, by omega⟩) | (simp; done) | (intro hq; simp [hq]; done) | (intro hq; refine ⟨hq, fun hq2 => ?_⟩; rw [hq, hq2]; rfl))))
  refine hK1 _ ?_
  (try clear hK1)
  refine at_seq fun K2 hK2 => ?_
  refine at_draws [] (by kernel_rfl) ?_
  refine ag_pures (fuel := 0) [0, 1, 2, 3, 4, 5] [It.mk (some 5) none (IK.p (PK.fAddr (Operand.tmp 1) 1 1)), It.mk (some 6) none (IK.p (PK.load (Operand.tmp 5) 1 false)), It.mk (some 7) none (IK.p (PK.fAddr (Operand.tmp 1) 2 2)), It.mk (some 8) none (IK.p (PK.load (Operand.tmp 7) 1 false)), It.mk (some 3) none (IK.p (PK.mov (Operand.tmp 6))), It.mk (some 4) none (IK.p (PK.mov (Operand.tmp 8)))] (by kernel_rfl) (by kernel_rfl) (by kernel_rfl) (by kernel_rfl) (hideZ_nil _ 0) (fun K3 hK3 => ?_)
  simp (maxSteps := 999999) (disch := omega) only [av1, av2, av3, eq_self, exists_const, forall_const, implies_true, storeOk, AS.gd, PK.more, PK.cond, PK.val, AV.get, CV.get, AV.ok, CV.ok, AV.off, CV.off, AV.set, CV.set, AV.fits, CV.fits, AV.size, AV.agg, CV.agg, AV.solid, AV.int?, AV.bool?, binOk, AV.els, CV.isByte, Sh.agg, Sh.fits, Sh.fitsL, Sh.fitsR, CV.eqv, CV.eqvs, AV.closed, rsAV, thenQ, AObj.lt, CV.numOf, Nat.reduceAdd, Nat.reduceLT, Nat.reduceMul, reduceCtorEq, ↓reduceIte, Nat.reduceEqDiff, Nat.reduceLeDiff, Nat.reduceSub, Nat.reduceBEq, Nat.reduceBNe, Int.reduceLT, Int.reduceEq, Int.reduceAdd, Int.reduceToNat, Int.reduceLE, Int.reduceBEq, Int.reduceBNe, enc1, cChan]
  (repeat ((with_reducible refine And.intro ?_ ?_); (first | trivial | assumption | omega | (exact nf_imp _) | (exact fn_imp _) | (intro hq; exact ⟨hq, by omega⟩) | (simp; done) | (intro hq; simp [hq]; done) | (intro hq; refine ⟨hq, fun hq2 => ?_⟩; rw [hq, hq2]; rfl))))
  refine hK3 _ ?_
  (try clear hK3)
  refine ag_done (by kernel_rfl) ?_
  (try simp only [thenQ])
  refine hK2 _ ?_
  (try clear hK2)
  refine at_seq fun K4 hK4 => ?_
  refine at_seq fun K5 hK5 => ?_
  refine at_region [It.mk (some 9) none (IK.p (PK.mov (Operand.tmp 3))), It.mk (some 10) none (IK.p (PK.mov (Operand.tmp 4))), It.mk (some 11) none (IK.p (PK.bin BinOp.gtr (Operand.tmp 9) (Operand.tmp 10)))] (by kernel_rfl) ?_
  simp (maxSteps := 999999) (disch := omega) only [av1, av2, av3, eq_self, exists_const, forall_const, implies_true, storeOk, AS.gd, PK.more, PK.cond, PK.val, AV.get, CV.get, AV.ok, CV.ok, AV.off, CV.off, AV.set, CV.set, AV.fits, CV.fits, AV.size, AV.agg, CV.agg, AV.solid, AV.int?, AV.bool?, binOk, AV.els, CV.isByte, Sh.agg, Sh.fits, Sh.fitsL, Sh.fitsR, CV.eqv, CV.eqvs, AV.closed, rsAV, thenQ, AObj.lt, CV.numOf, Nat.reduceAdd, Nat.reduceLT, Nat.reduceMul, reduceCtorEq, ↓reduceIte, Nat.reduceEqDiff, Nat.reduceLeDiff, Nat.reduceSub, Nat.reduceBEq, Nat.reduceBNe, Int.reduceLT, Int.reduceEq, Int.reduceAdd, Int.reduceToNat, Int.reduceLE, Int.reduceBEq, Int.reduceBNe, enc1, cChan]
  (repeat ((with_reducible refine And.intro ?_ ?_); (first | trivial | assumption | omega | (exact nf_imp _) | (exact fn_imp _) | (intro hq; exact ⟨hq, by omega⟩) | (simp; done) | (intro hq; simp [hq]; done) | (intro hq; refine ⟨hq, fun hq2 => ?_⟩; rw [hq, hq2]; rfl))))
  refine hK5 _ ?_
  (try clear hK5)
  refine at_cond _ rfl rfl (fun h6 => ?_) (fun h6 => ?_)
  · have r6 := h6
    (try simp only [decide_eq_true_eq, decide_eq_false_iff_not, Bool.and_eq_true, Bool.or_eq_true, Bool.and_eq_false_iff, Bool.or_eq_false_iff, Bool.not_eq_true', Bool.not_eq_false', Bool.not_true, Bool.not_false, Int.not_lt, Int.not_le, Nat.not_lt, Nat.not_le, int_ofNat_lt, int_ofNat_le, beq_iff_eq, bne_iff_ne, ne_eq, gt_iff_lt, ge_iff_le, Bool.not_eq_true, beq_eq_false_iff_ne, bne_eq_false_iff_eq] at h6)
    refine at_region [It.mk (some 12) none (IK.p (PK.mov (Operand.tmp 4))), It.mk (some 13) none (IK.p (PK.mov (Operand.tmp 3))), It.mk (some 3) none (IK.p (PK.mov (Operand.tmp 12))), It.mk (some 4) none (IK.p (PK.mov (Operand.tmp 13)))] (by kernel_rfl) ?_
    simp (maxSteps := 999999) (disch := omega) only [av1, av2, av3, eq_self, exists_const, forall_const, implies_true, storeOk, AS.gd, PK.more, PK.cond, PK.val, AV.get, CV.get, AV.ok, CV.ok, AV.off, CV.off, AV.set, CV.set, AV.fits, CV.fits, AV.size, AV.agg, CV.agg, AV.solid, AV.int?, AV.bool?, binOk, AV.els, CV.isByte, Sh.agg, Sh.fits, Sh.fitsL, Sh.fitsR, CV.eqv, CV.eqvs, AV.closed, rsAV, thenQ, AObj.lt, CV.numOf, Nat.reduceAdd, Nat.reduceLT, Nat.reduceMul, reduceCtorEq, ↓reduceIte, Nat.reduceEqDiff, Nat.reduceLeDiff, Nat.reduceSub, Nat.reduceBEq, Nat.reduceBNe, Int.reduceLT, Int.reduceEq, Int.reduceAdd, Int.reduceToNat, Int.reduceLE, Int.reduceBEq, Int.reduceBNe, enc1, cChan]
    (repeat ((with_reducible refine And.intro ?_ ?_); (first | trivial | assumption | omega | (exact nf_imp _) | (exact fn_imp _) | (intro hq; exact ⟨hq, by omega⟩) | (simp; done) | (intro hq; simp [hq]; done) | (intro hq; refine ⟨hq, fun hq2 => ?_⟩; rw [hq, hq2]; rfl))))
    refine hK4 _ ?_
    (try clear hK4)
    refine at_seq fun K7 hK7 => ?_
    refine at_draws [] (by kernel_rfl) ?_
    refine ag_pures (fuel := 10) [0, 2, 3, 4, 5] [It.mk (some 14) none (IK.p (PK.load (Operand.tmp 1) 39 true)), It.mk (some 16) none (IK.p (PK.fAddr (Operand.tmp 1) 4 36)), It.mk (some 17) none (IK.p (PK.load (Operand.tmp 16) 1 false)), It.mk (some 18) none (IK.p (PK.mov (Operand.tmp 3))), It.mk (some 19) none (IK.p (PK.mov (Operand.tmp 4)))] (by kernel_rfl) (by kernel_rfl) (by kernel_rfl) (by kernel_rfl) (hideZ_nil _ 0) (fun K8 hK8 => ?_)
    simp (maxSteps := 999999) (disch := omega) only [av1, av2, av3, eq_self, exists_const, forall_const, implies_true, storeOk, AS.gd, PK.more, PK.cond, PK.val, AV.get, CV.get, AV.ok, CV.ok, AV.off, CV.off, AV.set, CV.set, AV.fits, CV.fits, AV.size, AV.agg, CV.agg, AV.solid, AV.int?, AV.bool?, binOk, AV.els, CV.isByte, Sh.agg, Sh.fits, Sh.fitsL, Sh.fitsR, CV.eqv, CV.eqvs, AV.closed, rsAV, thenQ, AObj.lt, CV.numOf, Nat.reduceAdd, Nat.reduceLT, Nat.reduceMul, reduceCtorEq, ↓reduceIte, Nat.reduceEqDiff, Nat.reduceLeDiff, Nat.reduceSub, Nat.reduceBEq, Nat.reduceBNe, Int.reduceLT, Int.reduceEq, Int.reduceAdd, Int.reduceToNat, Int.reduceLE, Int.reduceBEq, Int.reduceBNe, enc1, cChan]
    (repeat ((with_reducible refine And.intro ?_ ?_); (first | trivial | assumption | omega | (exact nf_imp _) | (exact fn_imp _) | (intro hq; exact ⟨hq, by omega⟩) | (simp; done) | (intro hq; simp [hq]; done) | (intro hq; refine ⟨hq, fun hq2 => ?_⟩; rw [hq, hq2]; rfl))))
    refine hK8 _ ?_
    (try clear hK8)
    refine ag_two (i := 1) (j := 6) (by kernel_rfl) ?_ ?_
    · refine agi (it := It.mk (some 15) none (IK.call 46 [Operand.tmp 14])) (R' := [5, 4, 3, 2]) (by kernel_rfl) (.inl rfl) (by kernel_rfl) (fun K9 hK9 => ?_)
      simp (maxSteps := 999999) (disch := omega) only [av1, av2, av3, eq_self, exists_const, forall_const, implies_true, storeOk, AS.gd, PK.more, PK.cond, PK.val, AV.get, CV.get, AV.ok, CV.ok, AV.off, CV.off, AV.set, CV.set, AV.fits, CV.fits, AV.size, AV.agg, CV.agg, AV.solid, AV.int?, AV.bool?, binOk, AV.els, CV.isByte, Sh.agg, Sh.fits, Sh.fitsL, Sh.fitsR, CV.eqv, CV.eqvs, AV.closed, rsAV, thenQ, AObj.lt, CV.numOf, Nat.reduceAdd, Nat.reduceLT, Nat.reduceMul, reduceCtorEq, ↓reduceIte, Nat.reduceEqDiff, Nat.reduceLeDiff, Nat.reduceSub, Nat.reduceBEq, Nat.reduceBNe, Int.reduceLT, Int.reduceEq, Int.reduceAdd, Int.reduceToNat, Int.reduceLE, Int.reduceBEq, Int.reduceBNe, enc1, cChan]
      apply Exists.intro
      apply And.intro
      · first | exact (fund_ap c) | exact (fun _ => (fund_ap c)) | exact (fun h => ⟨h, (fund_ap c)⟩) | exact (fun h => ⟨by simp_all, (fund_ap c)⟩)
      (try simp only [rsAV, List.map_cons, List.map_nil, thenQ])
      refine hK9 _ ?_
      (try clear hK9)
      refine ag_one (i := 6) (by kernel_rfl) ?_
      refine agi (it := It.mk (some 20) none (IK.lit 1 [Operand.tmp 18, Operand.tmp 19])) (R' := [3, 2]) (by kernel_rfl) (.inl rfl) (by kernel_rfl) (fun K10 hK10 => ?_)
      simp (maxSteps := 999999) (disch := omega) only [av1, av2, av3, eq_self, exists_const, forall_const, implies_true, storeOk, AS.gd, PK.more, PK.cond, PK.val, AV.get, CV.get, AV.ok, CV.ok, AV.off, CV.off, AV.set, CV.set, AV.fits, CV.fits, AV.size, AV.agg, CV.agg, AV.solid, AV.int?, AV.bool?, binOk, AV.els, CV.isByte, Sh.agg, Sh.fits, Sh.fitsL, Sh.fitsR, CV.eqv, CV.eqvs, AV.closed, rsAV, thenQ, AObj.lt, CV.numOf, Nat.reduceAdd, Nat.reduceLT, Nat.reduceMul, reduceCtorEq, ↓reduceIte, Nat.reduceEqDiff, Nat.reduceLeDiff, Nat.reduceSub, Nat.reduceBEq, Nat.reduceBNe, Int.reduceLT, Int.reduceEq, Int.reduceAdd, Int.reduceToNat, Int.reduceLE, Int.reduceBEq, Int.reduceBNe, enc1, cChan]
      (repeat ((with_reducible refine And.intro ?_ ?_); (first | trivial | assumption | omega | (exact nf_imp _) | (exact fn_imp _) | (intro hq; exact ⟨hq, by omega⟩) | (simp; done) | (intro hq; simp [hq]; done) | (intro hq; refine ⟨hq, fun hq2 => ?_⟩; rw [hq, hq2]; rfl))))
      refine hK10 _ ?_
      (try clear hK10)
      refine ag_pures (fuel := 7) [7] [It.mk (some 21) none (IK.p (PK.bld (CV.st [CV.pv (Value.slice none 0 0), CV.ar IntKind.u8 32 (List.replicate 32 0), CV.pv (Value.int IntKind.i64 0), CV.pv (Value.int IntKind.i64 0)]) [(0, 1), (1, 32), (33, 1), (34, 1)] [(0, Operand.tmp 20)]))] (by kernel_rfl) (by kernel_rfl) (by kernel_rfl) (by kernel_rfl) (hideZ_nil _ 0) (fun K11 hK11 => ?_)
      simp (maxSteps := 999999) (disch := omega) only [av1, av2, av3, eq_self, exists_const, forall_const, implies_true, storeOk, AS.gd, PK.more, PK.cond, PK.val, AV.get, CV.get, AV.ok, CV.ok, AV.off, CV.off, AV.set, CV.set, AV.fits, CV.fits, AV.size, AV.agg, CV.agg, AV.solid, AV.int?, AV.bool?, binOk, AV.els, CV.isByte, Sh.agg, Sh.fits, Sh.fitsL, Sh.fitsR, CV.eqv, CV.eqvs, AV.closed, rsAV, thenQ, AObj.lt, CV.numOf, Nat.reduceAdd, Nat.reduceLT, Nat.reduceMul, reduceCtorEq, ↓reduceIte, Nat.reduceEqDiff, Nat.reduceLeDiff, Nat.reduceSub, Nat.reduceBEq, Nat.reduceBNe, Int.reduceLT, Int.reduceEq, Int.reduceAdd, Int.reduceToNat, Int.reduceLE, Int.reduceBEq, Int.reduceBNe, enc1, cChan]
      (repeat ((with_reducible refine And.intro ?_ ?_); (first | trivial | assumption | omega | (exact nf_imp _) | (exact fn_imp _) | (intro hq; exact ⟨hq, by omega⟩) | (simp; done) | (intro hq; simp [hq]; done) | (intro hq; refine ⟨hq, fun hq2 => ?_⟩; rw [hq, hq2]; rfl))))
      refine hK11 _ ?_
      (try clear hK11)
      refine ag_one (i := 8) (by kernel_rfl) ?_
      refine agi (it := It.mk (some 22) none (IK.lit 35 [Operand.tmp 21])) (R' := [3, 2]) (by kernel_rfl) (.inl rfl) (by kernel_rfl) (fun K12 hK12 => ?_)
      simp (maxSteps := 999999) (disch := omega) only [av1, av2, av3, eq_self, exists_const, forall_const, implies_true, storeOk, AS.gd, PK.more, PK.cond, PK.val, AV.get, CV.get, AV.ok, CV.ok, AV.off, CV.off, AV.set, CV.set, AV.fits, CV.fits, AV.size, AV.agg, CV.agg, AV.solid, AV.int?, AV.bool?, binOk, AV.els, CV.isByte, Sh.agg, Sh.fits, Sh.fitsL, Sh.fitsR, CV.eqv, CV.eqvs, AV.closed, rsAV, thenQ, AObj.lt, CV.numOf, Nat.reduceAdd, Nat.reduceLT, Nat.reduceMul, reduceCtorEq, ↓reduceIte, Nat.reduceEqDiff, Nat.reduceLeDiff, Nat.reduceSub, Nat.reduceBEq, Nat.reduceBNe, Int.reduceLT, Int.reduceEq, Int.reduceAdd, Int.reduceToNat, Int.reduceLE, Int.reduceBEq, Int.reduceBNe, enc1, cChan]
      (repeat ((with_reducible refine And.intro ?_ ?_); (first | trivial | assumption | omega | (exact nf_imp _) | (exact fn_imp _) | (intro hq; exact ⟨hq, by omega⟩) | (simp; done) | (intro hq; simp [hq]; done) | (intro hq; refine ⟨hq, fun hq2 => ?_⟩; rw [hq, hq2]; rfl))))
      refine hK12 _ ?_
      (try clear hK12)
      refine ag_pures (fuel := 5) [9] [It.mk (some 23) none (IK.p (PK.bld (CV.st [CV.pv (Value.int IntKind.i64 0), CV.pv (Value.slice none 0 0)]) [(0, 1), (1, 1)] [(0, Operand.tmp 17), (1, Operand.tmp 22)]))] (by kernel_rfl) (by kernel_rfl) (by kernel_rfl) (by kernel_rfl) (hideZ_nil _ 0) (fun K13 hK13 => ?_)
      simp (maxSteps := 999999) (disch := omega) only [av1, av2, av3, eq_self, exists_const, forall_const, implies_true, storeOk, AS.gd, PK.more, PK.cond, PK.val, AV.get, CV.get, AV.ok, CV.ok, AV.off, CV.off, AV.set, CV.set, AV.fits, CV.fits, AV.size, AV.agg, CV.agg, AV.solid, AV.int?, AV.bool?, binOk, AV.els, CV.isByte, Sh.agg, Sh.fits, Sh.fitsL, Sh.fitsR, CV.eqv, CV.eqvs, AV.closed, rsAV, thenQ, AObj.lt, CV.numOf, Nat.reduceAdd, Nat.reduceLT, Nat.reduceMul, reduceCtorEq, ↓reduceIte, Nat.reduceEqDiff, Nat.reduceLeDiff, Nat.reduceSub, Nat.reduceBEq, Nat.reduceBNe, Int.reduceLT, Int.reduceEq, Int.reduceAdd, Int.reduceToNat, Int.reduceLE, Int.reduceBEq, Int.reduceBNe, enc1, cChan]
      (repeat ((with_reducible refine And.intro ?_ ?_); (first | trivial | assumption | omega | (exact nf_imp _) | (exact fn_imp _) | (intro hq; exact ⟨hq, by omega⟩) | (simp; done) | (intro hq; simp [hq]; done) | (intro hq; refine ⟨hq, fun hq2 => ?_⟩; rw [hq, hq2]; rfl))))
      refine hK13 _ ?_
      (try clear hK13)
      refine ag_one (i := 10) (by kernel_rfl) ?_
      refine agi (it := It.mk (some 24) none (IK.call 33 [Operand.tmp 15, Operand.tmp 23])) (R' := []) (by kernel_rfl) (.inl rfl) (by kernel_rfl) (fun K14 hK14 => ?_)
      simp (maxSteps := 999999) (disch := omega) only [av1, av2, av3, eq_self, exists_const, forall_const, implies_true, storeOk, AS.gd, PK.more, PK.cond, PK.val, AV.get, CV.get, AV.ok, CV.ok, AV.off, CV.off, AV.set, CV.set, AV.fits, CV.fits, AV.size, AV.agg, CV.agg, AV.solid, AV.int?, AV.bool?, binOk, AV.els, CV.isByte, Sh.agg, Sh.fits, Sh.fitsL, Sh.fitsR, CV.eqv, CV.eqvs, AV.closed, rsAV, thenQ, AObj.lt, CV.numOf, Nat.reduceAdd, Nat.reduceLT, Nat.reduceMul, reduceCtorEq, ↓reduceIte, Nat.reduceEqDiff, Nat.reduceLeDiff, Nat.reduceSub, Nat.reduceBEq, Nat.reduceBNe, Int.reduceLT, Int.reduceEq, Int.reduceAdd, Int.reduceToNat, Int.reduceLE, Int.reduceBEq, Int.reduceBNe, enc1, cChan]
      apply Exists.intro
      apply And.intro
      · first | exact (lockSame_ap (fundOut c) ⟨c.cap, [⟨[_, _], Z32, 0, 0⟩]⟩ (okFund hc) (okOne (by simp) (fun x hx => by
      simp at hx
      rcases hx with rfl | rfl <;> first | exact hc.client | exact hc.peer) hc.cap)) | exact (fun _ => (lockSame_ap (fundOut c) ⟨c.cap, [⟨[_, _], Z32, 0, 0⟩]⟩ (okFund hc) (okOne (by simp) (fun x hx => by
      simp at hx
      rcases hx with rfl | rfl <;> first | exact hc.client | exact hc.peer) hc.cap))) | exact (fun h => ⟨h, (lockSame_ap (fundOut c) ⟨c.cap, [⟨[_, _], Z32, 0, 0⟩]⟩ (okFund hc) (okOne (by simp) (fun x hx => by
      simp at hx
      rcases hx with rfl | rfl <;> first | exact hc.client | exact hc.peer) hc.cap))⟩) | exact (fun h => ⟨by simp_all, (lockSame_ap (fundOut c) ⟨c.cap, [⟨[_, _], Z32, 0, 0⟩]⟩ (okFund hc) (okOne (by simp) (fun x hx => by
      simp at hx
      rcases hx with rfl | rfl <;> first | exact hc.client | exact hc.peer) hc.cap))⟩)
      (try simp only [rsAV, List.map_cons, List.map_nil, thenQ])
      refine hK14 _ ?_
      (try clear hK14)
      refine ag_pures (fuel := 3) [11] [It.mk (some 25) none (IK.p (PK.mov (Operand.tmp 24)))] (by kernel_rfl) (by kernel_rfl) (by kernel_rfl) (by kernel_rfl) (hideZ_nil _ 0) (fun K15 hK15 => ?_)
      simp (maxSteps := 999999) (disch := omega) only [av1, av2, av3, eq_self, exists_const, forall_const, implies_true, storeOk, AS.gd, PK.more, PK.cond, PK.val, AV.get, CV.get, AV.ok, CV.ok, AV.off, CV.off, AV.set, CV.set, AV.fits, CV.fits, AV.size, AV.agg, CV.agg, AV.solid, AV.int?, AV.bool?, binOk, AV.els, CV.isByte, Sh.agg, Sh.fits, Sh.fitsL, Sh.fitsR, CV.eqv, CV.eqvs, AV.closed, rsAV, thenQ, AObj.lt, CV.numOf, Nat.reduceAdd, Nat.reduceLT, Nat.reduceMul, reduceCtorEq, ↓reduceIte, Nat.reduceEqDiff, Nat.reduceLeDiff, Nat.reduceSub, Nat.reduceBEq, Nat.reduceBNe, Int.reduceLT, Int.reduceEq, Int.reduceAdd, Int.reduceToNat, Int.reduceLE, Int.reduceBEq, Int.reduceBNe, enc1, cChan]
      (repeat ((with_reducible refine And.intro ?_ ?_); (first | trivial | assumption | omega | (exact nf_imp _) | (exact fn_imp _) | (intro hq; exact ⟨hq, by omega⟩) | (simp; done) | (intro hq; simp [hq]; done) | (intro hq; refine ⟨hq, fun hq2 => ?_⟩; rw [hq, hq2]; rfl))))
      refine hK15 _ ?_
      (try clear hK15)
      refine ag_one (i := 12) (by kernel_rfl) ?_
      refine agi (it := It.mk (some 26) (some (25, true)) (IK.call 47 [])) (R' := []) (by kernel_rfl) (.inl rfl) (by kernel_rfl) (fun K16 hK16 => ?_)
      simp (maxSteps := 999999) (disch := omega) only [av1, av2, av3, eq_self, exists_const, forall_const, implies_true, storeOk, AS.gd, PK.more, PK.cond, PK.val, AV.get, CV.get, AV.ok, CV.ok, AV.off, CV.off, AV.set, CV.set, AV.fits, CV.fits, AV.size, AV.agg, CV.agg, AV.solid, AV.int?, AV.bool?, binOk, AV.els, CV.isByte, Sh.agg, Sh.fits, Sh.fitsL, Sh.fitsR, CV.eqv, CV.eqvs, AV.closed, rsAV, thenQ, AObj.lt, CV.numOf, Nat.reduceAdd, Nat.reduceLT, Nat.reduceMul, reduceCtorEq, ↓reduceIte, Nat.reduceEqDiff, Nat.reduceLeDiff, Nat.reduceSub, Nat.reduceBEq, Nat.reduceBNe, Int.reduceLT, Int.reduceEq, Int.reduceAdd, Int.reduceToNat, Int.reduceLE, Int.reduceBEq, Int.reduceBNe, enc1, cChan]
      apply Exists.intro
      apply And.intro
      · first | exact (awake14_ap) | exact (fun _ => (awake14_ap)) | exact (fun h => ⟨h, (awake14_ap)⟩) | exact (fun h => ⟨by simp_all, (awake14_ap)⟩)
      (try simp only [rsAV, List.map_cons, List.map_nil, thenQ])
      refine hK16 _ ?_
      (try clear hK16)
      refine ag_pures (fuel := 0) [13, 14] [It.mk (some 27) none (IK.p (PK.pick (Operand.tmp 25) (Operand.tmp 26) (Operand.const (Value.bool false)))), It.mk (some 2) none (IK.p (PK.mov (Operand.tmp 27)))] (by kernel_rfl) (by kernel_rfl) (by kernel_rfl) (by kernel_rfl) (hideZ_nil _ 0) (fun K17 hK17 => ?_)
      simp (maxSteps := 999999) (disch := omega) only [av1, av2, av3, eq_self, exists_const, forall_const, implies_true, storeOk, AS.gd, PK.more, PK.cond, PK.val, AV.get, CV.get, AV.ok, CV.ok, AV.off, CV.off, AV.set, CV.set, AV.fits, CV.fits, AV.size, AV.agg, CV.agg, AV.solid, AV.int?, AV.bool?, binOk, AV.els, CV.isByte, Sh.agg, Sh.fits, Sh.fitsL, Sh.fitsR, CV.eqv, CV.eqvs, AV.closed, rsAV, thenQ, AObj.lt, CV.numOf, Nat.reduceAdd, Nat.reduceLT, Nat.reduceMul, reduceCtorEq, ↓reduceIte, Nat.reduceEqDiff, Nat.reduceLeDiff, Nat.reduceSub, Nat.reduceBEq, Nat.reduceBNe, Int.reduceLT, Int.reduceEq, Int.reduceAdd, Int.reduceToNat, Int.reduceLE, Int.reduceBEq, Int.reduceBNe, enc1, cChan]
      (repeat ((with_reducible refine And.intro ?_ ?_); (first | trivial | assumption | omega | (exact nf_imp _) | (exact fn_imp _) | (intro hq; exact ⟨hq, by omega⟩) | (simp; done) | (intro hq; simp [hq]; done) | (intro hq; refine ⟨hq, fun hq2 => ?_⟩; rw [hq, hq2]; rfl))))
      refine hK17 _ ?_
      (try clear hK17)
      refine ag_done (by kernel_rfl) ?_
      (try simp only [thenQ])
      refine hK7 _ ?_
      (try clear hK7)
      refine at_ret ?_
      simp (maxSteps := 999999) (disch := omega) only [av1, av2, av3, eq_self, exists_const, forall_const, implies_true, storeOk, AS.gd, PK.more, PK.cond, PK.val, AV.get, CV.get, AV.ok, CV.ok, AV.off, CV.off, AV.set, CV.set, AV.fits, CV.fits, AV.size, AV.agg, CV.agg, AV.solid, AV.int?, AV.bool?, binOk, AV.els, CV.isByte, Sh.agg, Sh.fits, Sh.fitsL, Sh.fitsR, CV.eqv, CV.eqvs, AV.closed, rsAV, thenQ, AObj.lt, CV.numOf, Nat.reduceAdd, Nat.reduceLT, Nat.reduceMul, reduceCtorEq, ↓reduceIte, Nat.reduceEqDiff, Nat.reduceLeDiff, Nat.reduceSub, Nat.reduceBEq, Nat.reduceBNe, Int.reduceLT, Int.reduceEq, Int.reduceAdd, Int.reduceToNat, Int.reduceLE, Int.reduceBEq, Int.reduceBNe, enc1, cChan, blockQ, retQ, RetOk, ResOk, AV.fin, AV.fins, CV.le, CV.les]
      (refine pv_bool (fund_same ?_); first | exact .inl ⟨h6, rfl, rfl⟩ | exact .inr ⟨h6, rfl, rfl⟩)
    · refine agi (it := It.mk (some 20) none (IK.lit 1 [Operand.tmp 18, Operand.tmp 19])) (R' := [3, 2, 0]) (by kernel_rfl) (.inl rfl) (by kernel_rfl) (fun K18 hK18 => ?_)
      simp (maxSteps := 999999) (disch := omega) only [av1, av2, av3, eq_self, exists_const, forall_const, implies_true, storeOk, AS.gd, PK.more, PK.cond, PK.val, AV.get, CV.get, AV.ok, CV.ok, AV.off, CV.off, AV.set, CV.set, AV.fits, CV.fits, AV.size, AV.agg, CV.agg, AV.solid, AV.int?, AV.bool?, binOk, AV.els, CV.isByte, Sh.agg, Sh.fits, Sh.fitsL, Sh.fitsR, CV.eqv, CV.eqvs, AV.closed, rsAV, thenQ, AObj.lt, CV.numOf, Nat.reduceAdd, Nat.reduceLT, Nat.reduceMul, reduceCtorEq, ↓reduceIte, Nat.reduceEqDiff, Nat.reduceLeDiff, Nat.reduceSub, Nat.reduceBEq, Nat.reduceBNe, Int.reduceLT, Int.reduceEq, Int.reduceAdd, Int.reduceToNat, Int.reduceLE, Int.reduceBEq, Int.reduceBNe, enc1, cChan]
      (repeat ((with_reducible refine And.intro ?_ ?_); (first | trivial | assumption | omega | (exact nf_imp _) | (exact fn_imp _) | (intro hq; exact ⟨hq, by omega⟩) | (simp; done) | (intro hq; simp [hq]; done) | (intro hq; refine ⟨hq, fun hq2 => ?_⟩; rw [hq, hq2]; rfl))))
      refine hK18 _ ?_
      (try clear hK18)
      refine ag_pures (fuel := 8) [7] [It.mk (some 21) none (IK.p (PK.bld (CV.st [CV.pv (Value.slice none 0 0), CV.ar IntKind.u8 32 (List.replicate 32 0), CV.pv (Value.int IntKind.i64 0), CV.pv (Value.int IntKind.i64 0)]) [(0, 1), (1, 32), (33, 1), (34, 1)] [(0, Operand.tmp 20)]))] (by kernel_rfl) (by kernel_rfl) (by kernel_rfl) (by kernel_rfl) (hideZ_nil _ 0) (fun K19 hK19 => ?_)
      simp (maxSteps := 999999) (disch := omega) only [av1, av2, av3, eq_self, exists_const, forall_const, implies_true, storeOk, AS.gd, PK.more, PK.cond, PK.val, AV.get, CV.get, AV.ok, CV.ok, AV.off, CV.off, AV.set, CV.set, AV.fits, CV.fits, AV.size, AV.agg, CV.agg, AV.solid, AV.int?, AV.bool?, binOk, AV.els, CV.isByte, Sh.agg, Sh.fits, Sh.fitsL, Sh.fitsR, CV.eqv, CV.eqvs, AV.closed, rsAV, thenQ, AObj.lt, CV.numOf, Nat.reduceAdd, Nat.reduceLT, Nat.reduceMul, reduceCtorEq, ↓reduceIte, Nat.reduceEqDiff, Nat.reduceLeDiff, Nat.reduceSub, Nat.reduceBEq, Nat.reduceBNe, Int.reduceLT, Int.reduceEq, Int.reduceAdd, Int.reduceToNat, Int.reduceLE, Int.reduceBEq, Int.reduceBNe, enc1, cChan]
      (repeat ((with_reducible refine And.intro ?_ ?_); (first | trivial | assumption | omega | (exact nf_imp _) | (exact fn_imp _) | (intro hq; exact ⟨hq, by omega⟩) | (simp; done) | (intro hq; simp [hq]; done) | (intro hq; refine ⟨hq, fun hq2 => ?_⟩; rw [hq, hq2]; rfl))))
      refine hK19 _ ?_
      (try clear hK19)
      refine ag_two (i := 1) (j := 8) (by kernel_rfl) ?_ ?_
      · refine agi (it := It.mk (some 15) none (IK.call 46 [Operand.tmp 14])) (R' := [7, 3, 2]) (by kernel_rfl) (.inl rfl) (by kernel_rfl) (fun K20 hK20 => ?_)
        simp (maxSteps := 999999) (disch := omega) only [av1, av2, av3, eq_self, exists_const, forall_const, implies_true, storeOk, AS.gd, PK.more, PK.cond, PK.val, AV.get, CV.get, AV.ok, CV.ok, AV.off, CV.off, AV.set, CV.set, AV.fits, CV.fits, AV.size, AV.agg, CV.agg, AV.solid, AV.int?, AV.bool?, binOk, AV.els, CV.isByte, Sh.agg, Sh.fits, Sh.fitsL, Sh.fitsR, CV.eqv, CV.eqvs, AV.closed, rsAV, thenQ, AObj.lt, CV.numOf, Nat.reduceAdd, Nat.reduceLT, Nat.reduceMul, reduceCtorEq, ↓reduceIte, Nat.reduceEqDiff, Nat.reduceLeDiff, Nat.reduceSub, Nat.reduceBEq, Nat.reduceBNe, Int.reduceLT, Int.reduceEq, Int.reduceAdd, Int.reduceToNat, Int.reduceLE, Int.reduceBEq, Int.reduceBNe, enc1, cChan]
        apply Exists.intro
        apply And.intro
        · first | exact (fund_ap c) | exact (fun _ => (fund_ap c)) | exact (fun h => ⟨h, (fund_ap c)⟩) | exact (fun h => ⟨by simp_all, (fund_ap c)⟩)
        (try simp only [rsAV, List.map_cons, List.map_nil, thenQ])
        refine hK20 _ ?_
        (try clear hK20)
        refine ag_one (i := 8) (by kernel_rfl) ?_
        refine agi (it := It.mk (some 22) none (IK.lit 35 [Operand.tmp 21])) (R' := [3, 2]) (by kernel_rfl) (.inl rfl) (by kernel_rfl) (fun K21 hK21 => ?_)
        simp (maxSteps := 999999) (disch := omega) only [av1, av2, av3, eq_self, exists_const, forall_const, implies_true, storeOk, AS.gd, PK.more, PK.cond, PK.val, AV.get, CV.get, AV.ok, CV.ok, AV.off, CV.off, AV.set, CV.set, AV.fits, CV.fits, AV.size, AV.agg, CV.agg, AV.solid, AV.int?, AV.bool?, binOk, AV.els, CV.isByte, Sh.agg, Sh.fits, Sh.fitsL, Sh.fitsR, CV.eqv, CV.eqvs, AV.closed, rsAV, thenQ, AObj.lt, CV.numOf, Nat.reduceAdd, Nat.reduceLT, Nat.reduceMul, reduceCtorEq, ↓reduceIte, Nat.reduceEqDiff, Nat.reduceLeDiff, Nat.reduceSub, Nat.reduceBEq, Nat.reduceBNe, Int.reduceLT, Int.reduceEq, Int.reduceAdd, Int.reduceToNat, Int.reduceLE, Int.reduceBEq, Int.reduceBNe, enc1, cChan]
        (repeat ((with_reducible refine And.intro ?_ ?_); (first | trivial | assumption | omega | (exact nf_imp _) | (exact fn_imp _) | (intro hq; exact ⟨hq, by omega⟩) | (simp; done) | (intro hq; simp [hq]; done) | (intro hq; refine ⟨hq, fun hq2 => ?_⟩; rw [hq, hq2]; rfl))))
        refine hK21 _ ?_
        (try clear hK21)
        refine ag_pures (fuel := 5) [9] [It.mk (some 23) none (IK.p (PK.bld (CV.st [CV.pv (Value.int IntKind.i64 0), CV.pv (Value.slice none 0 0)]) [(0, 1), (1, 1)] [(0, Operand.tmp 17), (1, Operand.tmp 22)]))] (by kernel_rfl) (by kernel_rfl) (by kernel_rfl) (by kernel_rfl) (hideZ_nil _ 0) (fun K22 hK22 => ?_)
        simp (maxSteps := 999999) (disch := omega) only [av1, av2, av3, eq_self, exists_const, forall_const, implies_true, storeOk, AS.gd, PK.more, PK.cond, PK.val, AV.get, CV.get, AV.ok, CV.ok, AV.off, CV.off, AV.set, CV.set, AV.fits, CV.fits, AV.size, AV.agg, CV.agg, AV.solid, AV.int?, AV.bool?, binOk, AV.els, CV.isByte, Sh.agg, Sh.fits, Sh.fitsL, Sh.fitsR, CV.eqv, CV.eqvs, AV.closed, rsAV, thenQ, AObj.lt, CV.numOf, Nat.reduceAdd, Nat.reduceLT, Nat.reduceMul, reduceCtorEq, ↓reduceIte, Nat.reduceEqDiff, Nat.reduceLeDiff, Nat.reduceSub, Nat.reduceBEq, Nat.reduceBNe, Int.reduceLT, Int.reduceEq, Int.reduceAdd, Int.reduceToNat, Int.reduceLE, Int.reduceBEq, Int.reduceBNe, enc1, cChan]
        (repeat ((with_reducible refine And.intro ?_ ?_); (first | trivial | assumption | omega | (exact nf_imp _) | (exact fn_imp _) | (intro hq; exact ⟨hq, by omega⟩) | (simp; done) | (intro hq; simp [hq]; done) | (intro hq; refine ⟨hq, fun hq2 => ?_⟩; rw [hq, hq2]; rfl))))
        refine hK22 _ ?_
        (try clear hK22)
        refine ag_one (i := 10) (by kernel_rfl) ?_
        refine agi (it := It.mk (some 24) none (IK.call 33 [Operand.tmp 15, Operand.tmp 23])) (R' := []) (by kernel_rfl) (.inl rfl) (by kernel_rfl) (fun K23 hK23 => ?_)
        simp (maxSteps := 999999) (disch := omega) only [av1, av2, av3, eq_self, exists_const, forall_const, implies_true, storeOk, AS.gd, PK.more, PK.cond, PK.val, AV.get, CV.get, AV.ok, CV.ok, AV.off, CV.off, AV.set, CV.set, AV.fits, CV.fits, AV.size, AV.agg, CV.agg, AV.solid, AV.int?, AV.bool?, binOk, AV.els, CV.isByte, Sh.agg, Sh.fits, Sh.fitsL, Sh.fitsR, CV.eqv, CV.eqvs, AV.closed, rsAV, thenQ, AObj.lt, CV.numOf, Nat.reduceAdd, Nat.reduceLT, Nat.reduceMul, reduceCtorEq, ↓reduceIte, Nat.reduceEqDiff, Nat.reduceLeDiff, Nat.reduceSub, Nat.reduceBEq, Nat.reduceBNe, Int.reduceLT, Int.reduceEq, Int.reduceAdd, Int.reduceToNat, Int.reduceLE, Int.reduceBEq, Int.reduceBNe, enc1, cChan]
        apply Exists.intro
        apply And.intro
        · first | exact (lockSame_ap (fundOut c) ⟨c.cap, [⟨[_, _], Z32, 0, 0⟩]⟩ (okFund hc) (okOne (by simp) (fun x hx => by
      simp at hx
      rcases hx with rfl | rfl <;> first | exact hc.client | exact hc.peer) hc.cap)) | exact (fun _ => (lockSame_ap (fundOut c) ⟨c.cap, [⟨[_, _], Z32, 0, 0⟩]⟩ (okFund hc) (okOne (by simp) (fun x hx => by
      simp at hx
      rcases hx with rfl | rfl <;> first | exact hc.client | exact hc.peer) hc.cap))) | exact (fun h => ⟨h, (lockSame_ap (fundOut c) ⟨c.cap, [⟨[_, _], Z32, 0, 0⟩]⟩ (okFund hc) (okOne (by simp) (fun x hx => by
      simp at hx
      rcases hx with rfl | rfl <;> first | exact hc.client | exact hc.peer) hc.cap))⟩) | exact (fun h => ⟨by simp_all, (lockSame_ap (fundOut c) ⟨c.cap, [⟨[_, _], Z32, 0, 0⟩]⟩ (okFund hc) (okOne (by simp) (fun x hx => by
      simp at hx
      rcases hx with rfl | rfl <;> first | exact hc.client | exact hc.peer) hc.cap))⟩)
        (try simp only [rsAV, List.map_cons, List.map_nil, thenQ])
        refine hK23 _ ?_
        (try clear hK23)
        refine ag_pures (fuel := 3) [11] [It.mk (some 25) none (IK.p (PK.mov (Operand.tmp 24)))] (by kernel_rfl) (by kernel_rfl) (by kernel_rfl) (by kernel_rfl) (hideZ_nil _ 0) (fun K24 hK24 => ?_)
        simp (maxSteps := 999999) (disch := omega) only [av1, av2, av3, eq_self, exists_const, forall_const, implies_true, storeOk, AS.gd, PK.more, PK.cond, PK.val, AV.get, CV.get, AV.ok, CV.ok, AV.off, CV.off, AV.set, CV.set, AV.fits, CV.fits, AV.size, AV.agg, CV.agg, AV.solid, AV.int?, AV.bool?, binOk, AV.els, CV.isByte, Sh.agg, Sh.fits, Sh.fitsL, Sh.fitsR, CV.eqv, CV.eqvs, AV.closed, rsAV, thenQ, AObj.lt, CV.numOf, Nat.reduceAdd, Nat.reduceLT, Nat.reduceMul, reduceCtorEq, ↓reduceIte, Nat.reduceEqDiff, Nat.reduceLeDiff, Nat.reduceSub, Nat.reduceBEq, Nat.reduceBNe, Int.reduceLT, Int.reduceEq, Int.reduceAdd, Int.reduceToNat, Int.reduceLE, Int.reduceBEq, Int.reduceBNe, enc1, cChan]
        (repeat ((with_reducible refine And.intro ?_ ?_); (first | trivial | assumption | omega | (exact nf_imp _) | (exact fn_imp _) | (intro hq; exact ⟨hq, by omega⟩) | (simp; done) | (intro hq; simp [hq]; done) | (intro hq; refine ⟨hq, fun hq2 => ?_⟩; rw [hq, hq2]; rfl))))
        refine hK24 _ ?_
        (try clear hK24)
        refine ag_one (i := 12) (by kernel_rfl) ?_
        refine agi (it := It.mk (some 26) (some (25, true)) (IK.call 47 [])) (R' := []) (by kernel_rfl) (.inl rfl) (by kernel_rfl) (fun K25 hK25 => ?_)
        simp (maxSteps := 999999) (disch := omega) only [av1, av2, av3, eq_self, exists_const, forall_const, implies_true, storeOk, AS.gd, PK.more, PK.cond, PK.val, AV.get, CV.get, AV.ok, CV.ok, AV.off, CV.off, AV.set, CV.set, AV.fits, CV.fits, AV.size, AV.agg, CV.agg, AV.solid, AV.int?, AV.bool?, binOk, AV.els, CV.isByte, Sh.agg, Sh.fits, Sh.fitsL, Sh.fitsR, CV.eqv, CV.eqvs, AV.closed, rsAV, thenQ, AObj.lt, CV.numOf, Nat.reduceAdd, Nat.reduceLT, Nat.reduceMul, reduceCtorEq, ↓reduceIte, Nat.reduceEqDiff, Nat.reduceLeDiff, Nat.reduceSub, Nat.reduceBEq, Nat.reduceBNe, Int.reduceLT, Int.reduceEq, Int.reduceAdd, Int.reduceToNat, Int.reduceLE, Int.reduceBEq, Int.reduceBNe, enc1, cChan]
        apply Exists.intro
        apply And.intro
        · first | exact (awake14_ap) | exact (fun _ => (awake14_ap)) | exact (fun h => ⟨h, (awake14_ap)⟩) | exact (fun h => ⟨by simp_all, (awake14_ap)⟩)
        (try simp only [rsAV, List.map_cons, List.map_nil, thenQ])
        refine hK25 _ ?_
        (try clear hK25)
        refine ag_pures (fuel := 0) [13, 14] [It.mk (some 27) none (IK.p (PK.pick (Operand.tmp 25) (Operand.tmp 26) (Operand.const (Value.bool false)))), It.mk (some 2) none (IK.p (PK.mov (Operand.tmp 27)))] (by kernel_rfl) (by kernel_rfl) (by kernel_rfl) (by kernel_rfl) (hideZ_nil _ 0) (fun K26 hK26 => ?_)
        simp (maxSteps := 999999) (disch := omega) only [av1, av2, av3, eq_self, exists_const, forall_const, implies_true, storeOk, AS.gd, PK.more, PK.cond, PK.val, AV.get, CV.get, AV.ok, CV.ok, AV.off, CV.off, AV.set, CV.set, AV.fits, CV.fits, AV.size, AV.agg, CV.agg, AV.solid, AV.int?, AV.bool?, binOk, AV.els, CV.isByte, Sh.agg, Sh.fits, Sh.fitsL, Sh.fitsR, CV.eqv, CV.eqvs, AV.closed, rsAV, thenQ, AObj.lt, CV.numOf, Nat.reduceAdd, Nat.reduceLT, Nat.reduceMul, reduceCtorEq, ↓reduceIte, Nat.reduceEqDiff, Nat.reduceLeDiff, Nat.reduceSub, Nat.reduceBEq, Nat.reduceBNe, Int.reduceLT, Int.reduceEq, Int.reduceAdd, Int.reduceToNat, Int.reduceLE, Int.reduceBEq, Int.reduceBNe, enc1, cChan]
        (repeat ((with_reducible refine And.intro ?_ ?_); (first | trivial | assumption | omega | (exact nf_imp _) | (exact fn_imp _) | (intro hq; exact ⟨hq, by omega⟩) | (simp; done) | (intro hq; simp [hq]; done) | (intro hq; refine ⟨hq, fun hq2 => ?_⟩; rw [hq, hq2]; rfl))))
        refine hK26 _ ?_
        (try clear hK26)
        refine ag_done (by kernel_rfl) ?_
        (try simp only [thenQ])
        refine hK7 _ ?_
        (try clear hK7)
        refine at_ret ?_
        simp (maxSteps := 999999) (disch := omega) only [av1, av2, av3, eq_self, exists_const, forall_const, implies_true, storeOk, AS.gd, PK.more, PK.cond, PK.val, AV.get, CV.get, AV.ok, CV.ok, AV.off, CV.off, AV.set, CV.set, AV.fits, CV.fits, AV.size, AV.agg, CV.agg, AV.solid, AV.int?, AV.bool?, binOk, AV.els, CV.isByte, Sh.agg, Sh.fits, Sh.fitsL, Sh.fitsR, CV.eqv, CV.eqvs, AV.closed, rsAV, thenQ, AObj.lt, CV.numOf, Nat.reduceAdd, Nat.reduceLT, Nat.reduceMul, reduceCtorEq, ↓reduceIte, Nat.reduceEqDiff, Nat.reduceLeDiff, Nat.reduceSub, Nat.reduceBEq, Nat.reduceBNe, Int.reduceLT, Int.reduceEq, Int.reduceAdd, Int.reduceToNat, Int.reduceLE, Int.reduceBEq, Int.reduceBNe, enc1, cChan, blockQ, retQ, RetOk, ResOk, AV.fin, AV.fins, CV.le, CV.les]
        (refine pv_bool (fund_same ?_); first | exact .inl ⟨h6, rfl, rfl⟩ | exact .inr ⟨h6, rfl, rfl⟩)
      · refine agi (it := It.mk (some 22) none (IK.lit 35 [Operand.tmp 21])) (R' := [3, 2, 0]) (by kernel_rfl) (.inl rfl) (by kernel_rfl) (fun K27 hK27 => ?_)
        simp (maxSteps := 999999) (disch := omega) only [av1, av2, av3, eq_self, exists_const, forall_const, implies_true, storeOk, AS.gd, PK.more, PK.cond, PK.val, AV.get, CV.get, AV.ok, CV.ok, AV.off, CV.off, AV.set, CV.set, AV.fits, CV.fits, AV.size, AV.agg, CV.agg, AV.solid, AV.int?, AV.bool?, binOk, AV.els, CV.isByte, Sh.agg, Sh.fits, Sh.fitsL, Sh.fitsR, CV.eqv, CV.eqvs, AV.closed, rsAV, thenQ, AObj.lt, CV.numOf, Nat.reduceAdd, Nat.reduceLT, Nat.reduceMul, reduceCtorEq, ↓reduceIte, Nat.reduceEqDiff, Nat.reduceLeDiff, Nat.reduceSub, Nat.reduceBEq, Nat.reduceBNe, Int.reduceLT, Int.reduceEq, Int.reduceAdd, Int.reduceToNat, Int.reduceLE, Int.reduceBEq, Int.reduceBNe, enc1, cChan]
        (repeat ((with_reducible refine And.intro ?_ ?_); (first | trivial | assumption | omega | (exact nf_imp _) | (exact fn_imp _) | (intro hq; exact ⟨hq, by omega⟩) | (simp; done) | (intro hq; simp [hq]; done) | (intro hq; refine ⟨hq, fun hq2 => ?_⟩; rw [hq, hq2]; rfl))))
        refine hK27 _ ?_
        (try clear hK27)
        refine ag_pures (fuel := 6) [9] [It.mk (some 23) none (IK.p (PK.bld (CV.st [CV.pv (Value.int IntKind.i64 0), CV.pv (Value.slice none 0 0)]) [(0, 1), (1, 1)] [(0, Operand.tmp 17), (1, Operand.tmp 22)]))] (by kernel_rfl) (by kernel_rfl) (by kernel_rfl) (by kernel_rfl) (hideZ_nil _ 0) (fun K28 hK28 => ?_)
        simp (maxSteps := 999999) (disch := omega) only [av1, av2, av3, eq_self, exists_const, forall_const, implies_true, storeOk, AS.gd, PK.more, PK.cond, PK.val, AV.get, CV.get, AV.ok, CV.ok, AV.off, CV.off, AV.set, CV.set, AV.fits, CV.fits, AV.size, AV.agg, CV.agg, AV.solid, AV.int?, AV.bool?, binOk, AV.els, CV.isByte, Sh.agg, Sh.fits, Sh.fitsL, Sh.fitsR, CV.eqv, CV.eqvs, AV.closed, rsAV, thenQ, AObj.lt, CV.numOf, Nat.reduceAdd, Nat.reduceLT, Nat.reduceMul, reduceCtorEq, ↓reduceIte, Nat.reduceEqDiff, Nat.reduceLeDiff, Nat.reduceSub, Nat.reduceBEq, Nat.reduceBNe, Int.reduceLT, Int.reduceEq, Int.reduceAdd, Int.reduceToNat, Int.reduceLE, Int.reduceBEq, Int.reduceBNe, enc1, cChan]
        (repeat ((with_reducible refine And.intro ?_ ?_); (first | trivial | assumption | omega | (exact nf_imp _) | (exact fn_imp _) | (intro hq; exact ⟨hq, by omega⟩) | (simp; done) | (intro hq; simp [hq]; done) | (intro hq; refine ⟨hq, fun hq2 => ?_⟩; rw [hq, hq2]; rfl))))
        refine hK28 _ ?_
        (try clear hK28)
        refine ag_one (i := 1) (by kernel_rfl) ?_
        refine agi (it := It.mk (some 15) none (IK.call 46 [Operand.tmp 14])) (R' := [9, 3, 2]) (by kernel_rfl) (.inl rfl) (by kernel_rfl) (fun K29 hK29 => ?_)
        simp (maxSteps := 999999) (disch := omega) only [av1, av2, av3, eq_self, exists_const, forall_const, implies_true, storeOk, AS.gd, PK.more, PK.cond, PK.val, AV.get, CV.get, AV.ok, CV.ok, AV.off, CV.off, AV.set, CV.set, AV.fits, CV.fits, AV.size, AV.agg, CV.agg, AV.solid, AV.int?, AV.bool?, binOk, AV.els, CV.isByte, Sh.agg, Sh.fits, Sh.fitsL, Sh.fitsR, CV.eqv, CV.eqvs, AV.closed, rsAV, thenQ, AObj.lt, CV.numOf, Nat.reduceAdd, Nat.reduceLT, Nat.reduceMul, reduceCtorEq, ↓reduceIte, Nat.reduceEqDiff, Nat.reduceLeDiff, Nat.reduceSub, Nat.reduceBEq, Nat.reduceBNe, Int.reduceLT, Int.reduceEq, Int.reduceAdd, Int.reduceToNat, Int.reduceLE, Int.reduceBEq, Int.reduceBNe, enc1, cChan]
        apply Exists.intro
        apply And.intro
        · first | exact (fund_ap c) | exact (fun _ => (fund_ap c)) | exact (fun h => ⟨h, (fund_ap c)⟩) | exact (fun h => ⟨by simp_all, (fund_ap c)⟩)
        (try simp only [rsAV, List.map_cons, List.map_nil, thenQ])
        refine hK29 _ ?_
        (try clear hK29)
        refine ag_one (i := 10) (by kernel_rfl) ?_
        refine agi (it := It.mk (some 24) none (IK.call 33 [Operand.tmp 15, Operand.tmp 23])) (R' := []) (by kernel_rfl) (.inl rfl) (by kernel_rfl) (fun K30 hK30 => ?_)
        simp (maxSteps := 999999) (disch := omega) only [av1, av2, av3, eq_self, exists_const, forall_const, implies_true, storeOk, AS.gd, PK.more, PK.cond, PK.val, AV.get, CV.get, AV.ok, CV.ok, AV.off, CV.off, AV.set, CV.set, AV.fits, CV.fits, AV.size, AV.agg, CV.agg, AV.solid, AV.int?, AV.bool?, binOk, AV.els, CV.isByte, Sh.agg, Sh.fits, Sh.fitsL, Sh.fitsR, CV.eqv, CV.eqvs, AV.closed, rsAV, thenQ, AObj.lt, CV.numOf, Nat.reduceAdd, Nat.reduceLT, Nat.reduceMul, reduceCtorEq, ↓reduceIte, Nat.reduceEqDiff, Nat.reduceLeDiff, Nat.reduceSub, Nat.reduceBEq, Nat.reduceBNe, Int.reduceLT, Int.reduceEq, Int.reduceAdd, Int.reduceToNat, Int.reduceLE, Int.reduceBEq, Int.reduceBNe, enc1, cChan]
        apply Exists.intro
        apply And.intro
        · first | exact (lockSame_ap (fundOut c) ⟨c.cap, [⟨[_, _], Z32, 0, 0⟩]⟩ (okFund hc) (okOne (by simp) (fun x hx => by
      simp at hx
      rcases hx with rfl | rfl <;> first | exact hc.client | exact hc.peer) hc.cap)) | exact (fun _ => (lockSame_ap (fundOut c) ⟨c.cap, [⟨[_, _], Z32, 0, 0⟩]⟩ (okFund hc) (okOne (by simp) (fun x hx => by
      simp at hx
      rcases hx with rfl | rfl <;> first | exact hc.client | exact hc.peer) hc.cap))) | exact (fun h => ⟨h, (lockSame_ap (fundOut c) ⟨c.cap, [⟨[_, _], Z32, 0, 0⟩]⟩ (okFund hc) (okOne (by simp) (fun x hx => by
      simp at hx
      rcases hx with rfl | rfl <;> first | exact hc.client | exact hc.peer) hc.cap))⟩) | exact (fun h => ⟨by simp_all, (lockSame_ap (fundOut c) ⟨c.cap, [⟨[_, _], Z32, 0, 0⟩]⟩ (okFund hc) (okOne (by simp) (fun x hx => by
      simp at hx
      rcases hx with rfl | rfl <;> first | exact hc.client | exact hc.peer) hc.cap))⟩)
        (try simp only [rsAV, List.map_cons, List.map_nil, thenQ])
        refine hK30 _ ?_
        (try clear hK30)
        refine ag_pures (fuel := 3) [11] [It.mk (some 25) none (IK.p (PK.mov (Operand.tmp 24)))] (by kernel_rfl) (by kernel_rfl) (by kernel_rfl) (by kernel_rfl) (hideZ_nil _ 0) (fun K31 hK31 => ?_)
        simp (maxSteps := 999999) (disch := omega) only [av1, av2, av3, eq_self, exists_const, forall_const, implies_true, storeOk, AS.gd, PK.more, PK.cond, PK.val, AV.get, CV.get, AV.ok, CV.ok, AV.off, CV.off, AV.set, CV.set, AV.fits, CV.fits, AV.size, AV.agg, CV.agg, AV.solid, AV.int?, AV.bool?, binOk, AV.els, CV.isByte, Sh.agg, Sh.fits, Sh.fitsL, Sh.fitsR, CV.eqv, CV.eqvs, AV.closed, rsAV, thenQ, AObj.lt, CV.numOf, Nat.reduceAdd, Nat.reduceLT, Nat.reduceMul, reduceCtorEq, ↓reduceIte, Nat.reduceEqDiff, Nat.reduceLeDiff, Nat.reduceSub, Nat.reduceBEq, Nat.reduceBNe, Int.reduceLT, Int.reduceEq, Int.reduceAdd, Int.reduceToNat, Int.reduceLE, Int.reduceBEq, Int.reduceBNe, enc1, cChan]
        (repeat ((with_reducible refine And.intro ?_ ?_); (first | trivial | assumption | omega | (exact nf_imp _) | (exact fn_imp _) | (intro hq; exact ⟨hq, by omega⟩) | (simp; done) | (intro hq; simp [hq]; done) | (intro hq; refine ⟨hq, fun hq2 => ?_⟩; rw [hq, hq2]; rfl))))
        refine hK31 _ ?_
        (try clear hK31)
        refine ag_one (i := 12) (by kernel_rfl) ?_
        refine agi (it := It.mk (some 26) (some (25, true)) (IK.call 47 [])) (R' := []) (by kernel_rfl) (.inl rfl) (by kernel_rfl) (fun K32 hK32 => ?_)
        simp (maxSteps := 999999) (disch := omega) only [av1, av2, av3, eq_self, exists_const, forall_const, implies_true, storeOk, AS.gd, PK.more, PK.cond, PK.val, AV.get, CV.get, AV.ok, CV.ok, AV.off, CV.off, AV.set, CV.set, AV.fits, CV.fits, AV.size, AV.agg, CV.agg, AV.solid, AV.int?, AV.bool?, binOk, AV.els, CV.isByte, Sh.agg, Sh.fits, Sh.fitsL, Sh.fitsR, CV.eqv, CV.eqvs, AV.closed, rsAV, thenQ, AObj.lt, CV.numOf, Nat.reduceAdd, Nat.reduceLT, Nat.reduceMul, reduceCtorEq, ↓reduceIte, Nat.reduceEqDiff, Nat.reduceLeDiff, Nat.reduceSub, Nat.reduceBEq, Nat.reduceBNe, Int.reduceLT, Int.reduceEq, Int.reduceAdd, Int.reduceToNat, Int.reduceLE, Int.reduceBEq, Int.reduceBNe, enc1, cChan]
        apply Exists.intro
        apply And.intro
        · first | exact (awake14_ap) | exact (fun _ => (awake14_ap)) | exact (fun h => ⟨h, (awake14_ap)⟩) | exact (fun h => ⟨by simp_all, (awake14_ap)⟩)
        (try simp only [rsAV, List.map_cons, List.map_nil, thenQ])
        refine hK32 _ ?_
        (try clear hK32)
        refine ag_pures (fuel := 0) [13, 14] [It.mk (some 27) none (IK.p (PK.pick (Operand.tmp 25) (Operand.tmp 26) (Operand.const (Value.bool false)))), It.mk (some 2) none (IK.p (PK.mov (Operand.tmp 27)))] (by kernel_rfl) (by kernel_rfl) (by kernel_rfl) (by kernel_rfl) (hideZ_nil _ 0) (fun K33 hK33 => ?_)
        simp (maxSteps := 999999) (disch := omega) only [av1, av2, av3, eq_self, exists_const, forall_const, implies_true, storeOk, AS.gd, PK.more, PK.cond, PK.val, AV.get, CV.get, AV.ok, CV.ok, AV.off, CV.off, AV.set, CV.set, AV.fits, CV.fits, AV.size, AV.agg, CV.agg, AV.solid, AV.int?, AV.bool?, binOk, AV.els, CV.isByte, Sh.agg, Sh.fits, Sh.fitsL, Sh.fitsR, CV.eqv, CV.eqvs, AV.closed, rsAV, thenQ, AObj.lt, CV.numOf, Nat.reduceAdd, Nat.reduceLT, Nat.reduceMul, reduceCtorEq, ↓reduceIte, Nat.reduceEqDiff, Nat.reduceLeDiff, Nat.reduceSub, Nat.reduceBEq, Nat.reduceBNe, Int.reduceLT, Int.reduceEq, Int.reduceAdd, Int.reduceToNat, Int.reduceLE, Int.reduceBEq, Int.reduceBNe, enc1, cChan]
        (repeat ((with_reducible refine And.intro ?_ ?_); (first | trivial | assumption | omega | (exact nf_imp _) | (exact fn_imp _) | (intro hq; exact ⟨hq, by omega⟩) | (simp; done) | (intro hq; simp [hq]; done) | (intro hq; refine ⟨hq, fun hq2 => ?_⟩; rw [hq, hq2]; rfl))))
        refine hK33 _ ?_
        (try clear hK33)
        refine ag_done (by kernel_rfl) ?_
        (try simp only [thenQ])
        refine hK7 _ ?_
        (try clear hK7)
        refine at_ret ?_
        simp (maxSteps := 999999) (disch := omega) only [av1, av2, av3, eq_self, exists_const, forall_const, implies_true, storeOk, AS.gd, PK.more, PK.cond, PK.val, AV.get, CV.get, AV.ok, CV.ok, AV.off, CV.off, AV.set, CV.set, AV.fits, CV.fits, AV.size, AV.agg, CV.agg, AV.solid, AV.int?, AV.bool?, binOk, AV.els, CV.isByte, Sh.agg, Sh.fits, Sh.fitsL, Sh.fitsR, CV.eqv, CV.eqvs, AV.closed, rsAV, thenQ, AObj.lt, CV.numOf, Nat.reduceAdd, Nat.reduceLT, Nat.reduceMul, reduceCtorEq, ↓reduceIte, Nat.reduceEqDiff, Nat.reduceLeDiff, Nat.reduceSub, Nat.reduceBEq, Nat.reduceBNe, Int.reduceLT, Int.reduceEq, Int.reduceAdd, Int.reduceToNat, Int.reduceLE, Int.reduceBEq, Int.reduceBNe, enc1, cChan, blockQ, retQ, RetOk, ResOk, AV.fin, AV.fins, CV.le, CV.les]
        (refine pv_bool (fund_same ?_); first | exact .inl ⟨h6, rfl, rfl⟩ | exact .inr ⟨h6, rfl, rfl⟩)
  · have r6 := h6
    (try simp only [decide_eq_true_eq, decide_eq_false_iff_not, Bool.and_eq_true, Bool.or_eq_true, Bool.and_eq_false_iff, Bool.or_eq_false_iff, Bool.not_eq_true', Bool.not_eq_false', Bool.not_true, Bool.not_false, Int.not_lt, Int.not_le, Nat.not_lt, Nat.not_le, int_ofNat_lt, int_ofNat_le, beq_iff_eq, bne_iff_ne, ne_eq, gt_iff_lt, ge_iff_le, Bool.not_eq_true, beq_eq_false_iff_ne, bne_eq_false_iff_eq] at h6)
    refine at_skip ?_
    (try simp only [thenQ, blockQ])
    refine hK4 _ ?_
    (try clear hK4)
    refine at_seq fun K34 hK34 => ?_
    refine at_draws [] (by kernel_rfl) ?_
    refine ag_pures (fuel := 10) [0, 2, 3, 4, 5] [It.mk (some 14) none (IK.p (PK.load (Operand.tmp 1) 39 true)), It.mk (some 16) none (IK.p (PK.fAddr (Operand.tmp 1) 4 36)), It.mk (some 17) none (IK.p (PK.load (Operand.tmp 16) 1 false)), It.mk (some 18) none (IK.p (PK.mov (Operand.tmp 3))), It.mk (some 19) none (IK.p (PK.mov (Operand.tmp 4)))] (by kernel_rfl) (by kernel_rfl) (by kernel_rfl) (by kernel_rfl) (hideZ_nil _ 0) (fun K35 hK35 => ?_)
    simp (maxSteps := 999999) (disch := omega) only [av1, av2, av3, eq_self, exists_const, forall_const, implies_true, storeOk, AS.gd, PK.more, PK.cond, PK.val, AV.get, CV.get, AV.ok, CV.ok, AV.off, CV.off, AV.set, CV.set, AV.fits, CV.fits, AV.size, AV.agg, CV.agg, AV.solid, AV.int?, AV.bool?, binOk, AV.els, CV.isByte, Sh.agg, Sh.fits, Sh.fitsL, Sh.fitsR, CV.eqv, CV.eqvs, AV.closed, rsAV, thenQ, AObj.lt, CV.numOf, Nat.reduceAdd, Nat.reduceLT, Nat.reduceMul, reduceCtorEq, ↓reduceIte, Nat.reduceEqDiff, Nat.reduceLeDiff, Nat.reduceSub, Nat.reduceBEq, Nat.reduceBNe, Int.reduceLT, Int.reduceEq, Int.reduceAdd, Int.reduceToNat, Int.reduceLE, Int.reduceBEq, Int.reduceBNe, enc1, cChan]
    (repeat ((with_reducible refine And.intro ?_ ?_); (first | trivial | assumption | omega | (exact nf_imp _) | (exact fn_imp _) | (intro hq; exact ⟨hq, by omega⟩) | (simp; done) | (intro hq; simp [hq]; done) | (intro hq; refine ⟨hq, fun hq2 => ?_⟩; rw [hq, hq2]; rfl))))
    refine hK35 _ ?_
    (try clear hK35)
    refine ag_two (i := 1) (j := 6) (by kernel_rfl) ?_ ?_
    · refine agi (it := It.mk (some 15) none (IK.call 46 [Operand.tmp 14])) (R' := [5, 4, 3, 2]) (by kernel_rfl) (.inl rfl) (by kernel_rfl) (fun K36 hK36 => ?_)
      simp (maxSteps := 999999) (disch := omega) only [av1, av2, av3, eq_self, exists_const, forall_const, implies_true, storeOk, AS.gd, PK.more, PK.cond, PK.val, AV.get, CV.get, AV.ok, CV.ok, AV.off, CV.off, AV.set, CV.set, AV.fits, CV.fits, AV.size, AV.agg, CV.agg, AV.solid, AV.int?, AV.bool?, binOk, AV.els, CV.isByte, Sh.agg, Sh.fits, Sh.fitsL, Sh.fitsR, CV.eqv, CV.eqvs, AV.closed, rsAV, thenQ, AObj.lt, CV.numOf, Nat.reduceAdd, Nat.reduceLT, Nat.reduceMul, reduceCtorEq, ↓reduceIte, Nat.reduceEqDiff, Nat.reduceLeDiff, Nat.reduceSub, Nat.reduceBEq, Nat.reduceBNe, Int.reduceLT, Int.reduceEq, Int.reduceAdd, Int.reduceToNat, Int.reduceLE, Int.reduceBEq, Int.reduceBNe, enc1, cChan]
      apply Exists.intro
      apply And.intro
      · first | exact (fund_ap c) | exact (fun _ => (fund_ap c)) | exact (fun h => ⟨h, (fund_ap c)⟩) | exact (fun h => ⟨by simp_all, (fund_ap c)⟩)
      (try simp only [rsAV, List.map_cons, List.map_nil, thenQ])
      refine hK36 _ ?_
      (try clear hK36)
      refine ag_one (i := 6) (by kernel_rfl) ?_
      refine agi (it := It.mk (some 20) none (IK.lit 1 [Operand.tmp 18, Operand.tmp 19])) (R' := [3, 2]) (by kernel_rfl) (.inl rfl) (by kernel_rfl) (fun K37 hK37 => ?_)
      simp (maxSteps := 999999) (disch := omega) only [av1, av2, av3, eq_self, exists_const, forall_const, implies_true, storeOk, AS.gd, PK.more, PK.cond, PK.val, AV.get, CV.get, AV.ok, CV.ok, AV.off, CV.off, AV.set, CV.set, AV.fits, CV.fits, AV.size, AV.agg, CV.agg, AV.solid, AV.int?, AV.bool?, binOk, AV.els, CV.isByte, Sh.agg, Sh.fits, Sh.fitsL, Sh.fitsR, CV.eqv, CV.eqvs, AV.closed, rsAV, thenQ, AObj.lt, CV.numOf, Nat.reduceAdd, Nat.reduceLT, Nat.reduceMul, reduceCtorEq, ↓reduceIte, Nat.reduceEqDiff, Nat.reduceLeDiff, Nat.reduceSub, Nat.reduceBEq, Nat.reduceBNe, Int.reduceLT, Int.reduceEq, Int.reduceAdd, Int.reduceToNat, Int.reduceLE, Int.reduceBEq, Int.reduceBNe, enc1, cChan]
      (repeat ((with_reducible refine And.intro ?_ ?_); (first | trivial | assumption | omega | (exact nf_imp _) | (exact fn_imp _) | (intro hq; exact ⟨hq, by omega⟩) | (simp; done) | (intro hq; simp [hq]; done) | (intro hq; refine ⟨hq, fun hq2 => ?_⟩; rw [hq, hq2]; rfl))))
      refine hK37 _ ?_
      (try clear hK37)
      refine ag_pures (fuel := 7) [7] [It.mk (some 21) none (IK.p (PK.bld (CV.st [CV.pv (Value.slice none 0 0), CV.ar IntKind.u8 32 (List.replicate 32 0), CV.pv (Value.int IntKind.i64 0), CV.pv (Value.int IntKind.i64 0)]) [(0, 1), (1, 32), (33, 1), (34, 1)] [(0, Operand.tmp 20)]))] (by kernel_rfl) (by kernel_rfl) (by kernel_rfl) (by kernel_rfl) (hideZ_nil _ 0) (fun K38 hK38 => ?_)
      simp (maxSteps := 999999) (disch := omega) only [av1, av2, av3, eq_self, exists_const, forall_const, implies_true, storeOk, AS.gd, PK.more, PK.cond, PK.val, AV.get, CV.get, AV.ok, CV.ok, AV.off, CV.off, AV.set, CV.set, AV.fits, CV.fits, AV.size, AV.agg, CV.agg, AV.solid, AV.int?, AV.bool?, binOk, AV.els, CV.isByte, Sh.agg, Sh.fits, Sh.fitsL, Sh.fitsR, CV.eqv, CV.eqvs, AV.closed, rsAV, thenQ, AObj.lt, CV.numOf, Nat.reduceAdd, Nat.reduceLT, Nat.reduceMul, reduceCtorEq, ↓reduceIte, Nat.reduceEqDiff, Nat.reduceLeDiff, Nat.reduceSub, Nat.reduceBEq, Nat.reduceBNe, Int.reduceLT, Int.reduceEq, Int.reduceAdd, Int.reduceToNat, Int.reduceLE, Int.reduceBEq, Int.reduceBNe, enc1, cChan]
      (repeat ((with_reducible refine And.intro ?_ ?_); (first | trivial | assumption | omega | (exact nf_imp _) | (exact fn_imp _) | (intro hq; exact ⟨hq, by omega⟩) | (simp; done) | (intro hq; simp [hq]; done) | (intro hq; refine ⟨hq, fun hq2 => ?_⟩; rw [hq, hq2]; rfl))))
      refine hK38 _ ?_
      (try clear hK38)
      refine ag_one (i := 8) (by kernel_rfl) ?_
      refine agi (it := It.mk (some 22) none (IK.lit 35 [Operand.tmp 21])) (R' := [3, 2]) (by kernel_rfl) (.inl rfl) (by kernel_rfl) (fun K39 hK39 => ?_)
      simp (maxSteps := 999999) (disch := omega) only [av1, av2, av3, eq_self, exists_const, forall_const, implies_true, storeOk, AS.gd, PK.more, PK.cond, PK.val, AV.get, CV.get, AV.ok, CV.ok, AV.off, CV.off, AV.set, CV.set, AV.fits, CV.fits, AV.size, AV.agg, CV.agg, AV.solid, AV.int?, AV.bool?, binOk, AV.els, CV.isByte, Sh.agg, Sh.fits, Sh.fitsL, Sh.fitsR, CV.eqv, CV.eqvs, AV.closed, rsAV, thenQ, AObj.lt, CV.numOf, Nat.reduceAdd, Nat.reduceLT, Nat.reduceMul, reduceCtorEq, ↓reduceIte, Nat.reduceEqDiff, Nat.reduceLeDiff, Nat.reduceSub, Nat.reduceBEq, Nat.reduceBNe, Int.reduceLT, Int.reduceEq, Int.reduceAdd, Int.reduceToNat, Int.reduceLE, Int.reduceBEq, Int.reduceBNe, enc1, cChan]
      (repeat ((with_reducible refine And.intro ?_ ?_); (first | trivial | assumption | omega | (exact nf_imp _) | (exact fn_imp _) | (intro hq; exact ⟨hq, by omega⟩) | (simp; done) | (intro hq; simp [hq]; done) | (intro hq; refine ⟨hq, fun hq2 => ?_⟩; rw [hq, hq2]; rfl))))
      refine hK39 _ ?_
      (try clear hK39)
      refine ag_pures (fuel := 5) [9] [It.mk (some 23) none (IK.p (PK.bld (CV.st [CV.pv (Value.int IntKind.i64 0), CV.pv (Value.slice none 0 0)]) [(0, 1), (1, 1)] [(0, Operand.tmp 17), (1, Operand.tmp 22)]))] (by kernel_rfl) (by kernel_rfl) (by kernel_rfl) (by kernel_rfl) (hideZ_nil _ 0) (fun K40 hK40 => ?_)
      simp (maxSteps := 999999) (disch := omega) only [av1, av2, av3, eq_self, exists_const, forall_const, implies_true, storeOk, AS.gd, PK.more, PK.cond, PK.val, AV.get, CV.get, AV.ok, CV.ok, AV.off, CV.off, AV.set, CV.set, AV.fits, CV.fits, AV.size, AV.agg, CV.agg, AV.solid, AV.int?, AV.bool?, binOk, AV.els, CV.isByte, Sh.agg, Sh.fits, Sh.fitsL, Sh.fitsR, CV.eqv, CV.eqvs, AV.closed, rsAV, thenQ, AObj.lt, CV.numOf, Nat.reduceAdd, Nat.reduceLT, Nat.reduceMul, reduceCtorEq, ↓reduceIte, Nat.reduceEqDiff, Nat.reduceLeDiff, Nat.reduceSub, Nat.reduceBEq, Nat.reduceBNe, Int.reduceLT, Int.reduceEq, Int.reduceAdd, Int.reduceToNat, Int.reduceLE, Int.reduceBEq, Int.reduceBNe, enc1, cChan]
      (repeat ((with_reducible refine And.intro ?_ ?_); (first | trivial | assumption | omega | (exact nf_imp _) | (exact fn_imp _) | (intro hq; exact ⟨hq, by omega⟩) | (simp; done) | (intro hq; simp [hq]; done) | (intro hq; refine ⟨hq, fun hq2 => ?_⟩; rw [hq, hq2]; rfl))))
      refine hK40 _ ?_
      (try clear hK40)
      refine ag_one (i := 10) (by kernel_rfl) ?_
      refine agi (it := It.mk (some 24) none (IK.call 33 [Operand.tmp 15, Operand.tmp 23])) (R' := []) (by kernel_rfl) (.inl rfl) (by kernel_rfl) (fun K41 hK41 => ?_)
      simp (maxSteps := 999999) (disch := omega) only [av1, av2, av3, eq_self, exists_const, forall_const, implies_true, storeOk, AS.gd, PK.more, PK.cond, PK.val, AV.get, CV.get, AV.ok, CV.ok, AV.off, CV.off, AV.set, CV.set, AV.fits, CV.fits, AV.size, AV.agg, CV.agg, AV.solid, AV.int?, AV.bool?, binOk, AV.els, CV.isByte, Sh.agg, Sh.fits, Sh.fitsL, Sh.fitsR, CV.eqv, CV.eqvs, AV.closed, rsAV, thenQ, AObj.lt, CV.numOf, Nat.reduceAdd, Nat.reduceLT, Nat.reduceMul, reduceCtorEq, ↓reduceIte, Nat.reduceEqDiff, Nat.reduceLeDiff, Nat.reduceSub, Nat.reduceBEq, Nat.reduceBNe, Int.reduceLT, Int.reduceEq, Int.reduceAdd, Int.reduceToNat, Int.reduceLE, Int.reduceBEq, Int.reduceBNe, enc1, cChan]
      apply Exists.intro
      apply And.intro
      · first | exact (lockSame_ap (fundOut c) ⟨c.cap, [⟨[_, _], Z32, 0, 0⟩]⟩ (okFund hc) (okOne (by simp) (fun x hx => by
      simp at hx
      rcases hx with rfl | rfl <;> first | exact hc.client | exact hc.peer) hc.cap)) | exact (fun _ => (lockSame_ap (fundOut c) ⟨c.cap, [⟨[_, _], Z32, 0, 0⟩]⟩ (okFund hc) (okOne (by simp) (fun x hx => by
      simp at hx
      rcases hx with rfl | rfl <;> first | exact hc.client | exact hc.peer) hc.cap))) | exact (fun h => ⟨h, (lockSame_ap (fundOut c) ⟨c.cap, [⟨[_, _], Z32, 0, 0⟩]⟩ (okFund hc) (okOne (by simp) (fun x hx => by
      simp at hx
      rcases hx with rfl | rfl <;> first | exact hc.client | exact hc.peer) hc.cap))⟩) | exact (fun h => ⟨by simp_all, (lockSame_ap (fundOut c) ⟨c.cap, [⟨[_, _], Z32, 0, 0⟩]⟩ (okFund hc) (okOne (by simp) (fun x hx => by
      simp at hx
      rcases hx with rfl | rfl <;> first | exact hc.client | exact hc.peer) hc.cap))⟩)
      (try simp only [rsAV, List.map_cons, List.map_nil, thenQ])
      refine hK41 _ ?_
      (try clear hK41)
      refine ag_pures (fuel := 3) [11] [It.mk (some 25) none (IK.p (PK.mov (Operand.tmp 24)))] (by kernel_rfl) (by kernel_rfl) (by kernel_rfl) (by kernel_rfl) (hideZ_nil _ 0) (fun K42 hK42 => ?_)
      simp (maxSteps := 999999) (disch := omega) only [av1, av2, av3, eq_self, exists_const, forall_const, implies_true, storeOk, AS.gd, PK.more, PK.cond, PK.val, AV.get, CV.get, AV.ok, CV.ok, AV.off, CV.off, AV.set, CV.set, AV.fits, CV.fits, AV.size, AV.agg, CV.agg, AV.solid, AV.int?, AV.bool?, binOk, AV.els, CV.isByte, Sh.agg, Sh.fits, Sh.fitsL, Sh.fitsR, CV.eqv, CV.eqvs, AV.closed, rsAV, thenQ, AObj.lt, CV.numOf, Nat.reduceAdd, Nat.reduceLT, Nat.reduceMul, reduceCtorEq, ↓reduceIte, Nat.reduceEqDiff, Nat.reduceLeDiff, Nat.reduceSub, Nat.reduceBEq, Nat.reduceBNe, Int.reduceLT, Int.reduceEq, Int.reduceAdd, Int.reduceToNat, Int.reduceLE, Int.reduceBEq, Int.reduceBNe, enc1, cChan]
      (repeat ((with_reducible refine And.intro ?_ ?_); (first | trivial | assumption | omega | (exact nf_imp _) | (exact fn_imp _) | (intro hq; exact ⟨hq, by omega⟩) | (simp; done) | (intro hq; simp [hq]; done) | (intro hq; refine ⟨hq, fun hq2 => ?_⟩; rw [hq, hq2]; rfl))))
      refine hK42 _ ?_
      (try clear hK42)
      refine ag_one (i := 12) (by kernel_rfl) ?_
      refine agi (it := It.mk (some 26) (some (25, true)) (IK.call 47 [])) (R' := []) (by kernel_rfl) (.inl rfl) (by kernel_rfl) (fun K43 hK43 => ?_)
      simp (maxSteps := 999999) (disch := omega) only [av1, av2, av3, eq_self, exists_const, forall_const, implies_true, storeOk, AS.gd, PK.more, PK.cond, PK.val, AV.get, CV.get, AV.ok, CV.ok, AV.off, CV.off, AV.set, CV.set, AV.fits, CV.fits, AV.size, AV.agg, CV.agg, AV.solid, AV.int?, AV.bool?, binOk, AV.els, CV.isByte, Sh.agg, Sh.fits, Sh.fitsL, Sh.fitsR, CV.eqv, CV.eqvs, AV.closed, rsAV, thenQ, AObj.lt, CV.numOf, Nat.reduceAdd, Nat.reduceLT, Nat.reduceMul, reduceCtorEq, ↓reduceIte, Nat.reduceEqDiff, Nat.reduceLeDiff, Nat.reduceSub, Nat.reduceBEq, Nat.reduceBNe, Int.reduceLT, Int.reduceEq, Int.reduceAdd, Int.reduceToNat, Int.reduceLE, Int.reduceBEq, Int.reduceBNe, enc1, cChan]
      apply Exists.intro
      apply And.intro
      · first | exact (awake14_ap) | exact (fun _ => (awake14_ap)) | exact (fun h => ⟨h, (awake14_ap)⟩) | exact (fun h => ⟨by simp_all, (awake14_ap)⟩)
      (try simp only [rsAV, List.map_cons, List.map_nil, thenQ])
      refine hK43 _ ?_
      (try clear hK43)
      refine ag_pures (fuel := 0) [13, 14] [It.mk (some 27) none (IK.p (PK.pick (Operand.tmp 25) (Operand.tmp 26) (Operand.const (Value.bool false)))), It.mk (some 2) none (IK.p (PK.mov (Operand.tmp 27)))] (by kernel_rfl) (by kernel_rfl) (by kernel_rfl) (by kernel_rfl) (hideZ_nil _ 0) (fun K44 hK44 => ?_)
      simp (maxSteps := 999999) (disch := omega) only [av1, av2, av3, eq_self, exists_const, forall_const, implies_true, storeOk, AS.gd, PK.more, PK.cond, PK.val, AV.get, CV.get, AV.ok, CV.ok, AV.off, CV.off, AV.set, CV.set, AV.fits, CV.fits, AV.size, AV.agg, CV.agg, AV.solid, AV.int?, AV.bool?, binOk, AV.els, CV.isByte, Sh.agg, Sh.fits, Sh.fitsL, Sh.fitsR, CV.eqv, CV.eqvs, AV.closed, rsAV, thenQ, AObj.lt, CV.numOf, Nat.reduceAdd, Nat.reduceLT, Nat.reduceMul, reduceCtorEq, ↓reduceIte, Nat.reduceEqDiff, Nat.reduceLeDiff, Nat.reduceSub, Nat.reduceBEq, Nat.reduceBNe, Int.reduceLT, Int.reduceEq, Int.reduceAdd, Int.reduceToNat, Int.reduceLE, Int.reduceBEq, Int.reduceBNe, enc1, cChan]
      (repeat ((with_reducible refine And.intro ?_ ?_); (first | trivial | assumption | omega | (exact nf_imp _) | (exact fn_imp _) | (intro hq; exact ⟨hq, by omega⟩) | (simp; done) | (intro hq; simp [hq]; done) | (intro hq; refine ⟨hq, fun hq2 => ?_⟩; rw [hq, hq2]; rfl))))
      refine hK44 _ ?_
      (try clear hK44)
      refine ag_done (by kernel_rfl) ?_
      (try simp only [thenQ])
      refine hK34 _ ?_
      (try clear hK34)
      refine at_ret ?_
      simp (maxSteps := 999999) (disch := omega) only [av1, av2, av3, eq_self, exists_const, forall_const, implies_true, storeOk, AS.gd, PK.more, PK.cond, PK.val, AV.get, CV.get, AV.ok, CV.ok, AV.off, CV.off, AV.set, CV.set, AV.fits, CV.fits, AV.size, AV.agg, CV.agg, AV.solid, AV.int?, AV.bool?, binOk, AV.els, CV.isByte, Sh.agg, Sh.fits, Sh.fitsL, Sh.fitsR, CV.eqv, CV.eqvs, AV.closed, rsAV, thenQ, AObj.lt, CV.numOf, Nat.reduceAdd, Nat.reduceLT, Nat.reduceMul, reduceCtorEq, ↓reduceIte, Nat.reduceEqDiff, Nat.reduceLeDiff, Nat.reduceSub, Nat.reduceBEq, Nat.reduceBNe, Int.reduceLT, Int.reduceEq, Int.reduceAdd, Int.reduceToNat, Int.reduceLE, Int.reduceBEq, Int.reduceBNe, enc1, cChan, blockQ, retQ, RetOk, ResOk, AV.fin, AV.fins, CV.le, CV.les]
      (refine pv_bool (fund_same ?_); first | exact .inl ⟨h6, rfl, rfl⟩ | exact .inr ⟨h6, rfl, rfl⟩)
    · refine agi (it := It.mk (some 20) none (IK.lit 1 [Operand.tmp 18, Operand.tmp 19])) (R' := [3, 2, 0]) (by kernel_rfl) (.inl rfl) (by kernel_rfl) (fun K45 hK45 => ?_)
      simp (maxSteps := 999999) (disch := omega) only [av1, av2, av3, eq_self, exists_const, forall_const, implies_true, storeOk, AS.gd, PK.more, PK.cond, PK.val, AV.get, CV.get, AV.ok, CV.ok, AV.off, CV.off, AV.set, CV.set, AV.fits, CV.fits, AV.size, AV.agg, CV.agg, AV.solid, AV.int?, AV.bool?, binOk, AV.els, CV.isByte, Sh.agg, Sh.fits, Sh.fitsL, Sh.fitsR, CV.eqv, CV.eqvs, AV.closed, rsAV, thenQ, AObj.lt, CV.numOf, Nat.reduceAdd, Nat.reduceLT, Nat.reduceMul, reduceCtorEq, ↓reduceIte, Nat.reduceEqDiff, Nat.reduceLeDiff, Nat.reduceSub, Nat.reduceBEq, Nat.reduceBNe, Int.reduceLT, Int.reduceEq, Int.reduceAdd, Int.reduceToNat, Int.reduceLE, Int.reduceBEq, Int.reduceBNe, enc1, cChan]
      (repeat ((with_reducible refine And.intro ?_ ?_); (first | trivial | assumption | omega | (exact nf_imp _) | (exact fn_imp _) | (intro hq; exact ⟨hq, by omega⟩) | (simp; done) | (intro hq; simp [hq]; done) | (intro hq; refine ⟨hq, fun hq2 => ?_⟩; rw [hq, hq2]; rfl))))
      refine hK45 _ ?_
      (try clear hK45)
      refine ag_pures (fuel := 8) [7] [It.mk (some 21) none (IK.p (PK.bld (CV.st [CV.pv (Value.slice none 0 0), CV.ar IntKind.u8 32 (List.replicate 32 0), CV.pv (Value.int IntKind.i64 0), CV.pv (Value.int IntKind.i64 0)]) [(0, 1), (1, 32), (33, 1), (34, 1)] [(0, Operand.tmp 20)]))] (by kernel_rfl) (by kernel_rfl) (by kernel_rfl) (by kernel_rfl) (hideZ_nil _ 0) (fun K46 hK46 => ?_)
      simp (maxSteps := 999999) (disch := omega) only [av1, av2, av3, eq_self, exists_const, forall_const, implies_true, storeOk, AS.gd, PK.more, PK.cond, PK.val, AV.get, CV.get, AV.ok, CV.ok, AV.off, CV.off, AV.set, CV.set, AV.fits, CV.fits, AV.size, AV.agg, CV.agg, AV.solid, AV.int?, AV.bool?, binOk, AV.els, CV.isByte, Sh.agg, Sh.fits, Sh.fitsL, Sh.fitsR, CV.eqv, CV.eqvs, AV.closed, rsAV, thenQ, AObj.lt, CV.numOf, Nat.reduceAdd, Nat.reduceLT, Nat.reduceMul, reduceCtorEq, ↓reduceIte, Nat.reduceEqDiff, Nat.reduceLeDiff, Nat.reduceSub, Nat.reduceBEq, Nat.reduceBNe, Int.reduceLT, Int.reduceEq, Int.reduceAdd, Int.reduceToNat, Int.reduceLE, Int.reduceBEq, Int.reduceBNe, enc1, cChan]
      (repeat ((with_reducible refine And.intro ?_ ?_); (first | trivial | assumption | omega | (exact nf_imp _) | (exact fn_imp _) | (intro hq; exact ⟨hq, by omega⟩) | (simp; done) | (intro hq; simp [hq]; done) | (intro hq; refine ⟨hq, fun hq2 => ?_⟩; rw [hq, hq2]; rfl))))
      refine hK46 _ ?_
      (try clear hK46)
      refine ag_two (i := 1) (j := 8) (by kernel_rfl) ?_ ?_
      · refine agi (it := It.mk (some 15) none (IK.call 46 [Operand.tmp 14])) (R' := [7, 3, 2]) (by kernel_rfl) (.inl rfl) (by kernel_rfl) (fun K47 hK47 => ?_)
        simp (maxSteps := 999999) (disch := omega) only [av1, av2, av3, eq_self, exists_const, forall_const, implies_true, storeOk, AS.gd, PK.more, PK.cond, PK.val, AV.get, CV.get, AV.ok, CV.ok, AV.off, CV.off, AV.set, CV.set, AV.fits, CV.fits, AV.size, AV.agg, CV.agg, AV.solid, AV.int?, AV.bool?, binOk, AV.els, CV.isByte, Sh.agg, Sh.fits, Sh.fitsL, Sh.fitsR, CV.eqv, CV.eqvs, AV.closed, rsAV, thenQ, AObj.lt, CV.numOf, Nat.reduceAdd, Nat.reduceLT, Nat.reduceMul, reduceCtorEq, ↓reduceIte, Nat.reduceEqDiff, Nat.reduceLeDiff, Nat.reduceSub, Nat.reduceBEq, Nat.reduceBNe, Int.reduceLT, Int.reduceEq, Int.reduceAdd, Int.reduceToNat, Int.reduceLE, Int.reduceBEq, Int.reduceBNe, enc1, cChan]
        apply Exists.intro
        apply And.intro
        · first | exact (fund_ap c) | exact (fun _ => (fund_ap c)) | exact (fun h => ⟨h, (fund_ap c)⟩) | exact (fun h => ⟨by simp_all, (fund_ap c)⟩)
        (try simp only [rsAV, List.map_cons, List.map_nil, thenQ])
        refine hK47 _ ?_
        (try clear hK47)
        refine ag_one (i := 8) (by kernel_rfl) ?_
        refine agi (it := It.mk (some 22) none (IK.lit 35 [Operand.tmp 21])) (R' := [3, 2]) (by kernel_rfl) (.inl rfl) (by kernel_rfl) (fun K48 hK48 => ?_)
        simp (maxSteps := 999999) (disch := omega) only [av1, av2, av3, eq_self, exists_const, forall_const, implies_true, storeOk, AS.gd, PK.more, PK.cond, PK.val, AV.get, CV.get, AV.ok, CV.ok, AV.off, CV.off, AV.set, CV.set, AV.fits, CV.fits, AV.size, AV.agg, CV.agg, AV.solid, AV.int?, AV.bool?, binOk, AV.els, CV.isByte, Sh.agg, Sh.fits, Sh.fitsL, Sh.fitsR, CV.eqv, CV.eqvs, AV.closed, rsAV, thenQ, AObj.lt, CV.numOf, Nat.reduceAdd, Nat.reduceLT, Nat.reduceMul, reduceCtorEq, ↓reduceIte, Nat.reduceEqDiff, Nat.reduceLeDiff, Nat.reduceSub, Nat.reduceBEq, Nat.reduceBNe, Int.reduceLT, Int.reduceEq, Int.reduceAdd, Int.reduceToNat, Int.reduceLE, Int.reduceBEq, Int.reduceBNe, enc1, cChan]
        (repeat ((with_reducible refine And.intro ?_ ?_); (first | trivial | assumption | omega | (exact nf_imp _) | (exact fn_imp _) | (intro hq; exact ⟨hq, by omega⟩) | (simp; done) | (intro hq; simp [hq]; done) | (intro hq; refine ⟨hq, fun hq2 => ?_⟩; rw [hq, hq2]; rfl))))
        refine hK48 _ ?_
        (try clear hK48)
        refine ag_pures (fuel := 5) [9] [It.mk (some 23) none (IK.p (PK.bld (CV.st [CV.pv (Value.int IntKind.i64 0), CV.pv (Value.slice none 0 0)]) [(0, 1), (1, 1)] [(0, Operand.tmp 17), (1, Operand.tmp 22)]))] (by kernel_rfl) (by kernel_rfl) (by kernel_rfl) (by kernel_rfl) (hideZ_nil _ 0) (fun K49 hK49 => ?_)
        simp (maxSteps := 999999) (disch := omega) only [av1, av2, av3, eq_self, exists_const, forall_const, implies_true, storeOk, AS.gd, PK.more, PK.cond, PK.val, AV.get, CV.get, AV.ok, CV.ok, AV.off, CV.off, AV.set, CV.set, AV.fits, CV.fits, AV.size, AV.agg, CV.agg, AV.solid, AV.int?, AV.bool?, binOk, AV.els, CV.isByte, Sh.agg, Sh.fits, Sh.fitsL, Sh.fitsR, CV.eqv, CV.eqvs, AV.closed, rsAV, thenQ, AObj.lt, CV.numOf, Nat.reduceAdd, Nat.reduceLT, Nat.reduceMul, reduceCtorEq, ↓reduceIte, Nat.reduceEqDiff, Nat.reduceLeDiff, Nat.reduceSub, Nat.reduceBEq, Nat.reduceBNe, Int.reduceLT, Int.reduceEq, Int.reduceAdd, Int.reduceToNat, Int.reduceLE, Int.reduceBEq, Int.reduceBNe, enc1, cChan]
        (repeat ((with_reducible refine And.intro ?_ ?_); (first | trivial | assumption | omega | (exact nf_imp _) | (exact fn_imp _) | (intro hq; exact ⟨hq, by omega⟩) | (simp; done) | (intro hq; simp [hq]; done) | (intro hq; refine ⟨hq, fun hq2 => ?_⟩; rw [hq, hq2]; rfl))))
        refine hK49 _ ?_
        (try clear hK49)
        refine ag_one (i := 10) (by kernel_rfl) ?_
        refine agi (it := It.mk (some 24) none (IK.call 33 [Operand.tmp 15, Operand.tmp 23])) (R' := []) (by kernel_rfl) (.inl rfl) (by kernel_rfl) (fun K50 hK50 => ?_)
        simp (maxSteps := 999999) (disch := omega) only [av1, av2, av3, eq_self, exists_const, forall_const, implies_true, storeOk, AS.gd, PK.more, PK.cond, PK.val, AV.get, CV.get, AV.ok, CV.ok, AV.off, CV.off, AV.set, CV.set, AV.fits, CV.fits, AV.size, AV.agg, CV.agg, AV.solid, AV.int?, AV.bool?, binOk, AV.els, CV.isByte, Sh.agg, Sh.fits, Sh.fitsL, Sh.fitsR, CV.eqv, CV.eqvs, AV.closed, rsAV, thenQ, AObj.lt, CV.numOf, Nat.reduceAdd, Nat.reduceLT, Nat.reduceMul, reduceCtorEq, ↓reduceIte, Nat.reduceEqDiff, Nat.reduceLeDiff, Nat.reduceSub, Nat.reduceBEq, Nat.reduceBNe, Int.reduceLT, Int.reduceEq, Int.reduceAdd, Int.reduceToNat, Int.reduceLE, Int.reduceBEq, Int.reduceBNe, enc1, cChan]
        apply Exists.intro
        apply And.intro
        · first | exact (lockSame_ap (fundOut c) ⟨c.cap, [⟨[_, _], Z32, 0, 0⟩]⟩ (okFund hc) (okOne (by simp) (fun x hx => by
      simp at hx
      rcases hx with rfl | rfl <;> first | exact hc.client | exact hc.peer) hc.cap)) | exact (fun _ => (lockSame_ap (fundOut c) ⟨c.cap, [⟨[_, _], Z32, 0, 0⟩]⟩ (okFund hc) (okOne (by simp) (fun x hx => by
      simp at hx
      rcases hx with rfl | rfl <;> first | exact hc.client | exact hc.peer) hc.cap))) | exact (fun h => ⟨h, (lockSame_ap (fundOut c) ⟨c.cap, [⟨[_, _], Z32, 0, 0⟩]⟩ (okFund hc) (okOne (by simp) (fun x hx => by
      simp at hx
      rcases hx with rfl | rfl <;> first | exact hc.client | exact hc.peer) hc.cap))⟩) | exact (fun h => ⟨by simp_all, (lockSame_ap (fundOut c) ⟨c.cap, [⟨[_, _], Z32, 0, 0⟩]⟩ (okFund hc) (okOne (by simp) (fun x hx => by
      simp at hx
      rcases hx with rfl | rfl <;> first | exact hc.client | exact hc.peer) hc.cap))⟩)
        (try simp only [rsAV, List.map_cons, List.map_nil, thenQ])
        refine hK50 _ ?_
        (try clear hK50)
        refine ag_pures (fuel := 3) [11] [It.mk (some 25) none (IK.p (PK.mov (Operand.tmp 24)))] (by kernel_rfl) (by kernel_rfl) (by kernel_rfl) (by kernel_rfl) (hideZ_nil _ 0) (fun K51 hK51 => ?_)
        simp (maxSteps := 999999) (disch := omega) only [av1, av2, av3, eq_self, exists_const, forall_const, implies_true, storeOk, AS.gd, PK.more, PK.cond, PK.val, AV.get, CV.get, AV.ok, CV.ok, AV.off, CV.off, AV.set, CV.set, AV.fits, CV.fits, AV.size, AV.agg, CV.agg, AV.solid, AV.int?, AV.bool?, binOk, AV.els, CV.isByte, Sh.agg, Sh.fits, Sh.fitsL, Sh.fitsR, CV.eqv, CV.eqvs, AV.closed, rsAV, thenQ, AObj.lt, CV.numOf, Nat.reduceAdd, Nat.reduceLT, Nat.reduceMul, reduceCtorEq, ↓reduceIte, Nat.reduceEqDiff, Nat.reduceLeDiff, Nat.reduceSub, Nat.reduceBEq, Nat.reduceBNe, Int.reduceLT, Int.reduceEq, Int.reduceAdd, Int.reduceToNat, Int.reduceLE, Int.reduceBEq, Int.reduceBNe, enc1, cChan]
        (repeat ((with_reducible refine And.intro ?_ ?_); (first | trivial | assumption | omega | (exact nf_imp _) | (exact fn_imp _) | (intro hq; exact ⟨hq, by omega⟩) | (simp; done) | (intro hq; simp [hq]; done) | (intro hq; refine ⟨hq, fun hq2 => ?_⟩; rw [hq, hq2]; rfl))))
        refine hK51 _ ?_
        (try clear hK51)
        refine ag_one (i := 12) (by kernel_rfl) ?_
        refine agi (it := It.mk (some 26) (some (25, true)) (IK.call 47 [])) (R' := []) (by kernel_rfl) (.inl rfl) (by kernel_rfl) (fun K52 hK52 => ?_)
        simp (maxSteps := 999999) (disch := omega) only [av1, av2, av3, eq_self, exists_const, forall_const, implies_true, storeOk, AS.gd, PK.more, PK.cond, PK.val, AV.get, CV.get, AV.ok, CV.ok, AV.off, CV.off, AV.set, CV.set, AV.fits, CV.fits, AV.size, AV.agg, CV.agg, AV.solid, AV.int?, AV.bool?, binOk, AV.els, CV.isByte, Sh.agg, Sh.fits, Sh.fitsL, Sh.fitsR, CV.eqv, CV.eqvs, AV.closed, rsAV, thenQ, AObj.lt, CV.numOf, Nat.reduceAdd, Nat.reduceLT, Nat.reduceMul, reduceCtorEq, ↓reduceIte, Nat.reduceEqDiff, Nat.reduceLeDiff, Nat.reduceSub, Nat.reduceBEq, Nat.reduceBNe, Int.reduceLT, Int.reduceEq, Int.reduceAdd, Int.reduceToNat, Int.reduceLE, Int.reduceBEq, Int.reduceBNe, enc1, cChan]
        apply Exists.intro
        apply And.intro
        · first | exact (awake14_ap) | exact (fun _ => (awake14_ap)) | exact (fun h => ⟨h, (awake14_ap)⟩) | exact (fun h => ⟨by simp_all, (awake14_ap)⟩)
        (try simp only [rsAV, List.map_cons, List.map_nil, thenQ])
        refine hK52 _ ?_
        (try clear hK52)
        refine ag_pures (fuel := 0) [13, 14] [It.mk (some 27) none (IK.p (PK.pick (Operand.tmp 25) (Operand.tmp 26) (Operand.const (Value.bool false)))), It.mk (some 2) none (IK.p (PK.mov (Operand.tmp 27)))] (by kernel_rfl) (by kernel_rfl) (by kernel_rfl) (by kernel_rfl) (hideZ_nil _ 0) (fun K53 hK53 => ?_)
        simp (maxSteps := 999999) (disch := omega) only [av1, av2, av3, eq_self, exists_const, forall_const, implies_true, storeOk, AS.gd, PK.more, PK.cond, PK.val, AV.get, CV.get, AV.ok, CV.ok, AV.off, CV.off, AV.set, CV.set, AV.fits, CV.fits, AV.size, AV.agg, CV.agg, AV.solid, AV.int?, AV.bool?, binOk, AV.els, CV.isByte, Sh.agg, Sh.fits, Sh.fitsL, Sh.fitsR, CV.eqv, CV.eqvs, AV.closed, rsAV, thenQ, AObj.lt, CV.numOf, Nat.reduceAdd, Nat.reduceLT, Nat.reduceMul, reduceCtorEq, ↓reduceIte, Nat.reduceEqDiff, Nat.reduceLeDiff, Nat.reduceSub, Nat.reduceBEq, Nat.reduceBNe, Int.reduceLT, Int.reduceEq, Int.reduceAdd, Int.reduceToNat, Int.reduceLE, Int.reduceBEq, Int.reduceBNe, enc1, cChan]
        (repeat ((with_reducible refine And.intro ?_ ?_); (first | trivial | assumption | omega | (exact nf_imp _) | (exact fn_imp _) | (intro hq; exact ⟨hq, by omega⟩) | (simp; done) | (intro hq; simp [hq]; done) | (intro hq; refine ⟨hq, fun hq2 => ?_⟩; rw [hq, hq2]; rfl))))
        refine hK53 _ ?_
        (try clear hK53)
        refine ag_done (by kernel_rfl) ?_
        (try simp only [thenQ])
        refine hK34 _ ?_
        (try clear hK34)
        refine at_ret ?_
        simp (maxSteps := 999999) (disch := omega) only [av1, av2, av3, eq_self, exists_const, forall_const, implies_true, storeOk, AS.gd, PK.more, PK.cond, PK.val, AV.get, CV.get, AV.ok, CV.ok, AV.off, CV.off, AV.set, CV.set, AV.fits, CV.fits, AV.size, AV.agg, CV.agg, AV.solid, AV.int?, AV.bool?, binOk, AV.els, CV.isByte, Sh.agg, Sh.fits, Sh.fitsL, Sh.fitsR, CV.eqv, CV.eqvs, AV.closed, rsAV, thenQ, AObj.lt, CV.numOf, Nat.reduceAdd, Nat.reduceLT, Nat.reduceMul, reduceCtorEq, ↓reduceIte, Nat.reduceEqDiff, Nat.reduceLeDiff, Nat.reduceSub, Nat.reduceBEq, Nat.reduceBNe, Int.reduceLT, Int.reduceEq, Int.reduceAdd, Int.reduceToNat, Int.reduceLE, Int.reduceBEq, Int.reduceBNe, enc1, cChan, blockQ, retQ, RetOk, ResOk, AV.fin, AV.fins, CV.le, CV.les]
        (refine pv_bool (fund_same ?_); first | exact .inl ⟨h6, rfl, rfl⟩ | exact .inr ⟨h6, rfl, rfl⟩)
      · refine agi (it := It.mk (some 22) none (IK.lit 35 [Operand.tmp 21])) (R' := [3, 2, 0]) (by kernel_rfl) (.inl rfl) (by kernel_rfl) (fun K54 hK54 => ?_)
        simp (maxSteps := 999999) (disch := omega) only [av1, av2, av3, eq_self, exists_const, forall_const, implies_true, storeOk, AS.gd, PK.more, PK.cond, PK.val, AV.get, CV.get, AV.ok, CV.ok, AV.off, CV.off, AV.set, CV.set, AV.fits, CV.fits, AV.size, AV.agg, CV.agg, AV.solid, AV.int?, AV.bool?, binOk, AV.els, CV.isByte, Sh.agg, Sh.fits, Sh.fitsL, Sh.fitsR, CV.eqv, CV.eqvs, AV.closed, rsAV, thenQ, AObj.lt, CV.numOf, Nat.reduceAdd, Nat.reduceLT, Nat.reduceMul, reduceCtorEq, ↓reduceIte, Nat.reduceEqDiff, Nat.reduceLeDiff, Nat.reduceSub, Nat.reduceBEq, Nat.reduceBNe, Int.reduceLT, Int.reduceEq, Int.reduceAdd, Int.reduceToNat, Int.reduceLE, Int.reduceBEq, Int.reduceBNe, enc1, cChan]
        (repeat ((with_reducible refine And.intro ?_ ?_); (first | trivial | assumption | omega | (exact nf_imp _) | (exact fn_imp _) | (intro hq; exact ⟨hq, by omega⟩) | (simp; done) | (intro hq; simp [hq]; done) | (intro hq; refine ⟨hq, fun hq2 => ?_⟩; rw [hq, hq2]; rfl))))
        refine hK54 _ ?_
        (try clear hK54)
        refine ag_pures (fuel := 6) [9] [It.mk (some 23) none (IK.p (PK.bld (CV.st [CV.pv (Value.int IntKind.i64 0), CV.pv (Value.slice none 0 0)]) [(0, 1), (1, 1)] [(0, Operand.tmp 17), (1, Operand.tmp 22)]))] (by kernel_rfl) (by kernel_rfl) (by kernel_rfl) (by kernel_rfl) (hideZ_nil _ 0) (fun K55 hK55 => ?_)
        simp (maxSteps := 999999) (disch := omega) only [av1, av2, av3, eq_self, exists_const, forall_const, implies_true, storeOk, AS.gd, PK.more, PK.cond, PK.val, AV.get, CV.get, AV.ok, CV.ok, AV.off, CV.off, AV.set, CV.set, AV.fits, CV.fits, AV.size, AV.agg, CV.agg, AV.solid, AV.int?, AV.bool?, binOk, AV.els, CV.isByte, Sh.agg, Sh.fits, Sh.fitsL, Sh.fitsR, CV.eqv, CV.eqvs, AV.closed, rsAV, thenQ, AObj.lt, CV.numOf, Nat.reduceAdd, Nat.reduceLT, Nat.reduceMul, reduceCtorEq, ↓reduceIte, Nat.reduceEqDiff, Nat.reduceLeDiff, Nat.reduceSub, Nat.reduceBEq, Nat.reduceBNe, Int.reduceLT, Int.reduceEq, Int.reduceAdd, Int.reduceToNat, Int.reduceLE, Int.reduceBEq, Int.reduceBNe, enc1, cChan]
        (repeat ((with_reducible refine And.intro ?_ ?_); (first | trivial | assumption | omega | (exact nf_imp _) | (exact fn_imp _) | (intro hq; exact ⟨hq, by omega⟩) | (simp; done) | (intro hq; simp [hq]; done) | (intro hq; refine ⟨hq, fun hq2 => ?_⟩; rw [hq, hq2]; rfl))))
        refine hK55 _ ?_
        (try clear hK55)
        refine ag_one (i := 1) (by kernel_rfl) ?_
        refine agi (it := It.mk (some 15) none (IK.call 46 [Operand.tmp 14])) (R' := [9, 3, 2]) (by kernel_rfl) (.inl rfl) (by kernel_rfl) (fun K56 hK56 => ?_)
        simp (maxSteps := 999999) (disch := omega) only [av1, av2, av3, eq_self, exists_const, forall_const, implies_true, storeOk, AS.gd, PK.more, PK.cond, PK.val, AV.get, CV.get, AV.ok, CV.ok, AV.off, CV.off, AV.set, CV.set, AV.fits, CV.fits, AV.size, AV.agg, CV.agg, AV.solid, AV.int?, AV.bool?, binOk, AV.els, CV.isByte, Sh.agg, Sh.fits, Sh.fitsL, Sh.fitsR, CV.eqv, CV.eqvs, AV.closed, rsAV, thenQ, AObj.lt, CV.numOf, Nat.reduceAdd, Nat.reduceLT, Nat.reduceMul, reduceCtorEq, ↓reduceIte, Nat.reduceEqDiff, Nat.reduceLeDiff, Nat.reduceSub, Nat.reduceBEq, Nat.reduceBNe, Int.reduceLT, Int.reduceEq, Int.reduceAdd, Int.reduceToNat, Int.reduceLE, Int.reduceBEq, Int.reduceBNe, enc1, cChan]
        apply Exists.intro
        apply And.intro
        · first | exact (fund_ap c) | exact (fun _ => (fund_ap c)) | exact (fun h => ⟨h, (fund_ap c)⟩) | exact (fun h => ⟨by simp_all, (fund_ap c)⟩)
        (try simp only [rsAV, List.map_cons, List.map_nil, thenQ])
        refine hK56 _ ?_
        (try clear hK56)
        refine ag_one (i := 10) (by kernel_rfl) ?_
        refine agi (it := It.mk (some 24) none (IK.call 33 [Operand.tmp 15, Operand.tmp 23])) (R' := []) (by kernel_rfl) (.inl rfl) (by kernel_rfl) (fun K57 hK57 => ?_)
        simp (maxSteps := 999999) (disch := omega) only [av1, av2, av3, eq_self, exists_const, forall_const, implies_true, storeOk, AS.gd, PK.more, PK.cond, PK.val, AV.get, CV.get, AV.ok, CV.ok, AV.off, CV.off, AV.set, CV.set, AV.fits, CV.fits, AV.size, AV.agg, CV.agg, AV.solid, AV.int?, AV.bool?, binOk, AV.els, CV.isByte, Sh.agg, Sh.fits, Sh.fitsL, Sh.fitsR, CV.eqv, CV.eqvs, AV.closed, rsAV, thenQ, AObj.lt, CV.numOf, Nat.reduceAdd, Nat.reduceLT, Nat.reduceMul, reduceCtorEq, ↓reduceIte, Nat.reduceEqDiff, Nat.reduceLeDiff, Nat.reduceSub, Nat.reduceBEq, Nat.reduceBNe, Int.reduceLT, Int.reduceEq, Int.reduceAdd, Int.reduceToNat, Int.reduceLE, Int.reduceBEq, Int.reduceBNe, enc1, cChan]
        apply Exists.intro
        apply And.intro
        · first | exact (lockSame_ap (fundOut c) ⟨c.cap, [⟨[_, _], Z32, 0, 0⟩]⟩ (okFund hc) (okOne (by simp) (fun x hx => by
      simp at hx
      rcases hx with rfl | rfl <;> first | exact hc.client | exact hc.peer) hc.cap)) | exact (fun _ => (lockSame_ap (fundOut c) ⟨c.cap, [⟨[_, _], Z32, 0, 0⟩]⟩ (okFund hc) (okOne (by simp) (fun x hx => by
      simp at hx
      rcases hx with rfl | rfl <;> first | exact hc.client | exact hc.peer) hc.cap))) | exact (fun h => ⟨h, (lockSame_ap (fundOut c) ⟨c.cap, [⟨[_, _], Z32, 0, 0⟩]⟩ (okFund hc) (okOne (by simp) (fun x hx => by
      simp at hx
      rcases hx with rfl | rfl <;> first | exact hc.client | exact hc.peer) hc.cap))⟩) | exact (fun h => ⟨by simp_all, (lockSame_ap (fundOut c) ⟨c.cap, [⟨[_, _], Z32, 0, 0⟩]⟩ (okFund hc) (okOne (by simp) (fun x hx => by
      simp at hx
      rcases hx with rfl | rfl <;> first | exact hc.client | exact hc.peer) hc.cap))⟩)
        (try simp only [rsAV, List.map_cons, List.map_nil, thenQ])
        refine hK57 _ ?_
        (try clear hK57)
        refine ag_pures (fuel := 3) [11] [It.mk (some 25) none (IK.p (PK.mov (Operand.tmp 24)))] (by kernel_rfl) (by kernel_rfl) (by kernel_rfl) (by kernel_rfl) (hideZ_nil _ 0) (fun K58 hK58 => ?_)
        simp (maxSteps := 999999) (disch := omega) only [av1, av2, av3, eq_self, exists_const, forall_const, implies_true, storeOk, AS.gd, PK.more, PK.cond, PK.val, AV.get, CV.get, AV.ok, CV.ok, AV.off, CV.off, AV.set, CV.set, AV.fits, CV.fits, AV.size, AV.agg, CV.agg, AV.solid, AV.int?, AV.bool?, binOk, AV.els, CV.isByte, Sh.agg, Sh.fits, Sh.fitsL, Sh.fitsR, CV.eqv, CV.eqvs, AV.closed, rsAV, thenQ, AObj.lt, CV.numOf, Nat.reduceAdd, Nat.reduceLT, Nat.reduceMul, reduceCtorEq, ↓reduceIte, Nat.reduceEqDiff, Nat.reduceLeDiff, Nat.reduceSub, Nat.reduceBEq, Nat.reduceBNe, Int.reduceLT, Int.reduceEq, Int.reduceAdd, Int.reduceToNat, Int.reduceLE, Int.reduceBEq, Int.reduceBNe, enc1, cChan]
        (repeat ((with_reducible refine And.intro ?_ ?_); (first | trivial | assumption | omega | (exact nf_imp _) | (exact fn_imp _) | (intro hq; exact ⟨hq, by omega⟩) | (simp; done) | (intro hq; simp [hq]; done) | (intro hq; refine ⟨hq, fun hq2 => ?_⟩; rw [hq, hq2]; rfl))))
        refine hK58 _ ?_
        (try clear hK58)
        refine ag_one (i := 12) (by kernel_rfl) ?_
        refine agi (it := It.mk (some 26) (some (25, true)) (IK.call 47 [])) (R' := []) (by kernel_rfl) (.inl rfl) (by kernel_rfl) (fun K59 hK59 => ?_)
        simp (maxSteps := 999999) (disch := omega) only [av1, av2, av3, eq_self, exists_const, forall_const, implies_true, storeOk, AS.gd, PK.more, PK.cond, PK.val, AV.get, CV.get, AV.ok, CV.ok, AV.off, CV.off, AV.set, CV.set, AV.fits, CV.fits, AV.size, AV.agg, CV.agg, AV.solid, AV.int?, AV.bool?, binOk, AV.els, CV.isByte, Sh.agg, Sh.fits, Sh.fitsL, Sh.fitsR, CV.eqv, CV.eqvs, AV.closed, rsAV, thenQ, AObj.lt, CV.numOf, Nat.reduceAdd, Nat.reduceLT, Nat.reduceMul, reduceCtorEq, ↓reduceIte, Nat.reduceEqDiff, Nat.reduceLeDiff, Nat.reduceSub, Nat.reduceBEq, Nat.reduceBNe, Int.reduceLT, Int.reduceEq, Int.reduceAdd, Int.reduceToNat, Int.reduceLE, Int.reduceBEq, Int.reduceBNe, enc1, cChan]
        apply Exists.intro
        apply And.intro
        · first | exact (awake14_ap) | exact (fun _ => (awake14_ap)) | exact (fun h => ⟨h, (awake14_ap)⟩) | exact (fun h => ⟨by simp_all, (awake14_ap)⟩)
        (try simp only [rsAV, List.map_cons, List.map_nil, thenQ])
        refine hK59 _ ?_
        (try clear hK59)
        refine ag_pures (fuel := 0) [13, 14] [It.mk (some 27) none (IK.p (PK.pick (Operand.tmp 25) (Operand.tmp 26) (Operand.const (Value.bool false)))), It.mk (some 2) none (IK.p (PK.mov (Operand.tmp 27)))] (by kernel_rfl) (by kernel_rfl) (by kernel_rfl) (by kernel_rfl) (hideZ_nil _ 0) (fun K60 hK60 => ?_)
        simp (maxSteps := 999999) (disch := omega) only [av1, av2, av3, eq_self, exists_const, forall_const, implies_true, storeOk, AS.gd, PK.more, PK.cond, PK.val, AV.get, CV.get, AV.ok, CV.ok, AV.off, CV.off, AV.set, CV.set, AV.fits, CV.fits, AV.size, AV.agg, CV.agg, AV.solid, AV.int?, AV.bool?, binOk, AV.els, CV.isByte, Sh.agg, Sh.fits, Sh.fitsL, Sh.fitsR, CV.eqv, CV.eqvs, AV.closed, rsAV, thenQ, AObj.lt, CV.numOf, Nat.reduceAdd, Nat.reduceLT, Nat.reduceMul, reduceCtorEq, ↓reduceIte, Nat.reduceEqDiff, Nat.reduceLeDiff, Nat.reduceSub, Nat.reduceBEq, Nat.reduceBNe, Int.reduceLT, Int.reduceEq, Int.reduceAdd, Int.reduceToNat, Int.reduceLE, Int.reduceBEq, Int.reduceBNe, enc1, cChan]
        (repeat ((with_reducible refine And.intro ?_ ?_); (first | trivial | assumption | omega | (exact nf_imp _) | (exact fn_imp _) | (intro hq; exact ⟨hq, by omega⟩) | (simp; done) | (intro hq; simp [hq]; done) | (intro hq; refine ⟨hq, fun hq2 => ?_⟩; rw [hq, hq2]; rfl))))
        refine hK60 _ ?_
        (try clear hK60)
        refine ag_done (by kernel_rfl) ?_
        (try simp only [thenQ])
        refine hK34 _ ?_
        (try clear hK34)
        refine at_ret ?_
        simp (maxSteps := 999999) (disch := omega) only [av1, av2, av3, eq_self, exists_const, forall_const, implies_true, storeOk, AS.gd, PK.more, PK.cond, PK.val, AV.get, CV.get, AV.ok, CV.ok, AV.off, CV.off, AV.set, CV.set, AV.fits, CV.fits, AV.size, AV.agg, CV.agg, AV.solid, AV.int?, AV.bool?, binOk, AV.els, CV.isByte, Sh.agg, Sh.fits, Sh.fitsL, Sh.fitsR, CV.eqv, CV.eqvs, AV.closed, rsAV, thenQ, AObj.lt, CV.numOf, Nat.reduceAdd, Nat.reduceLT, Nat.reduceMul, reduceCtorEq, ↓reduceIte, Nat.reduceEqDiff, Nat.reduceLeDiff, Nat.reduceSub, Nat.reduceBEq, Nat.reduceBNe, Int.reduceLT, Int.reduceEq, Int.reduceAdd, Int.reduceToNat, Int.reduceLE, Int.reduceBEq, Int.reduceBNe, enc1, cChan, blockQ, retQ, RetOk, ResOk, AV.fin, AV.fins, CV.le, CV.les]
        (refine pv_bool (fund_same ?_); first | exact .inl ⟨h6, rfl, rfl⟩ | exact .inr ⟨h6, rfl, rfl⟩)
end Go.Proofs.Ytcghjnegaiiieaa
namespace Go.Proofs.Ytcghjnegaiiieaa
open Go.RowKit
/-- A law that is walked, as its row wants it. -/
theorem law_of_ap {f : FuncId} {xs : List CV} (h : AP Try.prog f xs [.pv (.bool true)]) (W : World) (vs : List Value) (hv : AV.repVs W (Old W) (fun _ => undef) (xs.map .c) vs) :
    Calls Try.prog f vs.toArray W fun e W' => e = .returned (.bool true) ∧ Below W.heap.size W W' :=
  (h.2 W (Old W) vs (fun _ h => h) hv).mono fun e W' ⟨v, F', h1, h2, h3, _⟩ => by
    have h2 : (CV.pv (.bool true)).repV W' F' v := h2
    obtain ⟨cs, h4, rfl⟩ := h2
    simp only [CV.rep] at h4
    obtain ⟨rfl, _⟩ := h4
    exact ⟨h1, h3.below (Nat.le_refl _) (fun _ h => by cases h)⟩
def RRef : Rl (List Int × Int) := RBy (RCons (RArr .u8 32) 32 (RCons (RInt .i64) 1 RNil)) (fun p => (p.1, p.2, ()))
theorem brgRef : Brg RRef 33 (fun p => cRef p.1 p.2) (fun p => ArOk .u8 32 p.1 ∧ (Lit.int .i64 p.2).wf = true) :=
  (Brgs.cons (Brg.arr .u8 32) (Brgs.cons (Brg.int .i64) Brgs.nil)).st _ _ _ 33 (fun x => rfl) (fun x => ⟨fun h => ⟨h.1, h.2, trivial⟩, fun h => ⟨h.1, h.2.1⟩⟩) (fun x => rfl)
theorem got_ref : Got Try.prog 62 RRef := by
  unfold RRef
  exact got_by (got_st Try.underlying62 (by kernel_rfl) (gotF_cons (n := 32) rfl (by kernel_rfl) (got_arr Try.underlying24 Try.underlying5 (by kernel_rfl) (by kernel_rfl)) (gotF_cons (n := 1) rfl (by kernel_rfl) (got_int Try.underlying3) (gotF_nil _)))) (fun p : List Int × Int => (p.1, p.2, ())) (fun p => (p.1, p.2.1)) (fun _ => rfl)
def RChan : Rl Chan := RBy (RCons (RInt .i64) 1 (RCons (RInt .i64) 1 (RCons (RInt .i64) 1 (RCons RRef 33 (RCons (RInt .i64) 1 (RCons (RInt .i64) 1 (RCons (RInt .i64) 1 RNil))))))) (fun c => (c.id, c.client, c.peer, (c.ft, c.fa), c.cap, c.wait, c.window, ()))
theorem brgChan : Brg RChan 39 cChan OkChan :=
  (Brgs.cons (Brg.int .i64) (Brgs.cons (Brg.int .i64) (Brgs.cons (Brg.int .i64) (Brgs.cons brgRef (Brgs.cons (Brg.int .i64) (Brgs.cons (Brg.int .i64) (Brgs.cons (Brg.int .i64) Brgs.nil))))))).st _ cChan OkChan 39 (fun x => rfl) (fun x => ⟨fun h => ⟨h.id, h.client, h.peer, ⟨h.ft, h.fa⟩, h.cap, h.wait, h.window, trivial⟩, fun h => ⟨h.1, h.2.1, h.2.2.1, h.2.2.2.1.1, h.2.2.2.1.2, h.2.2.2.2.1, h.2.2.2.2.2.1, h.2.2.2.2.2.2.1⟩⟩) (fun x => rfl)
set_option maxRecDepth 100000 in
theorem got_chan : Got Try.prog 64 RChan := by
  unfold RChan
  exact got_by (got_st Try.underlying64 (by kernel_rfl) (gotF_cons (n := 1) rfl (by kernel_rfl) (got_int Try.underlying3) (gotF_cons (n := 1) rfl (by kernel_rfl) (got_int Try.underlying3) (gotF_cons (n := 1) rfl (by kernel_rfl) (got_int Try.underlying3) (gotF_cons (n := 33) rfl (by kernel_rfl) got_ref (gotF_cons (n := 1) rfl (by kernel_rfl) (got_int Try.underlying2) (gotF_cons (n := 1) rfl (by kernel_rfl) (got_int Try.underlying3) (gotF_cons (n := 1) rfl (by kernel_rfl) (got_int Try.underlying3) (gotF_nil _))))))))) (fun c : Chan => (c.id, c.client, c.peer, (c.ft, c.fa), c.cap, c.wait, c.window, ())) (fun p => ⟨p.1, p.2.1, p.2.2.1, p.2.2.2.1.1, p.2.2.2.1.2, p.2.2.2.2.1, p.2.2.2.2.2.1, p.2.2.2.2.2.2.1⟩) (fun _ => rfl)
/-- What an argument shows. -/
theorem arg_rep {α : Type} {R : Rl α} {n : Nat} {enc : α → CV} {ok : α → Prop} (h : Brg R n enc ok) {W : World} {v : Value} {x : α} (hr : R W (Old W) v.cells.toList x) (hv : v = mkv (enc x).agg v.cells.toList) : (enc x).repV W (Old W) v ∧ ok x := by
  obtain ⟨h1, h2⟩ := h.fwd _ _ _ _ hr
  exact ⟨⟨_, h1, hv⟩, h2⟩
end Go.Proofs.Ytcghjnegaiiieaa
namespace Go.Proofs.Ytcghjnegaiiieaa.commitFunds
open Go.ChangeShapes Go.WideShapes Go.ChangeAt Go.RowKit
open Go.ChangeMaps (open_string shut_string)
theorem own : ownKnob Try.prog.godebug = none := by kernel_rfl
theorem laidOut : laidOutB Try.prog = true := by kernel_rfl
theorem reads : (Try.f8.params.toList.all fun t => Try.prog.readableRec t && decide (t < Try.prog.types.size)) = true := by kernel_rfl
set_option maxRecDepth 100000 in
theorem walk {H : Type} {enc : TypeId × Value → H} (W : World) (base : Nat) (args : Array Value) (ds : List (DataW H)) (ps : List MemPlace)
    (hval : ∀ (j : Nat) t v, Try.f8.params[j]? = some t → args[j]? = some v → Value.okWide Try.prog W .any base t v)
    (hA : DataW.TrodAll enc Try.prog W 0 (fun _ => true) true Try.f8.params.toList args.toList ds ps)
    (hsz : (DataW.weightsEach Try.prog Try.f8.params.toList ds).all (· ≤ reachBytes) = true) :
    Calls Try.prog 8 args W fun e W' => e = .returned (.bool true) ∧ Below W.heap.size W W' := by
  rw [Try.params8] at hA hval hsz
  obtain ⟨v0, vs0, d0, ds0, p0, q0, hargs, rfl, rfl, h0, r0⟩ := trodAll_cons hA
  obtain ⟨rfl, rfl, rfl⟩ := trodAll_nil r0
  obtain rfl : args = #[v0] := by cases args; simp_all
  obtain ⟨c, hc⟩ := got_arg got_chan h0
  obtain ⟨hr, ok⟩ := arg_rep brgChan hc (agg_arg Try.underlying64 (hval 0 64 v0 rfl rfl))
  exact law_of_ap (commitFunds_ap c ok) W [v0] (by simp only [List.map_cons, List.map_nil, AV.repVs, AV.repV]; exact ⟨v0, [], rfl, hr, rfl⟩)
theorem lifted (os : Os) (started : os.Started) (H : Type) (enc : TypeId × Value → H) :
    ReturnsInHanded {} Try.checked os 8 .any (Rows.commitFundsSpec.pre6 enc Try.prog Try.f8 Rows.commitFundsRow.domain false) (Rows.commitFundsSpec.post enc Try.prog Try.f8 false true false false) :=
  lawLift (C := Try.checked) own started (by kernel_rfl) Try.func8
    (ChangeSpec.witness6 (enc := enc) (C := Try.checked) false ⟨#[], #[.agg #[.int .i64 0, .int .i64 0, .int .i64 0, .int .u8 0, .int .u8 0, .int .u8 0, .int .u8 0, .int .u8 0, .int .u8 0, .int .u8 0, .int .u8 0, .int .u8 0, .int .u8 0, .int .u8 0, .int .u8 0, .int .u8 0, .int .u8 0, .int .u8 0, .int .u8 0, .int .u8 0, .int .u8 0, .int .u8 0, .int .u8 0, .int .u8 0, .int .u8 0, .int .u8 0, .int .u8 0, .int .u8 0, .int .u8 0, .int .u8 0, .int .u8 0, .int .u8 0, .int .u8 0, .int .u8 0, .int .u8 0, .int .i64 0, .int .i64 0, .int .i64 0, .int .i64 0]], []⟩ 64 (by kernel_rfl) (by kernel_rfl) (by kernel_rfl) (by kernel_rfl))
    rfl laidOut reads rfl Try.underlying4 (fun ds h => by match ds, h with | [d0], _ => exact ⟨rfl, rfl, rfl⟩) walk
end Go.Proofs.Ytcghjnegaiiieaa.commitFunds

/- Part 4 of the texts that LawCommitFunds needs, pruned and joined. -/
import Derived.Test.YtcghjnegaiiieaaCF3
set_option linter.unusedSimpArgs false
namespace Go.Proofs.Ytcghjnegaiiieaa
open Go.RowKit
set_option maxRecDepth 100000 in
set_option maxHeartbeats 4000000 in
theorem commitBuild1_ap (c : Chan) (s : CSt) : AP Try.prog 48 [cChan c, cCSt s, ic .i64 1] [cTxx (buildTx c s 1), ic .i64 (buildE c s)] := by
  refine ap_of (fun _ _ => Try.call48 _ _) Try.func48 rfl Try.ntmps48 (by simp) (zs := [RZ.mk 6 (some (40, true)), RZ.mk 7 none]) (by kernel_rfl) (fun w F => ?_)
  simp only [List.map_cons, List.map_nil, argT, Nat.reduceAdd]
  refine at_seq fun K1 hK1 => ?_
  refine at_region [It.mk (some 3) none (IK.box (Operand.tmp 0)), It.mk (some 4) none (IK.box (Operand.tmp 1)), It.mk (some 6) none (IK.alloc (CV.st [CV.pv (Value.slice none 0 0), CV.pv (Value.slice none 0 0), CV.st [CV.pv (Value.int IntKind.i64 0), CV.pv (Value.int IntKind.i64 0), CV.pv (Value.int IntKind.i64 0), CV.pv (Value.int IntKind.i64 0), CV.ar IntKind.u8 32 (List.replicate 32 0), CV.pv (Value.slice none 0 0)], CV.pv (Value.slice none 0 0)])), It.mk (some 7) none (IK.p (PK.mov (Operand.const (Value.int IntKind.i64 0))))] (by kernel_rfl) ?_
  simp (maxSteps := 999999) (disch := omega) only [av1, av2, av3, eq_self, exists_const, forall_const, implies_true, storeOk, AS.gd, PK.more, PK.cond, PK.val, AV.get, CV.get, AV.ok, CV.ok, AV.off, CV.off, AV.set, CV.set, AV.fits, CV.fits, AV.size, AV.agg, CV.agg, AV.solid, AV.int?, AV.bool?, binOk, AV.els, CV.isByte, Sh.agg, Sh.fits, Sh.fitsL, Sh.fitsR, CV.eqv, CV.eqvs, AV.closed, rsAV, thenQ, AObj.lt, CV.numOf, Nat.reduceAdd, Nat.reduceLT, Nat.reduceMul, reduceCtorEq, ↓reduceIte, Nat.reduceEqDiff, Nat.reduceLeDiff, Nat.reduceSub, Nat.reduceBEq, Nat.reduceBNe, Int.reduceLT, Int.reduceEq, Int.reduceAdd, Int.reduceToNat, Int.reduceLE, Int.reduceBEq, Int.reduceBNe, enc1, cChan, cCSt, eqTy_Sum, toOut]
  (repeat ((with_reducible refine And.intro ?_ ?_); (first | trivial | assumption | omega | (simp; done))))
  refine hK1 _ ?_
  (try clear hK1)
  refine at_seq fun K2 hK2 => ?_
  refine at_seq fun K3 hK3 => ?_
  refine at_region [It.mk (some 13) none (IK.p (PK.load (Operand.tmp 3) 39 true)), It.mk (some 14) none (IK.p (PK.load (Operand.tmp 4) 67 true)), It.mk (some 15) none (IK.call 52 [Operand.tmp 13, Operand.tmp 14]), It.mk (some 16) none (IK.p (PK.not (Operand.tmp 15))), It.mk (some 17) none (IK.p (PK.mov (Operand.tmp 16))), It.mk (some 18) (some (17, false)) (IK.p (PK.mov (Operand.tmp 2))), It.mk (some 19) (some (17, false)) (IK.p (PK.bin BinOp.neq (Operand.tmp 18) (Operand.const (Value.int IntKind.i64 0)))), It.mk (some 20) (some (17, false)) (IK.p (PK.mov (Operand.tmp 19))), It.mk (some 21) (some (20, true)) (IK.p (PK.mov (Operand.tmp 2))), It.mk (some 22) (some (20, true)) (IK.p (PK.bin BinOp.neq (Operand.tmp 21) (Operand.const (Value.int IntKind.i64 1)))), It.mk (some 23) (some (17, false)) (IK.p (PK.pick (Operand.tmp 20) (Operand.tmp 22) (Operand.const (Value.bool false)))), It.mk (some 24) none (IK.p (PK.pick (Operand.tmp 17) (Operand.const (Value.bool true)) (Operand.tmp 23)))] (by kernel_rfl) ?_
  refine apl_cut [It.mk (some 13) none (IK.p (PK.load (Operand.tmp 3) 39 true)), It.mk (some 14) none (IK.p (PK.load (Operand.tmp 4) 67 true))] [It.mk (some 15) none (IK.call 52 [Operand.tmp 13, Operand.tmp 14]), It.mk (some 16) none (IK.p (PK.not (Operand.tmp 15))), It.mk (some 17) none (IK.p (PK.mov (Operand.tmp 16))), It.mk (some 18) (some (17, false)) (IK.p (PK.mov (Operand.tmp 2))), It.mk (some 19) (some (17, false)) (IK.p (PK.bin BinOp.neq (Operand.tmp 18) (Operand.const (Value.int IntKind.i64 0)))), It.mk (some 20) (some (17, false)) (IK.p (PK.mov (Operand.tmp 19))), It.mk (some 21) (some (20, true)) (IK.p (PK.mov (Operand.tmp 2))), It.mk (some 22) (some (20, true)) (IK.p (PK.bin BinOp.neq (Operand.tmp 21) (Operand.const (Value.int IntKind.i64 1)))), It.mk (some 23) (some (17, false)) (IK.p (PK.pick (Operand.tmp 20) (Operand.tmp 22) (Operand.const (Value.bool false)))), It.mk (some 24) none (IK.p (PK.pick (Operand.tmp 17) (Operand.const (Value.bool true)) (Operand.tmp 23)))] (fun K4 hK4 => ?_)
  simp (maxSteps := 999999) (disch := omega) only [av1, av2, av3, eq_self, exists_const, forall_const, implies_true, storeOk, AS.gd, PK.more, PK.cond, PK.val, AV.get, CV.get, AV.ok, CV.ok, AV.off, CV.off, AV.set, CV.set, AV.fits, CV.fits, AV.size, AV.agg, CV.agg, AV.solid, AV.int?, AV.bool?, binOk, AV.els, CV.isByte, Sh.agg, Sh.fits, Sh.fitsL, Sh.fitsR, CV.eqv, CV.eqvs, AV.closed, rsAV, thenQ, AObj.lt, CV.numOf, Nat.reduceAdd, Nat.reduceLT, Nat.reduceMul, reduceCtorEq, ↓reduceIte, Nat.reduceEqDiff, Nat.reduceLeDiff, Nat.reduceSub, Nat.reduceBEq, Nat.reduceBNe, Int.reduceLT, Int.reduceEq, Int.reduceAdd, Int.reduceToNat, Int.reduceLE, Int.reduceBEq, Int.reduceBNe, enc1, cChan, cCSt, eqTy_Sum, toOut]
  (repeat ((with_reducible refine And.intro ?_ ?_); (first | trivial | assumption | omega | (simp; done))))
  refine hK4 _ ?_
  (try clear hK4)
  refine apl_cut [It.mk (some 15) none (IK.call 52 [Operand.tmp 13, Operand.tmp 14])] [It.mk (some 16) none (IK.p (PK.not (Operand.tmp 15))), It.mk (some 17) none (IK.p (PK.mov (Operand.tmp 16))), It.mk (some 18) (some (17, false)) (IK.p (PK.mov (Operand.tmp 2))), It.mk (some 19) (some (17, false)) (IK.p (PK.bin BinOp.neq (Operand.tmp 18) (Operand.const (Value.int IntKind.i64 0)))), It.mk (some 20) (some (17, false)) (IK.p (PK.mov (Operand.tmp 19))), It.mk (some 21) (some (20, true)) (IK.p (PK.mov (Operand.tmp 2))), It.mk (some 22) (some (20, true)) (IK.p (PK.bin BinOp.neq (Operand.tmp 21) (Operand.const (Value.int IntKind.i64 1)))), It.mk (some 23) (some (17, false)) (IK.p (PK.pick (Operand.tmp 20) (Operand.tmp 22) (Operand.const (Value.bool false)))), It.mk (some 24) none (IK.p (PK.pick (Operand.tmp 17) (Operand.const (Value.bool true)) (Operand.tmp 23)))] (fun K5 hK5 => ?_)
  simp (maxSteps := 999999) (disch := omega) only [av1, av2, av3, eq_self, exists_const, forall_const, implies_true, storeOk, AS.gd, PK.more, PK.cond, PK.val, AV.get, CV.get, AV.ok, CV.ok, AV.off, CV.off, AV.set, CV.set, AV.fits, CV.fits, AV.size, AV.agg, CV.agg, AV.solid, AV.int?, AV.bool?, binOk, AV.els, CV.isByte, Sh.agg, Sh.fits, Sh.fitsL, Sh.fitsR, CV.eqv, CV.eqvs, AV.closed, rsAV, thenQ, AObj.lt, CV.numOf, Nat.reduceAdd, Nat.reduceLT, Nat.reduceMul, reduceCtorEq, ↓reduceIte, Nat.reduceEqDiff, Nat.reduceLeDiff, Nat.reduceSub, Nat.reduceBEq, Nat.reduceBNe, Int.reduceLT, Int.reduceEq, Int.reduceAdd, Int.reduceToNat, Int.reduceLE, Int.reduceBEq, Int.reduceBNe, enc1, cChan, cCSt, eqTy_Sum, toOut]
  apply Exists.intro
  apply And.intro
  · first | exact (commitRight_ap c s) | exact (fun _ => (commitRight_ap c s)) | exact (fun h => ⟨h, (commitRight_ap c s)⟩) | exact (fun h => ⟨by simp_all, (commitRight_ap c s)⟩)
  (try simp only [rsAV, List.map_cons, List.map_nil, thenQ])
  refine hK5 _ ?_
  (try clear hK5)
  simp (maxSteps := 999999) (disch := omega) only [av1, av2, av3, eq_self, exists_const, forall_const, implies_true, storeOk, AS.gd, PK.more, PK.cond, PK.val, AV.get, CV.get, AV.ok, CV.ok, AV.off, CV.off, AV.set, CV.set, AV.fits, CV.fits, AV.size, AV.agg, CV.agg, AV.solid, AV.int?, AV.bool?, binOk, AV.els, CV.isByte, Sh.agg, Sh.fits, Sh.fitsL, Sh.fitsR, CV.eqv, CV.eqvs, AV.closed, rsAV, thenQ, AObj.lt, CV.numOf, Nat.reduceAdd, Nat.reduceLT, Nat.reduceMul, reduceCtorEq, ↓reduceIte, Nat.reduceEqDiff, Nat.reduceLeDiff, Nat.reduceSub, Nat.reduceBEq, Nat.reduceBNe, Int.reduceLT, Int.reduceEq, Int.reduceAdd, Int.reduceToNat, Int.reduceLE, Int.reduceBEq, Int.reduceBNe, enc1, cChan, cCSt, eqTy_Sum, toOut]
  (repeat ((with_reducible refine And.intro ?_ ?_); (first | trivial | assumption | omega | (simp; done))))
  refine hK3 _ ?_
  (try clear hK3)
  refine at_cond _ rfl rfl (fun h6 => ?_) (fun h6 => ?_)
  · have r6 := h6
    (try simp only [decide_eq_true_eq, decide_eq_false_iff_not, Bool.and_eq_true, Bool.or_eq_true, Bool.and_eq_false_iff, Bool.or_eq_false_iff, Bool.not_eq_true', Bool.not_eq_false', Bool.not_true, Bool.not_false, Int.not_lt, Int.not_le, Nat.not_lt, Nat.not_le, int_ofNat_lt, int_ofNat_le, beq_iff_eq, bne_iff_ne, ne_eq, gt_iff_lt, ge_iff_le, Bool.not_eq_true, beq_eq_false_iff_ne, bne_eq_false_iff_eq] at h6)
    refine at_seq fun K7 hK7 => ?_
    refine at_region [It.mk (some 25) none (IK.p (PK.bld (CV.st [CV.pv (Value.slice none 0 0), CV.pv (Value.slice none 0 0), CV.st [CV.pv (Value.int IntKind.i64 0), CV.pv (Value.int IntKind.i64 0), CV.pv (Value.int IntKind.i64 0), CV.pv (Value.int IntKind.i64 0), CV.ar IntKind.u8 32 (List.replicate 32 0), CV.pv (Value.slice none 0 0)], CV.pv (Value.slice none 0 0)]) [(0, 1), (1, 1), (2, 37), (39, 1)] [])), It.mk none none (IK.store (Operand.tmp 6) (Operand.tmp 25) 40), It.mk (some 7) none (IK.p (PK.mov (Operand.const (Value.int IntKind.i64 1))))] (by kernel_rfl) ?_
    simp (maxSteps := 999999) (disch := omega) only [av1, av2, av3, eq_self, exists_const, forall_const, implies_true, storeOk, AS.gd, PK.more, PK.cond, PK.val, AV.get, CV.get, AV.ok, CV.ok, AV.off, CV.off, AV.set, CV.set, AV.fits, CV.fits, AV.size, AV.agg, CV.agg, AV.solid, AV.int?, AV.bool?, binOk, AV.els, CV.isByte, Sh.agg, Sh.fits, Sh.fitsL, Sh.fitsR, CV.eqv, CV.eqvs, AV.closed, rsAV, thenQ, AObj.lt, CV.numOf, Nat.reduceAdd, Nat.reduceLT, Nat.reduceMul, reduceCtorEq, ↓reduceIte, Nat.reduceEqDiff, Nat.reduceLeDiff, Nat.reduceSub, Nat.reduceBEq, Nat.reduceBNe, Int.reduceLT, Int.reduceEq, Int.reduceAdd, Int.reduceToNat, Int.reduceLE, Int.reduceBEq, Int.reduceBNe, enc1, cChan, cCSt, eqTy_Sum, toOut]
    (repeat ((with_reducible refine And.intro ?_ ?_); (first | trivial | assumption | omega | (simp; done))))
    refine hK7 _ ?_
    (try clear hK7)
    refine at_ret ?_
    simp (maxSteps := 999999) (disch := omega) only [av1, av2, av3, eq_self, exists_const, forall_const, implies_true, storeOk, AS.gd, PK.more, PK.cond, PK.val, AV.get, CV.get, AV.ok, CV.ok, AV.off, CV.off, AV.set, CV.set, AV.fits, CV.fits, AV.size, AV.agg, CV.agg, AV.solid, AV.int?, AV.bool?, binOk, AV.els, CV.isByte, Sh.agg, Sh.fits, Sh.fitsL, Sh.fitsR, CV.eqv, CV.eqvs, AV.closed, rsAV, thenQ, AObj.lt, CV.numOf, Nat.reduceAdd, Nat.reduceLT, Nat.reduceMul, reduceCtorEq, ↓reduceIte, Nat.reduceEqDiff, Nat.reduceLeDiff, Nat.reduceSub, Nat.reduceBEq, Nat.reduceBNe, Int.reduceLT, Int.reduceEq, Int.reduceAdd, Int.reduceToNat, Int.reduceLE, Int.reduceBEq, Int.reduceBNe, enc1, cChan, cCSt, eqTy_Sum, toOut, blockQ, retQ, RetOk, ResOk, AV.fin, AV.fins, CV.le, CV.les]
    first
      | (obtain ⟨e1, e2⟩ := build_bad (o := 1) h6; simp [e1, e2, zTxx, zOpx] <;> rfl)
      | (obtain ⟨e1, e2⟩ := build_ok (o := 1) h6; simp [e1, e2, comOf, comTx, zOpx, cInp, cOut, cWay, cRef, cSum, ints, ic, toOut, CV.les, CV.le] <;> rfl)
  · have r6 := h6
    (try simp only [decide_eq_true_eq, decide_eq_false_iff_not, Bool.and_eq_true, Bool.or_eq_true, Bool.and_eq_false_iff, Bool.or_eq_false_iff, Bool.not_eq_true', Bool.not_eq_false', Bool.not_true, Bool.not_false, Int.not_lt, Int.not_le, Nat.not_lt, Nat.not_le, int_ofNat_lt, int_ofNat_le, beq_iff_eq, bne_iff_ne, ne_eq, gt_iff_lt, ge_iff_le, Bool.not_eq_true, beq_eq_false_iff_ne, bne_eq_false_iff_eq] at h6)
    refine at_skip ?_
    (try simp only [thenQ, blockQ])
    refine hK2 _ ?_
    (try clear hK2)
    refine at_seq fun K8 hK8 => ?_
    refine at_draws [] (by kernel_rfl) ?_
    refine ag_pures (fuel := 0) [0, 1, 2, 3, 4, 5, 6, 7, 8, 9, 10, 11] [It.mk (some 26) none (IK.p (PK.fAddr (Operand.tmp 3) 1 1)), It.mk (some 27) none (IK.p (PK.load (Operand.tmp 26) 1 false)), It.mk (some 28) none (IK.p (PK.fAddr (Operand.tmp 3) 2 2)), It.mk (some 29) none (IK.p (PK.load (Operand.tmp 28) 1 false)), It.mk (some 30) none (IK.p (PK.fAddr (Operand.tmp 4) 1 1)), It.mk (some 31) none (IK.p (PK.load (Operand.tmp 30) 1 false)), It.mk (some 32) none (IK.p (PK.fAddr (Operand.tmp 4) 2 2)), It.mk (some 33) none (IK.p (PK.load (Operand.tmp 32) 1 false)), It.mk (some 8) none (IK.p (PK.mov (Operand.tmp 27))), It.mk (some 9) none (IK.p (PK.mov (Operand.tmp 29))), It.mk (some 10) none (IK.p (PK.mov (Operand.tmp 31))), It.mk (some 11) none (IK.p (PK.mov (Operand.tmp 33)))] (by kernel_rfl) (by kernel_rfl) (by kernel_rfl) (by kernel_rfl) (hideZ_nil _ 0) (fun K9 hK9 => ?_)
    simp (maxSteps := 999999) (disch := omega) only [av1, av2, av3, eq_self, exists_const, forall_const, implies_true, storeOk, AS.gd, PK.more, PK.cond, PK.val, AV.get, CV.get, AV.ok, CV.ok, AV.off, CV.off, AV.set, CV.set, AV.fits, CV.fits, AV.size, AV.agg, CV.agg, AV.solid, AV.int?, AV.bool?, binOk, AV.els, CV.isByte, Sh.agg, Sh.fits, Sh.fitsL, Sh.fitsR, CV.eqv, CV.eqvs, AV.closed, rsAV, thenQ, AObj.lt, CV.numOf, Nat.reduceAdd, Nat.reduceLT, Nat.reduceMul, reduceCtorEq, ↓reduceIte, Nat.reduceEqDiff, Nat.reduceLeDiff, Nat.reduceSub, Nat.reduceBEq, Nat.reduceBNe, Int.reduceLT, Int.reduceEq, Int.reduceAdd, Int.reduceToNat, Int.reduceLE, Int.reduceBEq, Int.reduceBNe, enc1, cChan, cCSt, eqTy_Sum, toOut]
    (repeat ((with_reducible refine And.intro ?_ ?_); (first | trivial | assumption | omega | (simp; done))))
    refine hK9 _ ?_
    (try clear hK9)
    refine ag_done (by kernel_rfl) ?_
    (try simp only [thenQ])
    refine hK8 _ ?_
    (try clear hK8)
    refine at_seq fun K10 hK10 => ?_
    refine at_seq fun K11 hK11 => ?_
    refine at_region [It.mk (some 34) none (IK.p (PK.mov (Operand.tmp 2))), It.mk (some 35) none (IK.p (PK.bin BinOp.eql (Operand.tmp 34) (Operand.const (Value.int IntKind.i64 1))))] (by kernel_rfl) ?_
    simp (maxSteps := 999999) (disch := omega) only [av1, av2, av3, eq_self, exists_const, forall_const, implies_true, storeOk, AS.gd, PK.more, PK.cond, PK.val, AV.get, CV.get, AV.ok, CV.ok, AV.off, CV.off, AV.set, CV.set, AV.fits, CV.fits, AV.size, AV.agg, CV.agg, AV.solid, AV.int?, AV.bool?, binOk, AV.els, CV.isByte, Sh.agg, Sh.fits, Sh.fitsL, Sh.fitsR, CV.eqv, CV.eqvs, AV.closed, rsAV, thenQ, AObj.lt, CV.numOf, Nat.reduceAdd, Nat.reduceLT, Nat.reduceMul, reduceCtorEq, ↓reduceIte, Nat.reduceEqDiff, Nat.reduceLeDiff, Nat.reduceSub, Nat.reduceBEq, Nat.reduceBNe, Int.reduceLT, Int.reduceEq, Int.reduceAdd, Int.reduceToNat, Int.reduceLE, Int.reduceBEq, Int.reduceBNe, enc1, cChan, cCSt, eqTy_Sum, toOut]
    (repeat ((with_reducible refine And.intro ?_ ?_); (first | trivial | assumption | omega | (simp; done))))
    refine hK11 _ ?_
    (try clear hK11)
    refine at_cond _ rfl rfl (fun h12 => ?_) (fun h12 => ?_)
    · have r12 := h12
      (try simp only [decide_eq_true_eq, decide_eq_false_iff_not, Bool.and_eq_true, Bool.or_eq_true, Bool.and_eq_false_iff, Bool.or_eq_false_iff, Bool.not_eq_true', Bool.not_eq_false', Bool.not_true, Bool.not_false, Int.not_lt, Int.not_le, Nat.not_lt, Nat.not_le, int_ofNat_lt, int_ofNat_le, beq_iff_eq, bne_iff_ne, ne_eq, gt_iff_lt, ge_iff_le, Bool.not_eq_true, beq_eq_false_iff_ne, bne_eq_false_iff_eq] at h12)
      refine at_draws [] (by kernel_rfl) ?_
      refine ag_pures (fuel := 0) [0, 1, 2, 3, 4, 5, 6, 7, 8, 9, 10, 11] [It.mk (some 36) none (IK.p (PK.fAddr (Operand.tmp 3) 2 2)), It.mk (some 37) none (IK.p (PK.load (Operand.tmp 36) 1 false)), It.mk (some 38) none (IK.p (PK.fAddr (Operand.tmp 3) 1 1)), It.mk (some 39) none (IK.p (PK.load (Operand.tmp 38) 1 false)), It.mk (some 40) none (IK.p (PK.fAddr (Operand.tmp 4) 2 2)), It.mk (some 41) none (IK.p (PK.load (Operand.tmp 40) 1 false)), It.mk (some 42) none (IK.p (PK.fAddr (Operand.tmp 4) 1 1)), It.mk (some 43) none (IK.p (PK.load (Operand.tmp 42) 1 false)), It.mk (some 8) none (IK.p (PK.mov (Operand.tmp 37))), It.mk (some 9) none (IK.p (PK.mov (Operand.tmp 39))), It.mk (some 10) none (IK.p (PK.mov (Operand.tmp 41))), It.mk (some 11) none (IK.p (PK.mov (Operand.tmp 43)))] (by kernel_rfl) (by kernel_rfl) (by kernel_rfl) (by kernel_rfl) (hideZ_nil _ 0) (fun K13 hK13 => ?_)
      simp (maxSteps := 999999) (disch := omega) only [av1, av2, av3, eq_self, exists_const, forall_const, implies_true, storeOk, AS.gd, PK.more, PK.cond, PK.val, AV.get, CV.get, AV.ok, CV.ok, AV.off, CV.off, AV.set, CV.set, AV.fits, CV.fits, AV.size, AV.agg, CV.agg, AV.solid, AV.int?, AV.bool?, binOk, AV.els, CV.isByte, Sh.agg, Sh.fits, Sh.fitsL, Sh.fitsR, CV.eqv, CV.eqvs, AV.closed, rsAV, thenQ, AObj.lt, CV.numOf, Nat.reduceAdd, Nat.reduceLT, Nat.reduceMul, reduceCtorEq, ↓reduceIte, Nat.reduceEqDiff, Nat.reduceLeDiff, Nat.reduceSub, Nat.reduceBEq, Nat.reduceBNe, Int.reduceLT, Int.reduceEq, Int.reduceAdd, Int.reduceToNat, Int.reduceLE, Int.reduceBEq, Int.reduceBNe, enc1, cChan, cCSt, eqTy_Sum, toOut]
      (repeat ((with_reducible refine And.intro ?_ ?_); (first | trivial | assumption | omega | (simp; done))))
      refine hK13 _ ?_
      (try clear hK13)
      refine ag_done (by kernel_rfl) ?_
      (try simp only [thenQ])
      refine hK10 _ ?_
      (try clear hK10)
      refine at_seq fun K14 hK14 => ?_
      refine at_draws [] (by kernel_rfl) ?_
      refine ag_pures (fuel := 8) [0, 1, 3, 4, 6, 8, 9, 10, 11] [It.mk (some 44) none (IK.p (PK.mov (Operand.tmp 10))), It.mk (some 45) none (IK.p (PK.mov (Operand.tmp 8))), It.mk (some 47) none (IK.p (PK.fAddr (Operand.tmp 3) 5 37)), It.mk (some 48) none (IK.p (PK.load (Operand.tmp 47) 1 false)), It.mk (some 50) none (IK.p (PK.mov (Operand.tmp 9))), It.mk (some 52) none (IK.p (PK.mov (Operand.tmp 2))), It.mk (some 53) none (IK.p (PK.fAddr (Operand.tmp 4) 3 3)), It.mk (some 54) none (IK.p (PK.iAddrA (Operand.tmp 53) (Operand.tmp 52) 2 32)), It.mk (some 55) none (IK.p (PK.load (Operand.tmp 54) 32 true))] (by kernel_rfl) (by kernel_rfl) (by kernel_rfl) (by kernel_rfl) (hideZ_nil _ 0) (fun K15 hK15 => ?_)
      simp (maxSteps := 999999) (disch := omega) only [av1, av2, av3, eq_self, exists_const, forall_const, implies_true, storeOk, AS.gd, PK.more, PK.cond, PK.val, AV.get, CV.get, AV.ok, CV.ok, AV.off, CV.off, AV.set, CV.set, AV.fits, CV.fits, AV.size, AV.agg, CV.agg, AV.solid, AV.int?, AV.bool?, binOk, AV.els, CV.isByte, Sh.agg, Sh.fits, Sh.fitsL, Sh.fitsR, CV.eqv, CV.eqvs, AV.closed, rsAV, thenQ, AObj.lt, CV.numOf, Nat.reduceAdd, Nat.reduceLT, Nat.reduceMul, reduceCtorEq, ↓reduceIte, Nat.reduceEqDiff, Nat.reduceLeDiff, Nat.reduceSub, Nat.reduceBEq, Nat.reduceBNe, Int.reduceLT, Int.reduceEq, Int.reduceAdd, Int.reduceToNat, Int.reduceLE, Int.reduceBEq, Int.reduceBNe, enc1, cChan, cCSt, eqTy_Sum, toOut]
      (repeat ((with_reducible refine And.intro ?_ ?_); (first | trivial | assumption | omega | (simp; done))))
      refine hK15 _ ?_
      (try clear hK15)
      refine ag_three (i := 2) (j := 7) (k := 15) (by kernel_rfl) ?_ ?_ ?_
      · refine agi (it := It.mk (some 46) none (IK.lit 1 [Operand.tmp 45])) (R' := [11, 10, 9, 8, 6, 4, 3, 0]) (by kernel_rfl) (.inl rfl) (by kernel_rfl) (fun K16 hK16 => ?_)
        simp (maxSteps := 999999) (disch := omega) only [av1, av2, av3, eq_self, exists_const, forall_const, implies_true, storeOk, AS.gd, PK.more, PK.cond, PK.val, AV.get, CV.get, AV.ok, CV.ok, AV.off, CV.off, AV.set, CV.set, AV.fits, CV.fits, AV.size, AV.agg, CV.agg, AV.solid, AV.int?, AV.bool?, binOk, AV.els, CV.isByte, Sh.agg, Sh.fits, Sh.fitsL, Sh.fitsR, CV.eqv, CV.eqvs, AV.closed, rsAV, thenQ, AObj.lt, CV.numOf, Nat.reduceAdd, Nat.reduceLT, Nat.reduceMul, reduceCtorEq, ↓reduceIte, Nat.reduceEqDiff, Nat.reduceLeDiff, Nat.reduceSub, Nat.reduceBEq, Nat.reduceBNe, Int.reduceLT, Int.reduceEq, Int.reduceAdd, Int.reduceToNat, Int.reduceLE, Int.reduceBEq, Int.reduceBNe, enc1, cChan, cCSt, eqTy_Sum, toOut]
        (repeat ((with_reducible refine And.intro ?_ ?_); (first | trivial | assumption | omega | (simp; done))))
        refine hK16 _ ?_
        (try clear hK16)
        refine ag_pures (fuel := 6) [5] [It.mk (some 49) none (IK.p (PK.bld (CV.st [CV.pv (Value.slice none 0 0), CV.ar IntKind.u8 32 (List.replicate 32 0), CV.pv (Value.int IntKind.i64 0), CV.pv (Value.int IntKind.i64 0)]) [(0, 1), (1, 32), (33, 1), (34, 1)] [(0, Operand.tmp 46), (3, Operand.tmp 48)]))] (by kernel_rfl) (by kernel_rfl) (by kernel_rfl) (by kernel_rfl) (hideZ_nil _ 0) (fun K17 hK17 => ?_)
        simp (maxSteps := 999999) (disch := omega) only [av1, av2, av3, eq_self, exists_const, forall_const, implies_true, storeOk, AS.gd, PK.more, PK.cond, PK.val, AV.get, CV.get, AV.ok, CV.ok, AV.off, CV.off, AV.set, CV.set, AV.fits, CV.fits, AV.size, AV.agg, CV.agg, AV.solid, AV.int?, AV.bool?, binOk, AV.els, CV.isByte, Sh.agg, Sh.fits, Sh.fitsL, Sh.fitsR, CV.eqv, CV.eqvs, AV.closed, rsAV, thenQ, AObj.lt, CV.numOf, Nat.reduceAdd, Nat.reduceLT, Nat.reduceMul, reduceCtorEq, ↓reduceIte, Nat.reduceEqDiff, Nat.reduceLeDiff, Nat.reduceSub, Nat.reduceBEq, Nat.reduceBNe, Int.reduceLT, Int.reduceEq, Int.reduceAdd, Int.reduceToNat, Int.reduceLE, Int.reduceBEq, Int.reduceBNe, enc1, cChan, cCSt, eqTy_Sum, toOut]
        (repeat ((with_reducible refine And.intro ?_ ?_); (first | trivial | assumption | omega | (simp; done))))
        refine hK17 _ ?_
        (try clear hK17)
        refine ag_two (i := 7) (j := 15) (by kernel_rfl) ?_ ?_
        · refine agi (it := It.mk (some 51) none (IK.lit 1 [Operand.tmp 50])) (R' := [5, 11, 10, 9, 8, 4, 3, 0]) (by kernel_rfl) (.inl rfl) (by kernel_rfl) (fun K18 hK18 => ?_)
          simp (maxSteps := 999999) (disch := omega) only [av1, av2, av3, eq_self, exists_const, forall_const, implies_true, storeOk, AS.gd, PK.more, PK.cond, PK.val, AV.get, CV.get, AV.ok, CV.ok, AV.off, CV.off, AV.set, CV.set, AV.fits, CV.fits, AV.size, AV.agg, CV.agg, AV.solid, AV.int?, AV.bool?, binOk, AV.els, CV.isByte, Sh.agg, Sh.fits, Sh.fitsL, Sh.fitsR, CV.eqv, CV.eqvs, AV.closed, rsAV, thenQ, AObj.lt, CV.numOf, Nat.reduceAdd, Nat.reduceLT, Nat.reduceMul, reduceCtorEq, ↓reduceIte, Nat.reduceEqDiff, Nat.reduceLeDiff, Nat.reduceSub, Nat.reduceBEq, Nat.reduceBNe, Int.reduceLT, Int.reduceEq, Int.reduceAdd, Int.reduceToNat, Int.reduceLE, Int.reduceBEq, Int.reduceBNe, enc1, cChan, cCSt, eqTy_Sum, toOut]
          (repeat ((with_reducible refine And.intro ?_ ?_); (first | trivial | assumption | omega | (simp; done))))
          refine hK18 _ ?_
          (try clear hK18)
          refine ag_pures (fuel := 4) [12] [It.mk (some 56) none (IK.p (PK.bld (CV.st [CV.pv (Value.slice none 0 0), CV.ar IntKind.u8 32 (List.replicate 32 0), CV.pv (Value.int IntKind.i64 0), CV.pv (Value.int IntKind.i64 0)]) [(0, 1), (1, 32), (33, 1), (34, 1)] [(0, Operand.tmp 51), (1, Operand.tmp 55)]))] (by kernel_rfl) (by kernel_rfl) (by kernel_rfl) (by kernel_rfl) (hideZ_nil _ 0) (fun K19 hK19 => ?_)
          simp (maxSteps := 999999) (disch := omega) only [av1, av2, av3, eq_self, exists_const, forall_const, implies_true, storeOk, AS.gd, PK.more, PK.cond, PK.val, AV.get, CV.get, AV.ok, CV.ok, AV.off, CV.off, AV.set, CV.set, AV.fits, CV.fits, AV.size, AV.agg, CV.agg, AV.solid, AV.int?, AV.bool?, binOk, AV.els, CV.isByte, Sh.agg, Sh.fits, Sh.fitsL, Sh.fitsR, CV.eqv, CV.eqvs, AV.closed, rsAV, thenQ, AObj.lt, CV.numOf, Nat.reduceAdd, Nat.reduceLT, Nat.reduceMul, reduceCtorEq, ↓reduceIte, Nat.reduceEqDiff, Nat.reduceLeDiff, Nat.reduceSub, Nat.reduceBEq, Nat.reduceBNe, Int.reduceLT, Int.reduceEq, Int.reduceAdd, Int.reduceToNat, Int.reduceLE, Int.reduceBEq, Int.reduceBNe, enc1, cChan, cCSt, eqTy_Sum, toOut]
          (repeat ((with_reducible refine And.intro ?_ ?_); (first | trivial | assumption | omega | (simp; done))))
          refine hK19 _ ?_
          (try clear hK19)
          refine ag_two (i := 13) (j := 15) (by kernel_rfl) ?_ ?_
          · refine agi (it := It.mk (some 57) none (IK.lit 35 [Operand.tmp 49, Operand.tmp 56])) (R' := [0]) (by kernel_rfl) (.inl rfl) (by kernel_rfl) (fun K20 hK20 => ?_)
            simp (maxSteps := 999999) (disch := omega) only [av1, av2, av3, eq_self, exists_const, forall_const, implies_true, storeOk, AS.gd, PK.more, PK.cond, PK.val, AV.get, CV.get, AV.ok, CV.ok, AV.off, CV.off, AV.set, CV.set, AV.fits, CV.fits, AV.size, AV.agg, CV.agg, AV.solid, AV.int?, AV.bool?, binOk, AV.els, CV.isByte, Sh.agg, Sh.fits, Sh.fitsL, Sh.fitsR, CV.eqv, CV.eqvs, AV.closed, rsAV, thenQ, AObj.lt, CV.numOf, Nat.reduceAdd, Nat.reduceLT, Nat.reduceMul, reduceCtorEq, ↓reduceIte, Nat.reduceEqDiff, Nat.reduceLeDiff, Nat.reduceSub, Nat.reduceBEq, Nat.reduceBNe, Int.reduceLT, Int.reduceEq, Int.reduceAdd, Int.reduceToNat, Int.reduceLE, Int.reduceBEq, Int.reduceBNe, enc1, cChan, cCSt, eqTy_Sum, toOut]
            (repeat ((with_reducible refine And.intro ?_ ?_); (first | trivial | assumption | omega | (simp; done))))
            refine hK20 _ ?_
            (try clear hK20)
            refine ag_pures (fuel := 2) [14] [It.mk (some 58) none (IK.p (PK.bld (CV.st [CV.pv (Value.int IntKind.i64 0), CV.pv (Value.slice none 0 0)]) [(0, 1), (1, 1)] [(0, Operand.tmp 44), (1, Operand.tmp 57)]))] (by kernel_rfl) (by kernel_rfl) (by kernel_rfl) (by kernel_rfl) (hideZ_nil _ 0) (fun K21 hK21 => ?_)
            simp (maxSteps := 999999) (disch := omega) only [av1, av2, av3, eq_self, exists_const, forall_const, implies_true, storeOk, AS.gd, PK.more, PK.cond, PK.val, AV.get, CV.get, AV.ok, CV.ok, AV.off, CV.off, AV.set, CV.set, AV.fits, CV.fits, AV.size, AV.agg, CV.agg, AV.solid, AV.int?, AV.bool?, binOk, AV.els, CV.isByte, Sh.agg, Sh.fits, Sh.fitsL, Sh.fitsR, CV.eqv, CV.eqvs, AV.closed, rsAV, thenQ, AObj.lt, CV.numOf, Nat.reduceAdd, Nat.reduceLT, Nat.reduceMul, reduceCtorEq, ↓reduceIte, Nat.reduceEqDiff, Nat.reduceLeDiff, Nat.reduceSub, Nat.reduceBEq, Nat.reduceBNe, Int.reduceLT, Int.reduceEq, Int.reduceAdd, Int.reduceToNat, Int.reduceLE, Int.reduceBEq, Int.reduceBNe, enc1, cChan, cCSt, eqTy_Sum, toOut]
            (repeat ((with_reducible refine And.intro ?_ ?_); (first | trivial | assumption | omega | (simp; done))))
            refine hK21 _ ?_
            (try clear hK21)
            refine ag_one (i := 15) (by kernel_rfl) ?_
            refine agi (it := It.mk (some 12) none (IK.alloc (CV.st [CV.pv (Value.int IntKind.i64 0), CV.pv (Value.slice none 0 0)]))) (R' := [14, 0]) (by kernel_rfl) (.inl rfl) (by kernel_rfl) (fun K22 hK22 => ?_)
            simp (maxSteps := 999999) (disch := omega) only [av1, av2, av3, eq_self, exists_const, forall_const, implies_true, storeOk, AS.gd, PK.more, PK.cond, PK.val, AV.get, CV.get, AV.ok, CV.ok, AV.off, CV.off, AV.set, CV.set, AV.fits, CV.fits, AV.size, AV.agg, CV.agg, AV.solid, AV.int?, AV.bool?, binOk, AV.els, CV.isByte, Sh.agg, Sh.fits, Sh.fitsL, Sh.fitsR, CV.eqv, CV.eqvs, AV.closed, rsAV, thenQ, AObj.lt, CV.numOf, Nat.reduceAdd, Nat.reduceLT, Nat.reduceMul, reduceCtorEq, ↓reduceIte, Nat.reduceEqDiff, Nat.reduceLeDiff, Nat.reduceSub, Nat.reduceBEq, Nat.reduceBNe, Int.reduceLT, Int.reduceEq, Int.reduceAdd, Int.reduceToNat, Int.reduceLE, Int.reduceBEq, Int.reduceBNe, enc1, cChan, cCSt, eqTy_Sum, toOut]
            (repeat ((with_reducible refine And.intro ?_ ?_); (first | trivial | assumption | omega | (simp; done))))
            refine hK22 _ ?_
            (try clear hK22)
            refine ag_one (i := 16) (by kernel_rfl) ?_
            refine agi (it := It.mk none none (IK.store (Operand.tmp 12) (Operand.tmp 58) 2)) (R' := []) (by kernel_rfl) (.inr (by kernel_rfl)) (by kernel_rfl) (fun K23 hK23 => ?_)
            simp (maxSteps := 999999) (disch := omega) only [av1, av2, av3, eq_self, exists_const, forall_const, implies_true, storeOk, AS.gd, PK.more, PK.cond, PK.val, AV.get, CV.get, AV.ok, CV.ok, AV.off, CV.off, AV.set, CV.set, AV.fits, CV.fits, AV.size, AV.agg, CV.agg, AV.solid, AV.int?, AV.bool?, binOk, AV.els, CV.isByte, Sh.agg, Sh.fits, Sh.fitsL, Sh.fitsR, CV.eqv, CV.eqvs, AV.closed, rsAV, thenQ, AObj.lt, CV.numOf, Nat.reduceAdd, Nat.reduceLT, Nat.reduceMul, reduceCtorEq, ↓reduceIte, Nat.reduceEqDiff, Nat.reduceLeDiff, Nat.reduceSub, Nat.reduceBEq, Nat.reduceBNe, Int.reduceLT, Int.reduceEq, Int.reduceAdd, Int.reduceToNat, Int.reduceLE, Int.reduceBEq, Int.reduceBNe, enc1, cChan, cCSt, eqTy_Sum, toOut]
            (repeat ((with_reducible refine And.intro ?_ ?_); (first | trivial | assumption | omega | (simp; done))))
            refine hK23 _ ?_
            (try clear hK23)
            refine ag_done (by kernel_rfl) ?_
            (try simp only [thenQ])
            refine hK14 _ ?_
            (try clear hK14)
            refine at_seq fun K24 hK24 => ?_
            refine at_draws [] (by kernel_rfl) ?_
            refine ag_pures (fuel := 6) [0, 1, 2, 4, 5, 6] [It.mk (some 59) none (IK.p (PK.fAddr (Operand.tmp 3) 3 3)), It.mk (some 60) none (IK.p (PK.load (Operand.tmp 59) 33 true)), It.mk (some 61) none (IK.p (PK.bld (CV.st [CV.st [CV.ar IntKind.u8 32 (List.replicate 32 0), CV.pv (Value.int IntKind.i64 0)], CV.pv (Value.int IntKind.i64 0), CV.pv (Value.slice none 0 0)]) [(0, 33), (33, 1), (34, 1)] [(0, Operand.tmp 60)])), It.mk (some 63) none (IK.p (PK.load (Operand.tmp 12) 2 true)), It.mk (some 64) none (IK.p (PK.mov (Operand.tmp 9))), It.mk (some 65) none (IK.p (PK.mov (Operand.tmp 11)))] (by kernel_rfl) (by kernel_rfl) (by kernel_rfl) (by kernel_rfl) (hideZ_nil _ 0) (fun K25 hK25 => ?_)
            simp (maxSteps := 999999) (disch := omega) only [av1, av2, av3, eq_self, exists_const, forall_const, implies_true, storeOk, AS.gd, PK.more, PK.cond, PK.val, AV.get, CV.get, AV.ok, CV.ok, AV.off, CV.off, AV.set, CV.set, AV.fits, CV.fits, AV.size, AV.agg, CV.agg, AV.solid, AV.int?, AV.bool?, binOk, AV.els, CV.isByte, Sh.agg, Sh.fits, Sh.fitsL, Sh.fitsR, CV.eqv, CV.eqvs, AV.closed, rsAV, thenQ, AObj.lt, CV.numOf, Nat.reduceAdd, Nat.reduceLT, Nat.reduceMul, reduceCtorEq, ↓reduceIte, Nat.reduceEqDiff, Nat.reduceLeDiff, Nat.reduceSub, Nat.reduceBEq, Nat.reduceBNe, Int.reduceLT, Int.reduceEq, Int.reduceAdd, Int.reduceToNat, Int.reduceLE, Int.reduceBEq, Int.reduceBNe, enc1, cChan, cCSt, eqTy_Sum, toOut]
            (repeat ((with_reducible refine And.intro ?_ ?_); (first | trivial | assumption | omega | (simp; done))))
            refine hK25 _ ?_
            (try clear hK25)
            refine ag_two (i := 3) (j := 7) (by kernel_rfl) ?_ ?_
            · refine agi (it := It.mk (some 62) none (IK.lit 35 [Operand.tmp 61])) (R' := [6, 5, 4]) (by kernel_rfl) (.inl rfl) (by kernel_rfl) (fun K26 hK26 => ?_)
              simp (maxSteps := 999999) (disch := omega) only [av1, av2, av3, eq_self, exists_const, forall_const, implies_true, storeOk, AS.gd, PK.more, PK.cond, PK.val, AV.get, CV.get, AV.ok, CV.ok, AV.off, CV.off, AV.set, CV.set, AV.fits, CV.fits, AV.size, AV.agg, CV.agg, AV.solid, AV.int?, AV.bool?, binOk, AV.els, CV.isByte, Sh.agg, Sh.fits, Sh.fitsL, Sh.fitsR, CV.eqv, CV.eqvs, AV.closed, rsAV, thenQ, AObj.lt, CV.numOf, Nat.reduceAdd, Nat.reduceLT, Nat.reduceMul, reduceCtorEq, ↓reduceIte, Nat.reduceEqDiff, Nat.reduceLeDiff, Nat.reduceSub, Nat.reduceBEq, Nat.reduceBNe, Int.reduceLT, Int.reduceEq, Int.reduceAdd, Int.reduceToNat, Int.reduceLE, Int.reduceBEq, Int.reduceBNe, enc1, cChan, cCSt, eqTy_Sum, toOut]
              (repeat ((with_reducible refine And.intro ?_ ?_); (first | trivial | assumption | omega | (simp; done))))
              refine hK26 _ ?_
              (try clear hK26)
              refine ag_one (i := 7) (by kernel_rfl) ?_
              refine agi (it := It.mk (some 66) none (IK.call 23 [Operand.tmp 64, Operand.tmp 65])) (R' := [4]) (by kernel_rfl) (.inl rfl) (by kernel_rfl) (fun K27 hK27 => ?_)
              simp (maxSteps := 999999) (disch := omega) only [av1, av2, av3, eq_self, exists_const, forall_const, implies_true, storeOk, AS.gd, PK.more, PK.cond, PK.val, AV.get, CV.get, AV.ok, CV.ok, AV.off, CV.off, AV.set, CV.set, AV.fits, CV.fits, AV.size, AV.agg, CV.agg, AV.solid, AV.int?, AV.bool?, binOk, AV.els, CV.isByte, Sh.agg, Sh.fits, Sh.fitsL, Sh.fitsR, CV.eqv, CV.eqvs, AV.closed, rsAV, thenQ, AObj.lt, CV.numOf, Nat.reduceAdd, Nat.reduceLT, Nat.reduceMul, reduceCtorEq, ↓reduceIte, Nat.reduceEqDiff, Nat.reduceLeDiff, Nat.reduceSub, Nat.reduceBEq, Nat.reduceBNe, Int.reduceLT, Int.reduceEq, Int.reduceAdd, Int.reduceToNat, Int.reduceLE, Int.reduceBEq, Int.reduceBNe, enc1, cChan, cCSt, eqTy_Sum, toOut]
              apply Exists.intro
              apply And.intro
              · first | exact (lockTo_ap _ _) | exact (fun _ => (lockTo_ap _ _)) | exact (fun h => ⟨h, (lockTo_ap _ _)⟩) | exact (fun h => ⟨by simp_all, (lockTo_ap _ _)⟩)
              (try simp only [rsAV, List.map_cons, List.map_nil, thenQ])
              refine hK27 _ ?_
              (try clear hK27)
              refine ag_one (i := 8) (by kernel_rfl) ?_
              refine agi (it := It.mk (some 67) none (IK.lit 2 [Operand.tmp 63, Operand.tmp 66])) (R' := []) (by kernel_rfl) (.inl rfl) (by kernel_rfl) (fun K28 hK28 => ?_)
              simp (maxSteps := 999999) (disch := omega) only [av1, av2, av3, eq_self, exists_const, forall_const, implies_true, storeOk, AS.gd, PK.more, PK.cond, PK.val, AV.get, CV.get, AV.ok, CV.ok, AV.off, CV.off, AV.set, CV.set, AV.fits, CV.fits, AV.size, AV.agg, CV.agg, AV.solid, AV.int?, AV.bool?, binOk, AV.els, CV.isByte, Sh.agg, Sh.fits, Sh.fitsL, Sh.fitsR, CV.eqv, CV.eqvs, AV.closed, rsAV, thenQ, AObj.lt, CV.numOf, Nat.reduceAdd, Nat.reduceLT, Nat.reduceMul, reduceCtorEq, ↓reduceIte, Nat.reduceEqDiff, Nat.reduceLeDiff, Nat.reduceSub, Nat.reduceBEq, Nat.reduceBNe, Int.reduceLT, Int.reduceEq, Int.reduceAdd, Int.reduceToNat, Int.reduceLE, Int.reduceBEq, Int.reduceBNe, enc1, cChan, cCSt, eqTy_Sum, toOut]
              (repeat ((with_reducible refine And.intro ?_ ?_); (first | trivial | assumption | omega | (simp; done))))
              refine hK28 _ ?_
              (try clear hK28)
              refine ag_pures (fuel := 2) [9] [It.mk (some 68) none (IK.p (PK.bld (CV.st [CV.pv (Value.slice none 0 0), CV.pv (Value.slice none 0 0), CV.st [CV.pv (Value.int IntKind.i64 0), CV.pv (Value.int IntKind.i64 0), CV.pv (Value.int IntKind.i64 0), CV.pv (Value.int IntKind.i64 0), CV.ar IntKind.u8 32 (List.replicate 32 0), CV.pv (Value.slice none 0 0)], CV.pv (Value.slice none 0 0)]) [(0, 1), (1, 1), (2, 37), (39, 1)] [(0, Operand.tmp 62), (1, Operand.tmp 67)]))] (by kernel_rfl) (by kernel_rfl) (by kernel_rfl) (by kernel_rfl) (hideZ_nil _ 0) (fun K29 hK29 => ?_)
              simp (maxSteps := 999999) (disch := omega) only [av1, av2, av3, eq_self, exists_const, forall_const, implies_true, storeOk, AS.gd, PK.more, PK.cond, PK.val, AV.get, CV.get, AV.ok, CV.ok, AV.off, CV.off, AV.set, CV.set, AV.fits, CV.fits, AV.size, AV.agg, CV.agg, AV.solid, AV.int?, AV.bool?, binOk, AV.els, CV.isByte, Sh.agg, Sh.fits, Sh.fitsL, Sh.fitsR, CV.eqv, CV.eqvs, AV.closed, rsAV, thenQ, AObj.lt, CV.numOf, Nat.reduceAdd, Nat.reduceLT, Nat.reduceMul, reduceCtorEq, ↓reduceIte, Nat.reduceEqDiff, Nat.reduceLeDiff, Nat.reduceSub, Nat.reduceBEq, Nat.reduceBNe, Int.reduceLT, Int.reduceEq, Int.reduceAdd, Int.reduceToNat, Int.reduceLE, Int.reduceBEq, Int.reduceBNe, enc1, cChan, cCSt, eqTy_Sum, toOut]
              (repeat ((with_reducible refine And.intro ?_ ?_); (first | trivial | assumption | omega | (simp; done))))
              refine hK29 _ ?_
              (try clear hK29)
              refine ag_one (i := 10) (by kernel_rfl) ?_
              refine agi (it := It.mk none none (IK.store (Operand.tmp 6) (Operand.tmp 68) 40)) (R' := []) (by kernel_rfl) (.inr (by kernel_rfl)) (by kernel_rfl) (fun K30 hK30 => ?_)
              simp (maxSteps := 999999) (disch := omega) only [av1, av2, av3, eq_self, exists_const, forall_const, implies_true, storeOk, AS.gd, PK.more, PK.cond, PK.val, AV.get, CV.get, AV.ok, CV.ok, AV.off, CV.off, AV.set, CV.set, AV.fits, CV.fits, AV.size, AV.agg, CV.agg, AV.solid, AV.int?, AV.bool?, binOk, AV.els, CV.isByte, Sh.agg, Sh.fits, Sh.fitsL, Sh.fitsR, CV.eqv, CV.eqvs, AV.closed, rsAV, thenQ, AObj.lt, CV.numOf, Nat.reduceAdd, Nat.reduceLT, Nat.reduceMul, reduceCtorEq, ↓reduceIte, Nat.reduceEqDiff, Nat.reduceLeDiff, Nat.reduceSub, Nat.reduceBEq, Nat.reduceBNe, Int.reduceLT, Int.reduceEq, Int.reduceAdd, Int.reduceToNat, Int.reduceLE, Int.reduceBEq, Int.reduceBNe, enc1, cChan, cCSt, eqTy_Sum, toOut]
              (repeat ((with_reducible refine And.intro ?_ ?_); (first | trivial | assumption | omega | (simp; done))))
              refine hK30 _ ?_
              (try clear hK30)
              refine ag_pures (fuel := 0) [11] [It.mk (some 7) none (IK.p (PK.mov (Operand.const (Value.int IntKind.i64 0))))] (by kernel_rfl) (by kernel_rfl) (by kernel_rfl) (by kernel_rfl) (hideZ_nil _ 0) (fun K31 hK31 => ?_)
              simp (maxSteps := 999999) (disch := omega) only [av1, av2, av3, eq_self, exists_const, forall_const, implies_true, storeOk, AS.gd, PK.more, PK.cond, PK.val, AV.get, CV.get, AV.ok, CV.ok, AV.off, CV.off, AV.set, CV.set, AV.fits, CV.fits, AV.size, AV.agg, CV.agg, AV.solid, AV.int?, AV.bool?, binOk, AV.els, CV.isByte, Sh.agg, Sh.fits, Sh.fitsL, Sh.fitsR, CV.eqv, CV.eqvs, AV.closed, rsAV, thenQ, AObj.lt, CV.numOf, Nat.reduceAdd, Nat.reduceLT, Nat.reduceMul, reduceCtorEq, ↓reduceIte, Nat.reduceEqDiff, Nat.reduceLeDiff, Nat.reduceSub, Nat.reduceBEq, Nat.reduceBNe, Int.reduceLT, Int.reduceEq, Int.reduceAdd, Int.reduceToNat, Int.reduceLE, Int.reduceBEq, Int.reduceBNe, enc1, cChan, cCSt, eqTy_Sum, toOut]
              (repeat ((with_reducible refine And.intro ?_ ?_); (first | trivial | assumption | omega | (simp; done))))
              refine hK31 _ ?_
              (try clear hK31)
              refine ag_done (by kernel_rfl) ?_
              (try simp only [thenQ])
              refine hK24 _ ?_
              (try clear hK24)
              refine at_ret ?_
              simp (maxSteps := 999999) (disch := omega) only [av1, av2, av3, eq_self, exists_const, forall_const, implies_true, storeOk, AS.gd, PK.more, PK.cond, PK.val, AV.get, CV.get, AV.ok, CV.ok, AV.off, CV.off, AV.set, CV.set, AV.fits, CV.fits, AV.size, AV.agg, CV.agg, AV.solid, AV.int?, AV.bool?, binOk, AV.els, CV.isByte, Sh.agg, Sh.fits, Sh.fitsL, Sh.fitsR, CV.eqv, CV.eqvs, AV.closed, rsAV, thenQ, AObj.lt, CV.numOf, Nat.reduceAdd, Nat.reduceLT, Nat.reduceMul, reduceCtorEq, ↓reduceIte, Nat.reduceEqDiff, Nat.reduceLeDiff, Nat.reduceSub, Nat.reduceBEq, Nat.reduceBNe, Int.reduceLT, Int.reduceEq, Int.reduceAdd, Int.reduceToNat, Int.reduceLE, Int.reduceBEq, Int.reduceBNe, enc1, cChan, cCSt, eqTy_Sum, toOut, blockQ, retQ, RetOk, ResOk, AV.fin, AV.fins, CV.le, CV.les]
              first
                | (obtain ⟨e1, e2⟩ := build_bad (o := 1) h6; simp [e1, e2, zTxx, zOpx] <;> rfl)
                | (obtain ⟨e1, e2⟩ := build_ok (o := 1) h6; simp [e1, e2, comOf, comTx, zOpx, cInp, cOut, cWay, cRef, cSum, ints, ic, toOut, CV.les, CV.le] <;> rfl)
            · refine agi (it := It.mk (some 66) none (IK.call 23 [Operand.tmp 64, Operand.tmp 65])) (R' := [4, 2, 1, 0]) (by kernel_rfl) (.inl rfl) (by kernel_rfl) (fun K32 hK32 => ?_)
              simp (maxSteps := 999999) (disch := omega) only [av1, av2, av3, eq_self, exists_const, forall_const, implies_true, storeOk, AS.gd, PK.more, PK.cond, PK.val, AV.get, CV.get, AV.ok, CV.ok, AV.off, CV.off, AV.set, CV.set, AV.fits, CV.fits, AV.size, AV.agg, CV.agg, AV.solid, AV.int?, AV.bool?, binOk, AV.els, CV.isByte, Sh.agg, Sh.fits, Sh.fitsL, Sh.fitsR, CV.eqv, CV.eqvs, AV.closed, rsAV, thenQ, AObj.lt, CV.numOf, Nat.reduceAdd, Nat.reduceLT, Nat.reduceMul, reduceCtorEq, ↓reduceIte, Nat.reduceEqDiff, Nat.reduceLeDiff, Nat.reduceSub, Nat.reduceBEq, Nat.reduceBNe, Int.reduceLT, Int.reduceEq, Int.reduceAdd, Int.reduceToNat, Int.reduceLE, Int.reduceBEq, Int.reduceBNe, enc1, cChan, cCSt, eqTy_Sum, toOut]
              apply Exists.intro
              apply And.intro
              · first | exact (lockTo_ap _ _) | exact (fun _ => (lockTo_ap _ _)) | exact (fun h => ⟨h, (lockTo_ap _ _)⟩) | exact (fun h => ⟨by simp_all, (lockTo_ap _ _)⟩)
              (try simp only [rsAV, List.map_cons, List.map_nil, thenQ])
              refine hK32 _ ?_
              (try clear hK32)
              refine ag_two (i := 3) (j := 8) (by kernel_rfl) ?_ ?_
              · refine agi (it := It.mk (some 62) none (IK.lit 35 [Operand.tmp 61])) (R' := [4]) (by kernel_rfl) (.inl rfl) (by kernel_rfl) (fun K33 hK33 => ?_)
                simp (maxSteps := 999999) (disch := omega) only [av1, av2, av3, eq_self, exists_const, forall_const, implies_true, storeOk, AS.gd, PK.more, PK.cond, PK.val, AV.get, CV.get, AV.ok, CV.ok, AV.off, CV.off, AV.set, CV.set, AV.fits, CV.fits, AV.size, AV.agg, CV.agg, AV.solid, AV.int?, AV.bool?, binOk, AV.els, CV.isByte, Sh.agg, Sh.fits, Sh.fitsL, Sh.fitsR, CV.eqv, CV.eqvs, AV.closed, rsAV, thenQ, AObj.lt, CV.numOf, Nat.reduceAdd, Nat.reduceLT, Nat.reduceMul, reduceCtorEq, ↓reduceIte, Nat.reduceEqDiff, Nat.reduceLeDiff, Nat.reduceSub, Nat.reduceBEq, Nat.reduceBNe, Int.reduceLT, Int.reduceEq, Int.reduceAdd, Int.reduceToNat, Int.reduceLE, Int.reduceBEq, Int.reduceBNe, enc1, cChan, cCSt, eqTy_Sum, toOut]
                (repeat ((with_reducible refine And.intro ?_ ?_); (first | trivial | assumption | omega | (simp; done))))
                refine hK33 _ ?_
                (try clear hK33)
                refine ag_one (i := 8) (by kernel_rfl) ?_
                refine agi (it := It.mk (some 67) none (IK.lit 2 [Operand.tmp 63, Operand.tmp 66])) (R' := []) (by kernel_rfl) (.inl rfl) (by kernel_rfl) (fun K34 hK34 => ?_)
                simp (maxSteps := 999999) (disch := omega) only [av1, av2, av3, eq_self, exists_const, forall_const, implies_true, storeOk, AS.gd, PK.more, PK.cond, PK.val, AV.get, CV.get, AV.ok, CV.ok, AV.off, CV.off, AV.set, CV.set, AV.fits, CV.fits, AV.size, AV.agg, CV.agg, AV.solid, AV.int?, AV.bool?, binOk, AV.els, CV.isByte, Sh.agg, Sh.fits, Sh.fitsL, Sh.fitsR, CV.eqv, CV.eqvs, AV.closed, rsAV, thenQ, AObj.lt, CV.numOf, Nat.reduceAdd, Nat.reduceLT, Nat.reduceMul, reduceCtorEq, ↓reduceIte, Nat.reduceEqDiff, Nat.reduceLeDiff, Nat.reduceSub, Nat.reduceBEq, Nat.reduceBNe, Int.reduceLT, Int.reduceEq, Int.reduceAdd, Int.reduceToNat, Int.reduceLE, Int.reduceBEq, Int.reduceBNe, enc1, cChan, cCSt, eqTy_Sum, toOut]
                (repeat ((with_reducible refine And.intro ?_ ?_); (first | trivial | assumption | omega | (simp; done))))
                refine hK34 _ ?_
                (try clear hK34)
                refine ag_pures (fuel := 2) [9] [It.mk (some 68) none (IK.p (PK.bld (CV.st [CV.pv (Value.slice none 0 0), CV.pv (Value.slice none 0 0), CV.st [CV.pv (Value.int IntKind.i64 0), CV.pv (Value.int IntKind.i64 0), CV.pv (Value.int IntKind.i64 0), CV.pv (Value.int IntKind.i64 0), CV.ar IntKind.u8 32 (List.replicate 32 0), CV.pv (Value.slice none 0 0)], CV.pv (Value.slice none 0 0)]) [(0, 1), (1, 1), (2, 37), (39, 1)] [(0, Operand.tmp 62), (1, Operand.tmp 67)]))] (by kernel_rfl) (by kernel_rfl) (by kernel_rfl) (by kernel_rfl) (hideZ_nil _ 0) (fun K35 hK35 => ?_)
                simp (maxSteps := 999999) (disch := omega) only [av1, av2, av3, eq_self, exists_const, forall_const, implies_true, storeOk, AS.gd, PK.more, PK.cond, PK.val, AV.get, CV.get, AV.ok, CV.ok, AV.off, CV.off, AV.set, CV.set, AV.fits, CV.fits, AV.size, AV.agg, CV.agg, AV.solid, AV.int?, AV.bool?, binOk, AV.els, CV.isByte, Sh.agg, Sh.fits, Sh.fitsL, Sh.fitsR, CV.eqv, CV.eqvs, AV.closed, rsAV, thenQ, AObj.lt, CV.numOf, Nat.reduceAdd, Nat.reduceLT, Nat.reduceMul, reduceCtorEq, ↓reduceIte, Nat.reduceEqDiff, Nat.reduceLeDiff, Nat.reduceSub, Nat.reduceBEq, Nat.reduceBNe, Int.reduceLT, Int.reduceEq, Int.reduceAdd, Int.reduceToNat, Int.reduceLE, Int.reduceBEq, Int.reduceBNe, enc1, cChan, cCSt, eqTy_Sum, toOut]
                (repeat ((with_reducible refine And.intro ?_ ?_); (first | trivial | assumption | omega | (simp; done))))
                refine hK35 _ ?_
                (try clear hK35)
                refine ag_one (i := 10) (by kernel_rfl) ?_
                refine agi (it := It.mk none none (IK.store (Operand.tmp 6) (Operand.tmp 68) 40)) (R' := []) (by kernel_rfl) (.inr (by kernel_rfl)) (by kernel_rfl) (fun K36 hK36 => ?_)
                simp (maxSteps := 999999) (disch := omega) only [av1, av2, av3, eq_self, exists_const, forall_const, implies_true, storeOk, AS.gd, PK.more, PK.cond, PK.val, AV.get, CV.get, AV.ok, CV.ok, AV.off, CV.off, AV.set, CV.set, AV.fits, CV.fits, AV.size, AV.agg, CV.agg, AV.solid, AV.int?, AV.bool?, binOk, AV.els, CV.isByte, Sh.agg, Sh.fits, Sh.fitsL, Sh.fitsR, CV.eqv, CV.eqvs, AV.closed, rsAV, thenQ, AObj.lt, CV.numOf, Nat.reduceAdd, Nat.reduceLT, Nat.reduceMul, reduceCtorEq, ↓reduceIte, Nat.reduceEqDiff, Nat.reduceLeDiff, Nat.reduceSub, Nat.reduceBEq, Nat.reduceBNe, Int.reduceLT, Int.reduceEq, Int.reduceAdd, Int.reduceToNat, Int.reduceLE, Int.reduceBEq, Int.reduceBNe, enc1, cChan, cCSt, eqTy_Sum, toOut]
                (repeat ((with_reducible refine And.intro ?_ ?_); (first | trivial | assumption | omega | (simp; done))))
                refine hK36 _ ?_
                (try clear hK36)
                refine ag_pures (fuel := 0) [11] [It.mk (some 7) none (IK.p (PK.mov (Operand.const (Value.int IntKind.i64 0))))] (by kernel_rfl) (by kernel_rfl) (by kernel_rfl) (by kernel_rfl) (hideZ_nil _ 0) (fun K37 hK37 => ?_)
                simp (maxSteps := 999999) (disch := omega) only [av1, av2, av3, eq_self, exists_const, forall_const, implies_true, storeOk, AS.gd, PK.more, PK.cond, PK.val, AV.get, CV.get, AV.ok, CV.ok, AV.off, CV.off, AV.set, CV.set, AV.fits, CV.fits, AV.size, AV.agg, CV.agg, AV.solid, AV.int?, AV.bool?, binOk, AV.els, CV.isByte, Sh.agg, Sh.fits, Sh.fitsL, Sh.fitsR, CV.eqv, CV.eqvs, AV.closed, rsAV, thenQ, AObj.lt, CV.numOf, Nat.reduceAdd, Nat.reduceLT, Nat.reduceMul, reduceCtorEq, ↓reduceIte, Nat.reduceEqDiff, Nat.reduceLeDiff, Nat.reduceSub, Nat.reduceBEq, Nat.reduceBNe, Int.reduceLT, Int.reduceEq, Int.reduceAdd, Int.reduceToNat, Int.reduceLE, Int.reduceBEq, Int.reduceBNe, enc1, cChan, cCSt, eqTy_Sum, toOut]
                (repeat ((with_reducible refine And.intro ?_ ?_); (first | trivial | assumption | omega | (simp; done))))
                refine hK37 _ ?_
                (try clear hK37)
                refine ag_done (by kernel_rfl) ?_
                (try simp only [thenQ])
                refine hK24 _ ?_
                (try clear hK24)
                refine at_ret ?_
                simp (maxSteps := 999999) (disch := omega) only [av1, av2, av3, eq_self, exists_const, forall_const, implies_true, storeOk, AS.gd, PK.more, PK.cond, PK.val, AV.get, CV.get, AV.ok, CV.ok, AV.off, CV.off, AV.set, CV.set, AV.fits, CV.fits, AV.size, AV.agg, CV.agg, AV.solid, AV.int?, AV.bool?, binOk, AV.els, CV.isByte, Sh.agg, Sh.fits, Sh.fitsL, Sh.fitsR, CV.eqv, CV.eqvs, AV.closed, rsAV, thenQ, AObj.lt, CV.numOf, Nat.reduceAdd, Nat.reduceLT, Nat.reduceMul, reduceCtorEq, ↓reduceIte, Nat.reduceEqDiff, Nat.reduceLeDiff, Nat.reduceSub, Nat.reduceBEq, Nat.reduceBNe, Int.reduceLT, Int.reduceEq, Int.reduceAdd, Int.reduceToNat, Int.reduceLE, Int.reduceBEq, Int.reduceBNe, enc1, cChan, cCSt, eqTy_Sum, toOut, blockQ, retQ, RetOk, ResOk, AV.fin, AV.fins, CV.le, CV.les]
                first
                  | (obtain ⟨e1, e2⟩ := build_bad (o := 1) h6; simp [e1, e2, zTxx, zOpx] <;> rfl)
                  | (obtain ⟨e1, e2⟩ := build_ok (o := 1) h6; simp [e1, e2, comOf, comTx, zOpx, cInp, cOut, cWay, cRef, cSum, ints, ic, toOut, CV.les, CV.le] <;> rfl)
              · refine agi (it := It.mk (some 67) none (IK.lit 2 [Operand.tmp 63, Operand.tmp 66])) (R' := [2, 1, 0]) (by kernel_rfl) (.inl rfl) (by kernel_rfl) (fun K38 hK38 => ?_)
                simp (maxSteps := 999999) (disch := omega) only [av1, av2, av3, eq_self, exists_const, forall_const, implies_true, storeOk, AS.gd, PK.more, PK.cond, PK.val, AV.get, CV.get, AV.ok, CV.ok, AV.off, CV.off, AV.set, CV.set, AV.fits, CV.fits, AV.size, AV.agg, CV.agg, AV.solid, AV.int?, AV.bool?, binOk, AV.els, CV.isByte, Sh.agg, Sh.fits, Sh.fitsL, Sh.fitsR, CV.eqv, CV.eqvs, AV.closed, rsAV, thenQ, AObj.lt, CV.numOf, Nat.reduceAdd, Nat.reduceLT, Nat.reduceMul, reduceCtorEq, ↓reduceIte, Nat.reduceEqDiff, Nat.reduceLeDiff, Nat.reduceSub, Nat.reduceBEq, Nat.reduceBNe, Int.reduceLT, Int.reduceEq, Int.reduceAdd, Int.reduceToNat, Int.reduceLE, Int.reduceBEq, Int.reduceBNe, enc1, cChan, cCSt, eqTy_Sum, toOut]
                (repeat ((with_reducible refine And.intro ?_ ?_); (first | trivial | assumption | omega | (simp; done))))
                refine hK38 _ ?_
                (try clear hK38)
                refine ag_one (i := 3) (by kernel_rfl) ?_
                refine agi (it := It.mk (some 62) none (IK.lit 35 [Operand.tmp 61])) (R' := []) (by kernel_rfl) (.inl rfl) (by kernel_rfl) (fun K39 hK39 => ?_)
                simp (maxSteps := 999999) (disch := omega) only [av1, av2, av3, eq_self, exists_const, forall_const, implies_true, storeOk, AS.gd, PK.more, PK.cond, PK.val, AV.get, CV.get, AV.ok, CV.ok, AV.off, CV.off, AV.set, CV.set, AV.fits, CV.fits, AV.size, AV.agg, CV.agg, AV.solid, AV.int?, AV.bool?, binOk, AV.els, CV.isByte, Sh.agg, Sh.fits, Sh.fitsL, Sh.fitsR, CV.eqv, CV.eqvs, AV.closed, rsAV, thenQ, AObj.lt, CV.numOf, Nat.reduceAdd, Nat.reduceLT, Nat.reduceMul, reduceCtorEq, ↓reduceIte, Nat.reduceEqDiff, Nat.reduceLeDiff, Nat.reduceSub, Nat.reduceBEq, Nat.reduceBNe, Int.reduceLT, Int.reduceEq, Int.reduceAdd, Int.reduceToNat, Int.reduceLE, Int.reduceBEq, Int.reduceBNe, enc1, cChan, cCSt, eqTy_Sum, toOut]
                (repeat ((with_reducible refine And.intro ?_ ?_); (first | trivial | assumption | omega | (simp; done))))
                refine hK39 _ ?_
                (try clear hK39)
                refine ag_pures (fuel := 2) [9] [It.mk (some 68) none (IK.p (PK.bld (CV.st [CV.pv (Value.slice none 0 0), CV.pv (Value.slice none 0 0), CV.st [CV.pv (Value.int IntKind.i64 0), CV.pv (Value.int IntKind.i64 0), CV.pv (Value.int IntKind.i64 0), CV.pv (Value.int IntKind.i64 0), CV.ar IntKind.u8 32 (List.replicate 32 0), CV.pv (Value.slice none 0 0)], CV.pv (Value.slice none 0 0)]) [(0, 1), (1, 1), (2, 37), (39, 1)] [(0, Operand.tmp 62), (1, Operand.tmp 67)]))] (by kernel_rfl) (by kernel_rfl) (by kernel_rfl) (by kernel_rfl) (hideZ_nil _ 0) (fun K40 hK40 => ?_)
                simp (maxSteps := 999999) (disch := omega) only [av1, av2, av3, eq_self, exists_const, forall_const, implies_true, storeOk, AS.gd, PK.more, PK.cond, PK.val, AV.get, CV.get, AV.ok, CV.ok, AV.off, CV.off, AV.set, CV.set, AV.fits, CV.fits, AV.size, AV.agg, CV.agg, AV.solid, AV.int?, AV.bool?, binOk, AV.els, CV.isByte, Sh.agg, Sh.fits, Sh.fitsL, Sh.fitsR, CV.eqv, CV.eqvs, AV.closed, rsAV, thenQ, AObj.lt, CV.numOf, Nat.reduceAdd, Nat.reduceLT, Nat.reduceMul, reduceCtorEq, ↓reduceIte, Nat.reduceEqDiff, Nat.reduceLeDiff, Nat.reduceSub, Nat.reduceBEq, Nat.reduceBNe, Int.reduceLT, Int.reduceEq, Int.reduceAdd, Int.reduceToNat, Int.reduceLE, Int.reduceBEq, Int.reduceBNe, enc1, cChan, cCSt, eqTy_Sum, toOut]
                (repeat ((with_reducible refine And.intro ?_ ?_); (first | trivial | assumption | omega | (simp; done))))
                refine hK40 _ ?_
                (try clear hK40)
                refine ag_one (i := 10) (by kernel_rfl) ?_
                refine agi (it := It.mk none none (IK.store (Operand.tmp 6) (Operand.tmp 68) 40)) (R' := []) (by kernel_rfl) (.inr (by kernel_rfl)) (by kernel_rfl) (fun K41 hK41 => ?_)
                simp (maxSteps := 999999) (disch := omega) only [av1, av2, av3, eq_self, exists_const, forall_const, implies_true, storeOk, AS.gd, PK.more, PK.cond, PK.val, AV.get, CV.get, AV.ok, CV.ok, AV.off, CV.off, AV.set, CV.set, AV.fits, CV.fits, AV.size, AV.agg, CV.agg, AV.solid, AV.int?, AV.bool?, binOk, AV.els, CV.isByte, Sh.agg, Sh.fits, Sh.fitsL, Sh.fitsR, CV.eqv, CV.eqvs, AV.closed, rsAV, thenQ, AObj.lt, CV.numOf, Nat.reduceAdd, Nat.reduceLT, Nat.reduceMul, reduceCtorEq, ↓reduceIte, Nat.reduceEqDiff, Nat.reduceLeDiff, Nat.reduceSub, Nat.reduceBEq, Nat.reduceBNe, Int.reduceLT, Int.reduceEq, Int.reduceAdd, Int.reduceToNat, Int.reduceLE, Int.reduceBEq, Int.reduceBNe, enc1, cChan, cCSt, eqTy_Sum, toOut]
                (repeat ((with_reducible refine And.intro ?_ ?_); (first | trivial | assumption | omega | (simp; done))))
                refine hK41 _ ?_
                (try clear hK41)
                refine ag_pures (fuel := 0) [11] [It.mk (some 7) none (IK.p (PK.mov (Operand.const (Value.int IntKind.i64 0))))] (by kernel_rfl) (by kernel_rfl) (by kernel_rfl) (by kernel_rfl) (hideZ_nil _ 0) (fun K42 hK42 => ?_)
                simp (maxSteps := 999999) (disch := omega) only [av1, av2, av3, eq_self, exists_const, forall_const, implies_true, storeOk, AS.gd, PK.more, PK.cond, PK.val, AV.get, CV.get, AV.ok, CV.ok, AV.off, CV.off, AV.set, CV.set, AV.fits, CV.fits, AV.size, AV.agg, CV.agg, AV.solid, AV.int?, AV.bool?, binOk, AV.els, CV.isByte, Sh.agg, Sh.fits, Sh.fitsL, Sh.fitsR, CV.eqv, CV.eqvs, AV.closed, rsAV, thenQ, AObj.lt, CV.numOf, Nat.reduceAdd, Nat.reduceLT, Nat.reduceMul, reduceCtorEq, ↓reduceIte, Nat.reduceEqDiff, Nat.reduceLeDiff, Nat.reduceSub, Nat.reduceBEq, Nat.reduceBNe, Int.reduceLT, Int.reduceEq, Int.reduceAdd, Int.reduceToNat, Int.reduceLE, Int.reduceBEq, Int.reduceBNe, enc1, cChan, cCSt, eqTy_Sum, toOut]
                (repeat ((with_reducible refine And.intro ?_ ?_); (first | trivial | assumption | omega | (simp; done))))
                refine hK42 _ ?_
                (try clear hK42)
                refine ag_done (by kernel_rfl) ?_
                (try simp only [thenQ])
                refine hK24 _ ?_
                (try clear hK24)
                refine at_ret ?_
                simp (maxSteps := 999999) (disch := omega) only [av1, av2, av3, eq_self, exists_const, forall_const, implies_true, storeOk, AS.gd, PK.more, PK.cond, PK.val, AV.get, CV.get, AV.ok, CV.ok, AV.off, CV.off, AV.set, CV.set, AV.fits, CV.fits, AV.size, AV.agg, CV.agg, AV.solid, AV.int?, AV.bool?, binOk, AV.els, CV.isByte, Sh.agg, Sh.fits, Sh.fitsL, Sh.fitsR, CV.eqv, CV.eqvs, AV.closed, rsAV, thenQ, AObj.lt, CV.numOf, Nat.reduceAdd, Nat.reduceLT, Nat.reduceMul, reduceCtorEq, ↓reduceIte, Nat.reduceEqDiff, Nat.reduceLeDiff, Nat.reduceSub, Nat.reduceBEq, Nat.reduceBNe, Int.reduceLT, Int.reduceEq, Int.reduceAdd, Int.reduceToNat, Int.reduceLE, Int.reduceBEq, Int.reduceBNe, enc1, cChan, cCSt, eqTy_Sum, toOut, blockQ, retQ, RetOk, ResOk, AV.fin, AV.fins, CV.le, CV.les]
                first
                  | (obtain ⟨e1, e2⟩ := build_bad (o := 1) h6; simp [e1, e2, zTxx, zOpx] <;> rfl)
                  | (obtain ⟨e1, e2⟩ := build_ok (o := 1) h6; simp [e1, e2, comOf, comTx, zOpx, cInp, cOut, cWay, cRef, cSum, ints, ic, toOut, CV.les, CV.le] <;> rfl)
          · refine agi (it := It.mk (some 12) none (IK.alloc (CV.st [CV.pv (Value.int IntKind.i64 0), CV.pv (Value.slice none 0 0)]))) (R' := [12, 5, 11, 10, 9, 8, 4, 3, 0]) (by kernel_rfl) (.inl rfl) (by kernel_rfl) (fun K43 hK43 => ?_)
            simp (maxSteps := 999999) (disch := omega) only [av1, av2, av3, eq_self, exists_const, forall_const, implies_true, storeOk, AS.gd, PK.more, PK.cond, PK.val, AV.get, CV.get, AV.ok, CV.ok, AV.off, CV.off, AV.set, CV.set, AV.fits, CV.fits, AV.size, AV.agg, CV.agg, AV.solid, AV.int?, AV.bool?, binOk, AV.els, CV.isByte, Sh.agg, Sh.fits, Sh.fitsL, Sh.fitsR, CV.eqv, CV.eqvs, AV.closed, rsAV, thenQ, AObj.lt, CV.numOf, Nat.reduceAdd, Nat.reduceLT, Nat.reduceMul, reduceCtorEq, ↓reduceIte, Nat.reduceEqDiff, Nat.reduceLeDiff, Nat.reduceSub, Nat.reduceBEq, Nat.reduceBNe, Int.reduceLT, Int.reduceEq, Int.reduceAdd, Int.reduceToNat, Int.reduceLE, Int.reduceBEq, Int.reduceBNe, enc1, cChan, cCSt, eqTy_Sum, toOut]
            (repeat ((with_reducible refine And.intro ?_ ?_); (first | trivial | assumption | omega | (simp; done))))
            refine hK43 _ ?_
            (try clear hK43)
            refine ag_one (i := 13) (by kernel_rfl) ?_
            refine agi (it := It.mk (some 57) none (IK.lit 35 [Operand.tmp 49, Operand.tmp 56])) (R' := [0]) (by kernel_rfl) (.inl rfl) (by kernel_rfl) (fun K44 hK44 => ?_)
            simp (maxSteps := 999999) (disch := omega) only [av1, av2, av3, eq_self, exists_const, forall_const, implies_true, storeOk, AS.gd, PK.more, PK.cond, PK.val, AV.get, CV.get, AV.ok, CV.ok, AV.off, CV.off, AV.set, CV.set, AV.fits, CV.fits, AV.size, AV.agg, CV.agg, AV.solid, AV.int?, AV.bool?, binOk, AV.els, CV.isByte, Sh.agg, Sh.fits, Sh.fitsL, Sh.fitsR, CV.eqv, CV.eqvs, AV.closed, rsAV, thenQ, AObj.lt, CV.numOf, Nat.reduceAdd, Nat.reduceLT, Nat.reduceMul, reduceCtorEq, ↓reduceIte, Nat.reduceEqDiff, Nat.reduceLeDiff, Nat.reduceSub, Nat.reduceBEq, Nat.reduceBNe, Int.reduceLT, Int.reduceEq, Int.reduceAdd, Int.reduceToNat, Int.reduceLE, Int.reduceBEq, Int.reduceBNe, enc1, cChan, cCSt, eqTy_Sum, toOut]
            (repeat ((with_reducible refine And.intro ?_ ?_); (first | trivial | assumption | omega | (simp; done))))
            refine hK44 _ ?_
            (try clear hK44)
            refine ag_pures (fuel := 1) [14] [It.mk (some 58) none (IK.p (PK.bld (CV.st [CV.pv (Value.int IntKind.i64 0), CV.pv (Value.slice none 0 0)]) [(0, 1), (1, 1)] [(0, Operand.tmp 44), (1, Operand.tmp 57)]))] (by kernel_rfl) (by kernel_rfl) (by kernel_rfl) (by kernel_rfl) (hideZ_nil _ 0) (fun K45 hK45 => ?_)
            simp (maxSteps := 999999) (disch := omega) only [av1, av2, av3, eq_self, exists_const, forall_const, implies_true, storeOk, AS.gd, PK.more, PK.cond, PK.val, AV.get, CV.get, AV.ok, CV.ok, AV.off, CV.off, AV.set, CV.set, AV.fits, CV.fits, AV.size, AV.agg, CV.agg, AV.solid, AV.int?, AV.bool?, binOk, AV.els, CV.isByte, Sh.agg, Sh.fits, Sh.fitsL, Sh.fitsR, CV.eqv, CV.eqvs, AV.closed, rsAV, thenQ, AObj.lt, CV.numOf, Nat.reduceAdd, Nat.reduceLT, Nat.reduceMul, reduceCtorEq, ↓reduceIte, Nat.reduceEqDiff, Nat.reduceLeDiff, Nat.reduceSub, Nat.reduceBEq, Nat.reduceBNe, Int.reduceLT, Int.reduceEq, Int.reduceAdd, Int.reduceToNat, Int.reduceLE, Int.reduceBEq, Int.reduceBNe, enc1, cChan, cCSt, eqTy_Sum, toOut]
            (repeat ((with_reducible refine And.intro ?_ ?_); (first | trivial | assumption | omega | (simp; done))))
            refine hK45 _ ?_
            (try clear hK45)
            refine ag_one (i := 16) (by kernel_rfl) ?_
            refine agi (it := It.mk none none (IK.store (Operand.tmp 12) (Operand.tmp 58) 2)) (R' := []) (by kernel_rfl) (.inr (by kernel_rfl)) (by kernel_rfl) (fun K46 hK46 => ?_)
            simp (maxSteps := 999999) (disch := omega) only [av1, av2, av3, eq_self, exists_const, forall_const, implies_true, storeOk, AS.gd, PK.more, PK.cond, PK.val, AV.get, CV.get, AV.ok, CV.ok, AV.off, CV.off, AV.set, CV.set, AV.fits, CV.fits, AV.size, AV.agg, CV.agg, AV.solid, AV.int?, AV.bool?, binOk, AV.els, CV.isByte, Sh.agg, Sh.fits, Sh.fitsL, Sh.fitsR, CV.eqv, CV.eqvs, AV.closed, rsAV, thenQ, AObj.lt, CV.numOf, Nat.reduceAdd, Nat.reduceLT, Nat.reduceMul, reduceCtorEq, ↓reduceIte, Nat.reduceEqDiff, Nat.reduceLeDiff, Nat.reduceSub, Nat.reduceBEq, Nat.reduceBNe, Int.reduceLT, Int.reduceEq, Int.reduceAdd, Int.reduceToNat, Int.reduceLE, Int.reduceBEq, Int.reduceBNe, enc1, cChan, cCSt, eqTy_Sum, toOut]
            (repeat ((with_reducible refine And.intro ?_ ?_); (first | trivial | assumption | omega | (simp; done))))
            refine hK46 _ ?_
            (try clear hK46)
            refine ag_done (by kernel_rfl) ?_
            (try simp only [thenQ])
            refine hK14 _ ?_
            (try clear hK14)
            refine at_seq fun K47 hK47 => ?_
            refine at_draws [] (by kernel_rfl) ?_
            refine ag_pures (fuel := 6) [0, 1, 2, 4, 5, 6] [It.mk (some 59) none (IK.p (PK.fAddr (Operand.tmp 3) 3 3)), It.mk (some 60) none (IK.p (PK.load (Operand.tmp 59) 33 true)), It.mk (some 61) none (IK.p (PK.bld (CV.st [CV.st [CV.ar IntKind.u8 32 (List.replicate 32 0), CV.pv (Value.int IntKind.i64 0)], CV.pv (Value.int IntKind.i64 0), CV.pv (Value.slice none 0 0)]) [(0, 33), (33, 1), (34, 1)] [(0, Operand.tmp 60)])), It.mk (some 63) none (IK.p (PK.load (Operand.tmp 12) 2 true)), It.mk (some 64) none (IK.p (PK.mov (Operand.tmp 9))), It.mk (some 65) none (IK.p (PK.mov (Operand.tmp 11)))] (by kernel_rfl) (by kernel_rfl) (by kernel_rfl) (by kernel_rfl) (hideZ_nil _ 0) (fun K48 hK48 => ?_)
            simp (maxSteps := 999999) (disch := omega) only [av1, av2, av3, eq_self, exists_const, forall_const, implies_true, storeOk, AS.gd, PK.more, PK.cond, PK.val, AV.get, CV.get, AV.ok, CV.ok, AV.off, CV.off, AV.set, CV.set, AV.fits, CV.fits, AV.size, AV.agg, CV.agg, AV.solid, AV.int?, AV.bool?, binOk, AV.els, CV.isByte, Sh.agg, Sh.fits, Sh.fitsL, Sh.fitsR, CV.eqv, CV.eqvs, AV.closed, rsAV, thenQ, AObj.lt, CV.numOf, Nat.reduceAdd, Nat.reduceLT, Nat.reduceMul, reduceCtorEq, ↓reduceIte, Nat.reduceEqDiff, Nat.reduceLeDiff, Nat.reduceSub, Nat.reduceBEq, Nat.reduceBNe, Int.reduceLT, Int.reduceEq, Int.reduceAdd, Int.reduceToNat, Int.reduceLE, Int.reduceBEq, Int.reduceBNe, enc1, cChan, cCSt, eqTy_Sum, toOut]
            (repeat ((with_reducible refine And.intro ?_ ?_); (first | trivial | assumption | omega | (simp; done))))
            refine hK48 _ ?_
            (try clear hK48)
            refine ag_two (i := 3) (j := 7) (by kernel_rfl) ?_ ?_
            · refine agi (it := It.mk (some 62) none (IK.lit 35 [Operand.tmp 61])) (R' := [6, 5, 4]) (by kernel_rfl) (.inl rfl) (by kernel_rfl) (fun K49 hK49 => ?_)
              simp (maxSteps := 999999) (disch := omega) only [av1, av2, av3, eq_self, exists_const, forall_const, implies_true, storeOk, AS.gd, PK.more, PK.cond, PK.val, AV.get, CV.get, AV.ok, CV.ok, AV.off, CV.off, AV.set, CV.set, AV.fits, CV.fits, AV.size, AV.agg, CV.agg, AV.solid, AV.int?, AV.bool?, binOk, AV.els, CV.isByte, Sh.agg, Sh.fits, Sh.fitsL, Sh.fitsR, CV.eqv, CV.eqvs, AV.closed, rsAV, thenQ, AObj.lt, CV.numOf, Nat.reduceAdd, Nat.reduceLT, Nat.reduceMul, reduceCtorEq, ↓reduceIte, Nat.reduceEqDiff, Nat.reduceLeDiff, Nat.reduceSub, Nat.reduceBEq, Nat.reduceBNe, Int.reduceLT, Int.reduceEq, Int.reduceAdd, Int.reduceToNat, Int.reduceLE, Int.reduceBEq, Int.reduceBNe, enc1, cChan, cCSt, eqTy_Sum, toOut]
              (repeat ((with_reducible refine And.intro ?_ ?_); (first | trivial | assumption | omega | (simp; done))))
              refine hK49 _ ?_
              (try clear hK49)
              refine ag_one (i := 7) (by kernel_rfl) ?_
              refine agi (it := It.mk (some 66) none (IK.call 23 [Operand.tmp 64, Operand.tmp 65])) (R' := [4]) (by kernel_rfl) (.inl rfl) (by kernel_rfl) (fun K50 hK50 => ?_)
              simp (maxSteps := 999999) (disch := omega) only [av1, av2, av3, eq_self, exists_const, forall_const, implies_true, storeOk, AS.gd, PK.more, PK.cond, PK.val, AV.get, CV.get, AV.ok, CV.ok, AV.off, CV.off, AV.set, CV.set, AV.fits, CV.fits, AV.size, AV.agg, CV.agg, AV.solid, AV.int?, AV.bool?, binOk, AV.els, CV.isByte, Sh.agg, Sh.fits, Sh.fitsL, Sh.fitsR, CV.eqv, CV.eqvs, AV.closed, rsAV, thenQ, AObj.lt, CV.numOf, Nat.reduceAdd, Nat.reduceLT, Nat.reduceMul, reduceCtorEq, ↓reduceIte, Nat.reduceEqDiff, Nat.reduceLeDiff, Nat.reduceSub, Nat.reduceBEq, Nat.reduceBNe, Int.reduceLT, Int.reduceEq, Int.reduceAdd, Int.reduceToNat, Int.reduceLE, Int.reduceBEq, Int.reduceBNe, enc1, cChan, cCSt, eqTy_Sum, toOut]
              apply Exists.intro
              apply And.intro
              · first | exact (lockTo_ap _ _) | exact (fun _ => (lockTo_ap _ _)) | exact (fun h => ⟨h, (lockTo_ap _ _)⟩) | exact (fun h => ⟨by simp_all, (lockTo_ap _ _)⟩)
              (try simp only [rsAV, List.map_cons, List.map_nil, thenQ])
              refine hK50 _ ?_
              (try clear hK50)
              refine ag_one (i := 8) (by kernel_rfl) ?_
              refine agi (it := It.mk (some 67) none (IK.lit 2 [Operand.tmp 63, Operand.tmp 66])) (R' := []) (by kernel_rfl) (.inl rfl) (by kernel_rfl) (fun K51 hK51 => ?_)
              simp (maxSteps := 999999) (disch := omega) only [av1, av2, av3, eq_self, exists_const, forall_const, implies_true, storeOk, AS.gd, PK.more, PK.cond, PK.val, AV.get, CV.get, AV.ok, CV.ok, AV.off, CV.off, AV.set, CV.set, AV.fits, CV.fits, AV.size, AV.agg, CV.agg, AV.solid, AV.int?, AV.bool?, binOk, AV.els, CV.isByte, Sh.agg, Sh.fits, Sh.fitsL, Sh.fitsR, CV.eqv, CV.eqvs, AV.closed, rsAV, thenQ, AObj.lt, CV.numOf, Nat.reduceAdd, Nat.reduceLT, Nat.reduceMul, reduceCtorEq, ↓reduceIte, Nat.reduceEqDiff, Nat.reduceLeDiff, Nat.reduceSub, Nat.reduceBEq, Nat.reduceBNe, Int.reduceLT, Int.reduceEq, Int.reduceAdd, Int.reduceToNat, Int.reduceLE, Int.reduceBEq, Int.reduceBNe, enc1, cChan, cCSt, eqTy_Sum, toOut]
              (repeat ((with_reducible refine And.intro ?_ ?_); (first | trivial | assumption | omega | (simp; done))))
              refine hK51 _ ?_
              (try clear hK51)
              refine ag_pures (fuel := 2) [9] [It.mk (some 68) none (IK.p (PK.bld (CV.st [CV.pv (Value.slice none 0 0), CV.pv (Value.slice none 0 0), CV.st [CV.pv (Value.int IntKind.i64 0), CV.pv (Value.int IntKind.i64 0), CV.pv (Value.int IntKind.i64 0), CV.pv (Value.int IntKind.i64 0), CV.ar IntKind.u8 32 (List.replicate 32 0), CV.pv (Value.slice none 0 0)], CV.pv (Value.slice none 0 0)]) [(0, 1), (1, 1), (2, 37), (39, 1)] [(0, Operand.tmp 62), (1, Operand.tmp 67)]))] (by kernel_rfl) (by kernel_rfl) (by kernel_rfl) (by kernel_rfl) (hideZ_nil _ 0) (fun K52 hK52 => ?_)
              simp (maxSteps := 999999) (disch := omega) only [av1, av2, av3, eq_self, exists_const, forall_const, implies_true, storeOk, AS.gd, PK.more, PK.cond, PK.val, AV.get, CV.get, AV.ok, CV.ok, AV.off, CV.off, AV.set, CV.set, AV.fits, CV.fits, AV.size, AV.agg, CV.agg, AV.solid, AV.int?, AV.bool?, binOk, AV.els, CV.isByte, Sh.agg, Sh.fits, Sh.fitsL, Sh.fitsR, CV.eqv, CV.eqvs, AV.closed, rsAV, thenQ, AObj.lt, CV.numOf, Nat.reduceAdd, Nat.reduceLT, Nat.reduceMul, reduceCtorEq, ↓reduceIte, Nat.reduceEqDiff, Nat.reduceLeDiff, Nat.reduceSub, Nat.reduceBEq, Nat.reduceBNe, Int.reduceLT, Int.reduceEq, Int.reduceAdd, Int.reduceToNat, Int.reduceLE, Int.reduceBEq, Int.reduceBNe, enc1, cChan, cCSt, eqTy_Sum, toOut]
              (repeat ((with_reducible refine And.intro ?_ ?_); (first | trivial | assumption | omega | (simp; done))))
              refine hK52 _ ?_
              (try clear hK52)
              refine ag_one (i := 10) (by kernel_rfl) ?_
              refine agi (it := It.mk none none (IK.store (Operand.tmp 6) (Operand.tmp 68) 40)) (R' := []) (by kernel_rfl) (.inr (by kernel_rfl)) (by kernel_rfl) (fun K53 hK53 => ?_)
              simp (maxSteps := 999999) (disch := omega) only [av1, av2, av3, eq_self, exists_const, forall_const, implies_true, storeOk, AS.gd, PK.more, PK.cond, PK.val, AV.get, CV.get, AV.ok, CV.ok, AV.off, CV.off, AV.set, CV.set, AV.fits, CV.fits, AV.size, AV.agg, CV.agg, AV.solid, AV.int?, AV.bool?, binOk, AV.els, CV.isByte, Sh.agg, Sh.fits, Sh.fitsL, Sh.fitsR, CV.eqv, CV.eqvs, AV.closed, rsAV, thenQ, AObj.lt, CV.numOf, Nat.reduceAdd, Nat.reduceLT, Nat.reduceMul, reduceCtorEq, ↓reduceIte, Nat.reduceEqDiff, Nat.reduceLeDiff, Nat.reduceSub, Nat.reduceBEq, Nat.reduceBNe, Int.reduceLT, Int.reduceEq, Int.reduceAdd, Int.reduceToNat, Int.reduceLE, Int.reduceBEq, Int.reduceBNe, enc1, cChan, cCSt, eqTy_Sum, toOut]
              (repeat ((with_reducible refine And.intro ?_ ?_); (first | trivial | assumption | omega | (simp; done))))
              refine hK53 _ ?_
              (try clear hK53)
              refine ag_pures (fuel := 0) [11] [It.mk (some 7) none (IK.p (PK.mov (Operand.const (Value.int IntKind.i64 0))))] (by kernel_rfl) (by kernel_rfl) (by kernel_rfl) (by kernel_rfl) (hideZ_nil _ 0) (fun K54 hK54 => ?_)
              simp (maxSteps := 999999) (disch := omega) only [av1, av2, av3, eq_self, exists_const, forall_const, implies_true, storeOk, AS.gd, PK.more, PK.cond, PK.val, AV.get, CV.get, AV.ok, CV.ok, AV.off, CV.off, AV.set, CV.set, AV.fits, CV.fits, AV.size, AV.agg, CV.agg, AV.solid, AV.int?, AV.bool?, binOk, AV.els, CV.isByte, Sh.agg, Sh.fits, Sh.fitsL, Sh.fitsR, CV.eqv, CV.eqvs, AV.closed, rsAV, thenQ, AObj.lt, CV.numOf, Nat.reduceAdd, Nat.reduceLT, Nat.reduceMul, reduceCtorEq, ↓reduceIte, Nat.reduceEqDiff, Nat.reduceLeDiff, Nat.reduceSub, Nat.reduceBEq, Nat.reduceBNe, Int.reduceLT, Int.reduceEq, Int.reduceAdd, Int.reduceToNat, Int.reduceLE, Int.reduceBEq, Int.reduceBNe, enc1, cChan, cCSt, eqTy_Sum, toOut]
              (repeat ((with_reducible refine And.intro ?_ ?_); (first | trivial | assumption | omega | (simp; done))))
              refine hK54 _ ?_
              (try clear hK54)
              refine ag_done (by kernel_rfl) ?_
              (try simp only [thenQ])
              refine hK47 _ ?_
              (try clear hK47)
              refine at_ret ?_
              simp (maxSteps := 999999) (disch := omega) only [av1, av2, av3, eq_self, exists_const, forall_const, implies_true, storeOk, AS.gd, PK.more, PK.cond, PK.val, AV.get, CV.get, AV.ok, CV.ok, AV.off, CV.off, AV.set, CV.set, AV.fits, CV.fits, AV.size, AV.agg, CV.agg, AV.solid, AV.int?, AV.bool?, binOk, AV.els, CV.isByte, Sh.agg, Sh.fits, Sh.fitsL, Sh.fitsR, CV.eqv, CV.eqvs, AV.closed, rsAV, thenQ, AObj.lt, CV.numOf, Nat.reduceAdd, Nat.reduceLT, Nat.reduceMul, reduceCtorEq, ↓reduceIte, Nat.reduceEqDiff, Nat.reduceLeDiff, Nat.reduceSub, Nat.reduceBEq, Nat.reduceBNe, Int.reduceLT, Int.reduceEq, Int.reduceAdd, Int.reduceToNat, Int.reduceLE, Int.reduceBEq, Int.reduceBNe, enc1, cChan, cCSt, eqTy_Sum, toOut, blockQ, retQ, RetOk, ResOk, AV.fin, AV.fins, CV.le, CV.les]
              first
                | (obtain ⟨e1, e2⟩ := build_bad (o := 1) h6; simp [e1, e2, zTxx, zOpx] <;> rfl)
                | (obtain ⟨e1, e2⟩ := build_ok (o := 1) h6; simp [e1, e2, comOf, comTx, zOpx, cInp, cOut, cWay, cRef, cSum, ints, ic, toOut, CV.les, CV.le] <;> rfl)
            · refine agi (it := It.mk (some 66) none (IK.call 23 [Operand.tmp 64, Operand.tmp 65])) (R' := [4, 2, 1, 0]) (by kernel_rfl) (.inl rfl) (by kernel_rfl) (fun K55 hK55 => ?_)
              simp (maxSteps := 999999) (disch := omega) only [av1, av2, av3, eq_self, exists_const, forall_const, implies_true, storeOk, AS.gd, PK.more, PK.cond, PK.val, AV.get, CV.get, AV.ok, CV.ok, AV.off, CV.off, AV.set, CV.set, AV.fits, CV.fits, AV.size, AV.agg, CV.agg, AV.solid, AV.int?, AV.bool?, binOk, AV.els, CV.isByte, Sh.agg, Sh.fits, Sh.fitsL, Sh.fitsR, CV.eqv, CV.eqvs, AV.closed, rsAV, thenQ, AObj.lt, CV.numOf, Nat.reduceAdd, Nat.reduceLT, Nat.reduceMul, reduceCtorEq, ↓reduceIte, Nat.reduceEqDiff, Nat.reduceLeDiff, Nat.reduceSub, Nat.reduceBEq, Nat.reduceBNe, Int.reduceLT, Int.reduceEq, Int.reduceAdd, Int.reduceToNat, Int.reduceLE, Int.reduceBEq, Int.reduceBNe, enc1, cChan, cCSt, eqTy_Sum, toOut]
              apply Exists.intro
              apply And.intro
              · first | exact (lockTo_ap _ _) | exact (fun _ => (lockTo_ap _ _)) | exact (fun h => ⟨h, (lockTo_ap _ _)⟩) | exact (fun h => ⟨by simp_all, (lockTo_ap _ _)⟩)
              (try simp only [rsAV, List.map_cons, List.map_nil, thenQ])
              refine hK55 _ ?_
              (try clear hK55)
              refine ag_two (i := 3) (j := 8) (by kernel_rfl) ?_ ?_
              · refine agi (it := It.mk (some 62) none (IK.lit 35 [Operand.tmp 61])) (R' := [4]) (by kernel_rfl) (.inl rfl) (by kernel_rfl) (fun K56 hK56 => ?_)
                simp (maxSteps := 999999) (disch := omega) only [av1, av2, av3, eq_self, exists_const, forall_const, implies_true, storeOk, AS.gd, PK.more, PK.cond, PK.val, AV.get, CV.get, AV.ok, CV.ok, AV.off, CV.off, AV.set, CV.set, AV.fits, CV.fits, AV.size, AV.agg, CV.agg, AV.solid, AV.int?, AV.bool?, binOk, AV.els, CV.isByte, Sh.agg, Sh.fits, Sh.fitsL, Sh.fitsR, CV.eqv, CV.eqvs, AV.closed, rsAV, thenQ, AObj.lt, CV.numOf, Nat.reduceAdd, Nat.reduceLT, Nat.reduceMul, reduceCtorEq, ↓reduceIte, Nat.reduceEqDiff, Nat.reduceLeDiff, Nat.reduceSub, Nat.reduceBEq, Nat.reduceBNe, Int.reduceLT, Int.reduceEq, Int.reduceAdd, Int.reduceToNat, Int.reduceLE, Int.reduceBEq, Int.reduceBNe, enc1, cChan, cCSt, eqTy_Sum, toOut]
                (repeat ((with_reducible refine And.intro ?_ ?_); (first | trivial | assumption | omega | (simp; done))))
                refine hK56 _ ?_
                (try clear hK56)
                refine ag_one (i := 8) (by kernel_rfl) ?_
                refine agi (it := It.mk (some 67) none (IK.lit 2 [Operand.tmp 63, Operand.tmp 66])) (R' := []) (by kernel_rfl) (.inl rfl) (by kernel_rfl) (fun K57 hK57 => ?_)
                simp (maxSteps := 999999) (disch := omega) only [av1, av2, av3, eq_self, exists_const, forall_const, implies_true, storeOk, AS.gd, PK.more, PK.cond, PK.val, AV.get, CV.get, AV.ok, CV.ok, AV.off, CV.off, AV.set, CV.set, AV.fits, CV.fits, AV.size, AV.agg, CV.agg, AV.solid, AV.int?, AV.bool?, binOk, AV.els, CV.isByte, Sh.agg, Sh.fits, Sh.fitsL, Sh.fitsR, CV.eqv, CV.eqvs, AV.closed, rsAV, thenQ, AObj.lt, CV.numOf, Nat.reduceAdd, Nat.reduceLT, Nat.reduceMul, reduceCtorEq, ↓reduceIte, Nat.reduceEqDiff, Nat.reduceLeDiff, Nat.reduceSub, Nat.reduceBEq, Nat.reduceBNe, Int.reduceLT, Int.reduceEq, Int.reduceAdd, Int.reduceToNat, Int.reduceLE, Int.reduceBEq, Int.reduceBNe, enc1, cChan, cCSt, eqTy_Sum, toOut]
                (repeat ((with_reducible refine And.intro ?_ ?_); (first | trivial | assumption | omega | (simp; done))))
                refine hK57 _ ?_
                (try clear hK57)
                refine ag_pures (fuel := 2) [9] [It.mk (some 68) none (IK.p (PK.bld (CV.st [CV.pv (Value.slice none 0 0), CV.pv (Value.slice none 0 0), CV.st [CV.pv (Value.int IntKind.i64 0), CV.pv (Value.int IntKind.i64 0), CV.pv (Value.int IntKind.i64 0), CV.pv (Value.int IntKind.i64 0), CV.ar IntKind.u8 32 (List.replicate 32 0), CV.pv (Value.slice none 0 0)], CV.pv (Value.slice none 0 0)]) [(0, 1), (1, 1), (2, 37), (39, 1)] [(0, Operand.tmp 62), (1, Operand.tmp 67)]))] (by kernel_rfl) (by kernel_rfl) (by kernel_rfl) (by kernel_rfl) (hideZ_nil _ 0) (fun K58 hK58 => ?_)
                simp (maxSteps := 999999) (disch := omega) only [av1, av2, av3, eq_self, exists_const, forall_const, implies_true, storeOk, AS.gd, PK.more, PK.cond, PK.val, AV.get, CV.get, AV.ok, CV.ok, AV.off, CV.off, AV.set, CV.set, AV.fits, CV.fits, AV.size, AV.agg, CV.agg, AV.solid, AV.int?, AV.bool?, binOk, AV.els, CV.isByte, Sh.agg, Sh.fits, Sh.fitsL, Sh.fitsR, CV.eqv, CV.eqvs, AV.closed, rsAV, thenQ, AObj.lt, CV.numOf, Nat.reduceAdd, Nat.reduceLT, Nat.reduceMul, reduceCtorEq, ↓reduceIte, Nat.reduceEqDiff, Nat.reduceLeDiff, Nat.reduceSub, Nat.reduceBEq, Nat.reduceBNe, Int.reduceLT, Int.reduceEq, Int.reduceAdd, Int.reduceToNat, Int.reduceLE, Int.reduceBEq, Int.reduceBNe, enc1, cChan, cCSt, eqTy_Sum, toOut]
                (repeat ((with_reducible refine And.intro ?_ ?_); (first | trivial | assumption | omega | (simp; done))))
                refine hK58 _ ?_
                (try clear hK58)
                refine ag_one (i := 10) (by kernel_rfl) ?_
                refine agi (it := It.mk none none (IK.store (Operand.tmp 6) (Operand.tmp 68) 40)) (R' := []) (by kernel_rfl) (.inr (by kernel_rfl)) (by kernel_rfl) (fun K59 hK59 => ?_)
                simp (maxSteps := 999999) (disch := omega) only [av1, av2, av3, eq_self, exists_const, forall_const, implies_true, storeOk, AS.gd, PK.more, PK.cond, PK.val, AV.get, CV.get, AV.ok, CV.ok, AV.off, CV.off, AV.set, CV.set, AV.fits, CV.fits, AV.size, AV.agg, CV.agg, AV.solid, AV.int?, AV.bool?, binOk, AV.els, CV.isByte, Sh.agg, Sh.fits, Sh.fitsL, Sh.fitsR, CV.eqv, CV.eqvs, AV.closed, rsAV, thenQ, AObj.lt, CV.numOf, Nat.reduceAdd, Nat.reduceLT, Nat.reduceMul, reduceCtorEq, ↓reduceIte, Nat.reduceEqDiff, Nat.reduceLeDiff, Nat.reduceSub, Nat.reduceBEq, Nat.reduceBNe, Int.reduceLT, Int.reduceEq, Int.reduceAdd, Int.reduceToNat, Int.reduceLE, Int.reduceBEq, Int.reduceBNe, enc1, cChan, cCSt, eqTy_Sum, toOut]
                (repeat ((with_reducible refine And.intro ?_ ?_); (first | trivial | assumption | omega | (simp; done))))
                refine hK59 _ ?_
                (try clear hK59)
                refine ag_pures (fuel := 0) [11] [It.mk (some 7) none (IK.p (PK.mov (Operand.const (Value.int IntKind.i64 0))))] (by kernel_rfl) (by kernel_rfl) (by kernel_rfl) (by kernel_rfl) (hideZ_nil _ 0) (fun K60 hK60 => ?_)
                simp (maxSteps := 999999) (disch := omega) only [av1, av2, av3, eq_self, exists_const, forall_const, implies_true, storeOk, AS.gd, PK.more, PK.cond, PK.val, AV.get, CV.get, AV.ok, CV.ok, AV.off, CV.off, AV.set, CV.set, AV.fits, CV.fits, AV.size, AV.agg, CV.agg, AV.solid, AV.int?, AV.bool?, binOk, AV.els, CV.isByte, Sh.agg, Sh.fits, Sh.fitsL, Sh.fitsR, CV.eqv, CV.eqvs, AV.closed, rsAV, thenQ, AObj.lt, CV.numOf, Nat.reduceAdd, Nat.reduceLT, Nat.reduceMul, reduceCtorEq, ↓reduceIte, Nat.reduceEqDiff, Nat.reduceLeDiff, Nat.reduceSub, Nat.reduceBEq, Nat.reduceBNe, Int.reduceLT, Int.reduceEq, Int.reduceAdd, Int.reduceToNat, Int.reduceLE, Int.reduceBEq, Int.reduceBNe, enc1, cChan, cCSt, eqTy_Sum, toOut]
                (repeat ((with_reducible refine And.intro ?_ ?_); (first | trivial | assumption | omega | (simp; done))))
                refine hK60 _ ?_
                (try clear hK60)
                refine ag_done (by kernel_rfl) ?_
                (try simp only [thenQ])
                refine hK47 _ ?_
                (try clear hK47)
                refine at_ret ?_
                simp (maxSteps := 999999) (disch := omega) only [av1, av2, av3, eq_self, exists_const, forall_const, implies_true, storeOk, AS.gd, PK.more, PK.cond, PK.val, AV.get, CV.get, AV.ok, CV.ok, AV.off, CV.off, AV.set, CV.set, AV.fits, CV.fits, AV.size, AV.agg, CV.agg, AV.solid, AV.int?, AV.bool?, binOk, AV.els, CV.isByte, Sh.agg, Sh.fits, Sh.fitsL, Sh.fitsR, CV.eqv, CV.eqvs, AV.closed, rsAV, thenQ, AObj.lt, CV.numOf, Nat.reduceAdd, Nat.reduceLT, Nat.reduceMul, reduceCtorEq, ↓reduceIte, Nat.reduceEqDiff, Nat.reduceLeDiff, Nat.reduceSub, Nat.reduceBEq, Nat.reduceBNe, Int.reduceLT, Int.reduceEq, Int.reduceAdd, Int.reduceToNat, Int.reduceLE, Int.reduceBEq, Int.reduceBNe, enc1, cChan, cCSt, eqTy_Sum, toOut, blockQ, retQ, RetOk, ResOk, AV.fin, AV.fins, CV.le, CV.les]
                first
                  | (obtain ⟨e1, e2⟩ := build_bad (o := 1) h6; simp [e1, e2, zTxx, zOpx] <;> rfl)
                  | (obtain ⟨e1, e2⟩ := build_ok (o := 1) h6; simp [e1, e2, comOf, comTx, zOpx, cInp, cOut, cWay, cRef, cSum, ints, ic, toOut, CV.les, CV.le] <;> rfl)
              · refine agi (it := It.mk (some 67) none (IK.lit 2 [Operand.tmp 63, Operand.tmp 66])) (R' := [2, 1, 0]) (by kernel_rfl) (.inl rfl) (by kernel_rfl) (fun K61 hK61 => ?_)
                simp (maxSteps := 999999) (disch := omega) only [av1, av2, av3, eq_self, exists_const, forall_const, implies_true, storeOk, AS.gd, PK.more, PK.cond, PK.val, AV.get, CV.get, AV.ok, CV.ok, AV.off, CV.off, AV.set, CV.set, AV.fits, CV.fits, AV.size, AV.agg, CV.agg, AV.solid, AV.int?, AV.bool?, binOk, AV.els, CV.isByte, Sh.agg, Sh.fits, Sh.fitsL, Sh.fitsR, CV.eqv, CV.eqvs, AV.closed, rsAV, thenQ, AObj.lt, CV.numOf, Nat.reduceAdd, Nat.reduceLT, Nat.reduceMul, reduceCtorEq, ↓reduceIte, Nat.reduceEqDiff, Nat.reduceLeDiff, Nat.reduceSub, Nat.reduceBEq, Nat.reduceBNe, Int.reduceLT, Int.reduceEq, Int.reduceAdd, Int.reduceToNat, Int.reduceLE, Int.reduceBEq, Int.reduceBNe, enc1, cChan, cCSt, eqTy_Sum, toOut]
                (repeat ((with_reducible refine And.intro ?_ ?_); (first | trivial | assumption | omega | (simp; done))))
                refine hK61 _ ?_
                (try clear hK61)
                refine ag_one (i := 3) (by kernel_rfl) ?_
                refine agi (it := It.mk (some 62) none (IK.lit 35 [Operand.tmp 61])) (R' := []) (by kernel_rfl) (.inl rfl) (by kernel_rfl) (fun K62 hK62 => ?_)
                simp (maxSteps := 999999) (disch := omega) only [av1, av2, av3, eq_self, exists_const, forall_const, implies_true, storeOk, AS.gd, PK.more, PK.cond, PK.val, AV.get, CV.get, AV.ok, CV.ok, AV.off, CV.off, AV.set, CV.set, AV.fits, CV.fits, AV.size, AV.agg, CV.agg, AV.solid, AV.int?, AV.bool?, binOk, AV.els, CV.isByte, Sh.agg, Sh.fits, Sh.fitsL, Sh.fitsR, CV.eqv, CV.eqvs, AV.closed, rsAV, thenQ, AObj.lt, CV.numOf, Nat.reduceAdd, Nat.reduceLT, Nat.reduceMul, reduceCtorEq, ↓reduceIte, Nat.reduceEqDiff, Nat.reduceLeDiff, Nat.reduceSub, Nat.reduceBEq, Nat.reduceBNe, Int.reduceLT, Int.reduceEq, Int.reduceAdd, Int.reduceToNat, Int.reduceLE, Int.reduceBEq, Int.reduceBNe, enc1, cChan, cCSt, eqTy_Sum, toOut]
                (repeat ((with_reducible refine And.intro ?_ ?_); (first | trivial | assumption | omega | (simp; done))))
                refine hK62 _ ?_
                (try clear hK62)
                refine ag_pures (fuel := 2) [9] [It.mk (some 68) none (IK.p (PK.bld (CV.st [CV.pv (Value.slice none 0 0), CV.pv (Value.slice none 0 0), CV.st [CV.pv (Value.int IntKind.i64 0), CV.pv (Value.int IntKind.i64 0), CV.pv (Value.int IntKind.i64 0), CV.pv (Value.int IntKind.i64 0), CV.ar IntKind.u8 32 (List.replicate 32 0), CV.pv (Value.slice none 0 0)], CV.pv (Value.slice none 0 0)]) [(0, 1), (1, 1), (2, 37), (39, 1)] [(0, Operand.tmp 62), (1, Operand.tmp 67)]))] (by kernel_rfl) (by kernel_rfl) (by kernel_rfl) (by kernel_rfl) (hideZ_nil _ 0) (fun K63 hK63 => ?_)
                simp (maxSteps := 999999) (disch := omega) only [av1, av2, av3, eq_self, exists_const, forall_const, implies_true, storeOk, AS.gd, PK.more, PK.cond, PK.val, AV.get, CV.get, AV.ok, CV.ok, AV.off, CV.off, AV.set, CV.set, AV.fits, CV.fits, AV.size, AV.agg, CV.agg, AV.solid, AV.int?, AV.bool?, binOk, AV.els, CV.isByte, Sh.agg, Sh.fits, Sh.fitsL, Sh.fitsR, CV.eqv, CV.eqvs, AV.closed, rsAV, thenQ, AObj.lt, CV.numOf, Nat.reduceAdd, Nat.reduceLT, Nat.reduceMul, reduceCtorEq, ↓reduceIte, Nat.reduceEqDiff, Nat.reduceLeDiff, Nat.reduceSub, Nat.reduceBEq, Nat.reduceBNe, Int.reduceLT, Int.reduceEq, Int.reduceAdd, Int.reduceToNat, Int.reduceLE, Int.reduceBEq, Int.reduceBNe, enc1, cChan, cCSt, eqTy_Sum, toOut]
                (repeat ((with_reducible refine And.intro ?_ ?_); (first | trivial | assumption | omega | (simp; done))))
                refine hK63 _ ?_
                (try clear hK63)
                refine ag_one (i := 10) (by kernel_rfl) ?_
                refine agi (it := It.mk none none (IK.store (Operand.tmp 6) (Operand.tmp 68) 40)) (R' := []) (by kernel_rfl) (.inr (by kernel_rfl)) (by kernel_rfl) (fun K64 hK64 => ?_)
                simp (maxSteps := 999999) (disch := omega) only [av1, av2, av3, eq_self, exists_const, forall_const, implies_true, storeOk, AS.gd, PK.more, PK.cond, PK.val, AV.get, CV.get, AV.ok, CV.ok, AV.off, CV.off, AV.set, CV.set, AV.fits, CV.fits, AV.size, AV.agg, CV.agg, AV.solid, AV.int?, AV.bool?, binOk, AV.els, CV.isByte, Sh.agg, Sh.fits, Sh.fitsL, Sh.fitsR, CV.eqv, CV.eqvs, AV.closed, rsAV, thenQ, AObj.lt, CV.numOf, Nat.reduceAdd, Nat.reduceLT, Nat.reduceMul, reduceCtorEq, ↓reduceIte, Nat.reduceEqDiff, Nat.reduceLeDiff, Nat.reduceSub, Nat.reduceBEq, Nat.reduceBNe, Int.reduceLT, Int.reduceEq, Int.reduceAdd, Int.reduceToNat, Int.reduceLE, Int.reduceBEq, Int.reduceBNe, enc1, cChan, cCSt, eqTy_Sum, toOut]
                (repeat ((with_reducible refine And.intro ?_ ?_); (first | trivial | assumption | omega | (simp; done))))
                refine hK64 _ ?_
                (try clear hK64)
                refine ag_pures (fuel := 0) [11] [It.mk (some 7) none (IK.p (PK.mov (Operand.const (Value.int IntKind.i64 0))))] (by kernel_rfl) (by kernel_rfl) (by kernel_rfl) (by kernel_rfl) (hideZ_nil _ 0) (fun K65 hK65 => ?_)
                simp (maxSteps := 999999) (disch := omega) only [av1, av2, av3, eq_self, exists_const, forall_const, implies_true, storeOk, AS.gd, PK.more, PK.cond, PK.val, AV.get, CV.get, AV.ok, CV.ok, AV.off, CV.off, AV.set, CV.set, AV.fits, CV.fits, AV.size, AV.agg, CV.agg, AV.solid, AV.int?, AV.bool?, binOk, AV.els, CV.isByte, Sh.agg, Sh.fits, Sh.fitsL, Sh.fitsR, CV.eqv, CV.eqvs, AV.closed, rsAV, thenQ, AObj.lt, CV.numOf, Nat.reduceAdd, Nat.reduceLT, Nat.reduceMul, reduceCtorEq, ↓reduceIte, Nat.reduceEqDiff, Nat.reduceLeDiff, Nat.reduceSub, Nat.reduceBEq, Nat.reduceBNe, Int.reduceLT, Int.reduceEq, Int.reduceAdd, Int.reduceToNat, Int.reduceLE, Int.reduceBEq, Int.reduceBNe, enc1, cChan, cCSt, eqTy_Sum, toOut]
                (repeat ((with_reducible refine And.intro ?_ ?_); (first | trivial | assumption | omega | (simp; done))))
                refine hK65 _ ?_
                (try clear hK65)
                refine ag_done (by kernel_rfl) ?_
                (try simp only [thenQ])
                refine hK47 _ ?_
                (try clear hK47)
                refine at_ret ?_
                simp (maxSteps := 999999) (disch := omega) only [av1, av2, av3, eq_self, exists_const, forall_const, implies_true, storeOk, AS.gd, PK.more, PK.cond, PK.val, AV.get, CV.get, AV.ok, CV.ok, AV.off, CV.off, AV.set, CV.set, AV.fits, CV.fits, AV.size, AV.agg, CV.agg, AV.solid, AV.int?, AV.bool?, binOk, AV.els, CV.isByte, Sh.agg, Sh.fits, Sh.fitsL, Sh.fitsR, CV.eqv, CV.eqvs, AV.closed, rsAV, thenQ, AObj.lt, CV.numOf, Nat.reduceAdd, Nat.reduceLT, Nat.reduceMul, reduceCtorEq, ↓reduceIte, Nat.reduceEqDiff, Nat.reduceLeDiff, Nat.reduceSub, Nat.reduceBEq, Nat.reduceBNe, Int.reduceLT, Int.reduceEq, Int.reduceAdd, Int.reduceToNat, Int.reduceLE, Int.reduceBEq, Int.reduceBNe, enc1, cChan, cCSt, eqTy_Sum, toOut, blockQ, retQ, RetOk, ResOk, AV.fin, AV.fins, CV.le, CV.les]
                first
                  | (obtain ⟨e1, e2⟩ := build_bad (o := 1) h6; simp [e1, e2, zTxx, zOpx] <;> rfl)
                  | (obtain ⟨e1, e2⟩ := build_ok (o := 1) h6; simp [e1, e2, comOf, comTx, zOpx, cInp, cOut, cWay, cRef, cSum, ints, ic, toOut, CV.les, CV.le] <;> rfl)
        · refine agi (it := It.mk (some 12) none (IK.alloc (CV.st [CV.pv (Value.int IntKind.i64 0), CV.pv (Value.slice none 0 0)]))) (R' := [5, 11, 10, 9, 8, 6, 4, 3, 0]) (by kernel_rfl) (.inl rfl) (by kernel_rfl) (fun K66 hK66 => ?_)
          simp (maxSteps := 999999) (disch := omega) only [av1, av2, av3, eq_self, exists_const, forall_const, implies_true, storeOk, AS.gd, PK.more, PK.cond, PK.val, AV.get, CV.get, AV.ok, CV.ok, AV.off, CV.off, AV.set, CV.set, AV.fits, CV.fits, AV.size, AV.agg, CV.agg, AV.solid, AV.int?, AV.bool?, binOk, AV.els, CV.isByte, Sh.agg, Sh.fits, Sh.fitsL, Sh.fitsR, CV.eqv, CV.eqvs, AV.closed, rsAV, thenQ, AObj.lt, CV.numOf, Nat.reduceAdd, Nat.reduceLT, Nat.reduceMul, reduceCtorEq, ↓reduceIte, Nat.reduceEqDiff, Nat.reduceLeDiff, Nat.reduceSub, Nat.reduceBEq, Nat.reduceBNe, Int.reduceLT, Int.reduceEq, Int.reduceAdd, Int.reduceToNat, Int.reduceLE, Int.reduceBEq, Int.reduceBNe, enc1, cChan, cCSt, eqTy_Sum, toOut]
          (repeat ((with_reducible refine And.intro ?_ ?_); (first | trivial | assumption | omega | (simp; done))))
          refine hK66 _ ?_
          (try clear hK66)
          refine ag_one (i := 7) (by kernel_rfl) ?_
          refine agi (it := It.mk (some 51) none (IK.lit 1 [Operand.tmp 50])) (R' := [5, 11, 10, 9, 8, 4, 3, 0]) (by kernel_rfl) (.inl rfl) (by kernel_rfl) (fun K67 hK67 => ?_)
          simp (maxSteps := 999999) (disch := omega) only [av1, av2, av3, eq_self, exists_const, forall_const, implies_true, storeOk, AS.gd, PK.more, PK.cond, PK.val, AV.get, CV.get, AV.ok, CV.ok, AV.off, CV.off, AV.set, CV.set, AV.fits, CV.fits, AV.size, AV.agg, CV.agg, AV.solid, AV.int?, AV.bool?, binOk, AV.els, CV.isByte, Sh.agg, Sh.fits, Sh.fitsL, Sh.fitsR, CV.eqv, CV.eqvs, AV.closed, rsAV, thenQ, AObj.lt, CV.numOf, Nat.reduceAdd, Nat.reduceLT, Nat.reduceMul, reduceCtorEq, ↓reduceIte, Nat.reduceEqDiff, Nat.reduceLeDiff, Nat.reduceSub, Nat.reduceBEq, Nat.reduceBNe, Int.reduceLT, Int.reduceEq, Int.reduceAdd, Int.reduceToNat, Int.reduceLE, Int.reduceBEq, Int.reduceBNe, enc1, cChan, cCSt, eqTy_Sum, toOut]
          (repeat ((with_reducible refine And.intro ?_ ?_); (first | trivial | assumption | omega | (simp; done))))
          refine hK67 _ ?_
          (try clear hK67)
          refine ag_pures (fuel := 3) [12] [It.mk (some 56) none (IK.p (PK.bld (CV.st [CV.pv (Value.slice none 0 0), CV.ar IntKind.u8 32 (List.replicate 32 0), CV.pv (Value.int IntKind.i64 0), CV.pv (Value.int IntKind.i64 0)]) [(0, 1), (1, 32), (33, 1), (34, 1)] [(0, Operand.tmp 51), (1, Operand.tmp 55)]))] (by kernel_rfl) (by kernel_rfl) (by kernel_rfl) (by kernel_rfl) (hideZ_nil _ 0) (fun K68 hK68 => ?_)
          simp (maxSteps := 999999) (disch := omega) only [av1, av2, av3, eq_self, exists_const, forall_const, implies_true, storeOk, AS.gd, PK.more, PK.cond, PK.val, AV.get, CV.get, AV.ok, CV.ok, AV.off, CV.off, AV.set, CV.set, AV.fits, CV.fits, AV.size, AV.agg, CV.agg, AV.solid, AV.int?, AV.bool?, binOk, AV.els, CV.isByte, Sh.agg, Sh.fits, Sh.fitsL, Sh.fitsR, CV.eqv, CV.eqvs, AV.closed, rsAV, thenQ, AObj.lt, CV.numOf, Nat.reduceAdd, Nat.reduceLT, Nat.reduceMul, reduceCtorEq, ↓reduceIte, Nat.reduceEqDiff, Nat.reduceLeDiff, Nat.reduceSub, Nat.reduceBEq, Nat.reduceBNe, Int.reduceLT, Int.reduceEq, Int.reduceAdd, Int.reduceToNat, Int.reduceLE, Int.reduceBEq, Int.reduceBNe, enc1, cChan, cCSt, eqTy_Sum, toOut]
          (repeat ((with_reducible refine And.intro ?_ ?_); (first | trivial | assumption | omega | (simp; done))))
          refine hK68 _ ?_
          (try clear hK68)
          refine ag_one (i := 13) (by kernel_rfl) ?_
          refine agi (it := It.mk (some 57) none (IK.lit 35 [Operand.tmp 49, Operand.tmp 56])) (R' := [0]) (by kernel_rfl) (.inl rfl) (by kernel_rfl) (fun K69 hK69 => ?_)
          simp (maxSteps := 999999) (disch := omega) only [av1, av2, av3, eq_self, exists_const, forall_const, implies_true, storeOk, AS.gd, PK.more, PK.cond, PK.val, AV.get, CV.get, AV.ok, CV.ok, AV.off, CV.off, AV.set, CV.set, AV.fits, CV.fits, AV.size, AV.agg, CV.agg, AV.solid, AV.int?, AV.bool?, binOk, AV.els, CV.isByte, Sh.agg, Sh.fits, Sh.fitsL, Sh.fitsR, CV.eqv, CV.eqvs, AV.closed, rsAV, thenQ, AObj.lt, CV.numOf, Nat.reduceAdd, Nat.reduceLT, Nat.reduceMul, reduceCtorEq, ↓reduceIte, Nat.reduceEqDiff, Nat.reduceLeDiff, Nat.reduceSub, Nat.reduceBEq, Nat.reduceBNe, Int.reduceLT, Int.reduceEq, Int.reduceAdd, Int.reduceToNat, Int.reduceLE, Int.reduceBEq, Int.reduceBNe, enc1, cChan, cCSt, eqTy_Sum, toOut]
          (repeat ((with_reducible refine And.intro ?_ ?_); (first | trivial | assumption | omega | (simp; done))))
          refine hK69 _ ?_
          (try clear hK69)
          refine ag_pures (fuel := 1) [14] [It.mk (some 58) none (IK.p (PK.bld (CV.st [CV.pv (Value.int IntKind.i64 0), CV.pv (Value.slice none 0 0)]) [(0, 1), (1, 1)] [(0, Operand.tmp 44), (1, Operand.tmp 57)]))] (by kernel_rfl) (by kernel_rfl) (by kernel_rfl) (by kernel_rfl) (hideZ_nil _ 0) (fun K70 hK70 => ?_)
          simp (maxSteps := 999999) (disch := omega) only [av1, av2, av3, eq_self, exists_const, forall_const, implies_true, storeOk, AS.gd, PK.more, PK.cond, PK.val, AV.get, CV.get, AV.ok, CV.ok, AV.off, CV.off, AV.set, CV.set, AV.fits, CV.fits, AV.size, AV.agg, CV.agg, AV.solid, AV.int?, AV.bool?, binOk, AV.els, CV.isByte, Sh.agg, Sh.fits, Sh.fitsL, Sh.fitsR, CV.eqv, CV.eqvs, AV.closed, rsAV, thenQ, AObj.lt, CV.numOf, Nat.reduceAdd, Nat.reduceLT, Nat.reduceMul, reduceCtorEq, ↓reduceIte, Nat.reduceEqDiff, Nat.reduceLeDiff, Nat.reduceSub, Nat.reduceBEq, Nat.reduceBNe, Int.reduceLT, Int.reduceEq, Int.reduceAdd, Int.reduceToNat, Int.reduceLE, Int.reduceBEq, Int.reduceBNe, enc1, cChan, cCSt, eqTy_Sum, toOut]
          (repeat ((with_reducible refine And.intro ?_ ?_); (first | trivial | assumption | omega | (simp; done))))
          refine hK70 _ ?_
          (try clear hK70)
          refine ag_one (i := 16) (by kernel_rfl) ?_
          refine agi (it := It.mk none none (IK.store (Operand.tmp 12) (Operand.tmp 58) 2)) (R' := []) (by kernel_rfl) (.inr (by kernel_rfl)) (by kernel_rfl) (fun K71 hK71 => ?_)
          simp (maxSteps := 999999) (disch := omega) only [av1, av2, av3, eq_self, exists_const, forall_const, implies_true, storeOk, AS.gd, PK.more, PK.cond, PK.val, AV.get, CV.get, AV.ok, CV.ok, AV.off, CV.off, AV.set, CV.set, AV.fits, CV.fits, AV.size, AV.agg, CV.agg, AV.solid, AV.int?, AV.bool?, binOk, AV.els, CV.isByte, Sh.agg, Sh.fits, Sh.fitsL, Sh.fitsR, CV.eqv, CV.eqvs, AV.closed, rsAV, thenQ, AObj.lt, CV.numOf, Nat.reduceAdd, Nat.reduceLT, Nat.reduceMul, reduceCtorEq, ↓reduceIte, Nat.reduceEqDiff, Nat.reduceLeDiff, Nat.reduceSub, Nat.reduceBEq, Nat.reduceBNe, Int.reduceLT, Int.reduceEq, Int.reduceAdd, Int.reduceToNat, Int.reduceLE, Int.reduceBEq, Int.reduceBNe, enc1, cChan, cCSt, eqTy_Sum, toOut]
          (repeat ((with_reducible refine And.intro ?_ ?_); (first | trivial | assumption | omega | (simp; done))))
          refine hK71 _ ?_
          (try clear hK71)
          refine ag_done (by kernel_rfl) ?_
          (try simp only [thenQ])
          refine hK14 _ ?_
          (try clear hK14)
          refine at_seq fun K72 hK72 => ?_
          refine at_draws [] (by kernel_rfl) ?_
          refine ag_pures (fuel := 6) [0, 1, 2, 4, 5, 6] [It.mk (some 59) none (IK.p (PK.fAddr (Operand.tmp 3) 3 3)), It.mk (some 60) none (IK.p (PK.load (Operand.tmp 59) 33 true)), It.mk (some 61) none (IK.p (PK.bld (CV.st [CV.st [CV.ar IntKind.u8 32 (List.replicate 32 0), CV.pv (Value.int IntKind.i64 0)], CV.pv (Value.int IntKind.i64 0), CV.pv (Value.slice none 0 0)]) [(0, 33), (33, 1), (34, 1)] [(0, Operand.tmp 60)])), It.mk (some 63) none (IK.p (PK.load (Operand.tmp 12) 2 true)), It.mk (some 64) none (IK.p (PK.mov (Operand.tmp 9))), It.mk (some 65) none (IK.p (PK.mov (Operand.tmp 11)))] (by kernel_rfl) (by kernel_rfl) (by kernel_rfl) (by kernel_rfl) (hideZ_nil _ 0) (fun K73 hK73 => ?_)
          simp (maxSteps := 999999) (disch := omega) only [av1, av2, av3, eq_self, exists_const, forall_const, implies_true, storeOk, AS.gd, PK.more, PK.cond, PK.val, AV.get, CV.get, AV.ok, CV.ok, AV.off, CV.off, AV.set, CV.set, AV.fits, CV.fits, AV.size, AV.agg, CV.agg, AV.solid, AV.int?, AV.bool?, binOk, AV.els, CV.isByte, Sh.agg, Sh.fits, Sh.fitsL, Sh.fitsR, CV.eqv, CV.eqvs, AV.closed, rsAV, thenQ, AObj.lt, CV.numOf, Nat.reduceAdd, Nat.reduceLT, Nat.reduceMul, reduceCtorEq, ↓reduceIte, Nat.reduceEqDiff, Nat.reduceLeDiff, Nat.reduceSub, Nat.reduceBEq, Nat.reduceBNe, Int.reduceLT, Int.reduceEq, Int.reduceAdd, Int.reduceToNat, Int.reduceLE, Int.reduceBEq, Int.reduceBNe, enc1, cChan, cCSt, eqTy_Sum, toOut]
          (repeat ((with_reducible refine And.intro ?_ ?_); (first | trivial | assumption | omega | (simp; done))))
          refine hK73 _ ?_
          (try clear hK73)
          refine ag_two (i := 3) (j := 7) (by kernel_rfl) ?_ ?_
          · refine agi (it := It.mk (some 62) none (IK.lit 35 [Operand.tmp 61])) (R' := [6, 5, 4]) (by kernel_rfl) (.inl rfl) (by kernel_rfl) (fun K74 hK74 => ?_)
            simp (maxSteps := 999999) (disch := omega) only [av1, av2, av3, eq_self, exists_const, forall_const, implies_true, storeOk, AS.gd, PK.more, PK.cond, PK.val, AV.get, CV.get, AV.ok, CV.ok, AV.off, CV.off, AV.set, CV.set, AV.fits, CV.fits, AV.size, AV.agg, CV.agg, AV.solid, AV.int?, AV.bool?, binOk, AV.els, CV.isByte, Sh.agg, Sh.fits, Sh.fitsL, Sh.fitsR, CV.eqv, CV.eqvs, AV.closed, rsAV, thenQ, AObj.lt, CV.numOf, Nat.reduceAdd, Nat.reduceLT, Nat.reduceMul, reduceCtorEq, ↓reduceIte, Nat.reduceEqDiff, Nat.reduceLeDiff, Nat.reduceSub, Nat.reduceBEq, Nat.reduceBNe, Int.reduceLT, Int.reduceEq, Int.reduceAdd, Int.reduceToNat, Int.reduceLE, Int.reduceBEq, Int.reduceBNe, enc1, cChan, cCSt, eqTy_Sum, toOut]
            (repeat ((with_reducible refine And.intro ?_ ?_); (first | trivial | assumption | omega | (simp; done))))
            refine hK74 _ ?_
            (try clear hK74)
            refine ag_one (i := 7) (by kernel_rfl) ?_
            refine agi (it := It.mk (some 66) none (IK.call 23 [Operand.tmp 64, Operand.tmp 65])) (R' := [4]) (by kernel_rfl) (.inl rfl) (by kernel_rfl) (fun K75 hK75 => ?_)
            simp (maxSteps := 999999) (disch := omega) only [av1, av2, av3, eq_self, exists_const, forall_const, implies_true, storeOk, AS.gd, PK.more, PK.cond, PK.val, AV.get, CV.get, AV.ok, CV.ok, AV.off, CV.off, AV.set, CV.set, AV.fits, CV.fits, AV.size, AV.agg, CV.agg, AV.solid, AV.int?, AV.bool?, binOk, AV.els, CV.isByte, Sh.agg, Sh.fits, Sh.fitsL, Sh.fitsR, CV.eqv, CV.eqvs, AV.closed, rsAV, thenQ, AObj.lt, CV.numOf, Nat.reduceAdd, Nat.reduceLT, Nat.reduceMul, reduceCtorEq, ↓reduceIte, Nat.reduceEqDiff, Nat.reduceLeDiff, Nat.reduceSub, Nat.reduceBEq, Nat.reduceBNe, Int.reduceLT, Int.reduceEq, Int.reduceAdd, Int.reduceToNat, Int.reduceLE, Int.reduceBEq, Int.reduceBNe, enc1, cChan, cCSt, eqTy_Sum, toOut]
            apply Exists.intro
            apply And.intro
            · first | exact (lockTo_ap _ _) | exact (fun _ => (lockTo_ap _ _)) | exact (fun h => ⟨h, (lockTo_ap _ _)⟩) | exact (fun h => ⟨by simp_all, (lockTo_ap _ _)⟩)
            (try simp only [rsAV, List.map_cons, List.map_nil, thenQ])
            refine hK75 _ ?_
            (try clear hK75)
            refine ag_one (i := 8) (by kernel_rfl) ?_
            refine agi (it := It.mk (some 67) none (IK.lit 2 [Operand.tmp 63, Operand.tmp 66])) (R' := []) (by kernel_rfl) (.inl rfl) (by kernel_rfl) (fun K76 hK76 => ?_)
            simp (maxSteps := 999999) (disch := omega) only [av1, av2, av3, eq_self, exists_const, forall_const, implies_true, storeOk, AS.gd, PK.more, PK.cond, PK.val, AV.get, CV.get, AV.ok, CV.ok, AV.off, CV.off, AV.set, CV.set, AV.fits, CV.fits, AV.size, AV.agg, CV.agg, AV.solid, AV.int?, AV.bool?, binOk, AV.els, CV.isByte, Sh.agg, Sh.fits, Sh.fitsL, Sh.fitsR, CV.eqv, CV.eqvs, AV.closed, rsAV, thenQ, AObj.lt, CV.numOf, Nat.reduceAdd, Nat.reduceLT, Nat.reduceMul, reduceCtorEq, ↓reduceIte, Nat.reduceEqDiff, Nat.reduceLeDiff, Nat.reduceSub, Nat.reduceBEq, Nat.reduceBNe, Int.reduceLT, Int.reduceEq, Int.reduceAdd, Int.reduceToNat, Int.reduceLE, Int.reduceBEq, Int.reduceBNe, enc1, cChan, cCSt, eqTy_Sum, toOut]
            (repeat ((with_reducible refine And.intro ?_ ?_); (first | trivial | assumption | omega | (simp; done))))
            refine hK76 _ ?_
            (try clear hK76)
            refine ag_pures (fuel := 2) [9] [It.mk (some 68) none (IK.p (PK.bld (CV.st [CV.pv (Value.slice none 0 0), CV.pv (Value.slice none 0 0), CV.st [CV.pv (Value.int IntKind.i64 0), CV.pv (Value.int IntKind.i64 0), CV.pv (Value.int IntKind.i64 0), CV.pv (Value.int IntKind.i64 0), CV.ar IntKind.u8 32 (List.replicate 32 0), CV.pv (Value.slice none 0 0)], CV.pv (Value.slice none 0 0)]) [(0, 1), (1, 1), (2, 37), (39, 1)] [(0, Operand.tmp 62), (1, Operand.tmp 67)]))] (by kernel_rfl) (by kernel_rfl) (by kernel_rfl) (by kernel_rfl) (hideZ_nil _ 0) (fun K77 hK77 => ?_)
            simp (maxSteps := 999999) (disch := omega) only [av1, av2, av3, eq_self, exists_const, forall_const, implies_true, storeOk, AS.gd, PK.more, PK.cond, PK.val, AV.get, CV.get, AV.ok, CV.ok, AV.off, CV.off, AV.set, CV.set, AV.fits, CV.fits, AV.size, AV.agg, CV.agg, AV.solid, AV.int?, AV.bool?, binOk, AV.els, CV.isByte, Sh.agg, Sh.fits, Sh.fitsL, Sh.fitsR, CV.eqv, CV.eqvs, AV.closed, rsAV, thenQ, AObj.lt, CV.numOf, Nat.reduceAdd, Nat.reduceLT, Nat.reduceMul, reduceCtorEq, ↓reduceIte, Nat.reduceEqDiff, Nat.reduceLeDiff, Nat.reduceSub, Nat.reduceBEq, Nat.reduceBNe, Int.reduceLT, Int.reduceEq, Int.reduceAdd, Int.reduceToNat, Int.reduceLE, Int.reduceBEq, Int.reduceBNe, enc1, cChan, cCSt, eqTy_Sum, toOut]
            (repeat ((with_reducible refine And.intro ?_ ?_); (first | trivial | assumption | omega | (simp; done))))
            refine hK77 _ ?_
            (try clear hK77)
            refine ag_one (i := 10) (by kernel_rfl) ?_
            refine agi (it := It.mk none none (IK.store (Operand.tmp 6) (Operand.tmp 68) 40)) (R' := []) (by kernel_rfl) (.inr (by kernel_rfl)) (by kernel_rfl) (fun K78 hK78 => ?_)
            simp (maxSteps := 999999) (disch := omega) only [av1, av2, av3, eq_self, exists_const, forall_const, implies_true, storeOk, AS.gd, PK.more, PK.cond, PK.val, AV.get, CV.get, AV.ok, CV.ok, AV.off, CV.off, AV.set, CV.set, AV.fits, CV.fits, AV.size, AV.agg, CV.agg, AV.solid, AV.int?, AV.bool?, binOk, AV.els, CV.isByte, Sh.agg, Sh.fits, Sh.fitsL, Sh.fitsR, CV.eqv, CV.eqvs, AV.closed, rsAV, thenQ, AObj.lt, CV.numOf, Nat.reduceAdd, Nat.reduceLT, Nat.reduceMul, reduceCtorEq, ↓reduceIte, Nat.reduceEqDiff, Nat.reduceLeDiff, Nat.reduceSub, Nat.reduceBEq, Nat.reduceBNe, Int.reduceLT, Int.reduceEq, Int.reduceAdd, Int.reduceToNat, Int.reduceLE, Int.reduceBEq, Int.reduceBNe, enc1, cChan, cCSt, eqTy_Sum, toOut]
            (repeat ((with_reducible refine And.intro ?_ ?_); (first | trivial | assumption | omega | (simp; done))))
            refine hK78 _ ?_
            (try clear hK78)
            refine ag_pures (fuel := 0) [11] [It.mk (some 7) none (IK.p (PK.mov (Operand.const (Value.int IntKind.i64 0))))] (by kernel_rfl) (by kernel_rfl) (by kernel_rfl) (by kernel_rfl) (hideZ_nil _ 0) (fun K79 hK79 => ?_)
            simp (maxSteps := 999999) (disch := omega) only [av1, av2, av3, eq_self, exists_const, forall_const, implies_true, storeOk, AS.gd, PK.more, PK.cond, PK.val, AV.get, CV.get, AV.ok, CV.ok, AV.off, CV.off, AV.set, CV.set, AV.fits, CV.fits, AV.size, AV.agg, CV.agg, AV.solid, AV.int?, AV.bool?, binOk, AV.els, CV.isByte, Sh.agg, Sh.fits, Sh.fitsL, Sh.fitsR, CV.eqv, CV.eqvs, AV.closed, rsAV, thenQ, AObj.lt, CV.numOf, Nat.reduceAdd, Nat.reduceLT, Nat.reduceMul, reduceCtorEq, ↓reduceIte, Nat.reduceEqDiff, Nat.reduceLeDiff, Nat.reduceSub, Nat.reduceBEq, Nat.reduceBNe, Int.reduceLT, Int.reduceEq, Int.reduceAdd, Int.reduceToNat, Int.reduceLE, Int.reduceBEq, Int.reduceBNe, enc1, cChan, cCSt, eqTy_Sum, toOut]
            (repeat ((with_reducible refine And.intro ?_ ?_); (first | trivial | assumption | omega | (simp; done))))
            refine hK79 _ ?_
            (try clear hK79)
            refine ag_done (by kernel_rfl) ?_
            (try simp only [thenQ])
            refine hK72 _ ?_
            (try clear hK72)
            refine at_ret ?_
            simp (maxSteps := 999999) (disch := omega) only [av1, av2, av3, eq_self, exists_const, forall_const, implies_true, storeOk, AS.gd, PK.more, PK.cond, PK.val, AV.get, CV.get, AV.ok, CV.ok, AV.off, CV.off, AV.set, CV.set, AV.fits, CV.fits, AV.size, AV.agg, CV.agg, AV.solid, AV.int?, AV.bool?, binOk, AV.els, CV.isByte, Sh.agg, Sh.fits, Sh.fitsL, Sh.fitsR, CV.eqv, CV.eqvs, AV.closed, rsAV, thenQ, AObj.lt, CV.numOf, Nat.reduceAdd, Nat.reduceLT, Nat.reduceMul, reduceCtorEq, ↓reduceIte, Nat.reduceEqDiff, Nat.reduceLeDiff, Nat.reduceSub, Nat.reduceBEq, Nat.reduceBNe, Int.reduceLT, Int.reduceEq, Int.reduceAdd, Int.reduceToNat, Int.reduceLE, Int.reduceBEq, Int.reduceBNe, enc1, cChan, cCSt, eqTy_Sum, toOut, blockQ, retQ, RetOk, ResOk, AV.fin, AV.fins, CV.le, CV.les]
            first
              | (obtain ⟨e1, e2⟩ := build_bad (o := 1) h6; simp [e1, e2, zTxx, zOpx] <;> rfl)
              | (obtain ⟨e1, e2⟩ := build_ok (o := 1) h6; simp [e1, e2, comOf, comTx, zOpx, cInp, cOut, cWay, cRef, cSum, ints, ic, toOut, CV.les, CV.le] <;> rfl)
          · refine agi (it := It.mk (some 66) none (IK.call 23 [Operand.tmp 64, Operand.tmp 65])) (R' := [4, 2, 1, 0]) (by kernel_rfl) (.inl rfl) (by kernel_rfl) (fun K80 hK80 => ?_)
            simp (maxSteps := 999999) (disch := omega) only [av1, av2, av3, eq_self, exists_const, forall_const, implies_true, storeOk, AS.gd, PK.more, PK.cond, PK.val, AV.get, CV.get, AV.ok, CV.ok, AV.off, CV.off, AV.set, CV.set, AV.fits, CV.fits, AV.size, AV.agg, CV.agg, AV.solid, AV.int?, AV.bool?, binOk, AV.els, CV.isByte, Sh.agg, Sh.fits, Sh.fitsL, Sh.fitsR, CV.eqv, CV.eqvs, AV.closed, rsAV, thenQ, AObj.lt, CV.numOf, Nat.reduceAdd, Nat.reduceLT, Nat.reduceMul, reduceCtorEq, ↓reduceIte, Nat.reduceEqDiff, Nat.reduceLeDiff, Nat.reduceSub, Nat.reduceBEq, Nat.reduceBNe, Int.reduceLT, Int.reduceEq, Int.reduceAdd, Int.reduceToNat, Int.reduceLE, Int.reduceBEq, Int.reduceBNe, enc1, cChan, cCSt, eqTy_Sum, toOut]
            apply Exists.intro
            apply And.intro
            · first | exact (lockTo_ap _ _) | exact (fun _ => (lockTo_ap _ _)) | exact (fun h => ⟨h, (lockTo_ap _ _)⟩) | exact (fun h => ⟨by simp_all, (lockTo_ap _ _)⟩)
            (try simp only [rsAV, List.map_cons, List.map_nil, thenQ])
            refine hK80 _ ?_
            (try clear hK80)
            refine ag_two (i := 3) (j := 8) (by kernel_rfl) ?_ ?_
            · refine agi (it := It.mk (some 62) none (IK.lit 35 [Operand.tmp 61])) (R' := [4]) (by kernel_rfl) (.inl rfl) (by kernel_rfl) (fun K81 hK81 => ?_)
              simp (maxSteps := 999999) (disch := omega) only [av1, av2, av3, eq_self, exists_const, forall_const, implies_true, storeOk, AS.gd, PK.more, PK.cond, PK.val, AV.get, CV.get, AV.ok, CV.ok, AV.off, CV.off, AV.set, CV.set, AV.fits, CV.fits, AV.size, AV.agg, CV.agg, AV.solid, AV.int?, AV.bool?, binOk, AV.els, CV.isByte, Sh.agg, Sh.fits, Sh.fitsL, Sh.fitsR, CV.eqv, CV.eqvs, AV.closed, rsAV, thenQ, AObj.lt, CV.numOf, Nat.reduceAdd, Nat.reduceLT, Nat.reduceMul, reduceCtorEq, ↓reduceIte, Nat.reduceEqDiff, Nat.reduceLeDiff, Nat.reduceSub, Nat.reduceBEq, Nat.reduceBNe, Int.reduceLT, Int.reduceEq, Int.reduceAdd, Int.reduceToNat, Int.reduceLE, Int.reduceBEq, Int.reduceBNe, enc1, cChan, cCSt, eqTy_Sum, toOut]
              (repeat ((with_reducible refine And.intro ?_ ?_); (first | trivial | assumption | omega | (simp; done))))
              refine hK81 _ ?_
              (try clear hK81)
              refine ag_one (i := 8) (by kernel_rfl) ?_
              refine agi (it := It.mk (some 67) none (IK.lit 2 [Operand.tmp 63, Operand.tmp 66])) (R' := []) (by kernel_rfl) (.inl rfl) (by kernel_rfl) (fun K82 hK82 => ?_)
              simp (maxSteps := 999999) (disch := omega) only [av1, av2, av3, eq_self, exists_const, forall_const, implies_true, storeOk, AS.gd, PK.more, PK.cond, PK.val, AV.get, CV.get, AV.ok, CV.ok, AV.off, CV.off, AV.set, CV.set, AV.fits, CV.fits, AV.size, AV.agg, CV.agg, AV.solid, AV.int?, AV.bool?, binOk, AV.els, CV.isByte, Sh.agg, Sh.fits, Sh.fitsL, Sh.fitsR, CV.eqv, CV.eqvs, AV.closed, rsAV, thenQ, AObj.lt, CV.numOf, Nat.reduceAdd, Nat.reduceLT, Nat.reduceMul, reduceCtorEq, ↓reduceIte, Nat.reduceEqDiff, Nat.reduceLeDiff, Nat.reduceSub, Nat.reduceBEq, Nat.reduceBNe, Int.reduceLT, Int.reduceEq, Int.reduceAdd, Int.reduceToNat, Int.reduceLE, Int.reduceBEq, Int.reduceBNe, enc1, cChan, cCSt, eqTy_Sum, toOut]
              (repeat ((with_reducible refine And.intro ?_ ?_); (first | trivial | assumption | omega | (simp; done))))
              refine hK82 _ ?_
              (try clear hK82)
              refine ag_pures (fuel := 2) [9] [It.mk (some 68) none (IK.p (PK.bld (CV.st [CV.pv (Value.slice none 0 0), CV.pv (Value.slice none 0 0), CV.st [CV.pv (Value.int IntKind.i64 0), CV.pv (Value.int IntKind.i64 0), CV.pv (Value.int IntKind.i64 0), CV.pv (Value.int IntKind.i64 0), CV.ar IntKind.u8 32 (List.replicate 32 0), CV.pv (Value.slice none 0 0)], CV.pv (Value.slice none 0 0)]) [(0, 1), (1, 1), (2, 37), (39, 1)] [(0, Operand.tmp 62), (1, Operand.tmp 67)]))] (by kernel_rfl) (by kernel_rfl) (by kernel_rfl) (by kernel_rfl) (hideZ_nil _ 0) (fun K83 hK83 => ?_)
              simp (maxSteps := 999999) (disch := omega) only [av1, av2, av3, eq_self, exists_const, forall_const, implies_true, storeOk, AS.gd, PK.more, PK.cond, PK.val, AV.get, CV.get, AV.ok, CV.ok, AV.off, CV.off, AV.set, CV.set, AV.fits, CV.fits, AV.size, AV.agg, CV.agg, AV.solid, AV.int?, AV.bool?, binOk, AV.els, CV.isByte, Sh.agg, Sh.fits, Sh.fitsL, Sh.fitsR, CV.eqv, CV.eqvs, AV.closed, rsAV, thenQ, AObj.lt, CV.numOf, Nat.reduceAdd, Nat.reduceLT, Nat.reduceMul, reduceCtorEq, ↓reduceIte, Nat.reduceEqDiff, Nat.reduceLeDiff, Nat.reduceSub, Nat.reduceBEq, Nat.reduceBNe, Int.reduceLT, Int.reduceEq, Int.reduceAdd, Int.reduceToNat, Int.reduceLE, Int.reduceBEq, Int.reduceBNe, enc1, cChan, cCSt, eqTy_Sum, toOut]
              (repeat ((with_reducible refine And.intro ?_ ?_); (first | trivial | assumption | omega | (simp; done))))
              refine hK83 _ ?_
              (try clear hK83)
              refine ag_one (i := 10) (by kernel_rfl) ?_
              refine agi (it := It.mk none none (IK.store (Operand.tmp 6) (Operand.tmp 68) 40)) (R' := []) (by kernel_rfl) (.inr (by kernel_rfl)) (by kernel_rfl) (fun K84 hK84 => ?_)
              simp (maxSteps := 999999) (disch := omega) only [av1, av2, av3, eq_self, exists_const, forall_const, implies_true, storeOk, AS.gd, PK.more, PK.cond, PK.val, AV.get, CV.get, AV.ok, CV.ok, AV.off, CV.off, AV.set, CV.set, AV.fits, CV.fits, AV.size, AV.agg, CV.agg, AV.solid, AV.int?, AV.bool?, binOk, AV.els, CV.isByte, Sh.agg, Sh.fits, Sh.fitsL, Sh.fitsR, CV.eqv, CV.eqvs, AV.closed, rsAV, thenQ, AObj.lt, CV.numOf, Nat.reduceAdd, Nat.reduceLT, Nat.reduceMul, reduceCtorEq, ↓reduceIte, Nat.reduceEqDiff, Nat.reduceLeDiff, Nat.reduceSub, Nat.reduceBEq, Nat.reduceBNe, Int.reduceLT, Int.reduceEq, Int.reduceAdd, Int.reduceToNat, Int.reduceLE, Int.reduceBEq, Int.reduceBNe, enc1, cChan, cCSt, eqTy_Sum, toOut]
              (repeat ((with_reducible refine And.intro ?_ ?_); (first | trivial | assumption | omega | (simp; done))))
              refine hK84 _ ?_
              (try clear hK84)
              refine ag_pures (fuel := 0) [11] [It.mk (some 7) none (IK.p (PK.mov (Operand.const (Value.int IntKind.i64 0))))] (by kernel_rfl) (by kernel_rfl) (by kernel_rfl) (by kernel_rfl) (hideZ_nil _ 0) (fun K85 hK85 => ?_)
              simp (maxSteps := 999999) (disch := omega) only [av1, av2, av3, eq_self, exists_const, forall_const, implies_true, storeOk, AS.gd, PK.more, PK.cond, PK.val, AV.get, CV.get, AV.ok, CV.ok, AV.off, CV.off, AV.set, CV.set, AV.fits, CV.fits, AV.size, AV.agg, CV.agg, AV.solid, AV.int?, AV.bool?, binOk, AV.els, CV.isByte, Sh.agg, Sh.fits, Sh.fitsL, Sh.fitsR, CV.eqv, CV.eqvs, AV.closed, rsAV, thenQ, AObj.lt, CV.numOf, Nat.reduceAdd, Nat.reduceLT, Nat.reduceMul, reduceCtorEq, ↓reduceIte, Nat.reduceEqDiff, Nat.reduceLeDiff, Nat.reduceSub, Nat.reduceBEq, Nat.reduceBNe, Int.reduceLT, Int.reduceEq, Int.reduceAdd, Int.reduceToNat, Int.reduceLE, Int.reduceBEq, Int.reduceBNe, enc1, cChan, cCSt, eqTy_Sum, toOut]
              (repeat ((with_reducible refine And.intro ?_ ?_); (first | trivial | assumption | omega | (simp; done))))
              refine hK85 _ ?_
              (try clear hK85)
              refine ag_done (by kernel_rfl) ?_
              (try simp only [thenQ])
              refine hK72 _ ?_
              (try clear hK72)
              refine at_ret ?_
              simp (maxSteps := 999999) (disch := omega) only [av1, av2, av3, eq_self, exists_const, forall_const, implies_true, storeOk, AS.gd, PK.more, PK.cond, PK.val, AV.get, CV.get, AV.ok, CV.ok, AV.off, CV.off, AV.set, CV.set, AV.fits, CV.fits, AV.size, AV.agg, CV.agg, AV.solid, AV.int?, AV.bool?, binOk, AV.els, CV.isByte, Sh.agg, Sh.fits, Sh.fitsL, Sh.fitsR, CV.eqv, CV.eqvs, AV.closed, rsAV, thenQ, AObj.lt, CV.numOf, Nat.reduceAdd, Nat.reduceLT, Nat.reduceMul, reduceCtorEq, ↓reduceIte, Nat.reduceEqDiff, Nat.reduceLeDiff, Nat.reduceSub, Nat.reduceBEq, Nat.reduceBNe, Int.reduceLT, Int.reduceEq, Int.reduceAdd, Int.reduceToNat, Int.reduceLE, Int.reduceBEq, Int.reduceBNe, enc1, cChan, cCSt, eqTy_Sum, toOut, blockQ, retQ, RetOk, ResOk, AV.fin, AV.fins, CV.le, CV.les]
              first
                | (obtain ⟨e1, e2⟩ := build_bad (o := 1) h6; simp [e1, e2, zTxx, zOpx] <;> rfl)
                | (obtain ⟨e1, e2⟩ := build_ok (o := 1) h6; simp [e1, e2, comOf, comTx, zOpx, cInp, cOut, cWay, cRef, cSum, ints, ic, toOut, CV.les, CV.le] <;> rfl)
            · refine agi (it := It.mk (some 67) none (IK.lit 2 [Operand.tmp 63, Operand.tmp 66])) (R' := [2, 1, 0]) (by kernel_rfl) (.inl rfl) (by kernel_rfl) (fun K86 hK86 => ?_)
              simp (maxSteps := 999999) (disch := omega) only [av1, av2, av3, eq_self, exists_const, forall_const, implies_true, storeOk, AS.gd, PK.more, PK.cond, PK.val, AV.get, CV.get, AV.ok, CV.ok, AV.off, CV.off, AV.set, CV.set, AV.fits, CV.fits, AV.size, AV.agg, CV.agg, AV.solid, AV.int?, AV.bool?, binOk, AV.els, CV.isByte, Sh.agg, Sh.fits, Sh.fitsL, Sh.fitsR, CV.eqv, CV.eqvs, AV.closed, rsAV, thenQ, AObj.lt, CV.numOf, Nat.reduceAdd, Nat.reduceLT, Nat.reduceMul, reduceCtorEq, ↓reduceIte, Nat.reduceEqDiff, Nat.reduceLeDiff, Nat.reduceSub, Nat.reduceBEq, Nat.reduceBNe, Int.reduceLT, Int.reduceEq, Int.reduceAdd, Int.reduceToNat, Int.reduceLE, Int.reduceBEq, Int.reduceBNe, enc1, cChan, cCSt, eqTy_Sum, toOut]
              (repeat ((with_reducible refine And.intro ?_ ?_); (first | trivial | assumption | omega | (simp; done))))
              refine hK86 _ ?_
              (try clear hK86)
              refine ag_one (i := 3) (by kernel_rfl) ?_
              refine agi (it := It.mk (some 62) none (IK.lit 35 [Operand.tmp 61])) (R' := []) (by kernel_rfl) (.inl rfl) (by kernel_rfl) (fun K87 hK87 => ?_)
              simp (maxSteps := 999999) (disch := omega) only [av1, av2, av3, eq_self, exists_const, forall_const, implies_true, storeOk, AS.gd, PK.more, PK.cond, PK.val, AV.get, CV.get, AV.ok, CV.ok, AV.off, CV.off, AV.set, CV.set, AV.fits, CV.fits, AV.size, AV.agg, CV.agg, AV.solid, AV.int?, AV.bool?, binOk, AV.els, CV.isByte, Sh.agg, Sh.fits, Sh.fitsL, Sh.fitsR, CV.eqv, CV.eqvs, AV.closed, rsAV, thenQ, AObj.lt, CV.numOf, Nat.reduceAdd, Nat.reduceLT, Nat.reduceMul, reduceCtorEq, ↓reduceIte, Nat.reduceEqDiff, Nat.reduceLeDiff, Nat.reduceSub, Nat.reduceBEq, Nat.reduceBNe, Int.reduceLT, Int.reduceEq, Int.reduceAdd, Int.reduceToNat, Int.reduceLE, Int.reduceBEq, Int.reduceBNe, enc1, cChan, cCSt, eqTy_Sum, toOut]
              (repeat ((with_reducible refine And.intro ?_ ?_); (first | trivial | assumption | omega | (simp; done))))
              refine hK87 _ ?_
              (try clear hK87)
              refine ag_pures (fuel := 2) [9] [It.mk (some 68) none (IK.p (PK.bld (CV.st [CV.pv (Value.slice none 0 0), CV.pv (Value.slice none 0 0), CV.st [CV.pv (Value.int IntKind.i64 0), CV.pv (Value.int IntKind.i64 0), CV.pv (Value.int IntKind.i64 0), CV.pv (Value.int IntKind.i64 0), CV.ar IntKind.u8 32 (List.replicate 32 0), CV.pv (Value.slice none 0 0)], CV.pv (Value.slice none 0 0)]) [(0, 1), (1, 1), (2, 37), (39, 1)] [(0, Operand.tmp 62), (1, Operand.tmp 67)]))] (by kernel_rfl) (by kernel_rfl) (by kernel_rfl) (by kernel_rfl) (hideZ_nil _ 0) (fun K88 hK88 => ?_)
              simp (maxSteps := 999999) (disch := omega) only [av1, av2, av3, eq_self, exists_const, forall_const, implies_true, storeOk, AS.gd, PK.more, PK.cond, PK.val, AV.get, CV.get, AV.ok, CV.ok, AV.off, CV.off, AV.set, CV.set, AV.fits, CV.fits, AV.size, AV.agg, CV.agg, AV.solid, AV.int?, AV.bool?, binOk, AV.els, CV.isByte, Sh.agg, Sh.fits, Sh.fitsL, Sh.fitsR, CV.eqv, CV.eqvs, AV.closed, rsAV, thenQ, AObj.lt, CV.numOf, Nat.reduceAdd, Nat.reduceLT, Nat.reduceMul, reduceCtorEq, ↓reduceIte, Nat.reduceEqDiff, Nat.reduceLeDiff, Nat.reduceSub, Nat.reduceBEq, Nat.reduceBNe, Int.reduceLT, Int.reduceEq, Int.reduceAdd, Int.reduceToNat, Int.reduceLE, Int.reduceBEq, Int.reduceBNe, enc1, cChan, cCSt, eqTy_Sum, toOut]
              (repeat ((with_reducible refine And.intro ?_ ?_); (first | trivial | assumption | omega | (simp; done))))
              refine hK88 _ ?_
              (try clear hK88)
              refine ag_one (i := 10) (by kernel_rfl) ?_
              refine agi (it := It.mk none none (IK.store (Operand.tmp 6) (Operand.tmp 68) 40)) (R' := []) (by kernel_rfl) (.inr (by kernel_rfl)) (by kernel_rfl) (fun K89 hK89 => ?_)
              simp (maxSteps := 999999) (disch := omega) only [av1, av2, av3, eq_self, exists_const, forall_const, implies_true, storeOk, AS.gd, PK.more, PK.cond, PK.val, AV.get, CV.get, AV.ok, CV.ok, AV.off, CV.off, AV.set, CV.set, AV.fits, CV.fits, AV.size, AV.agg, CV.agg, AV.solid, AV.int?, AV.bool?, binOk, AV.els, CV.isByte, Sh.agg, Sh.fits, Sh.fitsL, Sh.fitsR, CV.eqv, CV.eqvs, AV.closed, rsAV, thenQ, AObj.lt, CV.numOf, Nat.reduceAdd, Nat.reduceLT, Nat.reduceMul, reduceCtorEq, ↓reduceIte, Nat.reduceEqDiff, Nat.reduceLeDiff, Nat.reduceSub, Nat.reduceBEq, Nat.reduceBNe, Int.reduceLT, Int.reduceEq, Int.reduceAdd, Int.reduceToNat, Int.reduceLE, Int.reduceBEq, Int.reduceBNe, enc1, cChan, cCSt, eqTy_Sum, toOut]
              (repeat ((with_reducible refine And.intro ?_ ?_); (first | trivial | assumption | omega | (simp; done))))
              refine hK89 _ ?_
              (try clear hK89)
              refine ag_pures (fuel := 0) [11] [It.mk (some 7) none (IK.p (PK.mov (Operand.const (Value.int IntKind.i64 0))))] (by kernel_rfl) (by kernel_rfl) (by kernel_rfl) (by kernel_rfl) (hideZ_nil _ 0) (fun K90 hK90 => ?_)
              simp (maxSteps := 999999) (disch := omega) only [av1, av2, av3, eq_self, exists_const, forall_const, implies_true, storeOk, AS.gd, PK.more, PK.cond, PK.val, AV.get, CV.get, AV.ok, CV.ok, AV.off, CV.off, AV.set, CV.set, AV.fits, CV.fits, AV.size, AV.agg, CV.agg, AV.solid, AV.int?, AV.bool?, binOk, AV.els, CV.isByte, Sh.agg, Sh.fits, Sh.fitsL, Sh.fitsR, CV.eqv, CV.eqvs, AV.closed, rsAV, thenQ, AObj.lt, CV.numOf, Nat.reduceAdd, Nat.reduceLT, Nat.reduceMul, reduceCtorEq, ↓reduceIte, Nat.reduceEqDiff, Nat.reduceLeDiff, Nat.reduceSub, Nat.reduceBEq, Nat.reduceBNe, Int.reduceLT, Int.reduceEq, Int.reduceAdd, Int.reduceToNat, Int.reduceLE, Int.reduceBEq, Int.reduceBNe, enc1, cChan, cCSt, eqTy_Sum, toOut]
              (repeat ((with_reducible refine And.intro ?_ ?_); (first | trivial | assumption | omega | (simp; done))))
              refine hK90 _ ?_
              (try clear hK90)
              refine ag_done (by kernel_rfl) ?_
              (try simp only [thenQ])
              refine hK72 _ ?_
              (try clear hK72)
              refine at_ret ?_
              simp (maxSteps := 999999) (disch := omega) only [av1, av2, av3, eq_self, exists_const, forall_const, implies_true, storeOk, AS.gd, PK.more, PK.cond, PK.val, AV.get, CV.get, AV.ok, CV.ok, AV.off, CV.off, AV.set, CV.set, AV.fits, CV.fits, AV.size, AV.agg, CV.agg, AV.solid, AV.int?, AV.bool?, binOk, AV.els, CV.isByte, Sh.agg, Sh.fits, Sh.fitsL, Sh.fitsR, CV.eqv, CV.eqvs, AV.closed, rsAV, thenQ, AObj.lt, CV.numOf, Nat.reduceAdd, Nat.reduceLT, Nat.reduceMul, reduceCtorEq, ↓reduceIte, Nat.reduceEqDiff, Nat.reduceLeDiff, Nat.reduceSub, Nat.reduceBEq, Nat.reduceBNe, Int.reduceLT, Int.reduceEq, Int.reduceAdd, Int.reduceToNat, Int.reduceLE, Int.reduceBEq, Int.reduceBNe, enc1, cChan, cCSt, eqTy_Sum, toOut, blockQ, retQ, RetOk, ResOk, AV.fin, AV.fins, CV.le, CV.les]
              first
                | (obtain ⟨e1, e2⟩ := build_bad (o := 1) h6; simp [e1, e2, zTxx, zOpx] <;> rfl)
                | (obtain ⟨e1, e2⟩ := build_ok (o := 1) h6; simp [e1, e2, comOf, comTx, zOpx, cInp, cOut, cWay, cRef, cSum, ints, ic, toOut, CV.les, CV.le] <;> rfl)
      · refine agi (it := It.mk (some 51) none (IK.lit 1 [Operand.tmp 50])) (R' := [11, 10, 9, 8, 4, 3, 1, 0]) (by kernel_rfl) (.inl rfl) (by kernel_rfl) (fun K91 hK91 => ?_)
        simp (maxSteps := 999999) (disch := omega) only [av1, av2, av3, eq_self, exists_const, forall_const, implies_true, storeOk, AS.gd, PK.more, PK.cond, PK.val, AV.get, CV.get, AV.ok, CV.ok, AV.off, CV.off, AV.set, CV.set, AV.fits, CV.fits, AV.size, AV.agg, CV.agg, AV.solid, AV.int?, AV.bool?, binOk, AV.els, CV.isByte, Sh.agg, Sh.fits, Sh.fitsL, Sh.fitsR, CV.eqv, CV.eqvs, AV.closed, rsAV, thenQ, AObj.lt, CV.numOf, Nat.reduceAdd, Nat.reduceLT, Nat.reduceMul, reduceCtorEq, ↓reduceIte, Nat.reduceEqDiff, Nat.reduceLeDiff, Nat.reduceSub, Nat.reduceBEq, Nat.reduceBNe, Int.reduceLT, Int.reduceEq, Int.reduceAdd, Int.reduceToNat, Int.reduceLE, Int.reduceBEq, Int.reduceBNe, enc1, cChan, cCSt, eqTy_Sum, toOut]
        (repeat ((with_reducible refine And.intro ?_ ?_); (first | trivial | assumption | omega | (simp; done))))
        refine hK91 _ ?_
        (try clear hK91)
        refine ag_pures (fuel := 6) [12] [It.mk (some 56) none (IK.p (PK.bld (CV.st [CV.pv (Value.slice none 0 0), CV.ar IntKind.u8 32 (List.replicate 32 0), CV.pv (Value.int IntKind.i64 0), CV.pv (Value.int IntKind.i64 0)]) [(0, 1), (1, 32), (33, 1), (34, 1)] [(0, Operand.tmp 51), (1, Operand.tmp 55)]))] (by kernel_rfl) (by kernel_rfl) (by kernel_rfl) (by kernel_rfl) (hideZ_nil _ 0) (fun K92 hK92 => ?_)
        simp (maxSteps := 999999) (disch := omega) only [av1, av2, av3, eq_self, exists_const, forall_const, implies_true, storeOk, AS.gd, PK.more, PK.cond, PK.val, AV.get, CV.get, AV.ok, CV.ok, AV.off, CV.off, AV.set, CV.set, AV.fits, CV.fits, AV.size, AV.agg, CV.agg, AV.solid, AV.int?, AV.bool?, binOk, AV.els, CV.isByte, Sh.agg, Sh.fits, Sh.fitsL, Sh.fitsR, CV.eqv, CV.eqvs, AV.closed, rsAV, thenQ, AObj.lt, CV.numOf, Nat.reduceAdd, Nat.reduceLT, Nat.reduceMul, reduceCtorEq, ↓reduceIte, Nat.reduceEqDiff, Nat.reduceLeDiff, Nat.reduceSub, Nat.reduceBEq, Nat.reduceBNe, Int.reduceLT, Int.reduceEq, Int.reduceAdd, Int.reduceToNat, Int.reduceLE, Int.reduceBEq, Int.reduceBNe, enc1, cChan, cCSt, eqTy_Sum, toOut]
        (repeat ((with_reducible refine And.intro ?_ ?_); (first | trivial | assumption | omega | (simp; done))))
        refine hK92 _ ?_
        (try clear hK92)
        refine ag_two (i := 2) (j := 15) (by kernel_rfl) ?_ ?_
        · refine agi (it := It.mk (some 46) none (IK.lit 1 [Operand.tmp 45])) (R' := [12, 11, 10, 9, 8, 4, 3, 0]) (by kernel_rfl) (.inl rfl) (by kernel_rfl) (fun K93 hK93 => ?_)
          simp (maxSteps := 999999) (disch := omega) only [av1, av2, av3, eq_self, exists_const, forall_const, implies_true, storeOk, AS.gd, PK.more, PK.cond, PK.val, AV.get, CV.get, AV.ok, CV.ok, AV.off, CV.off, AV.set, CV.set, AV.fits, CV.fits, AV.size, AV.agg, CV.agg, AV.solid, AV.int?, AV.bool?, binOk, AV.els, CV.isByte, Sh.agg, Sh.fits, Sh.fitsL, Sh.fitsR, CV.eqv, CV.eqvs, AV.closed, rsAV, thenQ, AObj.lt, CV.numOf, Nat.reduceAdd, Nat.reduceLT, Nat.reduceMul, reduceCtorEq, ↓reduceIte, Nat.reduceEqDiff, Nat.reduceLeDiff, Nat.reduceSub, Nat.reduceBEq, Nat.reduceBNe, Int.reduceLT, Int.reduceEq, Int.reduceAdd, Int.reduceToNat, Int.reduceLE, Int.reduceBEq, Int.reduceBNe, enc1, cChan, cCSt, eqTy_Sum, toOut]
          (repeat ((with_reducible refine And.intro ?_ ?_); (first | trivial | assumption | omega | (simp; done))))
          refine hK93 _ ?_
          (try clear hK93)
          refine ag_pures (fuel := 4) [5] [It.mk (some 49) none (IK.p (PK.bld (CV.st [CV.pv (Value.slice none 0 0), CV.ar IntKind.u8 32 (List.replicate 32 0), CV.pv (Value.int IntKind.i64 0), CV.pv (Value.int IntKind.i64 0)]) [(0, 1), (1, 32), (33, 1), (34, 1)] [(0, Operand.tmp 46), (3, Operand.tmp 48)]))] (by kernel_rfl) (by kernel_rfl) (by kernel_rfl) (by kernel_rfl) (hideZ_nil _ 0) (fun K94 hK94 => ?_)
          simp (maxSteps := 999999) (disch := omega) only [av1, av2, av3, eq_self, exists_const, forall_const, implies_true, storeOk, AS.gd, PK.more, PK.cond, PK.val, AV.get, CV.get, AV.ok, CV.ok, AV.off, CV.off, AV.set, CV.set, AV.fits, CV.fits, AV.size, AV.agg, CV.agg, AV.solid, AV.int?, AV.bool?, binOk, AV.els, CV.isByte, Sh.agg, Sh.fits, Sh.fitsL, Sh.fitsR, CV.eqv, CV.eqvs, AV.closed, rsAV, thenQ, AObj.lt, CV.numOf, Nat.reduceAdd, Nat.reduceLT, Nat.reduceMul, reduceCtorEq, ↓reduceIte, Nat.reduceEqDiff, Nat.reduceLeDiff, Nat.reduceSub, Nat.reduceBEq, Nat.reduceBNe, Int.reduceLT, Int.reduceEq, Int.reduceAdd, Int.reduceToNat, Int.reduceLE, Int.reduceBEq, Int.reduceBNe, enc1, cChan, cCSt, eqTy_Sum, toOut]
          (repeat ((with_reducible refine And.intro ?_ ?_); (first | trivial | assumption | omega | (simp; done))))
          refine hK94 _ ?_
          (try clear hK94)
          refine ag_two (i := 13) (j := 15) (by kernel_rfl) ?_ ?_
          · refine agi (it := It.mk (some 57) none (IK.lit 35 [Operand.tmp 49, Operand.tmp 56])) (R' := [0]) (by kernel_rfl) (.inl rfl) (by kernel_rfl) (fun K95 hK95 => ?_)
            simp (maxSteps := 999999) (disch := omega) only [av1, av2, av3, eq_self, exists_const, forall_const, implies_true, storeOk, AS.gd, PK.more, PK.cond, PK.val, AV.get, CV.get, AV.ok, CV.ok, AV.off, CV.off, AV.set, CV.set, AV.fits, CV.fits, AV.size, AV.agg, CV.agg, AV.solid, AV.int?, AV.bool?, binOk, AV.els, CV.isByte, Sh.agg, Sh.fits, Sh.fitsL, Sh.fitsR, CV.eqv, CV.eqvs, AV.closed, rsAV, thenQ, AObj.lt, CV.numOf, Nat.reduceAdd, Nat.reduceLT, Nat.reduceMul, reduceCtorEq, ↓reduceIte, Nat.reduceEqDiff, Nat.reduceLeDiff, Nat.reduceSub, Nat.reduceBEq, Nat.reduceBNe, Int.reduceLT, Int.reduceEq, Int.reduceAdd, Int.reduceToNat, Int.reduceLE, Int.reduceBEq, Int.reduceBNe, enc1, cChan, cCSt, eqTy_Sum, toOut]
            (repeat ((with_reducible refine And.intro ?_ ?_); (first | trivial | assumption | omega | (simp; done))))
            refine hK95 _ ?_
            (try clear hK95)
            refine ag_pures (fuel := 2) [14] [It.mk (some 58) none (IK.p (PK.bld (CV.st [CV.pv (Value.int IntKind.i64 0), CV.pv (Value.slice none 0 0)]) [(0, 1), (1, 1)] [(0, Operand.tmp 44), (1, Operand.tmp 57)]))] (by kernel_rfl) (by kernel_rfl) (by kernel_rfl) (by kernel_rfl) (hideZ_nil _ 0) (fun K96 hK96 => ?_)
            simp (maxSteps := 999999) (disch := omega) only [av1, av2, av3, eq_self, exists_const, forall_const, implies_true, storeOk, AS.gd, PK.more, PK.cond, PK.val, AV.get, CV.get, AV.ok, CV.ok, AV.off, CV.off, AV.set, CV.set, AV.fits, CV.fits, AV.size, AV.agg, CV.agg, AV.solid, AV.int?, AV.bool?, binOk, AV.els, CV.isByte, Sh.agg, Sh.fits, Sh.fitsL, Sh.fitsR, CV.eqv, CV.eqvs, AV.closed, rsAV, thenQ, AObj.lt, CV.numOf, Nat.reduceAdd, Nat.reduceLT, Nat.reduceMul, reduceCtorEq, ↓reduceIte, Nat.reduceEqDiff, Nat.reduceLeDiff, Nat.reduceSub, Nat.reduceBEq, Nat.reduceBNe, Int.reduceLT, Int.reduceEq, Int.reduceAdd, Int.reduceToNat, Int.reduceLE, Int.reduceBEq, Int.reduceBNe, enc1, cChan, cCSt, eqTy_Sum, toOut]
            (repeat ((with_reducible refine And.intro ?_ ?_); (first | trivial | assumption | omega | (simp; done))))
            refine hK96 _ ?_
            (try clear hK96)
            refine ag_one (i := 15) (by kernel_rfl) ?_
            refine agi (it := It.mk (some 12) none (IK.alloc (CV.st [CV.pv (Value.int IntKind.i64 0), CV.pv (Value.slice none 0 0)]))) (R' := [14, 0]) (by kernel_rfl) (.inl rfl) (by kernel_rfl) (fun K97 hK97 => ?_)
            simp (maxSteps := 999999) (disch := omega) only [av1, av2, av3, eq_self, exists_const, forall_const, implies_true, storeOk, AS.gd, PK.more, PK.cond, PK.val, AV.get, CV.get, AV.ok, CV.ok, AV.off, CV.off, AV.set, CV.set, AV.fits, CV.fits, AV.size, AV.agg, CV.agg, AV.solid, AV.int?, AV.bool?, binOk, AV.els, CV.isByte, Sh.agg, Sh.fits, Sh.fitsL, Sh.fitsR, CV.eqv, CV.eqvs, AV.closed, rsAV, thenQ, AObj.lt, CV.numOf, Nat.reduceAdd, Nat.reduceLT, Nat.reduceMul, reduceCtorEq, ↓reduceIte, Nat.reduceEqDiff, Nat.reduceLeDiff, Nat.reduceSub, Nat.reduceBEq, Nat.reduceBNe, Int.reduceLT, Int.reduceEq, Int.reduceAdd, Int.reduceToNat, Int.reduceLE, Int.reduceBEq, Int.reduceBNe, enc1, cChan, cCSt, eqTy_Sum, toOut]
            (repeat ((with_reducible refine And.intro ?_ ?_); (first | trivial | assumption | omega | (simp; done))))
            refine hK97 _ ?_
            (try clear hK97)
            refine ag_one (i := 16) (by kernel_rfl) ?_
            refine agi (it := It.mk none none (IK.store (Operand.tmp 12) (Operand.tmp 58) 2)) (R' := []) (by kernel_rfl) (.inr (by kernel_rfl)) (by kernel_rfl) (fun K98 hK98 => ?_)
            simp (maxSteps := 999999) (disch := omega) only [av1, av2, av3, eq_self, exists_const, forall_const, implies_true, storeOk, AS.gd, PK.more, PK.cond, PK.val, AV.get, CV.get, AV.ok, CV.ok, AV.off, CV.off, AV.set, CV.set, AV.fits, CV.fits, AV.size, AV.agg, CV.agg, AV.solid, AV.int?, AV.bool?, binOk, AV.els, CV.isByte, Sh.agg, Sh.fits, Sh.fitsL, Sh.fitsR, CV.eqv, CV.eqvs, AV.closed, rsAV, thenQ, AObj.lt, CV.numOf, Nat.reduceAdd, Nat.reduceLT, Nat.reduceMul, reduceCtorEq, ↓reduceIte, Nat.reduceEqDiff, Nat.reduceLeDiff, Nat.reduceSub, Nat.reduceBEq, Nat.reduceBNe, Int.reduceLT, Int.reduceEq, Int.reduceAdd, Int.reduceToNat, Int.reduceLE, Int.reduceBEq, Int.reduceBNe, enc1, cChan, cCSt, eqTy_Sum, toOut]
            (repeat ((with_reducible refine And.intro ?_ ?_); (first | trivial | assumption | omega | (simp; done))))
            refine hK98 _ ?_
            (try clear hK98)
            refine ag_done (by kernel_rfl) ?_
            (try simp only [thenQ])
            refine hK14 _ ?_
            (try clear hK14)
            refine at_seq fun K99 hK99 => ?_
            refine at_draws [] (by kernel_rfl) ?_
            refine ag_pures (fuel := 6) [0, 1, 2, 4, 5, 6] [It.mk (some 59) none (IK.p (PK.fAddr (Operand.tmp 3) 3 3)), It.mk (some 60) none (IK.p (PK.load (Operand.tmp 59) 33 true)), It.mk (some 61) none (IK.p (PK.bld (CV.st [CV.st [CV.ar IntKind.u8 32 (List.replicate 32 0), CV.pv (Value.int IntKind.i64 0)], CV.pv (Value.int IntKind.i64 0), CV.pv (Value.slice none 0 0)]) [(0, 33), (33, 1), (34, 1)] [(0, Operand.tmp 60)])), It.mk (some 63) none (IK.p (PK.load (Operand.tmp 12) 2 true)), It.mk (some 64) none (IK.p (PK.mov (Operand.tmp 9))), It.mk (some 65) none (IK.p (PK.mov (Operand.tmp 11)))] (by kernel_rfl) (by kernel_rfl) (by kernel_rfl) (by kernel_rfl) (hideZ_nil _ 0) (fun K100 hK100 => ?_)
            simp (maxSteps := 999999) (disch := omega) only [av1, av2, av3, eq_self, exists_const, forall_const, implies_true, storeOk, AS.gd, PK.more, PK.cond, PK.val, AV.get, CV.get, AV.ok, CV.ok, AV.off, CV.off, AV.set, CV.set, AV.fits, CV.fits, AV.size, AV.agg, CV.agg, AV.solid, AV.int?, AV.bool?, binOk, AV.els, CV.isByte, Sh.agg, Sh.fits, Sh.fitsL, Sh.fitsR, CV.eqv, CV.eqvs, AV.closed, rsAV, thenQ, AObj.lt, CV.numOf, Nat.reduceAdd, Nat.reduceLT, Nat.reduceMul, reduceCtorEq, ↓reduceIte, Nat.reduceEqDiff, Nat.reduceLeDiff, Nat.reduceSub, Nat.reduceBEq, Nat.reduceBNe, Int.reduceLT, Int.reduceEq, Int.reduceAdd, Int.reduceToNat, Int.reduceLE, Int.reduceBEq, Int.reduceBNe, enc1, cChan, cCSt, eqTy_Sum, toOut]
            (repeat ((with_reducible refine And.intro ?_ ?_); (first | trivial | assumption | omega | (simp; done))))
            refine hK100 _ ?_
            (try clear hK100)
            refine ag_two (i := 3) (j := 7) (by kernel_rfl) ?_ ?_
            · refine agi (it := It.mk (some 62) none (IK.lit 35 [Operand.tmp 61])) (R' := [6, 5, 4]) (by kernel_rfl) (.inl rfl) (by kernel_rfl) (fun K101 hK101 => ?_)
              simp (maxSteps := 999999) (disch := omega) only [av1, av2, av3, eq_self, exists_const, forall_const, implies_true, storeOk, AS.gd, PK.more, PK.cond, PK.val, AV.get, CV.get, AV.ok, CV.ok, AV.off, CV.off, AV.set, CV.set, AV.fits, CV.fits, AV.size, AV.agg, CV.agg, AV.solid, AV.int?, AV.bool?, binOk, AV.els, CV.isByte, Sh.agg, Sh.fits, Sh.fitsL, Sh.fitsR, CV.eqv, CV.eqvs, AV.closed, rsAV, thenQ, AObj.lt, CV.numOf, Nat.reduceAdd, Nat.reduceLT, Nat.reduceMul, reduceCtorEq, ↓reduceIte, Nat.reduceEqDiff, Nat.reduceLeDiff, Nat.reduceSub, Nat.reduceBEq, Nat.reduceBNe, Int.reduceLT, Int.reduceEq, Int.reduceAdd, Int.reduceToNat, Int.reduceLE, Int.reduceBEq, Int.reduceBNe, enc1, cChan, cCSt, eqTy_Sum, toOut]
              (repeat ((with_reducible refine And.intro ?_ ?_); (first | trivial | assumption | omega | (simp; done))))
              refine hK101 _ ?_
              (try clear hK101)
              refine ag_one (i := 7) (by kernel_rfl) ?_
              refine agi (it := It.mk (some 66) none (IK.call 23 [Operand.tmp 64, Operand.tmp 65])) (R' := [4]) (by kernel_rfl) (.inl rfl) (by kernel_rfl) (fun K102 hK102 => ?_)
              simp (maxSteps := 999999) (disch := omega) only [av1, av2, av3, eq_self, exists_const, forall_const, implies_true, storeOk, AS.gd, PK.more, PK.cond, PK.val, AV.get, CV.get, AV.ok, CV.ok, AV.off, CV.off, AV.set, CV.set, AV.fits, CV.fits, AV.size, AV.agg, CV.agg, AV.solid, AV.int?, AV.bool?, binOk, AV.els, CV.isByte, Sh.agg, Sh.fits, Sh.fitsL, Sh.fitsR, CV.eqv, CV.eqvs, AV.closed, rsAV, thenQ, AObj.lt, CV.numOf, Nat.reduceAdd, Nat.reduceLT, Nat.reduceMul, reduceCtorEq, ↓reduceIte, Nat.reduceEqDiff, Nat.reduceLeDiff, Nat.reduceSub, Nat.reduceBEq, Nat.reduceBNe, Int.reduceLT, Int.reduceEq, Int.reduceAdd, Int.reduceToNat, Int.reduceLE, Int.reduceBEq, Int.reduceBNe, enc1, cChan, cCSt, eqTy_Sum, toOut]
              apply Exists.intro
              apply And.intro
              · first | exact (lockTo_ap _ _) | exact (fun _ => (lockTo_ap _ _)) | exact (fun h => ⟨h, (lockTo_ap _ _)⟩) | exact (fun h => ⟨by simp_all, (lockTo_ap _ _)⟩)
              (try simp only [rsAV, List.map_cons, List.map_nil, thenQ])
              refine hK102 _ ?_
              (try clear hK102)
              refine ag_one (i := 8) (by kernel_rfl) ?_
              refine agi (it := It.mk (some 67) none (IK.lit 2 [Operand.tmp 63, Operand.tmp 66])) (R' := []) (by kernel_rfl) (.inl rfl) (by kernel_rfl) (fun K103 hK103 => ?_)
              simp (maxSteps := 999999) (disch := omega) only [av1, av2, av3, eq_self, exists_const, forall_const, implies_true, storeOk, AS.gd, PK.more, PK.cond, PK.val, AV.get, CV.get, AV.ok, CV.ok, AV.off, CV.off, AV.set, CV.set, AV.fits, CV.fits, AV.size, AV.agg, CV.agg, AV.solid, AV.int?, AV.bool?, binOk, AV.els, CV.isByte, Sh.agg, Sh.fits, Sh.fitsL, Sh.fitsR, CV.eqv, CV.eqvs, AV.closed, rsAV, thenQ, AObj.lt, CV.numOf, Nat.reduceAdd, Nat.reduceLT, Nat.reduceMul, reduceCtorEq, ↓reduceIte, Nat.reduceEqDiff, Nat.reduceLeDiff, Nat.reduceSub, Nat.reduceBEq, Nat.reduceBNe, Int.reduceLT, Int.reduceEq, Int.reduceAdd, Int.reduceToNat, Int.reduceLE, Int.reduceBEq, Int.reduceBNe, enc1, cChan, cCSt, eqTy_Sum, toOut]
              (repeat ((with_reducible refine And.intro ?_ ?_); (first | trivial | assumption | omega | (simp; done))))
              refine hK103 _ ?_
              (try clear hK103)
              refine ag_pures (fuel := 2) [9] [It.mk (some 68) none (IK.p (PK.bld (CV.st [CV.pv (Value.slice none 0 0), CV.pv (Value.slice none 0 0), CV.st [CV.pv (Value.int IntKind.i64 0), CV.pv (Value.int IntKind.i64 0), CV.pv (Value.int IntKind.i64 0), CV.pv (Value.int IntKind.i64 0), CV.ar IntKind.u8 32 (List.replicate 32 0), CV.pv (Value.slice none 0 0)], CV.pv (Value.slice none 0 0)]) [(0, 1), (1, 1), (2, 37), (39, 1)] [(0, Operand.tmp 62), (1, Operand.tmp 67)]))] (by kernel_rfl) (by kernel_rfl) (by kernel_rfl) (by kernel_rfl) (hideZ_nil _ 0) (fun K104 hK104 => ?_)
              simp (maxSteps := 999999) (disch := omega) only [av1, av2, av3, eq_self, exists_const, forall_const, implies_true, storeOk, AS.gd, PK.more, PK.cond, PK.val, AV.get, CV.get, AV.ok, CV.ok, AV.off, CV.off, AV.set, CV.set, AV.fits, CV.fits, AV.size, AV.agg, CV.agg, AV.solid, AV.int?, AV.bool?, binOk, AV.els, CV.isByte, Sh.agg, Sh.fits, Sh.fitsL, Sh.fitsR, CV.eqv, CV.eqvs, AV.closed, rsAV, thenQ, AObj.lt, CV.numOf, Nat.reduceAdd, Nat.reduceLT, Nat.reduceMul, reduceCtorEq, ↓reduceIte, Nat.reduceEqDiff, Nat.reduceLeDiff, Nat.reduceSub, Nat.reduceBEq, Nat.reduceBNe, Int.reduceLT, Int.reduceEq, Int.reduceAdd, Int.reduceToNat, Int.reduceLE, Int.reduceBEq, Int.reduceBNe, enc1, cChan, cCSt, eqTy_Sum, toOut]
              (repeat ((with_reducible refine And.intro ?_ ?_); (first | trivial | assumption | omega | (simp; done))))
              refine hK104 _ ?_
              (try clear hK104)
              refine ag_one (i := 10) (by kernel_rfl) ?_
              refine agi (it := It.mk none none (IK.store (Operand.tmp 6) (Operand.tmp 68) 40)) (R' := []) (by kernel_rfl) (.inr (by kernel_rfl)) (by kernel_rfl) (fun K105 hK105 => ?_)
              simp (maxSteps := 999999) (disch := omega) only [av1, av2, av3, eq_self, exists_const, forall_const, implies_true, storeOk, AS.gd, PK.more, PK.cond, PK.val, AV.get, CV.get, AV.ok, CV.ok, AV.off, CV.off, AV.set, CV.set, AV.fits, CV.fits, AV.size, AV.agg, CV.agg, AV.solid, AV.int?, AV.bool?, binOk, AV.els, CV.isByte, Sh.agg, Sh.fits, Sh.fitsL, Sh.fitsR, CV.eqv, CV.eqvs, AV.closed, rsAV, thenQ, AObj.lt, CV.numOf, Nat.reduceAdd, Nat.reduceLT, Nat.reduceMul, reduceCtorEq, ↓reduceIte, Nat.reduceEqDiff, Nat.reduceLeDiff, Nat.reduceSub, Nat.reduceBEq, Nat.reduceBNe, Int.reduceLT, Int.reduceEq, Int.reduceAdd, Int.reduceToNat, Int.reduceLE, Int.reduceBEq, Int.reduceBNe, enc1, cChan, cCSt, eqTy_Sum, toOut]
              (repeat ((with_reducible refine And.intro ?_ ?_); (first | trivial | assumption | omega | (simp; done))))
              refine hK105 _ ?_
              (try clear hK105)
              refine ag_pures (fuel := 0) [11] [It.mk (some 7) none (IK.p (PK.mov (Operand.const (Value.int IntKind.i64 0))))] (by kernel_rfl) (by kernel_rfl) (by kernel_rfl) (by kernel_rfl) (hideZ_nil _ 0) (fun K106 hK106 => ?_)
              simp (maxSteps := 999999) (disch := omega) only [av1, av2, av3, eq_self, exists_const, forall_const, implies_true, storeOk, AS.gd, PK.more, PK.cond, PK.val, AV.get, CV.get, AV.ok, CV.ok, AV.off, CV.off, AV.set, CV.set, AV.fits, CV.fits, AV.size, AV.agg, CV.agg, AV.solid, AV.int?, AV.bool?, binOk, AV.els, CV.isByte, Sh.agg, Sh.fits, Sh.fitsL, Sh.fitsR, CV.eqv, CV.eqvs, AV.closed, rsAV, thenQ, AObj.lt, CV.numOf, Nat.reduceAdd, Nat.reduceLT, Nat.reduceMul, reduceCtorEq, ↓reduceIte, Nat.reduceEqDiff, Nat.reduceLeDiff, Nat.reduceSub, Nat.reduceBEq, Nat.reduceBNe, Int.reduceLT, Int.reduceEq, Int.reduceAdd, Int.reduceToNat, Int.reduceLE, Int.reduceBEq, Int.reduceBNe, enc1, cChan, cCSt, eqTy_Sum, toOut]
              (repeat ((with_reducible refine And.intro ?_ ?_); (first | trivial | assumption | omega | (simp; done))))
              refine hK106 _ ?_
              (try clear hK106)
              refine ag_done (by kernel_rfl) ?_
              (try simp only [thenQ])
              refine hK99 _ ?_
              (try clear hK99)
              refine at_ret ?_
              simp (maxSteps := 999999) (disch := omega) only [av1, av2, av3, eq_self, exists_const, forall_const, implies_true, storeOk, AS.gd, PK.more, PK.cond, PK.val, AV.get, CV.get, AV.ok, CV.ok, AV.off, CV.off, AV.set, CV.set, AV.fits, CV.fits, AV.size, AV.agg, CV.agg, AV.solid, AV.int?, AV.bool?, binOk, AV.els, CV.isByte, Sh.agg, Sh.fits, Sh.fitsL, Sh.fitsR, CV.eqv, CV.eqvs, AV.closed, rsAV, thenQ, AObj.lt, CV.numOf, Nat.reduceAdd, Nat.reduceLT, Nat.reduceMul, reduceCtorEq, ↓reduceIte, Nat.reduceEqDiff, Nat.reduceLeDiff, Nat.reduceSub, Nat.reduceBEq, Nat.reduceBNe, Int.reduceLT, Int.reduceEq, Int.reduceAdd, Int.reduceToNat, Int.reduceLE, Int.reduceBEq, Int.reduceBNe, enc1, cChan, cCSt, eqTy_Sum, toOut, blockQ, retQ, RetOk, ResOk, AV.fin, AV.fins, CV.le, CV.les]
              first
                | (obtain ⟨e1, e2⟩ := build_bad (o := 1) h6; simp [e1, e2, zTxx, zOpx] <;> rfl)
                | (obtain ⟨e1, e2⟩ := build_ok (o := 1) h6; simp [e1, e2, comOf, comTx, zOpx, cInp, cOut, cWay, cRef, cSum, ints, ic, toOut, CV.les, CV.le] <;> rfl)
            · refine agi (it := It.mk (some 66) none (IK.call 23 [Operand.tmp 64, Operand.tmp 65])) (R' := [4, 2, 1, 0]) (by kernel_rfl) (.inl rfl) (by kernel_rfl) (fun K107 hK107 => ?_)
              simp (maxSteps := 999999) (disch := omega) only [av1, av2, av3, eq_self, exists_const, forall_const, implies_true, storeOk, AS.gd, PK.more, PK.cond, PK.val, AV.get, CV.get, AV.ok, CV.ok, AV.off, CV.off, AV.set, CV.set, AV.fits, CV.fits, AV.size, AV.agg, CV.agg, AV.solid, AV.int?, AV.bool?, binOk, AV.els, CV.isByte, Sh.agg, Sh.fits, Sh.fitsL, Sh.fitsR, CV.eqv, CV.eqvs, AV.closed, rsAV, thenQ, AObj.lt, CV.numOf, Nat.reduceAdd, Nat.reduceLT, Nat.reduceMul, reduceCtorEq, ↓reduceIte, Nat.reduceEqDiff, Nat.reduceLeDiff, Nat.reduceSub, Nat.reduceBEq, Nat.reduceBNe, Int.reduceLT, Int.reduceEq, Int.reduceAdd, Int.reduceToNat, Int.reduceLE, Int.reduceBEq, Int.reduceBNe, enc1, cChan, cCSt, eqTy_Sum, toOut]
              apply Exists.intro
              apply And.intro
              · first | exact (lockTo_ap _ _) | exact (fun _ => (lockTo_ap _ _)) | exact (fun h => ⟨h, (lockTo_ap _ _)⟩) | exact (fun h => ⟨by simp_all, (lockTo_ap _ _)⟩)
              (try simp only [rsAV, List.map_cons, List.map_nil, thenQ])
              refine hK107 _ ?_
              (try clear hK107)
              refine ag_two (i := 3) (j := 8) (by kernel_rfl) ?_ ?_
              · refine agi (it := It.mk (some 62) none (IK.lit 35 [Operand.tmp 61])) (R' := [4]) (by kernel_rfl) (.inl rfl) (by kernel_rfl) (fun K108 hK108 => ?_)
                simp (maxSteps := 999999) (disch := omega) only [av1, av2, av3, eq_self, exists_const, forall_const, implies_true, storeOk, AS.gd, PK.more, PK.cond, PK.val, AV.get, CV.get, AV.ok, CV.ok, AV.off, CV.off, AV.set, CV.set, AV.fits, CV.fits, AV.size, AV.agg, CV.agg, AV.solid, AV.int?, AV.bool?, binOk, AV.els, CV.isByte, Sh.agg, Sh.fits, Sh.fitsL, Sh.fitsR, CV.eqv, CV.eqvs, AV.closed, rsAV, thenQ, AObj.lt, CV.numOf, Nat.reduceAdd, Nat.reduceLT, Nat.reduceMul, reduceCtorEq, ↓reduceIte, Nat.reduceEqDiff, Nat.reduceLeDiff, Nat.reduceSub, Nat.reduceBEq, Nat.reduceBNe, Int.reduceLT, Int.reduceEq, Int.reduceAdd, Int.reduceToNat, Int.reduceLE, Int.reduceBEq, Int.reduceBNe, enc1, cChan, cCSt, eqTy_Sum, toOut]
                (repeat ((with_reducible refine And.intro ?_ ?_); (first | trivial | assumption | omega | (simp; done))))
                refine hK108 _ ?_
                (try clear hK108)
                refine ag_one (i := 8) (by kernel_rfl) ?_
                refine agi (it := It.mk (some 67) none (IK.lit 2 [Operand.tmp 63, Operand.tmp 66])) (R' := []) (by kernel_rfl) (.inl rfl) (by kernel_rfl) (fun K109 hK109 => ?_)
                simp (maxSteps := 999999) (disch := omega) only [av1, av2, av3, eq_self, exists_const, forall_const, implies_true, storeOk, AS.gd, PK.more, PK.cond, PK.val, AV.get, CV.get, AV.ok, CV.ok, AV.off, CV.off, AV.set, CV.set, AV.fits, CV.fits, AV.size, AV.agg, CV.agg, AV.solid, AV.int?, AV.bool?, binOk, AV.els, CV.isByte, Sh.agg, Sh.fits, Sh.fitsL, Sh.fitsR, CV.eqv, CV.eqvs, AV.closed, rsAV, thenQ, AObj.lt, CV.numOf, Nat.reduceAdd, Nat.reduceLT, Nat.reduceMul, reduceCtorEq, ↓reduceIte, Nat.reduceEqDiff, Nat.reduceLeDiff, Nat.reduceSub, Nat.reduceBEq, Nat.reduceBNe, Int.reduceLT, Int.reduceEq, Int.reduceAdd, Int.reduceToNat, Int.reduceLE, Int.reduceBEq, Int.reduceBNe, enc1, cChan, cCSt, eqTy_Sum, toOut]
                (repeat ((with_reducible refine And.intro ?_ ?_); (first | trivial | assumption | omega | (simp; done))))
                refine hK109 _ ?_
                (try clear hK109)
                refine ag_pures (fuel := 2) [9] [It.mk (some 68) none (IK.p (PK.bld (CV.st [CV.pv (Value.slice none 0 0), CV.pv (Value.slice none 0 0), CV.st [CV.pv (Value.int IntKind.i64 0), CV.pv (Value.int IntKind.i64 0), CV.pv (Value.int IntKind.i64 0), CV.pv (Value.int IntKind.i64 0), CV.ar IntKind.u8 32 (List.replicate 32 0), CV.pv (Value.slice none 0 0)], CV.pv (Value.slice none 0 0)]) [(0, 1), (1, 1), (2, 37), (39, 1)] [(0, Operand.tmp 62), (1, Operand.tmp 67)]))] (by kernel_rfl) (by kernel_rfl) (by kernel_rfl) (by kernel_rfl) (hideZ_nil _ 0) (fun K110 hK110 => ?_)
                simp (maxSteps := 999999) (disch := omega) only [av1, av2, av3, eq_self, exists_const, forall_const, implies_true, storeOk, AS.gd, PK.more, PK.cond, PK.val, AV.get, CV.get, AV.ok, CV.ok, AV.off, CV.off, AV.set, CV.set, AV.fits, CV.fits, AV.size, AV.agg, CV.agg, AV.solid, AV.int?, AV.bool?, binOk, AV.els, CV.isByte, Sh.agg, Sh.fits, Sh.fitsL, Sh.fitsR, CV.eqv, CV.eqvs, AV.closed, rsAV, thenQ, AObj.lt, CV.numOf, Nat.reduceAdd, Nat.reduceLT, Nat.reduceMul, reduceCtorEq, ↓reduceIte, Nat.reduceEqDiff, Nat.reduceLeDiff, Nat.reduceSub, Nat.reduceBEq, Nat.reduceBNe, Int.reduceLT, Int.reduceEq, Int.reduceAdd, Int.reduceToNat, Int.reduceLE, Int.reduceBEq, Int.reduceBNe, enc1, cChan, cCSt, eqTy_Sum, toOut]
                (repeat ((with_reducible refine And.intro ?_ ?_); (first | trivial | assumption | omega | (simp; done))))
                refine hK110 _ ?_
                (try clear hK110)
                refine ag_one (i := 10) (by kernel_rfl) ?_
                refine agi (it := It.mk none none (IK.store (Operand.tmp 6) (Operand.tmp 68) 40)) (R' := []) (by kernel_rfl) (.inr (by kernel_rfl)) (by kernel_rfl) (fun K111 hK111 => ?_)
                simp (maxSteps := 999999) (disch := omega) only [av1, av2, av3, eq_self, exists_const, forall_const, implies_true, storeOk, AS.gd, PK.more, PK.cond, PK.val, AV.get, CV.get, AV.ok, CV.ok, AV.off, CV.off, AV.set, CV.set, AV.fits, CV.fits, AV.size, AV.agg, CV.agg, AV.solid, AV.int?, AV.bool?, binOk, AV.els, CV.isByte, Sh.agg, Sh.fits, Sh.fitsL, Sh.fitsR, CV.eqv, CV.eqvs, AV.closed, rsAV, thenQ, AObj.lt, CV.numOf, Nat.reduceAdd, Nat.reduceLT, Nat.reduceMul, reduceCtorEq, ↓reduceIte, Nat.reduceEqDiff, Nat.reduceLeDiff, Nat.reduceSub, Nat.reduceBEq, Nat.reduceBNe, Int.reduceLT, Int.reduceEq, Int.reduceAdd, Int.reduceToNat, Int.reduceLE, Int.reduceBEq, Int.reduceBNe, enc1, cChan, cCSt, eqTy_Sum, toOut]
                (repeat ((with_reducible refine And.intro ?_ ?_); (first | trivial | assumption | omega | (simp; done))))
                refine hK111 _ ?_
                (try clear hK111)
                refine ag_pures (fuel := 0) [11] [It.mk (some 7) none (IK.p (PK.mov (Operand.const (Value.int IntKind.i64 0))))] (by kernel_rfl) (by kernel_rfl) (by kernel_rfl) (by kernel_rfl) (hideZ_nil _ 0) (fun K112 hK112 => ?_)
                simp (maxSteps := 999999) (disch := omega) only [av1, av2, av3, eq_self, exists_const, forall_const, implies_true, storeOk, AS.gd, PK.more, PK.cond, PK.val, AV.get, CV.get, AV.ok, CV.ok, AV.off, CV.off, AV.set, CV.set, AV.fits, CV.fits, AV.size, AV.agg, CV.agg, AV.solid, AV.int?, AV.bool?, binOk, AV.els, CV.isByte, Sh.agg, Sh.fits, Sh.fitsL, Sh.fitsR, CV.eqv, CV.eqvs, AV.closed, rsAV, thenQ, AObj.lt, CV.numOf, Nat.reduceAdd, Nat.reduceLT, Nat.reduceMul, reduceCtorEq, ↓reduceIte, Nat.reduceEqDiff, Nat.reduceLeDiff, Nat.reduceSub, Nat.reduceBEq, Nat.reduceBNe, Int.reduceLT, Int.reduceEq, Int.reduceAdd, Int.reduceToNat, Int.reduceLE, Int.reduceBEq, Int.reduceBNe, enc1, cChan, cCSt, eqTy_Sum, toOut]
                (repeat ((with_reducible refine And.intro ?_ ?_); (first | trivial | assumption | omega | (simp; done))))
                refine hK112 _ ?_
                (try clear hK112)
                refine ag_done (by kernel_rfl) ?_
                (try simp only [thenQ])
                refine hK99 _ ?_
                (try clear hK99)
                refine at_ret ?_
                simp (maxSteps := 999999) (disch := omega) only [av1, av2, av3, eq_self, exists_const, forall_const, implies_true, storeOk, AS.gd, PK.more, PK.cond, PK.val, AV.get, CV.get, AV.ok, CV.ok, AV.off, CV.off, AV.set, CV.set, AV.fits, CV.fits, AV.size, AV.agg, CV.agg, AV.solid, AV.int?, AV.bool?, binOk, AV.els, CV.isByte, Sh.agg, Sh.fits, Sh.fitsL, Sh.fitsR, CV.eqv, CV.eqvs, AV.closed, rsAV, thenQ, AObj.lt, CV.numOf, Nat.reduceAdd, Nat.reduceLT, Nat.reduceMul, reduceCtorEq, ↓reduceIte, Nat.reduceEqDiff, Nat.reduceLeDiff, Nat.reduceSub, Nat.reduceBEq, Nat.reduceBNe, Int.reduceLT, Int.reduceEq, Int.reduceAdd, Int.reduceToNat, Int.reduceLE, Int.reduceBEq, Int.reduceBNe, enc1, cChan, cCSt, eqTy_Sum, toOut, blockQ, retQ, RetOk, ResOk, AV.fin, AV.fins, CV.le, CV.les]
                first
                  | (obtain ⟨e1, e2⟩ := build_bad (o := 1) h6; simp [e1, e2, zTxx, zOpx] <;> rfl)
                  | (obtain ⟨e1, e2⟩ := build_ok (o := 1) h6; simp [e1, e2, comOf, comTx, zOpx, cInp, cOut, cWay, cRef, cSum, ints, ic, toOut, CV.les, CV.le] <;> rfl)
              · refine agi (it := It.mk (some 67) none (IK.lit 2 [Operand.tmp 63, Operand.tmp 66])) (R' := [2, 1, 0]) (by kernel_rfl) (.inl rfl) (by kernel_rfl) (fun K113 hK113 => ?_)
                simp (maxSteps := 999999) (disch := omega) only [av1, av2, av3, eq_self, exists_const, forall_const, implies_true, storeOk, AS.gd, PK.more, PK.cond, PK.val, AV.get, CV.get, AV.ok, CV.ok, AV.off, CV.off, AV.set, CV.set, AV.fits, CV.fits, AV.size, AV.agg, CV.agg, AV.solid, AV.int?, AV.bool?, binOk, AV.els, CV.isByte, Sh.agg, Sh.fits, Sh.fitsL, Sh.fitsR, CV.eqv, CV.eqvs, AV.closed, rsAV, thenQ, AObj.lt, CV.numOf, Nat.reduceAdd, Nat.reduceLT, Nat.reduceMul, reduceCtorEq, ↓reduceIte, Nat.reduceEqDiff, Nat.reduceLeDiff, Nat.reduceSub, Nat.reduceBEq, Nat.reduceBNe, Int.reduceLT, Int.reduceEq, Int.reduceAdd, Int.reduceToNat, Int.reduceLE, Int.reduceBEq, Int.reduceBNe, enc1, cChan, cCSt, eqTy_Sum, toOut]
                (repeat ((with_reducible refine And.intro ?_ ?_); (first | trivial | assumption | omega | (simp; done))))
                refine hK113 _ ?_
                (try clear hK113)
                refine ag_one (i := 3) (by kernel_rfl) ?_
                refine agi (it := It.mk (some 62) none (IK.lit 35 [Operand.tmp 61])) (R' := []) (by kernel_rfl) (.inl rfl) (by kernel_rfl) (fun K114 hK114 => ?_)
                simp (maxSteps := 999999) (disch := omega) only [av1, av2, av3, eq_self, exists_const, forall_const, implies_true, storeOk, AS.gd, PK.more, PK.cond, PK.val, AV.get, CV.get, AV.ok, CV.ok, AV.off, CV.off, AV.set, CV.set, AV.fits, CV.fits, AV.size, AV.agg, CV.agg, AV.solid, AV.int?, AV.bool?, binOk, AV.els, CV.isByte, Sh.agg, Sh.fits, Sh.fitsL, Sh.fitsR, CV.eqv, CV.eqvs, AV.closed, rsAV, thenQ, AObj.lt, CV.numOf, Nat.reduceAdd, Nat.reduceLT, Nat.reduceMul, reduceCtorEq, ↓reduceIte, Nat.reduceEqDiff, Nat.reduceLeDiff, Nat.reduceSub, Nat.reduceBEq, Nat.reduceBNe, Int.reduceLT, Int.reduceEq, Int.reduceAdd, Int.reduceToNat, Int.reduceLE, Int.reduceBEq, Int.reduceBNe, enc1, cChan, cCSt, eqTy_Sum, toOut]
                (repeat ((with_reducible refine And.intro ?_ ?_); (first | trivial | assumption | omega | (simp; done))))
                refine hK114 _ ?_
                (try clear hK114)
                refine ag_pures (fuel := 2) [9] [It.mk (some 68) none (IK.p (PK.bld (CV.st [CV.pv (Value.slice none 0 0), CV.pv (Value.slice none 0 0), CV.st [CV.pv (Value.int IntKind.i64 0), CV.pv (Value.int IntKind.i64 0), CV.pv (Value.int IntKind.i64 0), CV.pv (Value.int IntKind.i64 0), CV.ar IntKind.u8 32 (List.replicate 32 0), CV.pv (Value.slice none 0 0)], CV.pv (Value.slice none 0 0)]) [(0, 1), (1, 1), (2, 37), (39, 1)] [(0, Operand.tmp 62), (1, Operand.tmp 67)]))] (by kernel_rfl) (by kernel_rfl) (by kernel_rfl) (by kernel_rfl) (hideZ_nil _ 0) (fun K115 hK115 => ?_)
                simp (maxSteps := 999999) (disch := omega) only [av1, av2, av3, eq_self, exists_const, forall_const, implies_true, storeOk, AS.gd, PK.more, PK.cond, PK.val, AV.get, CV.get, AV.ok, CV.ok, AV.off, CV.off, AV.set, CV.set, AV.fits, CV.fits, AV.size, AV.agg, CV.agg, AV.solid, AV.int?, AV.bool?, binOk, AV.els, CV.isByte, Sh.agg, Sh.fits, Sh.fitsL, Sh.fitsR, CV.eqv, CV.eqvs, AV.closed, rsAV, thenQ, AObj.lt, CV.numOf, Nat.reduceAdd, Nat.reduceLT, Nat.reduceMul, reduceCtorEq, ↓reduceIte, Nat.reduceEqDiff, Nat.reduceLeDiff, Nat.reduceSub, Nat.reduceBEq, Nat.reduceBNe, Int.reduceLT, Int.reduceEq, Int.reduceAdd, Int.reduceToNat, Int.reduceLE, Int.reduceBEq, Int.reduceBNe, enc1, cChan, cCSt, eqTy_Sum, toOut]
                (repeat ((with_reducible refine And.intro ?_ ?_); (first | trivial | assumption | omega | (simp; done))))
                refine hK115 _ ?_
                (try clear hK115)
                refine ag_one (i := 10) (by kernel_rfl) ?_
                refine agi (it := It.mk none none (IK.store (Operand.tmp 6) (Operand.tmp 68) 40)) (R' := []) (by kernel_rfl) (.inr (by kernel_rfl)) (by kernel_rfl) (fun K116 hK116 => ?_)
                simp (maxSteps := 999999) (disch := omega) only [av1, av2, av3, eq_self, exists_const, forall_const, implies_true, storeOk, AS.gd, PK.more, PK.cond, PK.val, AV.get, CV.get, AV.ok, CV.ok, AV.off, CV.off, AV.set, CV.set, AV.fits, CV.fits, AV.size, AV.agg, CV.agg, AV.solid, AV.int?, AV.bool?, binOk, AV.els, CV.isByte, Sh.agg, Sh.fits, Sh.fitsL, Sh.fitsR, CV.eqv, CV.eqvs, AV.closed, rsAV, thenQ, AObj.lt, CV.numOf, Nat.reduceAdd, Nat.reduceLT, Nat.reduceMul, reduceCtorEq, ↓reduceIte, Nat.reduceEqDiff, Nat.reduceLeDiff, Nat.reduceSub, Nat.reduceBEq, Nat.reduceBNe, Int.reduceLT, Int.reduceEq, Int.reduceAdd, Int.reduceToNat, Int.reduceLE, Int.reduceBEq, Int.reduceBNe, enc1, cChan, cCSt, eqTy_Sum, toOut]
                (repeat ((with_reducible refine And.intro ?_ ?_); (first | trivial | assumption | omega | (simp; done))))
                refine hK116 _ ?_
                (try clear hK116)
                refine ag_pures (fuel := 0) [11] [It.mk (some 7) none (IK.p (PK.mov (Operand.const (Value.int IntKind.i64 0))))] (by kernel_rfl) (by kernel_rfl) (by kernel_rfl) (by kernel_rfl) (hideZ_nil _ 0) (fun K117 hK117 => ?_)
                simp (maxSteps := 999999) (disch := omega) only [av1, av2, av3, eq_self, exists_const, forall_const, implies_true, storeOk, AS.gd, PK.more, PK.cond, PK.val, AV.get, CV.get, AV.ok, CV.ok, AV.off, CV.off, AV.set, CV.set, AV.fits, CV.fits, AV.size, AV.agg, CV.agg, AV.solid, AV.int?, AV.bool?, binOk, AV.els, CV.isByte, Sh.agg, Sh.fits, Sh.fitsL, Sh.fitsR, CV.eqv, CV.eqvs, AV.closed, rsAV, thenQ, AObj.lt, CV.numOf, Nat.reduceAdd, Nat.reduceLT, Nat.reduceMul, reduceCtorEq, ↓reduceIte, Nat.reduceEqDiff, Nat.reduceLeDiff, Nat.reduceSub, Nat.reduceBEq, Nat.reduceBNe, Int.reduceLT, Int.reduceEq, Int.reduceAdd, Int.reduceToNat, Int.reduceLE, Int.reduceBEq, Int.reduceBNe, enc1, cChan, cCSt, eqTy_Sum, toOut]
                (repeat ((with_reducible refine And.intro ?_ ?_); (first | trivial | assumption | omega | (simp; done))))
                refine hK117 _ ?_
                (try clear hK117)
                refine ag_done (by kernel_rfl) ?_
                (try simp only [thenQ])
                refine hK99 _ ?_
                (try clear hK99)
                refine at_ret ?_
                simp (maxSteps := 999999) (disch := omega) only [av1, av2, av3, eq_self, exists_const, forall_const, implies_true, storeOk, AS.gd, PK.more, PK.cond, PK.val, AV.get, CV.get, AV.ok, CV.ok, AV.off, CV.off, AV.set, CV.set, AV.fits, CV.fits, AV.size, AV.agg, CV.agg, AV.solid, AV.int?, AV.bool?, binOk, AV.els, CV.isByte, Sh.agg, Sh.fits, Sh.fitsL, Sh.fitsR, CV.eqv, CV.eqvs, AV.closed, rsAV, thenQ, AObj.lt, CV.numOf, Nat.reduceAdd, Nat.reduceLT, Nat.reduceMul, reduceCtorEq, ↓reduceIte, Nat.reduceEqDiff, Nat.reduceLeDiff, Nat.reduceSub, Nat.reduceBEq, Nat.reduceBNe, Int.reduceLT, Int.reduceEq, Int.reduceAdd, Int.reduceToNat, Int.reduceLE, Int.reduceBEq, Int.reduceBNe, enc1, cChan, cCSt, eqTy_Sum, toOut, blockQ, retQ, RetOk, ResOk, AV.fin, AV.fins, CV.le, CV.les]
                first
                  | (obtain ⟨e1, e2⟩ := build_bad (o := 1) h6; simp [e1, e2, zTxx, zOpx] <;> rfl)
                  | (obtain ⟨e1, e2⟩ := build_ok (o := 1) h6; simp [e1, e2, comOf, comTx, zOpx, cInp, cOut, cWay, cRef, cSum, ints, ic, toOut, CV.les, CV.le] <;> rfl)
          · refine agi (it := It.mk (some 12) none (IK.alloc (CV.st [CV.pv (Value.int IntKind.i64 0), CV.pv (Value.slice none 0 0)]))) (R' := [5, 12, 11, 10, 9, 8, 4, 3, 0]) (by kernel_rfl) (.inl rfl) (by kernel_rfl) (fun K118 hK118 => ?_)
            simp (maxSteps := 999999) (disch := omega) only [av1, av2, av3, eq_self, exists_const, forall_const, implies_true, storeOk, AS.gd, PK.more, PK.cond, PK.val, AV.get, CV.get, AV.ok, CV.ok, AV.off, CV.off, AV.set, CV.set, AV.fits, CV.fits, AV.size, AV.agg, CV.agg, AV.solid, AV.int?, AV.bool?, binOk, AV.els, CV.isByte, Sh.agg, Sh.fits, Sh.fitsL, Sh.fitsR, CV.eqv, CV.eqvs, AV.closed, rsAV, thenQ, AObj.lt, CV.numOf, Nat.reduceAdd, Nat.reduceLT, Nat.reduceMul, reduceCtorEq, ↓reduceIte, Nat.reduceEqDiff, Nat.reduceLeDiff, Nat.reduceSub, Nat.reduceBEq, Nat.reduceBNe, Int.reduceLT, Int.reduceEq, Int.reduceAdd, Int.reduceToNat, Int.reduceLE, Int.reduceBEq, Int.reduceBNe, enc1, cChan, cCSt, eqTy_Sum, toOut]
            (repeat ((with_reducible refine And.intro ?_ ?_); (first | trivial | assumption | omega | (simp; done))))
            refine hK118 _ ?_
            (try clear hK118)
            refine ag_one (i := 13) (by kernel_rfl) ?_
            refine agi (it := It.mk (some 57) none (IK.lit 35 [Operand.tmp 49, Operand.tmp 56])) (R' := [0]) (by kernel_rfl) (.inl rfl) (by kernel_rfl) (fun K119 hK119 => ?_)
            simp (maxSteps := 999999) (disch := omega) only [av1, av2, av3, eq_self, exists_const, forall_const, implies_true, storeOk, AS.gd, PK.more, PK.cond, PK.val, AV.get, CV.get, AV.ok, CV.ok, AV.off, CV.off, AV.set, CV.set, AV.fits, CV.fits, AV.size, AV.agg, CV.agg, AV.solid, AV.int?, AV.bool?, binOk, AV.els, CV.isByte, Sh.agg, Sh.fits, Sh.fitsL, Sh.fitsR, CV.eqv, CV.eqvs, AV.closed, rsAV, thenQ, AObj.lt, CV.numOf, Nat.reduceAdd, Nat.reduceLT, Nat.reduceMul, reduceCtorEq, ↓reduceIte, Nat.reduceEqDiff, Nat.reduceLeDiff, Nat.reduceSub, Nat.reduceBEq, Nat.reduceBNe, Int.reduceLT, Int.reduceEq, Int.reduceAdd, Int.reduceToNat, Int.reduceLE, Int.reduceBEq, Int.reduceBNe, enc1, cChan, cCSt, eqTy_Sum, toOut]
            (repeat ((with_reducible refine And.intro ?_ ?_); (first | trivial | assumption | omega | (simp; done))))
            refine hK119 _ ?_
            (try clear hK119)
            refine ag_pures (fuel := 1) [14] [It.mk (some 58) none (IK.p (PK.bld (CV.st [CV.pv (Value.int IntKind.i64 0), CV.pv (Value.slice none 0 0)]) [(0, 1), (1, 1)] [(0, Operand.tmp 44), (1, Operand.tmp 57)]))] (by kernel_rfl) (by kernel_rfl) (by kernel_rfl) (by kernel_rfl) (hideZ_nil _ 0) (fun K120 hK120 => ?_)
            simp (maxSteps := 999999) (disch := omega) only [av1, av2, av3, eq_self, exists_const, forall_const, implies_true, storeOk, AS.gd, PK.more, PK.cond, PK.val, AV.get, CV.get, AV.ok, CV.ok, AV.off, CV.off, AV.set, CV.set, AV.fits, CV.fits, AV.size, AV.agg, CV.agg, AV.solid, AV.int?, AV.bool?, binOk, AV.els, CV.isByte, Sh.agg, Sh.fits, Sh.fitsL, Sh.fitsR, CV.eqv, CV.eqvs, AV.closed, rsAV, thenQ, AObj.lt, CV.numOf, Nat.reduceAdd, Nat.reduceLT, Nat.reduceMul, reduceCtorEq, ↓reduceIte, Nat.reduceEqDiff, Nat.reduceLeDiff, Nat.reduceSub, Nat.reduceBEq, Nat.reduceBNe, Int.reduceLT, Int.reduceEq, Int.reduceAdd, Int.reduceToNat, Int.reduceLE, Int.reduceBEq, Int.reduceBNe, enc1, cChan, cCSt, eqTy_Sum, toOut]
            (repeat ((with_reducible refine And.intro ?_ ?_); (first | trivial | assumption | omega | (simp; done))))
            refine hK120 _ ?_
            (try clear hK120)
            refine ag_one (i := 16) (by kernel_rfl) ?_
            refine agi (it := It.mk none none (IK.store (Operand.tmp 12) (Operand.tmp 58) 2)) (R' := []) (by kernel_rfl) (.inr (by kernel_rfl)) (by kernel_rfl) (fun K121 hK121 => ?_)
            simp (maxSteps := 999999) (disch := omega) only [av1, av2, av3, eq_self, exists_const, forall_const, implies_true, storeOk, AS.gd, PK.more, PK.cond, PK.val, AV.get, CV.get, AV.ok, CV.ok, AV.off, CV.off, AV.set, CV.set, AV.fits, CV.fits, AV.size, AV.agg, CV.agg, AV.solid, AV.int?, AV.bool?, binOk, AV.els, CV.isByte, Sh.agg, Sh.fits, Sh.fitsL, Sh.fitsR, CV.eqv, CV.eqvs, AV.closed, rsAV, thenQ, AObj.lt, CV.numOf, Nat.reduceAdd, Nat.reduceLT, Nat.reduceMul, reduceCtorEq, ↓reduceIte, Nat.reduceEqDiff, Nat.reduceLeDiff, Nat.reduceSub, Nat.reduceBEq, Nat.reduceBNe, Int.reduceLT, Int.reduceEq, Int.reduceAdd, Int.reduceToNat, Int.reduceLE, Int.reduceBEq, Int.reduceBNe, enc1, cChan, cCSt, eqTy_Sum, toOut]
            (repeat ((with_reducible refine And.intro ?_ ?_); (first | trivial | assumption | omega | (simp; done))))
            refine hK121 _ ?_
            (try clear hK121)
            refine ag_done (by kernel_rfl) ?_
            (try simp only [thenQ])
            refine hK14 _ ?_
            (try clear hK14)
            refine at_seq fun K122 hK122 => ?_
            refine at_draws [] (by kernel_rfl) ?_
            refine ag_pures (fuel := 6) [0, 1, 2, 4, 5, 6] [It.mk (some 59) none (IK.p (PK.fAddr (Operand.tmp 3) 3 3)), It.mk (some 60) none (IK.p (PK.load (Operand.tmp 59) 33 true)), It.mk (some 61) none (IK.p (PK.bld (CV.st [CV.st [CV.ar IntKind.u8 32 (List.replicate 32 0), CV.pv (Value.int IntKind.i64 0)], CV.pv (Value.int IntKind.i64 0), CV.pv (Value.slice none 0 0)]) [(0, 33), (33, 1), (34, 1)] [(0, Operand.tmp 60)])), It.mk (some 63) none (IK.p (PK.load (Operand.tmp 12) 2 true)), It.mk (some 64) none (IK.p (PK.mov (Operand.tmp 9))), It.mk (some 65) none (IK.p (PK.mov (Operand.tmp 11)))] (by kernel_rfl) (by kernel_rfl) (by kernel_rfl) (by kernel_rfl) (hideZ_nil _ 0) (fun K123 hK123 => ?_)
            simp (maxSteps := 999999) (disch := omega) only [av1, av2, av3, eq_self, exists_const, forall_const, implies_true, storeOk, AS.gd, PK.more, PK.cond, PK.val, AV.get, CV.get, AV.ok, CV.ok, AV.off, CV.off, AV.set, CV.set, AV.fits, CV.fits, AV.size, AV.agg, CV.agg, AV.solid, AV.int?, AV.bool?, binOk, AV.els, CV.isByte, Sh.agg, Sh.fits, Sh.fitsL, Sh.fitsR, CV.eqv, CV.eqvs, AV.closed, rsAV, thenQ, AObj.lt, CV.numOf, Nat.reduceAdd, Nat.reduceLT, Nat.reduceMul, reduceCtorEq, ↓reduceIte, Nat.reduceEqDiff, Nat.reduceLeDiff, Nat.reduceSub, Nat.reduceBEq, Nat.reduceBNe, Int.reduceLT, Int.reduceEq, Int.reduceAdd, Int.reduceToNat, Int.reduceLE, Int.reduceBEq, Int.reduceBNe, enc1, cChan, cCSt, eqTy_Sum, toOut]
            (repeat ((with_reducible refine And.intro ?_ ?_); (first | trivial | assumption | omega | (simp; done))))
            refine hK123 _ ?_
            (try clear hK123)
            refine ag_two (i := 3) (j := 7) (by kernel_rfl) ?_ ?_
            · refine agi (it := It.mk (some 62) none (IK.lit 35 [Operand.tmp 61])) (R' := [6, 5, 4]) (by kernel_rfl) (.inl rfl) (by kernel_rfl) (fun K124 hK124 => ?_)
              simp (maxSteps := 999999) (disch := omega) only [av1, av2, av3, eq_self, exists_const, forall_const, implies_true, storeOk, AS.gd, PK.more, PK.cond, PK.val, AV.get, CV.get, AV.ok, CV.ok, AV.off, CV.off, AV.set, CV.set, AV.fits, CV.fits, AV.size, AV.agg, CV.agg, AV.solid, AV.int?, AV.bool?, binOk, AV.els, CV.isByte, Sh.agg, Sh.fits, Sh.fitsL, Sh.fitsR, CV.eqv, CV.eqvs, AV.closed, rsAV, thenQ, AObj.lt, CV.numOf, Nat.reduceAdd, Nat.reduceLT, Nat.reduceMul, reduceCtorEq, ↓reduceIte, Nat.reduceEqDiff, Nat.reduceLeDiff, Nat.reduceSub, Nat.reduceBEq, Nat.reduceBNe, Int.reduceLT, Int.reduceEq, Int.reduceAdd, Int.reduceToNat, Int.reduceLE, Int.reduceBEq, Int.reduceBNe, enc1, cChan, cCSt, eqTy_Sum, toOut]
              (repeat ((with_reducible refine And.intro ?_ ?_); (first | trivial | assumption | omega | (simp; done))))
              refine hK124 _ ?_
              (try clear hK124)
              refine ag_one (i := 7) (by kernel_rfl) ?_
              refine agi (it := It.mk (some 66) none (IK.call 23 [Operand.tmp 64, Operand.tmp 65])) (R' := [4]) (by kernel_rfl) (.inl rfl) (by kernel_rfl) (fun K125 hK125 => ?_)
              simp (maxSteps := 999999) (disch := omega) only [av1, av2, av3, eq_self, exists_const, forall_const, implies_true, storeOk, AS.gd, PK.more, PK.cond, PK.val, AV.get, CV.get, AV.ok, CV.ok, AV.off, CV.off, AV.set, CV.set, AV.fits, CV.fits, AV.size, AV.agg, CV.agg, AV.solid, AV.int?, AV.bool?, binOk, AV.els, CV.isByte, Sh.agg, Sh.fits, Sh.fitsL, Sh.fitsR, CV.eqv, CV.eqvs, AV.closed, rsAV, thenQ, AObj.lt, CV.numOf, Nat.reduceAdd, Nat.reduceLT, Nat.reduceMul, reduceCtorEq, ↓reduceIte, Nat.reduceEqDiff, Nat.reduceLeDiff, Nat.reduceSub, Nat.reduceBEq, Nat.reduceBNe, Int.reduceLT, Int.reduceEq, Int.reduceAdd, Int.reduceToNat, Int.reduceLE, Int.reduceBEq, Int.reduceBNe, enc1, cChan, cCSt, eqTy_Sum, toOut]
              apply Exists.intro
              apply And.intro
              · first | exact (lockTo_ap _ _) | exact (fun _ => (lockTo_ap _ _)) | exact (fun h => ⟨h, (lockTo_ap _ _)⟩) | exact (fun h => ⟨by simp_all, (lockTo_ap _ _)⟩)
              (try simp only [rsAV, List.map_cons, List.map_nil, thenQ])
              refine hK125 _ ?_
              (try clear hK125)
              refine ag_one (i := 8) (by kernel_rfl) ?_
              refine agi (it := It.mk (some 67) none (IK.lit 2 [Operand.tmp 63, Operand.tmp 66])) (R' := []) (by kernel_rfl) (.inl rfl) (by kernel_rfl) (fun K126 hK126 => ?_)
              simp (maxSteps := 999999) (disch := omega) only [av1, av2, av3, eq_self, exists_const, forall_const, implies_true, storeOk, AS.gd, PK.more, PK.cond, PK.val, AV.get, CV.get, AV.ok, CV.ok, AV.off, CV.off, AV.set, CV.set, AV.fits, CV.fits, AV.size, AV.agg, CV.agg, AV.solid, AV.int?, AV.bool?, binOk, AV.els, CV.isByte, Sh.agg, Sh.fits, Sh.fitsL, Sh.fitsR, CV.eqv, CV.eqvs, AV.closed, rsAV, thenQ, AObj.lt, CV.numOf, Nat.reduceAdd, Nat.reduceLT, Nat.reduceMul, reduceCtorEq, ↓reduceIte, Nat.reduceEqDiff, Nat.reduceLeDiff, Nat.reduceSub, Nat.reduceBEq, Nat.reduceBNe, Int.reduceLT, Int.reduceEq, Int.reduceAdd, Int.reduceToNat, Int.reduceLE, Int.reduceBEq, Int.reduceBNe, enc1, cChan, cCSt, eqTy_Sum, toOut]
              (repeat ((with_reducible refine And.intro ?_ ?_); (first | trivial | assumption | omega | (simp; done))))
              refine hK126 _ ?_
              (try clear hK126)
              refine ag_pures (fuel := 2) [9] [It.mk (some 68) none (IK.p (PK.bld (CV.st [CV.pv (Value.slice none 0 0), CV.pv (Value.slice none 0 0), CV.st [CV.pv (Value.int IntKind.i64 0), CV.pv (Value.int IntKind.i64 0), CV.pv (Value.int IntKind.i64 0), CV.pv (Value.int IntKind.i64 0), CV.ar IntKind.u8 32 (List.replicate 32 0), CV.pv (Value.slice none 0 0)], CV.pv (Value.slice none 0 0)]) [(0, 1), (1, 1), (2, 37), (39, 1)] [(0, Operand.tmp 62), (1, Operand.tmp 67)]))] (by kernel_rfl) (by kernel_rfl) (by kernel_rfl) (by kernel_rfl) (hideZ_nil _ 0) (fun K127 hK127 => ?_)
              simp (maxSteps := 999999) (disch := omega) only [av1, av2, av3, eq_self, exists_const, forall_const, implies_true, storeOk, AS.gd, PK.more, PK.cond, PK.val, AV.get, CV.get, AV.ok, CV.ok, AV.off, CV.off, AV.set, CV.set, AV.fits, CV.fits, AV.size, AV.agg, CV.agg, AV.solid, AV.int?, AV.bool?, binOk, AV.els, CV.isByte, Sh.agg, Sh.fits, Sh.fitsL, Sh.fitsR, CV.eqv, CV.eqvs, AV.closed, rsAV, thenQ, AObj.lt, CV.numOf, Nat.reduceAdd, Nat.reduceLT, Nat.reduceMul, reduceCtorEq, ↓reduceIte, Nat.reduceEqDiff, Nat.reduceLeDiff, Nat.reduceSub, Nat.reduceBEq, Nat.reduceBNe, Int.reduceLT, Int.reduceEq, Int.reduceAdd, Int.reduceToNat, Int.reduceLE, Int.reduceBEq, Int.reduceBNe, enc1, cChan, cCSt, eqTy_Sum, toOut]
              (repeat ((with_reducible refine And.intro ?_ ?_); (first | trivial | assumption | omega | (simp; done))))
              refine hK127 _ ?_
              (try clear hK127)
              refine ag_one (i := 10) (by kernel_rfl) ?_
              refine agi (it := It.mk none none (IK.store (Operand.tmp 6) (Operand.tmp 68) 40)) (R' := []) (by kernel_rfl) (.inr (by kernel_rfl)) (by kernel_rfl) (fun K128 hK128 => ?_)
              simp (maxSteps := 999999) (disch := omega) only [av1, av2, av3, eq_self, exists_const, forall_const, implies_true, storeOk, AS.gd, PK.more, PK.cond, PK.val, AV.get, CV.get, AV.ok, CV.ok, AV.off, CV.off, AV.set, CV.set, AV.fits, CV.fits, AV.size, AV.agg, CV.agg, AV.solid, AV.int?, AV.bool?, binOk, AV.els, CV.isByte, Sh.agg, Sh.fits, Sh.fitsL, Sh.fitsR, CV.eqv, CV.eqvs, AV.closed, rsAV, thenQ, AObj.lt, CV.numOf, Nat.reduceAdd, Nat.reduceLT, Nat.reduceMul, reduceCtorEq, ↓reduceIte, Nat.reduceEqDiff, Nat.reduceLeDiff, Nat.reduceSub, Nat.reduceBEq, Nat.reduceBNe, Int.reduceLT, Int.reduceEq, Int.reduceAdd, Int.reduceToNat, Int.reduceLE, Int.reduceBEq, Int.reduceBNe, enc1, cChan, cCSt, eqTy_Sum, toOut]
              (repeat ((with_reducible refine And.intro ?_ ?_); (first | trivial | assumption | omega | (simp; done))))
              refine hK128 _ ?_
              (try clear hK128)
              refine ag_pures (fuel := 0) [11] [It.mk (some 7) none (IK.p (PK.mov (Operand.const (Value.int IntKind.i64 0))))] (by kernel_rfl) (by kernel_rfl) (by kernel_rfl) (by kernel_rfl) (hideZ_nil _ 0) (fun K129 hK129 => ?_)
              simp (maxSteps := 999999) (disch := omega) only [av1, av2, av3, eq_self, exists_const, forall_const, implies_true, storeOk, AS.gd, PK.more, PK.cond, PK.val, AV.get, CV.get, AV.ok, CV.ok, AV.off, CV.off, AV.set, CV.set, AV.fits, CV.fits, AV.size, AV.agg, CV.agg, AV.solid, AV.int?, AV.bool?, binOk, AV.els, CV.isByte, Sh.agg, Sh.fits, Sh.fitsL, Sh.fitsR, CV.eqv, CV.eqvs, AV.closed, rsAV, thenQ, AObj.lt, CV.numOf, Nat.reduceAdd, Nat.reduceLT, Nat.reduceMul, reduceCtorEq, ↓reduceIte, Nat.reduceEqDiff, Nat.reduceLeDiff, Nat.reduceSub, Nat.reduceBEq, Nat.reduceBNe, Int.reduceLT, Int.reduceEq, Int.reduceAdd, Int.reduceToNat, Int.reduceLE, Int.reduceBEq, Int.reduceBNe, enc1, cChan, cCSt, eqTy_Sum, toOut]
              (repeat ((with_reducible refine And.intro ?_ ?_); (first | trivial | assumption | omega | (simp; done))))
              refine hK129 _ ?_
              (try clear hK129)
              refine ag_done (by kernel_rfl) ?_
              (try simp only [thenQ])
              refine hK122 _ ?_
              (try clear hK122)
              refine at_ret ?_
              simp (maxSteps := 999999) (disch := omega) only [av1, av2, av3, eq_self, exists_const, forall_const, implies_true, storeOk, AS.gd, PK.more, PK.cond, PK.val, AV.get, CV.get, AV.ok, CV.ok, AV.off, CV.off, AV.set, CV.set, AV.fits, CV.fits, AV.size, AV.agg, CV.agg, AV.solid, AV.int?, AV.bool?, binOk, AV.els, CV.isByte, Sh.agg, Sh.fits, Sh.fitsL, Sh.fitsR, CV.eqv, CV.eqvs, AV.closed, rsAV, thenQ, AObj.lt, CV.numOf, Nat.reduceAdd, Nat.reduceLT, Nat.reduceMul, reduceCtorEq, ↓reduceIte, Nat.reduceEqDiff, Nat.reduceLeDiff, Nat.reduceSub, Nat.reduceBEq, Nat.reduceBNe, Int.reduceLT, Int.reduceEq, Int.reduceAdd, Int.reduceToNat, Int.reduceLE, Int.reduceBEq, Int.reduceBNe, enc1, cChan, cCSt, eqTy_Sum, toOut, blockQ, retQ, RetOk, ResOk, AV.fin, AV.fins, CV.le, CV.les]
              first
                | (obtain ⟨e1, e2⟩ := build_bad (o := 1) h6; simp [e1, e2, zTxx, zOpx] <;> rfl)
                | (obtain ⟨e1, e2⟩ := build_ok (o := 1) h6; simp [e1, e2, comOf, comTx, zOpx, cInp, cOut, cWay, cRef, cSum, ints, ic, toOut, CV.les, CV.le] <;> rfl)
            · refine agi (it := It.mk (some 66) none (IK.call 23 [Operand.tmp 64, Operand.tmp 65])) (R' := [4, 2, 1, 0]) (by kernel_rfl) (.inl rfl) (by kernel_rfl) (fun K130 hK130 => ?_)
              simp (maxSteps := 999999) (disch := omega) only [av1, av2, av3, eq_self, exists_const, forall_const, implies_true, storeOk, AS.gd, PK.more, PK.cond, PK.val, AV.get, CV.get, AV.ok, CV.ok, AV.off, CV.off, AV.set, CV.set, AV.fits, CV.fits, AV.size, AV.agg, CV.agg, AV.solid, AV.int?, AV.bool?, binOk, AV.els, CV.isByte, Sh.agg, Sh.fits, Sh.fitsL, Sh.fitsR, CV.eqv, CV.eqvs, AV.closed, rsAV, thenQ, AObj.lt, CV.numOf, Nat.reduceAdd, Nat.reduceLT, Nat.reduceMul, reduceCtorEq, ↓reduceIte, Nat.reduceEqDiff, Nat.reduceLeDiff, Nat.reduceSub, Nat.reduceBEq, Nat.reduceBNe, Int.reduceLT, Int.reduceEq, Int.reduceAdd, Int.reduceToNat, Int.reduceLE, Int.reduceBEq, Int.reduceBNe, enc1, cChan, cCSt, eqTy_Sum, toOut]
              apply Exists.intro
              apply And.intro
              · first | exact (lockTo_ap _ _) | exact (fun _ => (lockTo_ap _ _)) | exact (fun h => ⟨h, (lockTo_ap _ _)⟩) | exact (fun h => ⟨by simp_all, (lockTo_ap _ _)⟩)
              (try simp only [rsAV, List.map_cons, List.map_nil, thenQ])
              refine hK130 _ ?_
              (try clear hK130)
              refine ag_two (i := 3) (j := 8) (by kernel_rfl) ?_ ?_
              · refine agi (it := It.mk (some 62) none (IK.lit 35 [Operand.tmp 61])) (R' := [4]) (by kernel_rfl) (.inl rfl) (by kernel_rfl) (fun K131 hK131 => ?_)
                simp (maxSteps := 999999) (disch := omega) only [av1, av2, av3, eq_self, exists_const, forall_const, implies_true, storeOk, AS.gd, PK.more, PK.cond, PK.val, AV.get, CV.get, AV.ok, CV.ok, AV.off, CV.off, AV.set, CV.set, AV.fits, CV.fits, AV.size, AV.agg, CV.agg, AV.solid, AV.int?, AV.bool?, binOk, AV.els, CV.isByte, Sh.agg, Sh.fits, Sh.fitsL, Sh.fitsR, CV.eqv, CV.eqvs, AV.closed, rsAV, thenQ, AObj.lt, CV.numOf, Nat.reduceAdd, Nat.reduceLT, Nat.reduceMul, reduceCtorEq, ↓reduceIte, Nat.reduceEqDiff, Nat.reduceLeDiff, Nat.reduceSub, Nat.reduceBEq, Nat.reduceBNe, Int.reduceLT, Int.reduceEq, Int.reduceAdd, Int.reduceToNat, Int.reduceLE, Int.reduceBEq, Int.reduceBNe, enc1, cChan, cCSt, eqTy_Sum, toOut]
                (repeat ((with_reducible refine And.intro ?_ ?_); (first | trivial | assumption | omega | (simp; done))))
                refine hK131 _ ?_
                (try clear hK131)
                refine ag_one (i := 8) (by kernel_rfl) ?_
                refine agi (it := It.mk (some 67) none (IK.lit 2 [Operand.tmp 63, Operand.tmp 66])) (R' := []) (by kernel_rfl) (.inl rfl) (by kernel_rfl) (fun K132 hK132 => ?_)
                simp (maxSteps := 999999) (disch := omega) only [av1, av2, av3, eq_self, exists_const, forall_const, implies_true, storeOk, AS.gd, PK.more, PK.cond, PK.val, AV.get, CV.get, AV.ok, CV.ok, AV.off, CV.off, AV.set, CV.set, AV.fits, CV.fits, AV.size, AV.agg, CV.agg, AV.solid, AV.int?, AV.bool?, binOk, AV.els, CV.isByte, Sh.agg, Sh.fits, Sh.fitsL, Sh.fitsR, CV.eqv, CV.eqvs, AV.closed, rsAV, thenQ, AObj.lt, CV.numOf, Nat.reduceAdd, Nat.reduceLT, Nat.reduceMul, reduceCtorEq, ↓reduceIte, Nat.reduceEqDiff, Nat.reduceLeDiff, Nat.reduceSub, Nat.reduceBEq, Nat.reduceBNe, Int.reduceLT, Int.reduceEq, Int.reduceAdd, Int.reduceToNat, Int.reduceLE, Int.reduceBEq, Int.reduceBNe, enc1, cChan, cCSt, eqTy_Sum, toOut]
                (repeat ((with_reducible refine And.intro ?_ ?_); (first | trivial | assumption | omega | (simp; done))))
                refine hK132 _ ?_
                (try clear hK132)
                refine ag_pures (fuel := 2) [9] [It.mk (some 68) none (IK.p (PK.bld (CV.st [CV.pv (Value.slice none 0 0), CV.pv (Value.slice none 0 0), CV.st [CV.pv (Value.int IntKind.i64 0), CV.pv (Value.int IntKind.i64 0), CV.pv (Value.int IntKind.i64 0), CV.pv (Value.int IntKind.i64 0), CV.ar IntKind.u8 32 (List.replicate 32 0), CV.pv (Value.slice none 0 0)], CV.pv (Value.slice none 0 0)]) [(0, 1), (1, 1), (2, 37), (39, 1)] [(0, Operand.tmp 62), (1, Operand.tmp 67)]))] (by kernel_rfl) (by kernel_rfl) (by kernel_rfl) (by kernel_rfl) (hideZ_nil _ 0) (fun K133 hK133 => ?_)
                simp (maxSteps := 999999) (disch := omega) only [av1, av2, av3, eq_self, exists_const, forall_const, implies_true, storeOk, AS.gd, PK.more, PK.cond, PK.val, AV.get, CV.get, AV.ok, CV.ok, AV.off, CV.off, AV.set, CV.set, AV.fits, CV.fits, AV.size, AV.agg, CV.agg, AV.solid, AV.int?, AV.bool?, binOk, AV.els, CV.isByte, Sh.agg, Sh.fits, Sh.fitsL, Sh.fitsR, CV.eqv, CV.eqvs, AV.closed, rsAV, thenQ, AObj.lt, CV.numOf, Nat.reduceAdd, Nat.reduceLT, Nat.reduceMul, reduceCtorEq, ↓reduceIte, Nat.reduceEqDiff, Nat.reduceLeDiff, Nat.reduceSub, Nat.reduceBEq, Nat.reduceBNe, Int.reduceLT, Int.reduceEq, Int.reduceAdd, Int.reduceToNat, Int.reduceLE, Int.reduceBEq, Int.reduceBNe, enc1, cChan, cCSt, eqTy_Sum, toOut]
                (repeat ((with_reducible refine And.intro ?_ ?_); (first | trivial | assumption | omega | (simp; done))))
                refine hK133 _ ?_
                (try clear hK133)
                refine ag_one (i := 10) (by kernel_rfl) ?_
                refine agi (it := It.mk none none (IK.store (Operand.tmp 6) (Operand.tmp 68) 40)) (R' := []) (by kernel_rfl) (.inr (by kernel_rfl)) (by kernel_rfl) (fun K134 hK134 => ?_)
                simp (maxSteps := 999999) (disch := omega) only [av1, av2, av3, eq_self, exists_const, forall_const, implies_true, storeOk, AS.gd, PK.more, PK.cond, PK.val, AV.get, CV.get, AV.ok, CV.ok, AV.off, CV.off, AV.set, CV.set, AV.fits, CV.fits, AV.size, AV.agg, CV.agg, AV.solid, AV.int?, AV.bool?, binOk, AV.els, CV.isByte, Sh.agg, Sh.fits, Sh.fitsL, Sh.fitsR, CV.eqv, CV.eqvs, AV.closed, rsAV, thenQ, AObj.lt, CV.numOf, Nat.reduceAdd, Nat.reduceLT, Nat.reduceMul, reduceCtorEq, ↓reduceIte, Nat.reduceEqDiff, Nat.reduceLeDiff, Nat.reduceSub, Nat.reduceBEq, Nat.reduceBNe, Int.reduceLT, Int.reduceEq, Int.reduceAdd, Int.reduceToNat, Int.reduceLE, Int.reduceBEq, Int.reduceBNe, enc1, cChan, cCSt, eqTy_Sum, toOut]
                (repeat ((with_reducible refine And.intro ?_ ?_); (first | trivial | assumption | omega | (simp; done))))
                refine hK134 _ ?_
                (try clear hK134)
                refine ag_pures (fuel := 0) [11] [It.mk (some 7) none (IK.p (PK.mov (Operand.const (Value.int IntKind.i64 0))))] (by kernel_rfl) (by kernel_rfl) (by kernel_rfl) (by kernel_rfl) (hideZ_nil _ 0) (fun K135 hK135 => ?_)
                simp (maxSteps := 999999) (disch := omega) only [av1, av2, av3, eq_self, exists_const, forall_const, implies_true, storeOk, AS.gd, PK.more, PK.cond, PK.val, AV.get, CV.get, AV.ok, CV.ok, AV.off, CV.off, AV.set, CV.set, AV.fits, CV.fits, AV.size, AV.agg, CV.agg, AV.solid, AV.int?, AV.bool?, binOk, AV.els, CV.isByte, Sh.agg, Sh.fits, Sh.fitsL, Sh.fitsR, CV.eqv, CV.eqvs, AV.closed, rsAV, thenQ, AObj.lt, CV.numOf, Nat.reduceAdd, Nat.reduceLT, Nat.reduceMul, reduceCtorEq, ↓reduceIte, Nat.reduceEqDiff, Nat.reduceLeDiff, Nat.reduceSub, Nat.reduceBEq, Nat.reduceBNe, Int.reduceLT, Int.reduceEq, Int.reduceAdd, Int.reduceToNat, Int.reduceLE, Int.reduceBEq, Int.reduceBNe, enc1, cChan, cCSt, eqTy_Sum, toOut]
                (repeat ((with_reducible refine And.intro ?_ ?_); (first | trivial | assumption | omega | (simp; done))))
                refine hK135 _ ?_
                (try clear hK135)
                refine ag_done (by kernel_rfl) ?_
                (try simp only [thenQ])
                refine hK122 _ ?_
                (try clear hK122)
                refine at_ret ?_
                simp (maxSteps := 999999) (disch := omega) only [av1, av2, av3, eq_self, exists_const, forall_const, implies_true, storeOk, AS.gd, PK.more, PK.cond, PK.val, AV.get, CV.get, AV.ok, CV.ok, AV.off, CV.off, AV.set, CV.set, AV.fits, CV.fits, AV.size, AV.agg, CV.agg, AV.solid, AV.int?, AV.bool?, binOk, AV.els, CV.isByte, Sh.agg, Sh.fits, Sh.fitsL, Sh.fitsR, CV.eqv, CV.eqvs, AV.closed, rsAV, thenQ, AObj.lt, CV.numOf, Nat.reduceAdd, Nat.reduceLT, Nat.reduceMul, reduceCtorEq, ↓reduceIte, Nat.reduceEqDiff, Nat.reduceLeDiff, Nat.reduceSub, Nat.reduceBEq, Nat.reduceBNe, Int.reduceLT, Int.reduceEq, Int.reduceAdd, Int.reduceToNat, Int.reduceLE, Int.reduceBEq, Int.reduceBNe, enc1, cChan, cCSt, eqTy_Sum, toOut, blockQ, retQ, RetOk, ResOk, AV.fin, AV.fins, CV.le, CV.les]
                first
                  | (obtain ⟨e1, e2⟩ := build_bad (o := 1) h6; simp [e1, e2, zTxx, zOpx] <;> rfl)
                  | (obtain ⟨e1, e2⟩ := build_ok (o := 1) h6; simp [e1, e2, comOf, comTx, zOpx, cInp, cOut, cWay, cRef, cSum, ints, ic, toOut, CV.les, CV.le] <;> rfl)
              · refine agi (it := It.mk (some 67) none (IK.lit 2 [Operand.tmp 63, Operand.tmp 66])) (R' := [2, 1, 0]) (by kernel_rfl) (.inl rfl) (by kernel_rfl) (fun K136 hK136 => ?_)
                simp (maxSteps := 999999) (disch := omega) only [av1, av2, av3, eq_self, exists_const, forall_const, implies_true, storeOk, AS.gd, PK.more, PK.cond, PK.val, AV.get, CV.get, AV.ok, CV.ok, AV.off, CV.off, AV.set, CV.set, AV.fits, CV.fits, AV.size, AV.agg, CV.agg, AV.solid, AV.int?, AV.bool?, binOk, AV.els, CV.isByte, Sh.agg, Sh.fits, Sh.fitsL, Sh.fitsR, CV.eqv, CV.eqvs, AV.closed, rsAV, thenQ, AObj.lt, CV.numOf, Nat.reduceAdd, Nat.reduceLT, Nat.reduceMul, reduceCtorEq, ↓reduceIte, Nat.reduceEqDiff, Nat.reduceLeDiff, Nat.reduceSub, Nat.reduceBEq, Nat.reduceBNe, Int.reduceLT, Int.reduceEq, Int.reduceAdd, Int.reduceToNat, Int.reduceLE, Int.reduceBEq, Int.reduceBNe, enc1, cChan, cCSt, eqTy_Sum, toOut]
                (repeat ((with_reducible refine And.intro ?_ ?_); (first | trivial | assumption | omega | (simp; done))))
                refine hK136 _ ?_
                (try clear hK136)
                refine ag_one (i := 3) (by kernel_rfl) ?_
                refine agi (it := It.mk (some 62) none (IK.lit 35 [Operand.tmp 61])) (R' := []) (by kernel_rfl) (.inl rfl) (by kernel_rfl) (fun K137 hK137 => ?_)
                simp (maxSteps := 999999) (disch := omega) only [av1, av2, av3, eq_self, exists_const, forall_const, implies_true, storeOk, AS.gd, PK.more, PK.cond, PK.val, AV.get, CV.get, AV.ok, CV.ok, AV.off, CV.off, AV.set, CV.set, AV.fits, CV.fits, AV.size, AV.agg, CV.agg, AV.solid, AV.int?, AV.bool?, binOk, AV.els, CV.isByte, Sh.agg, Sh.fits, Sh.fitsL, Sh.fitsR, CV.eqv, CV.eqvs, AV.closed, rsAV, thenQ, AObj.lt, CV.numOf, Nat.reduceAdd, Nat.reduceLT, Nat.reduceMul, reduceCtorEq, ↓reduceIte, Nat.reduceEqDiff, Nat.reduceLeDiff, Nat.reduceSub, Nat.reduceBEq, Nat.reduceBNe, Int.reduceLT, Int.reduceEq, Int.reduceAdd, Int.reduceToNat, Int.reduceLE, Int.reduceBEq, Int.reduceBNe, enc1, cChan, cCSt, eqTy_Sum, toOut]
                (repeat ((with_reducible refine And.intro ?_ ?_); (first | trivial | assumption | omega | (simp; done))))
                refine hK137 _ ?_
                (try clear hK137)
                refine ag_pures (fuel := 2) [9] [It.mk (some 68) none (IK.p (PK.bld (CV.st [CV.pv (Value.slice none 0 0), CV.pv (Value.slice none 0 0), CV.st [CV.pv (Value.int IntKind.i64 0), CV.pv (Value.int IntKind.i64 0), CV.pv (Value.int IntKind.i64 0), CV.pv (Value.int IntKind.i64 0), CV.ar IntKind.u8 32 (List.replicate 32 0), CV.pv (Value.slice none 0 0)], CV.pv (Value.slice none 0 0)]) [(0, 1), (1, 1), (2, 37), (39, 1)] [(0, Operand.tmp 62), (1, Operand.tmp 67)]))] (by kernel_rfl) (by kernel_rfl) (by kernel_rfl) (by kernel_rfl) (hideZ_nil _ 0) (fun K138 hK138 => ?_)
                simp (maxSteps := 999999) (disch := omega) only [av1, av2, av3, eq_self, exists_const, forall_const, implies_true, storeOk, AS.gd, PK.more, PK.cond, PK.val, AV.get, CV.get, AV.ok, CV.ok, AV.off, CV.off, AV.set, CV.set, AV.fits, CV.fits, AV.size, AV.agg, CV.agg, AV.solid, AV.int?, AV.bool?, binOk, AV.els, CV.isByte, Sh.agg, Sh.fits, Sh.fitsL, Sh.fitsR, CV.eqv, CV.eqvs, AV.closed, rsAV, thenQ, AObj.lt, CV.numOf, Nat.reduceAdd, Nat.reduceLT, Nat.reduceMul, reduceCtorEq, ↓reduceIte, Nat.reduceEqDiff, Nat.reduceLeDiff, Nat.reduceSub, Nat.reduceBEq, Nat.reduceBNe, Int.reduceLT, Int.reduceEq, Int.reduceAdd, Int.reduceToNat, Int.reduceLE, Int.reduceBEq, Int.reduceBNe, enc1, cChan, cCSt, eqTy_Sum, toOut]
                (repeat ((with_reducible refine And.intro ?_ ?_); (first | trivial | assumption | omega | (simp; done))))
                refine hK138 _ ?_
                (try clear hK138)
                refine ag_one (i := 10) (by kernel_rfl) ?_
                refine agi (it := It.mk none none (IK.store (Operand.tmp 6) (Operand.tmp 68) 40)) (R' := []) (by kernel_rfl) (.inr (by kernel_rfl)) (by kernel_rfl) (fun K139 hK139 => ?_)
                simp (maxSteps := 999999) (disch := omega) only [av1, av2, av3, eq_self, exists_const, forall_const, implies_true, storeOk, AS.gd, PK.more, PK.cond, PK.val, AV.get, CV.get, AV.ok, CV.ok, AV.off, CV.off, AV.set, CV.set, AV.fits, CV.fits, AV.size, AV.agg, CV.agg, AV.solid, AV.int?, AV.bool?, binOk, AV.els, CV.isByte, Sh.agg, Sh.fits, Sh.fitsL, Sh.fitsR, CV.eqv, CV.eqvs, AV.closed, rsAV, thenQ, AObj.lt, CV.numOf, Nat.reduceAdd, Nat.reduceLT, Nat.reduceMul, reduceCtorEq, ↓reduceIte, Nat.reduceEqDiff, Nat.reduceLeDiff, Nat.reduceSub, Nat.reduceBEq, Nat.reduceBNe, Int.reduceLT, Int.reduceEq, Int.reduceAdd, Int.reduceToNat, Int.reduceLE, Int.reduceBEq, Int.reduceBNe, enc1, cChan, cCSt, eqTy_Sum, toOut]
                (repeat ((with_reducible refine And.intro ?_ ?_); (first | trivial | assumption | omega | (simp; done))))
                refine hK139 _ ?_
                (try clear hK139)
                refine ag_pures (fuel := 0) [11] [It.mk (some 7) none (IK.p (PK.mov (Operand.const (Value.int IntKind.i64 0))))] (by kernel_rfl) (by kernel_rfl) (by kernel_rfl) (by kernel_rfl) (hideZ_nil _ 0) (fun K140 hK140 => ?_)
                simp (maxSteps := 999999) (disch := omega) only [av1, av2, av3, eq_self, exists_const, forall_const, implies_true, storeOk, AS.gd, PK.more, PK.cond, PK.val, AV.get, CV.get, AV.ok, CV.ok, AV.off, CV.off, AV.set, CV.set, AV.fits, CV.fits, AV.size, AV.agg, CV.agg, AV.solid, AV.int?, AV.bool?, binOk, AV.els, CV.isByte, Sh.agg, Sh.fits, Sh.fitsL, Sh.fitsR, CV.eqv, CV.eqvs, AV.closed, rsAV, thenQ, AObj.lt, CV.numOf, Nat.reduceAdd, Nat.reduceLT, Nat.reduceMul, reduceCtorEq, ↓reduceIte, Nat.reduceEqDiff, Nat.reduceLeDiff, Nat.reduceSub, Nat.reduceBEq, Nat.reduceBNe, Int.reduceLT, Int.reduceEq, Int.reduceAdd, Int.reduceToNat, Int.reduceLE, Int.reduceBEq, Int.reduceBNe, enc1, cChan, cCSt, eqTy_Sum, toOut]
                (repeat ((with_reducible refine And.intro ?_ ?_); (first | trivial | assumption | omega | (simp; done))))
                refine hK140 _ ?_
                (try clear hK140)
                refine ag_done (by kernel_rfl) ?_
                (try simp only [thenQ])
                refine hK122 _ ?_
                (try clear hK122)
                refine at_ret ?_
                simp (maxSteps := 999999) (disch := omega) only [av1, av2, av3, eq_self, exists_const, forall_const, implies_true, storeOk, AS.gd, PK.more, PK.cond, PK.val, AV.get, CV.get, AV.ok, CV.ok, AV.off, CV.off, AV.set, CV.set, AV.fits, CV.fits, AV.size, AV.agg, CV.agg, AV.solid, AV.int?, AV.bool?, binOk, AV.els, CV.isByte, Sh.agg, Sh.fits, Sh.fitsL, Sh.fitsR, CV.eqv, CV.eqvs, AV.closed, rsAV, thenQ, AObj.lt, CV.numOf, Nat.reduceAdd, Nat.reduceLT, Nat.reduceMul, reduceCtorEq, ↓reduceIte, Nat.reduceEqDiff, Nat.reduceLeDiff, Nat.reduceSub, Nat.reduceBEq, Nat.reduceBNe, Int.reduceLT, Int.reduceEq, Int.reduceAdd, Int.reduceToNat, Int.reduceLE, Int.reduceBEq, Int.reduceBNe, enc1, cChan, cCSt, eqTy_Sum, toOut, blockQ, retQ, RetOk, ResOk, AV.fin, AV.fins, CV.le, CV.les]
                first
                  | (obtain ⟨e1, e2⟩ := build_bad (o := 1) h6; simp [e1, e2, zTxx, zOpx] <;> rfl)
                  | (obtain ⟨e1, e2⟩ := build_ok (o := 1) h6; simp [e1, e2, comOf, comTx, zOpx, cInp, cOut, cWay, cRef, cSum, ints, ic, toOut, CV.les, CV.le] <;> rfl)
        · refine agi (it := It.mk (some 12) none (IK.alloc (CV.st [CV.pv (Value.int IntKind.i64 0), CV.pv (Value.slice none 0 0)]))) (R' := [12, 11, 10, 9, 8, 4, 3, 1, 0]) (by kernel_rfl) (.inl rfl) (by kernel_rfl) (fun K141 hK141 => ?_)
          simp (maxSteps := 999999) (disch := omega) only [av1, av2, av3, eq_self, exists_const, forall_const, implies_true, storeOk, AS.gd, PK.more, PK.cond, PK.val, AV.get, CV.get, AV.ok, CV.ok, AV.off, CV.off, AV.set, CV.set, AV.fits, CV.fits, AV.size, AV.agg, CV.agg, AV.solid, AV.int?, AV.bool?, binOk, AV.els, CV.isByte, Sh.agg, Sh.fits, Sh.fitsL, Sh.fitsR, CV.eqv, CV.eqvs, AV.closed, rsAV, thenQ, AObj.lt, CV.numOf, Nat.reduceAdd, Nat.reduceLT, Nat.reduceMul, reduceCtorEq, ↓reduceIte, Nat.reduceEqDiff, Nat.reduceLeDiff, Nat.reduceSub, Nat.reduceBEq, Nat.reduceBNe, Int.reduceLT, Int.reduceEq, Int.reduceAdd, Int.reduceToNat, Int.reduceLE, Int.reduceBEq, Int.reduceBNe, enc1, cChan, cCSt, eqTy_Sum, toOut]
          (repeat ((with_reducible refine And.intro ?_ ?_); (first | trivial | assumption | omega | (simp; done))))
          refine hK141 _ ?_
          (try clear hK141)
          refine ag_one (i := 2) (by kernel_rfl) ?_
          refine agi (it := It.mk (some 46) none (IK.lit 1 [Operand.tmp 45])) (R' := [12, 11, 10, 9, 8, 4, 3, 0]) (by kernel_rfl) (.inl rfl) (by kernel_rfl) (fun K142 hK142 => ?_)
          simp (maxSteps := 999999) (disch := omega) only [av1, av2, av3, eq_self, exists_const, forall_const, implies_true, storeOk, AS.gd, PK.more, PK.cond, PK.val, AV.get, CV.get, AV.ok, CV.ok, AV.off, CV.off, AV.set, CV.set, AV.fits, CV.fits, AV.size, AV.agg, CV.agg, AV.solid, AV.int?, AV.bool?, binOk, AV.els, CV.isByte, Sh.agg, Sh.fits, Sh.fitsL, Sh.fitsR, CV.eqv, CV.eqvs, AV.closed, rsAV, thenQ, AObj.lt, CV.numOf, Nat.reduceAdd, Nat.reduceLT, Nat.reduceMul, reduceCtorEq, ↓reduceIte, Nat.reduceEqDiff, Nat.reduceLeDiff, Nat.reduceSub, Nat.reduceBEq, Nat.reduceBNe, Int.reduceLT, Int.reduceEq, Int.reduceAdd, Int.reduceToNat, Int.reduceLE, Int.reduceBEq, Int.reduceBNe, enc1, cChan, cCSt, eqTy_Sum, toOut]
          (repeat ((with_reducible refine And.intro ?_ ?_); (first | trivial | assumption | omega | (simp; done))))
          refine hK142 _ ?_
          (try clear hK142)
          refine ag_pures (fuel := 3) [5] [It.mk (some 49) none (IK.p (PK.bld (CV.st [CV.pv (Value.slice none 0 0), CV.ar IntKind.u8 32 (List.replicate 32 0), CV.pv (Value.int IntKind.i64 0), CV.pv (Value.int IntKind.i64 0)]) [(0, 1), (1, 32), (33, 1), (34, 1)] [(0, Operand.tmp 46), (3, Operand.tmp 48)]))] (by kernel_rfl) (by kernel_rfl) (by kernel_rfl) (by kernel_rfl) (hideZ_nil _ 0) (fun K143 hK143 => ?_)
          simp (maxSteps := 999999) (disch := omega) only [av1, av2, av3, eq_self, exists_const, forall_const, implies_true, storeOk, AS.gd, PK.more, PK.cond, PK.val, AV.get, CV.get, AV.ok, CV.ok, AV.off, CV.off, AV.set, CV.set, AV.fits, CV.fits, AV.size, AV.agg, CV.agg, AV.solid, AV.int?, AV.bool?, binOk, AV.els, CV.isByte, Sh.agg, Sh.fits, Sh.fitsL, Sh.fitsR, CV.eqv, CV.eqvs, AV.closed, rsAV, thenQ, AObj.lt, CV.numOf, Nat.reduceAdd, Nat.reduceLT, Nat.reduceMul, reduceCtorEq, ↓reduceIte, Nat.reduceEqDiff, Nat.reduceLeDiff, Nat.reduceSub, Nat.reduceBEq, Nat.reduceBNe, Int.reduceLT, Int.reduceEq, Int.reduceAdd, Int.reduceToNat, Int.reduceLE, Int.reduceBEq, Int.reduceBNe, enc1, cChan, cCSt, eqTy_Sum, toOut]
          (repeat ((with_reducible refine And.intro ?_ ?_); (first | trivial | assumption | omega | (simp; done))))
          refine hK143 _ ?_
          (try clear hK143)
          refine ag_one (i := 13) (by kernel_rfl) ?_
          refine agi (it := It.mk (some 57) none (IK.lit 35 [Operand.tmp 49, Operand.tmp 56])) (R' := [0]) (by kernel_rfl) (.inl rfl) (by kernel_rfl) (fun K144 hK144 => ?_)
          simp (maxSteps := 999999) (disch := omega) only [av1, av2, av3, eq_self, exists_const, forall_const, implies_true, storeOk, AS.gd, PK.more, PK.cond, PK.val, AV.get, CV.get, AV.ok, CV.ok, AV.off, CV.off, AV.set, CV.set, AV.fits, CV.fits, AV.size, AV.agg, CV.agg, AV.solid, AV.int?, AV.bool?, binOk, AV.els, CV.isByte, Sh.agg, Sh.fits, Sh.fitsL, Sh.fitsR, CV.eqv, CV.eqvs, AV.closed, rsAV, thenQ, AObj.lt, CV.numOf, Nat.reduceAdd, Nat.reduceLT, Nat.reduceMul, reduceCtorEq, ↓reduceIte, Nat.reduceEqDiff, Nat.reduceLeDiff, Nat.reduceSub, Nat.reduceBEq, Nat.reduceBNe, Int.reduceLT, Int.reduceEq, Int.reduceAdd, Int.reduceToNat, Int.reduceLE, Int.reduceBEq, Int.reduceBNe, enc1, cChan, cCSt, eqTy_Sum, toOut]
          (repeat ((with_reducible refine And.intro ?_ ?_); (first | trivial | assumption | omega | (simp; done))))
          refine hK144 _ ?_
          (try clear hK144)
          refine ag_pures (fuel := 1) [14] [It.mk (some 58) none (IK.p (PK.bld (CV.st [CV.pv (Value.int IntKind.i64 0), CV.pv (Value.slice none 0 0)]) [(0, 1), (1, 1)] [(0, Operand.tmp 44), (1, Operand.tmp 57)]))] (by kernel_rfl) (by kernel_rfl) (by kernel_rfl) (by kernel_rfl) (hideZ_nil _ 0) (fun K145 hK145 => ?_)
          simp (maxSteps := 999999) (disch := omega) only [av1, av2, av3, eq_self, exists_const, forall_const, implies_true, storeOk, AS.gd, PK.more, PK.cond, PK.val, AV.get, CV.get, AV.ok, CV.ok, AV.off, CV.off, AV.set, CV.set, AV.fits, CV.fits, AV.size, AV.agg, CV.agg, AV.solid, AV.int?, AV.bool?, binOk, AV.els, CV.isByte, Sh.agg, Sh.fits, Sh.fitsL, Sh.fitsR, CV.eqv, CV.eqvs, AV.closed, rsAV, thenQ, AObj.lt, CV.numOf, Nat.reduceAdd, Nat.reduceLT, Nat.reduceMul, reduceCtorEq, ↓reduceIte, Nat.reduceEqDiff, Nat.reduceLeDiff, Nat.reduceSub, Nat.reduceBEq, Nat.reduceBNe, Int.reduceLT, Int.reduceEq, Int.reduceAdd, Int.reduceToNat, Int.reduceLE, Int.reduceBEq, Int.reduceBNe, enc1, cChan, cCSt, eqTy_Sum, toOut]
          (repeat ((with_reducible refine And.intro ?_ ?_); (first | trivial | assumption | omega | (simp; done))))
          refine hK145 _ ?_
          (try clear hK145)
          refine ag_one (i := 16) (by kernel_rfl) ?_
          refine agi (it := It.mk none none (IK.store (Operand.tmp 12) (Operand.tmp 58) 2)) (R' := []) (by kernel_rfl) (.inr (by kernel_rfl)) (by kernel_rfl) (fun K146 hK146 => ?_)
          simp (maxSteps := 999999) (disch := omega) only [av1, av2, av3, eq_self, exists_const, forall_const, implies_true, storeOk, AS.gd, PK.more, PK.cond, PK.val, AV.get, CV.get, AV.ok, CV.ok, AV.off, CV.off, AV.set, CV.set, AV.fits, CV.fits, AV.size, AV.agg, CV.agg, AV.solid, AV.int?, AV.bool?, binOk, AV.els, CV.isByte, Sh.agg, Sh.fits, Sh.fitsL, Sh.fitsR, CV.eqv, CV.eqvs, AV.closed, rsAV, thenQ, AObj.lt, CV.numOf, Nat.reduceAdd, Nat.reduceLT, Nat.reduceMul, reduceCtorEq, ↓reduceIte, Nat.reduceEqDiff, Nat.reduceLeDiff, Nat.reduceSub, Nat.reduceBEq, Nat.reduceBNe, Int.reduceLT, Int.reduceEq, Int.reduceAdd, Int.reduceToNat, Int.reduceLE, Int.reduceBEq, Int.reduceBNe, enc1, cChan, cCSt, eqTy_Sum, toOut]
          (repeat ((with_reducible refine And.intro ?_ ?_); (first | trivial | assumption | omega | (simp; done))))
          refine hK146 _ ?_
          (try clear hK146)
          refine ag_done (by kernel_rfl) ?_
          (try simp only [thenQ])
          refine hK14 _ ?_
          (try clear hK14)
          refine at_seq fun K147 hK147 => ?_
          refine at_draws [] (by kernel_rfl) ?_
          refine ag_pures (fuel := 6) [0, 1, 2, 4, 5, 6] [It.mk (some 59) none (IK.p (PK.fAddr (Operand.tmp 3) 3 3)), It.mk (some 60) none (IK.p (PK.load (Operand.tmp 59) 33 true)), It.mk (some 61) none (IK.p (PK.bld (CV.st [CV.st [CV.ar IntKind.u8 32 (List.replicate 32 0), CV.pv (Value.int IntKind.i64 0)], CV.pv (Value.int IntKind.i64 0), CV.pv (Value.slice none 0 0)]) [(0, 33), (33, 1), (34, 1)] [(0, Operand.tmp 60)])), It.mk (some 63) none (IK.p (PK.load (Operand.tmp 12) 2 true)), It.mk (some 64) none (IK.p (PK.mov (Operand.tmp 9))), It.mk (some 65) none (IK.p (PK.mov (Operand.tmp 11)))] (by kernel_rfl) (by kernel_rfl) (by kernel_rfl) (by kernel_rfl) (hideZ_nil _ 0) (fun K148 hK148 => ?_)
          simp (maxSteps := 999999) (disch := omega) only [av1, av2, av3, eq_self, exists_const, forall_const, implies_true, storeOk, AS.gd, PK.more, PK.cond, PK.val, AV.get, CV.get, AV.ok, CV.ok, AV.off, CV.off, AV.set, CV.set, AV.fits, CV.fits, AV.size, AV.agg, CV.agg, AV.solid, AV.int?, AV.bool?, binOk, AV.els, CV.isByte, Sh.agg, Sh.fits, Sh.fitsL, Sh.fitsR, CV.eqv, CV.eqvs, AV.closed, rsAV, thenQ, AObj.lt, CV.numOf, Nat.reduceAdd, Nat.reduceLT, Nat.reduceMul, reduceCtorEq, ↓reduceIte, Nat.reduceEqDiff, Nat.reduceLeDiff, Nat.reduceSub, Nat.reduceBEq, Nat.reduceBNe, Int.reduceLT, Int.reduceEq, Int.reduceAdd, Int.reduceToNat, Int.reduceLE, Int.reduceBEq, Int.reduceBNe, enc1, cChan, cCSt, eqTy_Sum, toOut]
          (repeat ((with_reducible refine And.intro ?_ ?_); (first | trivial | assumption | omega | (simp; done))))
          refine hK148 _ ?_
          (try clear hK148)
          refine ag_two (i := 3) (j := 7) (by kernel_rfl) ?_ ?_
          · refine agi (it := It.mk (some 62) none (IK.lit 35 [Operand.tmp 61])) (R' := [6, 5, 4]) (by kernel_rfl) (.inl rfl) (by kernel_rfl) (fun K149 hK149 => ?_)
            simp (maxSteps := 999999) (disch := omega) only [av1, av2, av3, eq_self, exists_const, forall_const, implies_true, storeOk, AS.gd, PK.more, PK.cond, PK.val, AV.get, CV.get, AV.ok, CV.ok, AV.off, CV.off, AV.set, CV.set, AV.fits, CV.fits, AV.size, AV.agg, CV.agg, AV.solid, AV.int?, AV.bool?, binOk, AV.els, CV.isByte, Sh.agg, Sh.fits, Sh.fitsL, Sh.fitsR, CV.eqv, CV.eqvs, AV.closed, rsAV, thenQ, AObj.lt, CV.numOf, Nat.reduceAdd, Nat.reduceLT, Nat.reduceMul, reduceCtorEq, ↓reduceIte, Nat.reduceEqDiff, Nat.reduceLeDiff, Nat.reduceSub, Nat.reduceBEq, Nat.reduceBNe, Int.reduceLT, Int.reduceEq, Int.reduceAdd, Int.reduceToNat, Int.reduceLE, Int.reduceBEq, Int.reduceBNe, enc1, cChan, cCSt, eqTy_Sum, toOut]
            (repeat ((with_reducible refine And.intro ?_ ?_); (first | trivial | assumption | omega | (simp; done))))
            refine hK149 _ ?_
            (try clear hK149)
            refine ag_one (i := 7) (by kernel_rfl) ?_
            refine agi (it := It.mk (some 66) none (IK.call 23 [Operand.tmp 64, Operand.tmp 65])) (R' := [4]) (by kernel_rfl) (.inl rfl) (by kernel_rfl) (fun K150 hK150 => ?_)
            simp (maxSteps := 999999) (disch := omega) only [av1, av2, av3, eq_self, exists_const, forall_const, implies_true, storeOk, AS.gd, PK.more, PK.cond, PK.val, AV.get, CV.get, AV.ok, CV.ok, AV.off, CV.off, AV.set, CV.set, AV.fits, CV.fits, AV.size, AV.agg, CV.agg, AV.solid, AV.int?, AV.bool?, binOk, AV.els, CV.isByte, Sh.agg, Sh.fits, Sh.fitsL, Sh.fitsR, CV.eqv, CV.eqvs, AV.closed, rsAV, thenQ, AObj.lt, CV.numOf, Nat.reduceAdd, Nat.reduceLT, Nat.reduceMul, reduceCtorEq, ↓reduceIte, Nat.reduceEqDiff, Nat.reduceLeDiff, Nat.reduceSub, Nat.reduceBEq, Nat.reduceBNe, Int.reduceLT, Int.reduceEq, Int.reduceAdd, Int.reduceToNat, Int.reduceLE, Int.reduceBEq, Int.reduceBNe, enc1, cChan, cCSt, eqTy_Sum, toOut]
            apply Exists.intro
            apply And.intro
            · first | exact (lockTo_ap _ _) | exact (fun _ => (lockTo_ap _ _)) | exact (fun h => ⟨h, (lockTo_ap _ _)⟩) | exact (fun h => ⟨by simp_all, (lockTo_ap _ _)⟩)
            (try simp only [rsAV, List.map_cons, List.map_nil, thenQ])
            refine hK150 _ ?_
            (try clear hK150)
            refine ag_one (i := 8) (by kernel_rfl) ?_
            refine agi (it := It.mk (some 67) none (IK.lit 2 [Operand.tmp 63, Operand.tmp 66])) (R' := []) (by kernel_rfl) (.inl rfl) (by kernel_rfl) (fun K151 hK151 => ?_)
            simp (maxSteps := 999999) (disch := omega) only [av1, av2, av3, eq_self, exists_const, forall_const, implies_true, storeOk, AS.gd, PK.more, PK.cond, PK.val, AV.get, CV.get, AV.ok, CV.ok, AV.off, CV.off, AV.set, CV.set, AV.fits, CV.fits, AV.size, AV.agg, CV.agg, AV.solid, AV.int?, AV.bool?, binOk, AV.els, CV.isByte, Sh.agg, Sh.fits, Sh.fitsL, Sh.fitsR, CV.eqv, CV.eqvs, AV.closed, rsAV, thenQ, AObj.lt, CV.numOf, Nat.reduceAdd, Nat.reduceLT, Nat.reduceMul, reduceCtorEq, ↓reduceIte, Nat.reduceEqDiff, Nat.reduceLeDiff, Nat.reduceSub, Nat.reduceBEq, Nat.reduceBNe, Int.reduceLT, Int.reduceEq, Int.reduceAdd, Int.reduceToNat, Int.reduceLE, Int.reduceBEq, Int.reduceBNe, enc1, cChan, cCSt, eqTy_Sum, toOut]
            (repeat ((with_reducible refine And.intro ?_ ?_); (first | trivial | assumption | omega | (simp; done))))
            refine hK151 _ ?_
            (try clear hK151)
            refine ag_pures (fuel := 2) [9] [It.mk (some 68) none (IK.p (PK.bld (CV.st [CV.pv (Value.slice none 0 0), CV.pv (Value.slice none 0 0), CV.st [CV.pv (Value.int IntKind.i64 0), CV.pv (Value.int IntKind.i64 0), CV.pv (Value.int IntKind.i64 0), CV.pv (Value.int IntKind.i64 0), CV.ar IntKind.u8 32 (List.replicate 32 0), CV.pv (Value.slice none 0 0)], CV.pv (Value.slice none 0 0)]) [(0, 1), (1, 1), (2, 37), (39, 1)] [(0, Operand.tmp 62), (1, Operand.tmp 67)]))] (by kernel_rfl) (by kernel_rfl) (by kernel_rfl) (by kernel_rfl) (hideZ_nil _ 0) (fun K152 hK152 => ?_)
            simp (maxSteps := 999999) (disch := omega) only [av1, av2, av3, eq_self, exists_const, forall_const, implies_true, storeOk, AS.gd, PK.more, PK.cond, PK.val, AV.get, CV.get, AV.ok, CV.ok, AV.off, CV.off, AV.set, CV.set, AV.fits, CV.fits, AV.size, AV.agg, CV.agg, AV.solid, AV.int?, AV.bool?, binOk, AV.els, CV.isByte, Sh.agg, Sh.fits, Sh.fitsL, Sh.fitsR, CV.eqv, CV.eqvs, AV.closed, rsAV, thenQ, AObj.lt, CV.numOf, Nat.reduceAdd, Nat.reduceLT, Nat.reduceMul, reduceCtorEq, ↓reduceIte, Nat.reduceEqDiff, Nat.reduceLeDiff, Nat.reduceSub, Nat.reduceBEq, Nat.reduceBNe, Int.reduceLT, Int.reduceEq, Int.reduceAdd, Int.reduceToNat, Int.reduceLE, Int.reduceBEq, Int.reduceBNe, enc1, cChan, cCSt, eqTy_Sum, toOut]
            (repeat ((with_reducible refine And.intro ?_ ?_); (first | trivial | assumption | omega | (simp; done))))
            refine hK152 _ ?_
            (try clear hK152)
            refine ag_one (i := 10) (by kernel_rfl) ?_
            refine agi (it := It.mk none none (IK.store (Operand.tmp 6) (Operand.tmp 68) 40)) (R' := []) (by kernel_rfl) (.inr (by kernel_rfl)) (by kernel_rfl) (fun K153 hK153 => ?_)
            simp (maxSteps := 999999) (disch := omega) only [av1, av2, av3, eq_self, exists_const, forall_const, implies_true, storeOk, AS.gd, PK.more, PK.cond, PK.val, AV.get, CV.get, AV.ok, CV.ok, AV.off, CV.off, AV.set, CV.set, AV.fits, CV.fits, AV.size, AV.agg, CV.agg, AV.solid, AV.int?, AV.bool?, binOk, AV.els, CV.isByte, Sh.agg, Sh.fits, Sh.fitsL, Sh.fitsR, CV.eqv, CV.eqvs, AV.closed, rsAV, thenQ, AObj.lt, CV.numOf, Nat.reduceAdd, Nat.reduceLT, Nat.reduceMul, reduceCtorEq, ↓reduceIte, Nat.reduceEqDiff, Nat.reduceLeDiff, Nat.reduceSub, Nat.reduceBEq, Nat.reduceBNe, Int.reduceLT, Int.reduceEq, Int.reduceAdd, Int.reduceToNat, Int.reduceLE, Int.reduceBEq, Int.reduceBNe, enc1, cChan, cCSt, eqTy_Sum, toOut]
            (repeat ((with_reducible refine And.intro ?_ ?_); (first | trivial | assumption | omega | (simp; done))))
            refine hK153 _ ?_
            (try clear hK153)
            refine ag_pures (fuel := 0) [11] [It.mk (some 7) none (IK.p (PK.mov (Operand.const (Value.int IntKind.i64 0))))] (by kernel_rfl) (by kernel_rfl) (by kernel_rfl) (by kernel_rfl) (hideZ_nil _ 0) (fun K154 hK154 => ?_)
            simp (maxSteps := 999999) (disch := omega) only [av1, av2, av3, eq_self, exists_const, forall_const, implies_true, storeOk, AS.gd, PK.more, PK.cond, PK.val, AV.get, CV.get, AV.ok, CV.ok, AV.off, CV.off, AV.set, CV.set, AV.fits, CV.fits, AV.size, AV.agg, CV.agg, AV.solid, AV.int?, AV.bool?, binOk, AV.els, CV.isByte, Sh.agg, Sh.fits, Sh.fitsL, Sh.fitsR, CV.eqv, CV.eqvs, AV.closed, rsAV, thenQ, AObj.lt, CV.numOf, Nat.reduceAdd, Nat.reduceLT, Nat.reduceMul, reduceCtorEq, ↓reduceIte, Nat.reduceEqDiff, Nat.reduceLeDiff, Nat.reduceSub, Nat.reduceBEq, Nat.reduceBNe, Int.reduceLT, Int.reduceEq, Int.reduceAdd, Int.reduceToNat, Int.reduceLE, Int.reduceBEq, Int.reduceBNe, enc1, cChan, cCSt, eqTy_Sum, toOut]
            (repeat ((with_reducible refine And.intro ?_ ?_); (first | trivial | assumption | omega | (simp; done))))
            refine hK154 _ ?_
            (try clear hK154)
            refine ag_done (by kernel_rfl) ?_
            (try simp only [thenQ])
            refine hK147 _ ?_
            (try clear hK147)
            refine at_ret ?_
            simp (maxSteps := 999999) (disch := omega) only [av1, av2, av3, eq_self, exists_const, forall_const, implies_true, storeOk, AS.gd, PK.more, PK.cond, PK.val, AV.get, CV.get, AV.ok, CV.ok, AV.off, CV.off, AV.set, CV.set, AV.fits, CV.fits, AV.size, AV.agg, CV.agg, AV.solid, AV.int?, AV.bool?, binOk, AV.els, CV.isByte, Sh.agg, Sh.fits, Sh.fitsL, Sh.fitsR, CV.eqv, CV.eqvs, AV.closed, rsAV, thenQ, AObj.lt, CV.numOf, Nat.reduceAdd, Nat.reduceLT, Nat.reduceMul, reduceCtorEq, ↓reduceIte, Nat.reduceEqDiff, Nat.reduceLeDiff, Nat.reduceSub, Nat.reduceBEq, Nat.reduceBNe, Int.reduceLT, Int.reduceEq, Int.reduceAdd, Int.reduceToNat, Int.reduceLE, Int.reduceBEq, Int.reduceBNe, enc1, cChan, cCSt, eqTy_Sum, toOut, blockQ, retQ, RetOk, ResOk, AV.fin, AV.fins, CV.le, CV.les]
            first
              | (obtain ⟨e1, e2⟩ := build_bad (o := 1) h6; simp [e1, e2, zTxx, zOpx] <;> rfl)
              | (obtain ⟨e1, e2⟩ := build_ok (o := 1) h6; simp [e1, e2, comOf, comTx, zOpx, cInp, cOut, cWay, cRef, cSum, ints, ic, toOut, CV.les, CV.le] <;> rfl)
          · refine agi (it := It.mk (some 66) none (IK.call 23 [Operand.tmp 64, Operand.tmp 65])) (R' := [4, 2, 1, 0]) (by kernel_rfl) (.inl rfl) (by kernel_rfl) (fun K155 hK155 => ?_)
            simp (maxSteps := 999999) (disch := omega) only [av1, av2, av3, eq_self, exists_const, forall_const, implies_true, storeOk, AS.gd, PK.more, PK.cond, PK.val, AV.get, CV.get, AV.ok, CV.ok, AV.off, CV.off, AV.set, CV.set, AV.fits, CV.fits, AV.size, AV.agg, CV.agg, AV.solid, AV.int?, AV.bool?, binOk, AV.els, CV.isByte, Sh.agg, Sh.fits, Sh.fitsL, Sh.fitsR, CV.eqv, CV.eqvs, AV.closed, rsAV, thenQ, AObj.lt, CV.numOf, Nat.reduceAdd, Nat.reduceLT, Nat.reduceMul, reduceCtorEq, ↓reduceIte, Nat.reduceEqDiff, Nat.reduceLeDiff, Nat.reduceSub, Nat.reduceBEq, Nat.reduceBNe, Int.reduceLT, Int.reduceEq, Int.reduceAdd, Int.reduceToNat, Int.reduceLE, Int.reduceBEq, Int.reduceBNe, enc1, cChan, cCSt, eqTy_Sum, toOut]
            apply Exists.intro
            apply And.intro
            · first | exact (lockTo_ap _ _) | exact (fun _ => (lockTo_ap _ _)) | exact (fun h => ⟨h, (lockTo_ap _ _)⟩) | exact (fun h => ⟨by simp_all, (lockTo_ap _ _)⟩)
            (try simp only [rsAV, List.map_cons, List.map_nil, thenQ])
            refine hK155 _ ?_
            (try clear hK155)
            refine ag_two (i := 3) (j := 8) (by kernel_rfl) ?_ ?_
            · refine agi (it := It.mk (some 62) none (IK.lit 35 [Operand.tmp 61])) (R' := [4]) (by kernel_rfl) (.inl rfl) (by kernel_rfl) (fun K156 hK156 => ?_)
              simp (maxSteps := 999999) (disch := omega) only [av1, av2, av3, eq_self, exists_const, forall_const, implies_true, storeOk, AS.gd, PK.more, PK.cond, PK.val, AV.get, CV.get, AV.ok, CV.ok, AV.off, CV.off, AV.set, CV.set, AV.fits, CV.fits, AV.size, AV.agg, CV.agg, AV.solid, AV.int?, AV.bool?, binOk, AV.els, CV.isByte, Sh.agg, Sh.fits, Sh.fitsL, Sh.fitsR, CV.eqv, CV.eqvs, AV.closed, rsAV, thenQ, AObj.lt, CV.numOf, Nat.reduceAdd, Nat.reduceLT, Nat.reduceMul, reduceCtorEq, ↓reduceIte, Nat.reduceEqDiff, Nat.reduceLeDiff, Nat.reduceSub, Nat.reduceBEq, Nat.reduceBNe, Int.reduceLT, Int.reduceEq, Int.reduceAdd, Int.reduceToNat, Int.reduceLE, Int.reduceBEq, Int.reduceBNe, enc1, cChan, cCSt, eqTy_Sum, toOut]
              (repeat ((with_reducible refine And.intro ?_ ?_); (first | trivial | assumption | omega | (simp; done))))
              refine hK156 _ ?_
              (try clear hK156)
              refine ag_one (i := 8) (by kernel_rfl) ?_
              refine agi (it := It.mk (some 67) none (IK.lit 2 [Operand.tmp 63, Operand.tmp 66])) (R' := []) (by kernel_rfl) (.inl rfl) (by kernel_rfl) (fun K157 hK157 => ?_)
              simp (maxSteps := 999999) (disch := omega) only [av1, av2, av3, eq_self, exists_const, forall_const, implies_true, storeOk, AS.gd, PK.more, PK.cond, PK.val, AV.get, CV.get, AV.ok, CV.ok, AV.off, CV.off, AV.set, CV.set, AV.fits, CV.fits, AV.size, AV.agg, CV.agg, AV.solid, AV.int?, AV.bool?, binOk, AV.els, CV.isByte, Sh.agg, Sh.fits, Sh.fitsL, Sh.fitsR, CV.eqv, CV.eqvs, AV.closed, rsAV, thenQ, AObj.lt, CV.numOf, Nat.reduceAdd, Nat.reduceLT, Nat.reduceMul, reduceCtorEq, ↓reduceIte, Nat.reduceEqDiff, Nat.reduceLeDiff, Nat.reduceSub, Nat.reduceBEq, Nat.reduceBNe, Int.reduceLT, Int.reduceEq, Int.reduceAdd, Int.reduceToNat, Int.reduceLE, Int.reduceBEq, Int.reduceBNe, enc1, cChan, cCSt, eqTy_Sum, toOut]
              (repeat ((with_reducible refine And.intro ?_ ?_); (first | trivial | assumption | omega | (simp; done))))
              refine hK157 _ ?_
              (try clear hK157)
              refine ag_pures (fuel := 2) [9] [It.mk (some 68) none (IK.p (PK.bld (CV.st [CV.pv (Value.slice none 0 0), CV.pv (Value.slice none 0 0), CV.st [CV.pv (Value.int IntKind.i64 0), CV.pv (Value.int IntKind.i64 0), CV.pv (Value.int IntKind.i64 0), CV.pv (Value.int IntKind.i64 0), CV.ar IntKind.u8 32 (List.replicate 32 0), CV.pv (Value.slice none 0 0)], CV.pv (Value.slice none 0 0)]) [(0, 1), (1, 1), (2, 37), (39, 1)] [(0, Operand.tmp 62), (1, Operand.tmp 67)]))] (by kernel_rfl) (by kernel_rfl) (by kernel_rfl) (by kernel_rfl) (hideZ_nil _ 0) (fun K158 hK158 => ?_)
              simp (maxSteps := 999999) (disch := omega) only [av1, av2, av3, eq_self, exists_const, forall_const, implies_true, storeOk, AS.gd, PK.more, PK.cond, PK.val, AV.get, CV.get, AV.ok, CV.ok, AV.off, CV.off, AV.set, CV.set, AV.fits, CV.fits, AV.size, AV.agg, CV.agg, AV.solid, AV.int?, AV.bool?, binOk, AV.els, CV.isByte, Sh.agg, Sh.fits, Sh.fitsL, Sh.fitsR, CV.eqv, CV.eqvs, AV.closed, rsAV, thenQ, AObj.lt, CV.numOf, Nat.reduceAdd, Nat.reduceLT, Nat.reduceMul, reduceCtorEq, ↓reduceIte, Nat.reduceEqDiff, Nat.reduceLeDiff, Nat.reduceSub, Nat.reduceBEq, Nat.reduceBNe, Int.reduceLT, Int.reduceEq, Int.reduceAdd, Int.reduceToNat, Int.reduceLE, Int.reduceBEq, Int.reduceBNe, enc1, cChan, cCSt, eqTy_Sum, toOut]
              (repeat ((with_reducible refine And.intro ?_ ?_); (first | trivial | assumption | omega | (simp; done))))
              refine hK158 _ ?_
              (try clear hK158)
              refine ag_one (i := 10) (by kernel_rfl) ?_
              refine agi (it := It.mk none none (IK.store (Operand.tmp 6) (Operand.tmp 68) 40)) (R' := []) (by kernel_rfl) (.inr (by kernel_rfl)) (by kernel_rfl) (fun K159 hK159 => ?_)
              simp (maxSteps := 999999) (disch := omega) only [av1, av2, av3, eq_self, exists_const, forall_const, implies_true, storeOk, AS.gd, PK.more, PK.cond, PK.val, AV.get, CV.get, AV.ok, CV.ok, AV.off, CV.off, AV.set, CV.set, AV.fits, CV.fits, AV.size, AV.agg, CV.agg, AV.solid, AV.int?, AV.bool?, binOk, AV.els, CV.isByte, Sh.agg, Sh.fits, Sh.fitsL, Sh.fitsR, CV.eqv, CV.eqvs, AV.closed, rsAV, thenQ, AObj.lt, CV.numOf, Nat.reduceAdd, Nat.reduceLT, Nat.reduceMul, reduceCtorEq, ↓reduceIte, Nat.reduceEqDiff, Nat.reduceLeDiff, Nat.reduceSub, Nat.reduceBEq, Nat.reduceBNe, Int.reduceLT, Int.reduceEq, Int.reduceAdd, Int.reduceToNat, Int.reduceLE, Int.reduceBEq, Int.reduceBNe, enc1, cChan, cCSt, eqTy_Sum, toOut]
              (repeat ((with_reducible refine And.intro ?_ ?_); (first | trivial | assumption | omega | (simp; done))))
              refine hK159 _ ?_
              (try clear hK159)
              refine ag_pures (fuel := 0) [11] [It.mk (some 7) none (IK.p (PK.mov (Operand.const (Value.int IntKind.i64 0))))] (by kernel_rfl) (by kernel_rfl) (by kernel_rfl) (by kernel_rfl) (hideZ_nil _ 0) (fun K160 hK160 => ?_)
              simp (maxSteps := 999999) (disch := omega) only [av1, av2, av3, eq_self, exists_const, forall_const, implies_true, storeOk, AS.gd, PK.more, PK.cond, PK.val, AV.get, CV.get, AV.ok, CV.ok, AV.off, CV.off, AV.set, CV.set, AV.fits, CV.fits, AV.size, AV.agg, CV.agg, AV.solid, AV.int?, AV.bool?, binOk, AV.els, CV.isByte, Sh.agg, Sh.fits, Sh.fitsL, Sh.fitsR, CV.eqv, CV.eqvs, AV.closed, rsAV, thenQ, AObj.lt, CV.numOf, Nat.reduceAdd, Nat.reduceLT, Nat.reduceMul, reduceCtorEq, ↓reduceIte, Nat.reduceEqDiff, Nat.reduceLeDiff, Nat.reduceSub, Nat.reduceBEq, Nat.reduceBNe, Int.reduceLT, Int.reduceEq, Int.reduceAdd, Int.reduceToNat, Int.reduceLE, Int.reduceBEq, Int.reduceBNe, enc1, cChan, cCSt, eqTy_Sum, toOut]
              (repeat ((with_reducible refine And.intro ?_ ?_); (first | trivial | assumption | omega | (simp; done))))
              refine hK160 _ ?_
              (try clear hK160)
              refine ag_done (by kernel_rfl) ?_
              (try simp only [thenQ])
              refine hK147 _ ?_
              (try clear hK147)
              refine at_ret ?_
              simp (maxSteps := 999999) (disch := omega) only [av1, av2, av3, eq_self, exists_const, forall_const, implies_true, storeOk, AS.gd, PK.more, PK.cond, PK.val, AV.get, CV.get, AV.ok, CV.ok, AV.off, CV.off, AV.set, CV.set, AV.fits, CV.fits, AV.size, AV.agg, CV.agg, AV.solid, AV.int?, AV.bool?, binOk, AV.els, CV.isByte, Sh.agg, Sh.fits, Sh.fitsL, Sh.fitsR, CV.eqv, CV.eqvs, AV.closed, rsAV, thenQ, AObj.lt, CV.numOf, Nat.reduceAdd, Nat.reduceLT, Nat.reduceMul, reduceCtorEq, ↓reduceIte, Nat.reduceEqDiff, Nat.reduceLeDiff, Nat.reduceSub, Nat.reduceBEq, Nat.reduceBNe, Int.reduceLT, Int.reduceEq, Int.reduceAdd, Int.reduceToNat, Int.reduceLE, Int.reduceBEq, Int.reduceBNe, enc1, cChan, cCSt, eqTy_Sum, toOut, blockQ, retQ, RetOk, ResOk, AV.fin, AV.fins, CV.le, CV.les]
              first
                | (obtain ⟨e1, e2⟩ := build_bad (o := 1) h6; simp [e1, e2, zTxx, zOpx] <;> rfl)
                | (obtain ⟨e1, e2⟩ := build_ok (o := 1) h6; simp [e1, e2, comOf, comTx, zOpx, cInp, cOut, cWay, cRef, cSum, ints, ic, toOut, CV.les, CV.le] <;> rfl)
            · refine agi (it := It.mk (some 67) none (IK.lit 2 [Operand.tmp 63, Operand.tmp 66])) (R' := [2, 1, 0]) (by kernel_rfl) (.inl rfl) (by kernel_rfl) (fun K161 hK161 => ?_)
              simp (maxSteps := 999999) (disch := omega) only [av1, av2, av3, eq_self, exists_const, forall_const, implies_true, storeOk, AS.gd, PK.more, PK.cond, PK.val, AV.get, CV.get, AV.ok, CV.ok, AV.off, CV.off, AV.set, CV.set, AV.fits, CV.fits, AV.size, AV.agg, CV.agg, AV.solid, AV.int?, AV.bool?, binOk, AV.els, CV.isByte, Sh.agg, Sh.fits, Sh.fitsL, Sh.fitsR, CV.eqv, CV.eqvs, AV.closed, rsAV, thenQ, AObj.lt, CV.numOf, Nat.reduceAdd, Nat.reduceLT, Nat.reduceMul, reduceCtorEq, ↓reduceIte, Nat.reduceEqDiff, Nat.reduceLeDiff, Nat.reduceSub, Nat.reduceBEq, Nat.reduceBNe, Int.reduceLT, Int.reduceEq, Int.reduceAdd, Int.reduceToNat, Int.reduceLE, Int.reduceBEq, Int.reduceBNe, enc1, cChan, cCSt, eqTy_Sum, toOut]
              (repeat ((with_reducible refine And.intro ?_ ?_); (first | trivial | assumption | omega | (simp; done))))
              refine hK161 _ ?_
              (try clear hK161)
              refine ag_one (i := 3) (by kernel_rfl) ?_
              refine agi (it := It.mk (some 62) none (IK.lit 35 [Operand.tmp 61])) (R' := []) (by kernel_rfl) (.inl rfl) (by kernel_rfl) (fun K162 hK162 => ?_)
              simp (maxSteps := 999999) (disch := omega) only [av1, av2, av3, eq_self, exists_const, forall_const, implies_true, storeOk, AS.gd, PK.more, PK.cond, PK.val, AV.get, CV.get, AV.ok, CV.ok, AV.off, CV.off, AV.set, CV.set, AV.fits, CV.fits, AV.size, AV.agg, CV.agg, AV.solid, AV.int?, AV.bool?, binOk, AV.els, CV.isByte, Sh.agg, Sh.fits, Sh.fitsL, Sh.fitsR, CV.eqv, CV.eqvs, AV.closed, rsAV, thenQ, AObj.lt, CV.numOf, Nat.reduceAdd, Nat.reduceLT, Nat.reduceMul, reduceCtorEq, ↓reduceIte, Nat.reduceEqDiff, Nat.reduceLeDiff, Nat.reduceSub, Nat.reduceBEq, Nat.reduceBNe, Int.reduceLT, Int.reduceEq, Int.reduceAdd, Int.reduceToNat, Int.reduceLE, Int.reduceBEq, Int.reduceBNe, enc1, cChan, cCSt, eqTy_Sum, toOut]
              (repeat ((with_reducible refine And.intro ?_ ?_); (first | trivial | assumption | omega | (simp; done))))
              refine hK162 _ ?_
              (try clear hK162)
              refine ag_pures (fuel := 2) [9] [It.mk (some 68) none (IK.p (PK.bld (CV.st [CV.pv (Value.slice none 0 0), CV.pv (Value.slice none 0 0), CV.st [CV.pv (Value.int IntKind.i64 0), CV.pv (Value.int IntKind.i64 0), CV.pv (Value.int IntKind.i64 0), CV.pv (Value.int IntKind.i64 0), CV.ar IntKind.u8 32 (List.replicate 32 0), CV.pv (Value.slice none 0 0)], CV.pv (Value.slice none 0 0)]) [(0, 1), (1, 1), (2, 37), (39, 1)] [(0, Operand.tmp 62), (1, Operand.tmp 67)]))] (by kernel_rfl) (by kernel_rfl) (by kernel_rfl) (by kernel_rfl) (hideZ_nil _ 0) (fun K163 hK163 => ?_)
              simp (maxSteps := 999999) (disch := omega) only [av1, av2, av3, eq_self, exists_const, forall_const, implies_true, storeOk, AS.gd, PK.more, PK.cond, PK.val, AV.get, CV.get, AV.ok, CV.ok, AV.off, CV.off, AV.set, CV.set, AV.fits, CV.fits, AV.size, AV.agg, CV.agg, AV.solid, AV.int?, AV.bool?, binOk, AV.els, CV.isByte, Sh.agg, Sh.fits, Sh.fitsL, Sh.fitsR, CV.eqv, CV.eqvs, AV.closed, rsAV, thenQ, AObj.lt, CV.numOf, Nat.reduceAdd, Nat.reduceLT, Nat.reduceMul, reduceCtorEq, ↓reduceIte, Nat.reduceEqDiff, Nat.reduceLeDiff, Nat.reduceSub, Nat.reduceBEq, Nat.reduceBNe, Int.reduceLT, Int.reduceEq, Int.reduceAdd, Int.reduceToNat, Int.reduceLE, Int.reduceBEq, Int.reduceBNe, enc1, cChan, cCSt, eqTy_Sum, toOut]
              (repeat ((with_reducible refine And.intro ?_ ?_); (first | trivial | assumption | omega | (simp; done))))
              refine hK163 _ ?_
              (try clear hK163)
              refine ag_one (i := 10) (by kernel_rfl) ?_
              refine agi (it := It.mk none none (IK.store (Operand.tmp 6) (Operand.tmp 68) 40)) (R' := []) (by kernel_rfl) (.inr (by kernel_rfl)) (by kernel_rfl) (fun K164 hK164 => ?_)
              simp (maxSteps := 999999) (disch := omega) only [av1, av2, av3, eq_self, exists_const, forall_const, implies_true, storeOk, AS.gd, PK.more, PK.cond, PK.val, AV.get, CV.get, AV.ok, CV.ok, AV.off, CV.off, AV.set, CV.set, AV.fits, CV.fits, AV.size, AV.agg, CV.agg, AV.solid, AV.int?, AV.bool?, binOk, AV.els, CV.isByte, Sh.agg, Sh.fits, Sh.fitsL, Sh.fitsR, CV.eqv, CV.eqvs, AV.closed, rsAV, thenQ, AObj.lt, CV.numOf, Nat.reduceAdd, Nat.reduceLT, Nat.reduceMul, reduceCtorEq, ↓reduceIte, Nat.reduceEqDiff, Nat.reduceLeDiff, Nat.reduceSub, Nat.reduceBEq, Nat.reduceBNe, Int.reduceLT, Int.reduceEq, Int.reduceAdd, Int.reduceToNat, Int.reduceLE, Int.reduceBEq, Int.reduceBNe, enc1, cChan, cCSt, eqTy_Sum, toOut]
              (repeat ((with_reducible refine And.intro ?_ ?_); (first | trivial | assumption | omega | (simp; done))))
              refine hK164 _ ?_
              (try clear hK164)
              refine ag_pures (fuel := 0) [11] [It.mk (some 7) none (IK.p (PK.mov (Operand.const (Value.int IntKind.i64 0))))] (by kernel_rfl) (by kernel_rfl) (by kernel_rfl) (by kernel_rfl) (hideZ_nil _ 0) (fun K165 hK165 => ?_)
              simp (maxSteps := 999999) (disch := omega) only [av1, av2, av3, eq_self, exists_const, forall_const, implies_true, storeOk, AS.gd, PK.more, PK.cond, PK.val, AV.get, CV.get, AV.ok, CV.ok, AV.off, CV.off, AV.set, CV.set, AV.fits, CV.fits, AV.size, AV.agg, CV.agg, AV.solid, AV.int?, AV.bool?, binOk, AV.els, CV.isByte, Sh.agg, Sh.fits, Sh.fitsL, Sh.fitsR, CV.eqv, CV.eqvs, AV.closed, rsAV, thenQ, AObj.lt, CV.numOf, Nat.reduceAdd, Nat.reduceLT, Nat.reduceMul, reduceCtorEq, ↓reduceIte, Nat.reduceEqDiff, Nat.reduceLeDiff, Nat.reduceSub, Nat.reduceBEq, Nat.reduceBNe, Int.reduceLT, Int.reduceEq, Int.reduceAdd, Int.reduceToNat, Int.reduceLE, Int.reduceBEq, Int.reduceBNe, enc1, cChan, cCSt, eqTy_Sum, toOut]
              (repeat ((with_reducible refine And.intro ?_ ?_); (first | trivial | assumption | omega | (simp; done))))
              refine hK165 _ ?_
              (try clear hK165)
              refine ag_done (by kernel_rfl) ?_
              (try simp only [thenQ])
              refine hK147 _ ?_
              (try clear hK147)
              refine at_ret ?_
              simp (maxSteps := 999999) (disch := omega) only [av1, av2, av3, eq_self, exists_const, forall_const, implies_true, storeOk, AS.gd, PK.more, PK.cond, PK.val, AV.get, CV.get, AV.ok, CV.ok, AV.off, CV.off, AV.set, CV.set, AV.fits, CV.fits, AV.size, AV.agg, CV.agg, AV.solid, AV.int?, AV.bool?, binOk, AV.els, CV.isByte, Sh.agg, Sh.fits, Sh.fitsL, Sh.fitsR, CV.eqv, CV.eqvs, AV.closed, rsAV, thenQ, AObj.lt, CV.numOf, Nat.reduceAdd, Nat.reduceLT, Nat.reduceMul, reduceCtorEq, ↓reduceIte, Nat.reduceEqDiff, Nat.reduceLeDiff, Nat.reduceSub, Nat.reduceBEq, Nat.reduceBNe, Int.reduceLT, Int.reduceEq, Int.reduceAdd, Int.reduceToNat, Int.reduceLE, Int.reduceBEq, Int.reduceBNe, enc1, cChan, cCSt, eqTy_Sum, toOut, blockQ, retQ, RetOk, ResOk, AV.fin, AV.fins, CV.le, CV.les]
              first
                | (obtain ⟨e1, e2⟩ := build_bad (o := 1) h6; simp [e1, e2, zTxx, zOpx] <;> rfl)
                | (obtain ⟨e1, e2⟩ := build_ok (o := 1) h6; simp [e1, e2, comOf, comTx, zOpx, cInp, cOut, cWay, cRef, cSum, ints, ic, toOut, CV.les, CV.le] <;> rfl)
      · refine agi (it := It.mk (some 12) none (IK.alloc (CV.st [CV.pv (Value.int IntKind.i64 0), CV.pv (Value.slice none 0 0)]))) (R' := [11, 10, 9, 8, 6, 4, 3, 1, 0]) (by kernel_rfl) (.inl rfl) (by kernel_rfl) (fun K166 hK166 => ?_)
        simp (maxSteps := 999999) (disch := omega) only [av1, av2, av3, eq_self, exists_const, forall_const, implies_true, storeOk, AS.gd, PK.more, PK.cond, PK.val, AV.get, CV.get, AV.ok, CV.ok, AV.off, CV.off, AV.set, CV.set, AV.fits, CV.fits, AV.size, AV.agg, CV.agg, AV.solid, AV.int?, AV.bool?, binOk, AV.els, CV.isByte, Sh.agg, Sh.fits, Sh.fitsL, Sh.fitsR, CV.eqv, CV.eqvs, AV.closed, rsAV, thenQ, AObj.lt, CV.numOf, Nat.reduceAdd, Nat.reduceLT, Nat.reduceMul, reduceCtorEq, ↓reduceIte, Nat.reduceEqDiff, Nat.reduceLeDiff, Nat.reduceSub, Nat.reduceBEq, Nat.reduceBNe, Int.reduceLT, Int.reduceEq, Int.reduceAdd, Int.reduceToNat, Int.reduceLE, Int.reduceBEq, Int.reduceBNe, enc1, cChan, cCSt, eqTy_Sum, toOut]
        (repeat ((with_reducible refine And.intro ?_ ?_); (first | trivial | assumption | omega | (simp; done))))
        refine hK166 _ ?_
        (try clear hK166)
        refine ag_two (i := 2) (j := 7) (by kernel_rfl) ?_ ?_
        · refine agi (it := It.mk (some 46) none (IK.lit 1 [Operand.tmp 45])) (R' := [11, 10, 9, 8, 6, 4, 3, 0]) (by kernel_rfl) (.inl rfl) (by kernel_rfl) (fun K167 hK167 => ?_)
          simp (maxSteps := 999999) (disch := omega) only [av1, av2, av3, eq_self, exists_const, forall_const, implies_true, storeOk, AS.gd, PK.more, PK.cond, PK.val, AV.get, CV.get, AV.ok, CV.ok, AV.off, CV.off, AV.set, CV.set, AV.fits, CV.fits, AV.size, AV.agg, CV.agg, AV.solid, AV.int?, AV.bool?, binOk, AV.els, CV.isByte, Sh.agg, Sh.fits, Sh.fitsL, Sh.fitsR, CV.eqv, CV.eqvs, AV.closed, rsAV, thenQ, AObj.lt, CV.numOf, Nat.reduceAdd, Nat.reduceLT, Nat.reduceMul, reduceCtorEq, ↓reduceIte, Nat.reduceEqDiff, Nat.reduceLeDiff, Nat.reduceSub, Nat.reduceBEq, Nat.reduceBNe, Int.reduceLT, Int.reduceEq, Int.reduceAdd, Int.reduceToNat, Int.reduceLE, Int.reduceBEq, Int.reduceBNe, enc1, cChan, cCSt, eqTy_Sum, toOut]
          (repeat ((with_reducible refine And.intro ?_ ?_); (first | trivial | assumption | omega | (simp; done))))
          refine hK167 _ ?_
          (try clear hK167)
          refine ag_pures (fuel := 5) [5] [It.mk (some 49) none (IK.p (PK.bld (CV.st [CV.pv (Value.slice none 0 0), CV.ar IntKind.u8 32 (List.replicate 32 0), CV.pv (Value.int IntKind.i64 0), CV.pv (Value.int IntKind.i64 0)]) [(0, 1), (1, 32), (33, 1), (34, 1)] [(0, Operand.tmp 46), (3, Operand.tmp 48)]))] (by kernel_rfl) (by kernel_rfl) (by kernel_rfl) (by kernel_rfl) (hideZ_nil _ 0) (fun K168 hK168 => ?_)
          simp (maxSteps := 999999) (disch := omega) only [av1, av2, av3, eq_self, exists_const, forall_const, implies_true, storeOk, AS.gd, PK.more, PK.cond, PK.val, AV.get, CV.get, AV.ok, CV.ok, AV.off, CV.off, AV.set, CV.set, AV.fits, CV.fits, AV.size, AV.agg, CV.agg, AV.solid, AV.int?, AV.bool?, binOk, AV.els, CV.isByte, Sh.agg, Sh.fits, Sh.fitsL, Sh.fitsR, CV.eqv, CV.eqvs, AV.closed, rsAV, thenQ, AObj.lt, CV.numOf, Nat.reduceAdd, Nat.reduceLT, Nat.reduceMul, reduceCtorEq, ↓reduceIte, Nat.reduceEqDiff, Nat.reduceLeDiff, Nat.reduceSub, Nat.reduceBEq, Nat.reduceBNe, Int.reduceLT, Int.reduceEq, Int.reduceAdd, Int.reduceToNat, Int.reduceLE, Int.reduceBEq, Int.reduceBNe, enc1, cChan, cCSt, eqTy_Sum, toOut]
          (repeat ((with_reducible refine And.intro ?_ ?_); (first | trivial | assumption | omega | (simp; done))))
          refine hK168 _ ?_
          (try clear hK168)
          refine ag_one (i := 7) (by kernel_rfl) ?_
          refine agi (it := It.mk (some 51) none (IK.lit 1 [Operand.tmp 50])) (R' := [5, 11, 10, 9, 8, 4, 3, 0]) (by kernel_rfl) (.inl rfl) (by kernel_rfl) (fun K169 hK169 => ?_)
          simp (maxSteps := 999999) (disch := omega) only [av1, av2, av3, eq_self, exists_const, forall_const, implies_true, storeOk, AS.gd, PK.more, PK.cond, PK.val, AV.get, CV.get, AV.ok, CV.ok, AV.off, CV.off, AV.set, CV.set, AV.fits, CV.fits, AV.size, AV.agg, CV.agg, AV.solid, AV.int?, AV.bool?, binOk, AV.els, CV.isByte, Sh.agg, Sh.fits, Sh.fitsL, Sh.fitsR, CV.eqv, CV.eqvs, AV.closed, rsAV, thenQ, AObj.lt, CV.numOf, Nat.reduceAdd, Nat.reduceLT, Nat.reduceMul, reduceCtorEq, ↓reduceIte, Nat.reduceEqDiff, Nat.reduceLeDiff, Nat.reduceSub, Nat.reduceBEq, Nat.reduceBNe, Int.reduceLT, Int.reduceEq, Int.reduceAdd, Int.reduceToNat, Int.reduceLE, Int.reduceBEq, Int.reduceBNe, enc1, cChan, cCSt, eqTy_Sum, toOut]
          (repeat ((with_reducible refine And.intro ?_ ?_); (first | trivial | assumption | omega | (simp; done))))
          refine hK169 _ ?_
          (try clear hK169)
          refine ag_pures (fuel := 3) [12] [It.mk (some 56) none (IK.p (PK.bld (CV.st [CV.pv (Value.slice none 0 0), CV.ar IntKind.u8 32 (List.replicate 32 0), CV.pv (Value.int IntKind.i64 0), CV.pv (Value.int IntKind.i64 0)]) [(0, 1), (1, 32), (33, 1), (34, 1)] [(0, Operand.tmp 51), (1, Operand.tmp 55)]))] (by kernel_rfl) (by kernel_rfl) (by kernel_rfl) (by kernel_rfl) (hideZ_nil _ 0) (fun K170 hK170 => ?_)
          simp (maxSteps := 999999) (disch := omega) only [av1, av2, av3, eq_self, exists_const, forall_const, implies_true, storeOk, AS.gd, PK.more, PK.cond, PK.val, AV.get, CV.get, AV.ok, CV.ok, AV.off, CV.off, AV.set, CV.set, AV.fits, CV.fits, AV.size, AV.agg, CV.agg, AV.solid, AV.int?, AV.bool?, binOk, AV.els, CV.isByte, Sh.agg, Sh.fits, Sh.fitsL, Sh.fitsR, CV.eqv, CV.eqvs, AV.closed, rsAV, thenQ, AObj.lt, CV.numOf, Nat.reduceAdd, Nat.reduceLT, Nat.reduceMul, reduceCtorEq, ↓reduceIte, Nat.reduceEqDiff, Nat.reduceLeDiff, Nat.reduceSub, Nat.reduceBEq, Nat.reduceBNe, Int.reduceLT, Int.reduceEq, Int.reduceAdd, Int.reduceToNat, Int.reduceLE, Int.reduceBEq, Int.reduceBNe, enc1, cChan, cCSt, eqTy_Sum, toOut]
          (repeat ((with_reducible refine And.intro ?_ ?_); (first | trivial | assumption | omega | (simp; done))))
          refine hK170 _ ?_
          (try clear hK170)
          refine ag_one (i := 13) (by kernel_rfl) ?_
          refine agi (it := It.mk (some 57) none (IK.lit 35 [Operand.tmp 49, Operand.tmp 56])) (R' := [0]) (by kernel_rfl) (.inl rfl) (by kernel_rfl) (fun K171 hK171 => ?_)
          simp (maxSteps := 999999) (disch := omega) only [av1, av2, av3, eq_self, exists_const, forall_const, implies_true, storeOk, AS.gd, PK.more, PK.cond, PK.val, AV.get, CV.get, AV.ok, CV.ok, AV.off, CV.off, AV.set, CV.set, AV.fits, CV.fits, AV.size, AV.agg, CV.agg, AV.solid, AV.int?, AV.bool?, binOk, AV.els, CV.isByte, Sh.agg, Sh.fits, Sh.fitsL, Sh.fitsR, CV.eqv, CV.eqvs, AV.closed, rsAV, thenQ, AObj.lt, CV.numOf, Nat.reduceAdd, Nat.reduceLT, Nat.reduceMul, reduceCtorEq, ↓reduceIte, Nat.reduceEqDiff, Nat.reduceLeDiff, Nat.reduceSub, Nat.reduceBEq, Nat.reduceBNe, Int.reduceLT, Int.reduceEq, Int.reduceAdd, Int.reduceToNat, Int.reduceLE, Int.reduceBEq, Int.reduceBNe, enc1, cChan, cCSt, eqTy_Sum, toOut]
          (repeat ((with_reducible refine And.intro ?_ ?_); (first | trivial | assumption | omega | (simp; done))))
          refine hK171 _ ?_
          (try clear hK171)
          refine ag_pures (fuel := 1) [14] [It.mk (some 58) none (IK.p (PK.bld (CV.st [CV.pv (Value.int IntKind.i64 0), CV.pv (Value.slice none 0 0)]) [(0, 1), (1, 1)] [(0, Operand.tmp 44), (1, Operand.tmp 57)]))] (by kernel_rfl) (by kernel_rfl) (by kernel_rfl) (by kernel_rfl) (hideZ_nil _ 0) (fun K172 hK172 => ?_)
          simp (maxSteps := 999999) (disch := omega) only [av1, av2, av3, eq_self, exists_const, forall_const, implies_true, storeOk, AS.gd, PK.more, PK.cond, PK.val, AV.get, CV.get, AV.ok, CV.ok, AV.off, CV.off, AV.set, CV.set, AV.fits, CV.fits, AV.size, AV.agg, CV.agg, AV.solid, AV.int?, AV.bool?, binOk, AV.els, CV.isByte, Sh.agg, Sh.fits, Sh.fitsL, Sh.fitsR, CV.eqv, CV.eqvs, AV.closed, rsAV, thenQ, AObj.lt, CV.numOf, Nat.reduceAdd, Nat.reduceLT, Nat.reduceMul, reduceCtorEq, ↓reduceIte, Nat.reduceEqDiff, Nat.reduceLeDiff, Nat.reduceSub, Nat.reduceBEq, Nat.reduceBNe, Int.reduceLT, Int.reduceEq, Int.reduceAdd, Int.reduceToNat, Int.reduceLE, Int.reduceBEq, Int.reduceBNe, enc1, cChan, cCSt, eqTy_Sum, toOut]
          (repeat ((with_reducible refine And.intro ?_ ?_); (first | trivial | assumption | omega | (simp; done))))
          refine hK172 _ ?_
          (try clear hK172)
          refine ag_one (i := 16) (by kernel_rfl) ?_
          refine agi (it := It.mk none none (IK.store (Operand.tmp 12) (Operand.tmp 58) 2)) (R' := []) (by kernel_rfl) (.inr (by kernel_rfl)) (by kernel_rfl) (fun K173 hK173 => ?_)
          simp (maxSteps := 999999) (disch := omega) only [av1, av2, av3, eq_self, exists_const, forall_const, implies_true, storeOk, AS.gd, PK.more, PK.cond, PK.val, AV.get, CV.get, AV.ok, CV.ok, AV.off, CV.off, AV.set, CV.set, AV.fits, CV.fits, AV.size, AV.agg, CV.agg, AV.solid, AV.int?, AV.bool?, binOk, AV.els, CV.isByte, Sh.agg, Sh.fits, Sh.fitsL, Sh.fitsR, CV.eqv, CV.eqvs, AV.closed, rsAV, thenQ, AObj.lt, CV.numOf, Nat.reduceAdd, Nat.reduceLT, Nat.reduceMul, reduceCtorEq, ↓reduceIte, Nat.reduceEqDiff, Nat.reduceLeDiff, Nat.reduceSub, Nat.reduceBEq, Nat.reduceBNe, Int.reduceLT, Int.reduceEq, Int.reduceAdd, Int.reduceToNat, Int.reduceLE, Int.reduceBEq, Int.reduceBNe, enc1, cChan, cCSt, eqTy_Sum, toOut]
          (repeat ((with_reducible refine And.intro ?_ ?_); (first | trivial | assumption | omega | (simp; done))))
          refine hK173 _ ?_
          (try clear hK173)
          refine ag_done (by kernel_rfl) ?_
          (try simp only [thenQ])
          refine hK14 _ ?_
          (try clear hK14)
          refine at_seq fun K174 hK174 => ?_
          refine at_draws [] (by kernel_rfl) ?_
          refine ag_pures (fuel := 6) [0, 1, 2, 4, 5, 6] [It.mk (some 59) none (IK.p (PK.fAddr (Operand.tmp 3) 3 3)), It.mk (some 60) none (IK.p (PK.load (Operand.tmp 59) 33 true)), It.mk (some 61) none (IK.p (PK.bld (CV.st [CV.st [CV.ar IntKind.u8 32 (List.replicate 32 0), CV.pv (Value.int IntKind.i64 0)], CV.pv (Value.int IntKind.i64 0), CV.pv (Value.slice none 0 0)]) [(0, 33), (33, 1), (34, 1)] [(0, Operand.tmp 60)])), It.mk (some 63) none (IK.p (PK.load (Operand.tmp 12) 2 true)), It.mk (some 64) none (IK.p (PK.mov (Operand.tmp 9))), It.mk (some 65) none (IK.p (PK.mov (Operand.tmp 11)))] (by kernel_rfl) (by kernel_rfl) (by kernel_rfl) (by kernel_rfl) (hideZ_nil _ 0) (fun K175 hK175 => ?_)
          simp (maxSteps := 999999) (disch := omega) only [av1, av2, av3, eq_self, exists_const, forall_const, implies_true, storeOk, AS.gd, PK.more, PK.cond, PK.val, AV.get, CV.get, AV.ok, CV.ok, AV.off, CV.off, AV.set, CV.set, AV.fits, CV.fits, AV.size, AV.agg, CV.agg, AV.solid, AV.int?, AV.bool?, binOk, AV.els, CV.isByte, Sh.agg, Sh.fits, Sh.fitsL, Sh.fitsR, CV.eqv, CV.eqvs, AV.closed, rsAV, thenQ, AObj.lt, CV.numOf, Nat.reduceAdd, Nat.reduceLT, Nat.reduceMul, reduceCtorEq, ↓reduceIte, Nat.reduceEqDiff, Nat.reduceLeDiff, Nat.reduceSub, Nat.reduceBEq, Nat.reduceBNe, Int.reduceLT, Int.reduceEq, Int.reduceAdd, Int.reduceToNat, Int.reduceLE, Int.reduceBEq, Int.reduceBNe, enc1, cChan, cCSt, eqTy_Sum, toOut]
          (repeat ((with_reducible refine And.intro ?_ ?_); (first | trivial | assumption | omega | (simp; done))))
          refine hK175 _ ?_
          (try clear hK175)
          refine ag_two (i := 3) (j := 7) (by kernel_rfl) ?_ ?_
          · refine agi (it := It.mk (some 62) none (IK.lit 35 [Operand.tmp 61])) (R' := [6, 5, 4]) (by kernel_rfl) (.inl rfl) (by kernel_rfl) (fun K176 hK176 => ?_)
            simp (maxSteps := 999999) (disch := omega) only [av1, av2, av3, eq_self, exists_const, forall_const, implies_true, storeOk, AS.gd, PK.more, PK.cond, PK.val, AV.get, CV.get, AV.ok, CV.ok, AV.off, CV.off, AV.set, CV.set, AV.fits, CV.fits, AV.size, AV.agg, CV.agg, AV.solid, AV.int?, AV.bool?, binOk, AV.els, CV.isByte, Sh.agg, Sh.fits, Sh.fitsL, Sh.fitsR, CV.eqv, CV.eqvs, AV.closed, rsAV, thenQ, AObj.lt, CV.numOf, Nat.reduceAdd, Nat.reduceLT, Nat.reduceMul, reduceCtorEq, ↓reduceIte, Nat.reduceEqDiff, Nat.reduceLeDiff, Nat.reduceSub, Nat.reduceBEq, Nat.reduceBNe, Int.reduceLT, Int.reduceEq, Int.reduceAdd, Int.reduceToNat, Int.reduceLE, Int.reduceBEq, Int.reduceBNe, enc1, cChan, cCSt, eqTy_Sum, toOut]
            (repeat ((with_reducible refine And.intro ?_ ?_); (first | trivial | assumption | omega | (simp; done))))
            refine hK176 _ ?_
            (try clear hK176)
            refine ag_one (i := 7) (by kernel_rfl) ?_
            refine agi (it := It.mk (some 66) none (IK.call 23 [Operand.tmp 64, Operand.tmp 65])) (R' := [4]) (by kernel_rfl) (.inl rfl) (by kernel_rfl) (fun K177 hK177 => ?_)
            simp (maxSteps := 999999) (disch := omega) only [av1, av2, av3, eq_self, exists_const, forall_const, implies_true, storeOk, AS.gd, PK.more, PK.cond, PK.val, AV.get, CV.get, AV.ok, CV.ok, AV.off, CV.off, AV.set, CV.set, AV.fits, CV.fits, AV.size, AV.agg, CV.agg, AV.solid, AV.int?, AV.bool?, binOk, AV.els, CV.isByte, Sh.agg, Sh.fits, Sh.fitsL, Sh.fitsR, CV.eqv, CV.eqvs, AV.closed, rsAV, thenQ, AObj.lt, CV.numOf, Nat.reduceAdd, Nat.reduceLT, Nat.reduceMul, reduceCtorEq, ↓reduceIte, Nat.reduceEqDiff, Nat.reduceLeDiff, Nat.reduceSub, Nat.reduceBEq, Nat.reduceBNe, Int.reduceLT, Int.reduceEq, Int.reduceAdd, Int.reduceToNat, Int.reduceLE, Int.reduceBEq, Int.reduceBNe, enc1, cChan, cCSt, eqTy_Sum, toOut]
            apply Exists.intro
            apply And.intro
            · first | exact (lockTo_ap _ _) | exact (fun _ => (lockTo_ap _ _)) | exact (fun h => ⟨h, (lockTo_ap _ _)⟩) | exact (fun h => ⟨by simp_all, (lockTo_ap _ _)⟩)
            (try simp only [rsAV, List.map_cons, List.map_nil, thenQ])
            refine hK177 _ ?_
            (try clear hK177)
            refine ag_one (i := 8) (by kernel_rfl) ?_
            refine agi (it := It.mk (some 67) none (IK.lit 2 [Operand.tmp 63, Operand.tmp 66])) (R' := []) (by kernel_rfl) (.inl rfl) (by kernel_rfl) (fun K178 hK178 => ?_)
            simp (maxSteps := 999999) (disch := omega) only [av1, av2, av3, eq_self, exists_const, forall_const, implies_true, storeOk, AS.gd, PK.more, PK.cond, PK.val, AV.get, CV.get, AV.ok, CV.ok, AV.off, CV.off, AV.set, CV.set, AV.fits, CV.fits, AV.size, AV.agg, CV.agg, AV.solid, AV.int?, AV.bool?, binOk, AV.els, CV.isByte, Sh.agg, Sh.fits, Sh.fitsL, Sh.fitsR, CV.eqv, CV.eqvs, AV.closed, rsAV, thenQ, AObj.lt, CV.numOf, Nat.reduceAdd, Nat.reduceLT, Nat.reduceMul, reduceCtorEq, ↓reduceIte, Nat.reduceEqDiff, Nat.reduceLeDiff, Nat.reduceSub, Nat.reduceBEq, Nat.reduceBNe, Int.reduceLT, Int.reduceEq, Int.reduceAdd, Int.reduceToNat, Int.reduceLE, Int.reduceBEq, Int.reduceBNe, enc1, cChan, cCSt, eqTy_Sum, toOut]
            (repeat ((with_reducible refine And.intro ?_ ?_); (first | trivial | assumption | omega | (simp; done))))
            refine hK178 _ ?_
            (try clear hK178)
            refine ag_pures (fuel := 2) [9] [It.mk (some 68) none (IK.p (PK.bld (CV.st [CV.pv (Value.slice none 0 0), CV.pv (Value.slice none 0 0), CV.st [CV.pv (Value.int IntKind.i64 0), CV.pv (Value.int IntKind.i64 0), CV.pv (Value.int IntKind.i64 0), CV.pv (Value.int IntKind.i64 0), CV.ar IntKind.u8 32 (List.replicate 32 0), CV.pv (Value.slice none 0 0)], CV.pv (Value.slice none 0 0)]) [(0, 1), (1, 1), (2, 37), (39, 1)] [(0, Operand.tmp 62), (1, Operand.tmp 67)]))] (by kernel_rfl) (by kernel_rfl) (by kernel_rfl) (by kernel_rfl) (hideZ_nil _ 0) (fun K179 hK179 => ?_)
            simp (maxSteps := 999999) (disch := omega) only [av1, av2, av3, eq_self, exists_const, forall_const, implies_true, storeOk, AS.gd, PK.more, PK.cond, PK.val, AV.get, CV.get, AV.ok, CV.ok, AV.off, CV.off, AV.set, CV.set, AV.fits, CV.fits, AV.size, AV.agg, CV.agg, AV.solid, AV.int?, AV.bool?, binOk, AV.els, CV.isByte, Sh.agg, Sh.fits, Sh.fitsL, Sh.fitsR, CV.eqv, CV.eqvs, AV.closed, rsAV, thenQ, AObj.lt, CV.numOf, Nat.reduceAdd, Nat.reduceLT, Nat.reduceMul, reduceCtorEq, ↓reduceIte, Nat.reduceEqDiff, Nat.reduceLeDiff, Nat.reduceSub, Nat.reduceBEq, Nat.reduceBNe, Int.reduceLT, Int.reduceEq, Int.reduceAdd, Int.reduceToNat, Int.reduceLE, Int.reduceBEq, Int.reduceBNe, enc1, cChan, cCSt, eqTy_Sum, toOut]
            (repeat ((with_reducible refine And.intro ?_ ?_); (first | trivial | assumption | omega | (simp; done))))
            refine hK179 _ ?_
            (try clear hK179)
            refine ag_one (i := 10) (by kernel_rfl) ?_
            refine agi (it := It.mk none none (IK.store (Operand.tmp 6) (Operand.tmp 68) 40)) (R' := []) (by kernel_rfl) (.inr (by kernel_rfl)) (by kernel_rfl) (fun K180 hK180 => ?_)
            simp (maxSteps := 999999) (disch := omega) only [av1, av2, av3, eq_self, exists_const, forall_const, implies_true, storeOk, AS.gd, PK.more, PK.cond, PK.val, AV.get, CV.get, AV.ok, CV.ok, AV.off, CV.off, AV.set, CV.set, AV.fits, CV.fits, AV.size, AV.agg, CV.agg, AV.solid, AV.int?, AV.bool?, binOk, AV.els, CV.isByte, Sh.agg, Sh.fits, Sh.fitsL, Sh.fitsR, CV.eqv, CV.eqvs, AV.closed, rsAV, thenQ, AObj.lt, CV.numOf, Nat.reduceAdd, Nat.reduceLT, Nat.reduceMul, reduceCtorEq, ↓reduceIte, Nat.reduceEqDiff, Nat.reduceLeDiff, Nat.reduceSub, Nat.reduceBEq, Nat.reduceBNe, Int.reduceLT, Int.reduceEq, Int.reduceAdd, Int.reduceToNat, Int.reduceLE, Int.reduceBEq, Int.reduceBNe, enc1, cChan, cCSt, eqTy_Sum, toOut]
            (repeat ((with_reducible refine And.intro ?_ ?_); (first | trivial | assumption | omega | (simp; done))))
            refine hK180 _ ?_
            (try clear hK180)
            refine ag_pures (fuel := 0) [11] [It.mk (some 7) none (IK.p (PK.mov (Operand.const (Value.int IntKind.i64 0))))] (by kernel_rfl) (by kernel_rfl) (by kernel_rfl) (by kernel_rfl) (hideZ_nil _ 0) (fun K181 hK181 => ?_)
            simp (maxSteps := 999999) (disch := omega) only [av1, av2, av3, eq_self, exists_const, forall_const, implies_true, storeOk, AS.gd, PK.more, PK.cond, PK.val, AV.get, CV.get, AV.ok, CV.ok, AV.off, CV.off, AV.set, CV.set, AV.fits, CV.fits, AV.size, AV.agg, CV.agg, AV.solid, AV.int?, AV.bool?, binOk, AV.els, CV.isByte, Sh.agg, Sh.fits, Sh.fitsL, Sh.fitsR, CV.eqv, CV.eqvs, AV.closed, rsAV, thenQ, AObj.lt, CV.numOf, Nat.reduceAdd, Nat.reduceLT, Nat.reduceMul, reduceCtorEq, ↓reduceIte, Nat.reduceEqDiff, Nat.reduceLeDiff, Nat.reduceSub, Nat.reduceBEq, Nat.reduceBNe, Int.reduceLT, Int.reduceEq, Int.reduceAdd, Int.reduceToNat, Int.reduceLE, Int.reduceBEq, Int.reduceBNe, enc1, cChan, cCSt, eqTy_Sum, toOut]
            (repeat ((with_reducible refine And.intro ?_ ?_); (first | trivial | assumption | omega | (simp; done))))
            refine hK181 _ ?_
            (try clear hK181)
            refine ag_done (by kernel_rfl) ?_
            (try simp only [thenQ])
            refine hK174 _ ?_
            (try clear hK174)
            refine at_ret ?_
            simp (maxSteps := 999999) (disch := omega) only [av1, av2, av3, eq_self, exists_const, forall_const, implies_true, storeOk, AS.gd, PK.more, PK.cond, PK.val, AV.get, CV.get, AV.ok, CV.ok, AV.off, CV.off, AV.set, CV.set, AV.fits, CV.fits, AV.size, AV.agg, CV.agg, AV.solid, AV.int?, AV.bool?, binOk, AV.els, CV.isByte, Sh.agg, Sh.fits, Sh.fitsL, Sh.fitsR, CV.eqv, CV.eqvs, AV.closed, rsAV, thenQ, AObj.lt, CV.numOf, Nat.reduceAdd, Nat.reduceLT, Nat.reduceMul, reduceCtorEq, ↓reduceIte, Nat.reduceEqDiff, Nat.reduceLeDiff, Nat.reduceSub, Nat.reduceBEq, Nat.reduceBNe, Int.reduceLT, Int.reduceEq, Int.reduceAdd, Int.reduceToNat, Int.reduceLE, Int.reduceBEq, Int.reduceBNe, enc1, cChan, cCSt, eqTy_Sum, toOut, blockQ, retQ, RetOk, ResOk, AV.fin, AV.fins, CV.le, CV.les]
            first
              | (obtain ⟨e1, e2⟩ := build_bad (o := 1) h6; simp [e1, e2, zTxx, zOpx] <;> rfl)
              | (obtain ⟨e1, e2⟩ := build_ok (o := 1) h6; simp [e1, e2, comOf, comTx, zOpx, cInp, cOut, cWay, cRef, cSum, ints, ic, toOut, CV.les, CV.le] <;> rfl)
          · refine agi (it := It.mk (some 66) none (IK.call 23 [Operand.tmp 64, Operand.tmp 65])) (R' := [4, 2, 1, 0]) (by kernel_rfl) (.inl rfl) (by kernel_rfl) (fun K182 hK182 => ?_)
            simp (maxSteps := 999999) (disch := omega) only [av1, av2, av3, eq_self, exists_const, forall_const, implies_true, storeOk, AS.gd, PK.more, PK.cond, PK.val, AV.get, CV.get, AV.ok, CV.ok, AV.off, CV.off, AV.set, CV.set, AV.fits, CV.fits, AV.size, AV.agg, CV.agg, AV.solid, AV.int?, AV.bool?, binOk, AV.els, CV.isByte, Sh.agg, Sh.fits, Sh.fitsL, Sh.fitsR, CV.eqv, CV.eqvs, AV.closed, rsAV, thenQ, AObj.lt, CV.numOf, Nat.reduceAdd, Nat.reduceLT, Nat.reduceMul, reduceCtorEq, ↓reduceIte, Nat.reduceEqDiff, Nat.reduceLeDiff, Nat.reduceSub, Nat.reduceBEq, Nat.reduceBNe, Int.reduceLT, Int.reduceEq, Int.reduceAdd, Int.reduceToNat, Int.reduceLE, Int.reduceBEq, Int.reduceBNe, enc1, cChan, cCSt, eqTy_Sum, toOut]
            apply Exists.intro
            apply And.intro
            · first | exact (lockTo_ap _ _) | exact (fun _ => (lockTo_ap _ _)) | exact (fun h => ⟨h, (lockTo_ap _ _)⟩) | exact (fun h => ⟨by simp_all, (lockTo_ap _ _)⟩)
            (try simp only [rsAV, List.map_cons, List.map_nil, thenQ])
            refine hK182 _ ?_
            (try clear hK182)
            refine ag_two (i := 3) (j := 8) (by kernel_rfl) ?_ ?_
            · refine agi (it := It.mk (some 62) none (IK.lit 35 [Operand.tmp 61])) (R' := [4]) (by kernel_rfl) (.inl rfl) (by kernel_rfl) (fun K183 hK183 => ?_)
              simp (maxSteps := 999999) (disch := omega) only [av1, av2, av3, eq_self, exists_const, forall_const, implies_true, storeOk, AS.gd, PK.more, PK.cond, PK.val, AV.get, CV.get, AV.ok, CV.ok, AV.off, CV.off, AV.set, CV.set, AV.fits, CV.fits, AV.size, AV.agg, CV.agg, AV.solid, AV.int?, AV.bool?, binOk, AV.els, CV.isByte, Sh.agg, Sh.fits, Sh.fitsL, Sh.fitsR, CV.eqv, CV.eqvs, AV.closed, rsAV, thenQ, AObj.lt, CV.numOf, Nat.reduceAdd, Nat.reduceLT, Nat.reduceMul, reduceCtorEq, ↓reduceIte, Nat.reduceEqDiff, Nat.reduceLeDiff, Nat.reduceSub, Nat.reduceBEq, Nat.reduceBNe, Int.reduceLT, Int.reduceEq, Int.reduceAdd, Int.reduceToNat, Int.reduceLE, Int.reduceBEq, Int.reduceBNe, enc1, cChan, cCSt, eqTy_Sum, toOut]
              (repeat ((with_reducible refine And.intro ?_ ?_); (first | trivial | assumption | omega | (simp; done))))
              refine hK183 _ ?_
              (try clear hK183)
              refine ag_one (i := 8) (by kernel_rfl) ?_
              refine agi (it := It.mk (some 67) none (IK.lit 2 [Operand.tmp 63, Operand.tmp 66])) (R' := []) (by kernel_rfl) (.inl rfl) (by kernel_rfl) (fun K184 hK184 => ?_)
              simp (maxSteps := 999999) (disch := omega) only [av1, av2, av3, eq_self, exists_const, forall_const, implies_true, storeOk, AS.gd, PK.more, PK.cond, PK.val, AV.get, CV.get, AV.ok, CV.ok, AV.off, CV.off, AV.set, CV.set, AV.fits, CV.fits, AV.size, AV.agg, CV.agg, AV.solid, AV.int?, AV.bool?, binOk, AV.els, CV.isByte, Sh.agg, Sh.fits, Sh.fitsL, Sh.fitsR, CV.eqv, CV.eqvs, AV.closed, rsAV, thenQ, AObj.lt, CV.numOf, Nat.reduceAdd, Nat.reduceLT, Nat.reduceMul, reduceCtorEq, ↓reduceIte, Nat.reduceEqDiff, Nat.reduceLeDiff, Nat.reduceSub, Nat.reduceBEq, Nat.reduceBNe, Int.reduceLT, Int.reduceEq, Int.reduceAdd, Int.reduceToNat, Int.reduceLE, Int.reduceBEq, Int.reduceBNe, enc1, cChan, cCSt, eqTy_Sum, toOut]
              (repeat ((with_reducible refine And.intro ?_ ?_); (first | trivial | assumption | omega | (simp; done))))
              refine hK184 _ ?_
              (try clear hK184)
              refine ag_pures (fuel := 2) [9] [It.mk (some 68) none (IK.p (PK.bld (CV.st [CV.pv (Value.slice none 0 0), CV.pv (Value.slice none 0 0), CV.st [CV.pv (Value.int IntKind.i64 0), CV.pv (Value.int IntKind.i64 0), CV.pv (Value.int IntKind.i64 0), CV.pv (Value.int IntKind.i64 0), CV.ar IntKind.u8 32 (List.replicate 32 0), CV.pv (Value.slice none 0 0)], CV.pv (Value.slice none 0 0)]) [(0, 1), (1, 1), (2, 37), (39, 1)] [(0, Operand.tmp 62), (1, Operand.tmp 67)]))] (by kernel_rfl) (by kernel_rfl) (by kernel_rfl) (by kernel_rfl) (hideZ_nil _ 0) (fun K185 hK185 => ?_)
              simp (maxSteps := 999999) (disch := omega) only [av1, av2, av3, eq_self, exists_const, forall_const, implies_true, storeOk, AS.gd, PK.more, PK.cond, PK.val, AV.get, CV.get, AV.ok, CV.ok, AV.off, CV.off, AV.set, CV.set, AV.fits, CV.fits, AV.size, AV.agg, CV.agg, AV.solid, AV.int?, AV.bool?, binOk, AV.els, CV.isByte, Sh.agg, Sh.fits, Sh.fitsL, Sh.fitsR, CV.eqv, CV.eqvs, AV.closed, rsAV, thenQ, AObj.lt, CV.numOf, Nat.reduceAdd, Nat.reduceLT, Nat.reduceMul, reduceCtorEq, ↓reduceIte, Nat.reduceEqDiff, Nat.reduceLeDiff, Nat.reduceSub, Nat.reduceBEq, Nat.reduceBNe, Int.reduceLT, Int.reduceEq, Int.reduceAdd, Int.reduceToNat, Int.reduceLE, Int.reduceBEq, Int.reduceBNe, enc1, cChan, cCSt, eqTy_Sum, toOut]
              (repeat ((with_reducible refine And.intro ?_ ?_); (first | trivial | assumption | omega | (simp; done))))
              refine hK185 _ ?_
              (try clear hK185)
              refine ag_one (i := 10) (by kernel_rfl) ?_
              refine agi (it := It.mk none none (IK.store (Operand.tmp 6) (Operand.tmp 68) 40)) (R' := []) (by kernel_rfl) (.inr (by kernel_rfl)) (by kernel_rfl) (fun K186 hK186 => ?_)
              simp (maxSteps := 999999) (disch := omega) only [av1, av2, av3, eq_self, exists_const, forall_const, implies_true, storeOk, AS.gd, PK.more, PK.cond, PK.val, AV.get, CV.get, AV.ok, CV.ok, AV.off, CV.off, AV.set, CV.set, AV.fits, CV.fits, AV.size, AV.agg, CV.agg, AV.solid, AV.int?, AV.bool?, binOk, AV.els, CV.isByte, Sh.agg, Sh.fits, Sh.fitsL, Sh.fitsR, CV.eqv, CV.eqvs, AV.closed, rsAV, thenQ, AObj.lt, CV.numOf, Nat.reduceAdd, Nat.reduceLT, Nat.reduceMul, reduceCtorEq, ↓reduceIte, Nat.reduceEqDiff, Nat.reduceLeDiff, Nat.reduceSub, Nat.reduceBEq, Nat.reduceBNe, Int.reduceLT, Int.reduceEq, Int.reduceAdd, Int.reduceToNat, Int.reduceLE, Int.reduceBEq, Int.reduceBNe, enc1, cChan, cCSt, eqTy_Sum, toOut]
              (repeat ((with_reducible refine And.intro ?_ ?_); (first | trivial | assumption | omega | (simp; done))))
              refine hK186 _ ?_
              (try clear hK186)
              refine ag_pures (fuel := 0) [11] [It.mk (some 7) none (IK.p (PK.mov (Operand.const (Value.int IntKind.i64 0))))] (by kernel_rfl) (by kernel_rfl) (by kernel_rfl) (by kernel_rfl) (hideZ_nil _ 0) (fun K187 hK187 => ?_)
              simp (maxSteps := 999999) (disch := omega) only [av1, av2, av3, eq_self, exists_const, forall_const, implies_true, storeOk, AS.gd, PK.more, PK.cond, PK.val, AV.get, CV.get, AV.ok, CV.ok, AV.off, CV.off, AV.set, CV.set, AV.fits, CV.fits, AV.size, AV.agg, CV.agg, AV.solid, AV.int?, AV.bool?, binOk, AV.els, CV.isByte, Sh.agg, Sh.fits, Sh.fitsL, Sh.fitsR, CV.eqv, CV.eqvs, AV.closed, rsAV, thenQ, AObj.lt, CV.numOf, Nat.reduceAdd, Nat.reduceLT, Nat.reduceMul, reduceCtorEq, ↓reduceIte, Nat.reduceEqDiff, Nat.reduceLeDiff, Nat.reduceSub, Nat.reduceBEq, Nat.reduceBNe, Int.reduceLT, Int.reduceEq, Int.reduceAdd, Int.reduceToNat, Int.reduceLE, Int.reduceBEq, Int.reduceBNe, enc1, cChan, cCSt, eqTy_Sum, toOut]
              (repeat ((with_reducible refine And.intro ?_ ?_); (first | trivial | assumption | omega | (simp; done))))
              refine hK187 _ ?_
              (try clear hK187)
              refine ag_done (by kernel_rfl) ?_
              (try simp only [thenQ])
              refine hK174 _ ?_
              (try clear hK174)
              refine at_ret ?_
              simp (maxSteps := 999999) (disch := omega) only [av1, av2, av3, eq_self, exists_const, forall_const, implies_true, storeOk, AS.gd, PK.more, PK.cond, PK.val, AV.get, CV.get, AV.ok, CV.ok, AV.off, CV.off, AV.set, CV.set, AV.fits, CV.fits, AV.size, AV.agg, CV.agg, AV.solid, AV.int?, AV.bool?, binOk, AV.els, CV.isByte, Sh.agg, Sh.fits, Sh.fitsL, Sh.fitsR, CV.eqv, CV.eqvs, AV.closed, rsAV, thenQ, AObj.lt, CV.numOf, Nat.reduceAdd, Nat.reduceLT, Nat.reduceMul, reduceCtorEq, ↓reduceIte, Nat.reduceEqDiff, Nat.reduceLeDiff, Nat.reduceSub, Nat.reduceBEq, Nat.reduceBNe, Int.reduceLT, Int.reduceEq, Int.reduceAdd, Int.reduceToNat, Int.reduceLE, Int.reduceBEq, Int.reduceBNe, enc1, cChan, cCSt, eqTy_Sum, toOut, blockQ, retQ, RetOk, ResOk, AV.fin, AV.fins, CV.le, CV.les]
              first
                | (obtain ⟨e1, e2⟩ := build_bad (o := 1) h6; simp [e1, e2, zTxx, zOpx] <;> rfl)
                | (obtain ⟨e1, e2⟩ := build_ok (o := 1) h6; simp [e1, e2, comOf, comTx, zOpx, cInp, cOut, cWay, cRef, cSum, ints, ic, toOut, CV.les, CV.le] <;> rfl)
            · refine agi (it := It.mk (some 67) none (IK.lit 2 [Operand.tmp 63, Operand.tmp 66])) (R' := [2, 1, 0]) (by kernel_rfl) (.inl rfl) (by kernel_rfl) (fun K188 hK188 => ?_)
              simp (maxSteps := 999999) (disch := omega) only [av1, av2, av3, eq_self, exists_const, forall_const, implies_true, storeOk, AS.gd, PK.more, PK.cond, PK.val, AV.get, CV.get, AV.ok, CV.ok, AV.off, CV.off, AV.set, CV.set, AV.fits, CV.fits, AV.size, AV.agg, CV.agg, AV.solid, AV.int?, AV.bool?, binOk, AV.els, CV.isByte, Sh.agg, Sh.fits, Sh.fitsL, Sh.fitsR, CV.eqv, CV.eqvs, AV.closed, rsAV, thenQ, AObj.lt, CV.numOf, Nat.reduceAdd, Nat.reduceLT, Nat.reduceMul, reduceCtorEq, ↓reduceIte, Nat.reduceEqDiff, Nat.reduceLeDiff, Nat.reduceSub, Nat.reduceBEq, Nat.reduceBNe, Int.reduceLT, Int.reduceEq, Int.reduceAdd, Int.reduceToNat, Int.reduceLE, Int.reduceBEq, Int.reduceBNe, enc1, cChan, cCSt, eqTy_Sum, toOut]
              (repeat ((with_reducible refine And.intro ?_ ?_); (first | trivial | assumption | omega | (simp; done))))
              refine hK188 _ ?_
              (try clear hK188)
              refine ag_one (i := 3) (by kernel_rfl) ?_
              refine agi (it := It.mk (some 62) none (IK.lit 35 [Operand.tmp 61])) (R' := []) (by kernel_rfl) (.inl rfl) (by kernel_rfl) (fun K189 hK189 => ?_)
              simp (maxSteps := 999999) (disch := omega) only [av1, av2, av3, eq_self, exists_const, forall_const, implies_true, storeOk, AS.gd, PK.more, PK.cond, PK.val, AV.get, CV.get, AV.ok, CV.ok, AV.off, CV.off, AV.set, CV.set, AV.fits, CV.fits, AV.size, AV.agg, CV.agg, AV.solid, AV.int?, AV.bool?, binOk, AV.els, CV.isByte, Sh.agg, Sh.fits, Sh.fitsL, Sh.fitsR, CV.eqv, CV.eqvs, AV.closed, rsAV, thenQ, AObj.lt, CV.numOf, Nat.reduceAdd, Nat.reduceLT, Nat.reduceMul, reduceCtorEq, ↓reduceIte, Nat.reduceEqDiff, Nat.reduceLeDiff, Nat.reduceSub, Nat.reduceBEq, Nat.reduceBNe, Int.reduceLT, Int.reduceEq, Int.reduceAdd, Int.reduceToNat, Int.reduceLE, Int.reduceBEq, Int.reduceBNe, enc1, cChan, cCSt, eqTy_Sum, toOut]
              (repeat ((with_reducible refine And.intro ?_ ?_); (first | trivial | assumption | omega | (simp; done))))
              refine hK189 _ ?_
              (try clear hK189)
              refine ag_pures (fuel := 2) [9] [It.mk (some 68) none (IK.p (PK.bld (CV.st [CV.pv (Value.slice none 0 0), CV.pv (Value.slice none 0 0), CV.st [CV.pv (Value.int IntKind.i64 0), CV.pv (Value.int IntKind.i64 0), CV.pv (Value.int IntKind.i64 0), CV.pv (Value.int IntKind.i64 0), CV.ar IntKind.u8 32 (List.replicate 32 0), CV.pv (Value.slice none 0 0)], CV.pv (Value.slice none 0 0)]) [(0, 1), (1, 1), (2, 37), (39, 1)] [(0, Operand.tmp 62), (1, Operand.tmp 67)]))] (by kernel_rfl) (by kernel_rfl) (by kernel_rfl) (by kernel_rfl) (hideZ_nil _ 0) (fun K190 hK190 => ?_)
              simp (maxSteps := 999999) (disch := omega) only [av1, av2, av3, eq_self, exists_const, forall_const, implies_true, storeOk, AS.gd, PK.more, PK.cond, PK.val, AV.get, CV.get, AV.ok, CV.ok, AV.off, CV.off, AV.set, CV.set, AV.fits, CV.fits, AV.size, AV.agg, CV.agg, AV.solid, AV.int?, AV.bool?, binOk, AV.els, CV.isByte, Sh.agg, Sh.fits, Sh.fitsL, Sh.fitsR, CV.eqv, CV.eqvs, AV.closed, rsAV, thenQ, AObj.lt, CV.numOf, Nat.reduceAdd, Nat.reduceLT, Nat.reduceMul, reduceCtorEq, ↓reduceIte, Nat.reduceEqDiff, Nat.reduceLeDiff, Nat.reduceSub, Nat.reduceBEq, Nat.reduceBNe, Int.reduceLT, Int.reduceEq, Int.reduceAdd, Int.reduceToNat, Int.reduceLE, Int.reduceBEq, Int.reduceBNe, enc1, cChan, cCSt, eqTy_Sum, toOut]
              (repeat ((with_reducible refine And.intro ?_ ?_); (first | trivial | assumption | omega | (simp; done))))
              refine hK190 _ ?_
              (try clear hK190)
              refine ag_one (i := 10) (by kernel_rfl) ?_
              refine agi (it := It.mk none none (IK.store (Operand.tmp 6) (Operand.tmp 68) 40)) (R' := []) (by kernel_rfl) (.inr (by kernel_rfl)) (by kernel_rfl) (fun K191 hK191 => ?_)
              simp (maxSteps := 999999) (disch := omega) only [av1, av2, av3, eq_self, exists_const, forall_const, implies_true, storeOk, AS.gd, PK.more, PK.cond, PK.val, AV.get, CV.get, AV.ok, CV.ok, AV.off, CV.off, AV.set, CV.set, AV.fits, CV.fits, AV.size, AV.agg, CV.agg, AV.solid, AV.int?, AV.bool?, binOk, AV.els, CV.isByte, Sh.agg, Sh.fits, Sh.fitsL, Sh.fitsR, CV.eqv, CV.eqvs, AV.closed, rsAV, thenQ, AObj.lt, CV.numOf, Nat.reduceAdd, Nat.reduceLT, Nat.reduceMul, reduceCtorEq, ↓reduceIte, Nat.reduceEqDiff, Nat.reduceLeDiff, Nat.reduceSub, Nat.reduceBEq, Nat.reduceBNe, Int.reduceLT, Int.reduceEq, Int.reduceAdd, Int.reduceToNat, Int.reduceLE, Int.reduceBEq, Int.reduceBNe, enc1, cChan, cCSt, eqTy_Sum, toOut]
              (repeat ((with_reducible refine And.intro ?_ ?_); (first | trivial | assumption | omega | (simp; done))))
              refine hK191 _ ?_
              (try clear hK191)
              refine ag_pures (fuel := 0) [11] [It.mk (some 7) none (IK.p (PK.mov (Operand.const (Value.int IntKind.i64 0))))] (by kernel_rfl) (by kernel_rfl) (by kernel_rfl) (by kernel_rfl) (hideZ_nil _ 0) (fun K192 hK192 => ?_)
              simp (maxSteps := 999999) (disch := omega) only [av1, av2, av3, eq_self, exists_const, forall_const, implies_true, storeOk, AS.gd, PK.more, PK.cond, PK.val, AV.get, CV.get, AV.ok, CV.ok, AV.off, CV.off, AV.set, CV.set, AV.fits, CV.fits, AV.size, AV.agg, CV.agg, AV.solid, AV.int?, AV.bool?, binOk, AV.els, CV.isByte, Sh.agg, Sh.fits, Sh.fitsL, Sh.fitsR, CV.eqv, CV.eqvs, AV.closed, rsAV, thenQ, AObj.lt, CV.numOf, Nat.reduceAdd, Nat.reduceLT, Nat.reduceMul, reduceCtorEq, ↓reduceIte, Nat.reduceEqDiff, Nat.reduceLeDiff, Nat.reduceSub, Nat.reduceBEq, Nat.reduceBNe, Int.reduceLT, Int.reduceEq, Int.reduceAdd, Int.reduceToNat, Int.reduceLE, Int.reduceBEq, Int.reduceBNe, enc1, cChan, cCSt, eqTy_Sum, toOut]
              (repeat ((with_reducible refine And.intro ?_ ?_); (first | trivial | assumption | omega | (simp; done))))
              refine hK192 _ ?_
              (try clear hK192)
              refine ag_done (by kernel_rfl) ?_
              (try simp only [thenQ])
              refine hK174 _ ?_
              (try clear hK174)
              refine at_ret ?_
              simp (maxSteps := 999999) (disch := omega) only [av1, av2, av3, eq_self, exists_const, forall_const, implies_true, storeOk, AS.gd, PK.more, PK.cond, PK.val, AV.get, CV.get, AV.ok, CV.ok, AV.off, CV.off, AV.set, CV.set, AV.fits, CV.fits, AV.size, AV.agg, CV.agg, AV.solid, AV.int?, AV.bool?, binOk, AV.els, CV.isByte, Sh.agg, Sh.fits, Sh.fitsL, Sh.fitsR, CV.eqv, CV.eqvs, AV.closed, rsAV, thenQ, AObj.lt, CV.numOf, Nat.reduceAdd, Nat.reduceLT, Nat.reduceMul, reduceCtorEq, ↓reduceIte, Nat.reduceEqDiff, Nat.reduceLeDiff, Nat.reduceSub, Nat.reduceBEq, Nat.reduceBNe, Int.reduceLT, Int.reduceEq, Int.reduceAdd, Int.reduceToNat, Int.reduceLE, Int.reduceBEq, Int.reduceBNe, enc1, cChan, cCSt, eqTy_Sum, toOut, blockQ, retQ, RetOk, ResOk, AV.fin, AV.fins, CV.le, CV.les]
              first
                | (obtain ⟨e1, e2⟩ := build_bad (o := 1) h6; simp [e1, e2, zTxx, zOpx] <;> rfl)
                | (obtain ⟨e1, e2⟩ := build_ok (o := 1) h6; simp [e1, e2, comOf, comTx, zOpx, cInp, cOut, cWay, cRef, cSum, ints, ic, toOut, CV.les, CV.le] <;> rfl)
        · refine agi (it := It.mk (some 51) none (IK.lit 1 [Operand.tmp 50])) (R' := [11, 10, 9, 8, 4, 3, 1, 0]) (by kernel_rfl) (.inl rfl) (by kernel_rfl) (fun K193 hK193 => ?_)
          simp (maxSteps := 999999) (disch := omega) only [av1, av2, av3, eq_self, exists_const, forall_const, implies_true, storeOk, AS.gd, PK.more, PK.cond, PK.val, AV.get, CV.get, AV.ok, CV.ok, AV.off, CV.off, AV.set, CV.set, AV.fits, CV.fits, AV.size, AV.agg, CV.agg, AV.solid, AV.int?, AV.bool?, binOk, AV.els, CV.isByte, Sh.agg, Sh.fits, Sh.fitsL, Sh.fitsR, CV.eqv, CV.eqvs, AV.closed, rsAV, thenQ, AObj.lt, CV.numOf, Nat.reduceAdd, Nat.reduceLT, Nat.reduceMul, reduceCtorEq, ↓reduceIte, Nat.reduceEqDiff, Nat.reduceLeDiff, Nat.reduceSub, Nat.reduceBEq, Nat.reduceBNe, Int.reduceLT, Int.reduceEq, Int.reduceAdd, Int.reduceToNat, Int.reduceLE, Int.reduceBEq, Int.reduceBNe, enc1, cChan, cCSt, eqTy_Sum, toOut]
          (repeat ((with_reducible refine And.intro ?_ ?_); (first | trivial | assumption | omega | (simp; done))))
          refine hK193 _ ?_
          (try clear hK193)
          refine ag_pures (fuel := 5) [12] [It.mk (some 56) none (IK.p (PK.bld (CV.st [CV.pv (Value.slice none 0 0), CV.ar IntKind.u8 32 (List.replicate 32 0), CV.pv (Value.int IntKind.i64 0), CV.pv (Value.int IntKind.i64 0)]) [(0, 1), (1, 32), (33, 1), (34, 1)] [(0, Operand.tmp 51), (1, Operand.tmp 55)]))] (by kernel_rfl) (by kernel_rfl) (by kernel_rfl) (by kernel_rfl) (hideZ_nil _ 0) (fun K194 hK194 => ?_)
          simp (maxSteps := 999999) (disch := omega) only [av1, av2, av3, eq_self, exists_const, forall_const, implies_true, storeOk, AS.gd, PK.more, PK.cond, PK.val, AV.get, CV.get, AV.ok, CV.ok, AV.off, CV.off, AV.set, CV.set, AV.fits, CV.fits, AV.size, AV.agg, CV.agg, AV.solid, AV.int?, AV.bool?, binOk, AV.els, CV.isByte, Sh.agg, Sh.fits, Sh.fitsL, Sh.fitsR, CV.eqv, CV.eqvs, AV.closed, rsAV, thenQ, AObj.lt, CV.numOf, Nat.reduceAdd, Nat.reduceLT, Nat.reduceMul, reduceCtorEq, ↓reduceIte, Nat.reduceEqDiff, Nat.reduceLeDiff, Nat.reduceSub, Nat.reduceBEq, Nat.reduceBNe, Int.reduceLT, Int.reduceEq, Int.reduceAdd, Int.reduceToNat, Int.reduceLE, Int.reduceBEq, Int.reduceBNe, enc1, cChan, cCSt, eqTy_Sum, toOut]
          (repeat ((with_reducible refine And.intro ?_ ?_); (first | trivial | assumption | omega | (simp; done))))
          refine hK194 _ ?_
          (try clear hK194)
          refine ag_one (i := 2) (by kernel_rfl) ?_
          refine agi (it := It.mk (some 46) none (IK.lit 1 [Operand.tmp 45])) (R' := [12, 11, 10, 9, 8, 4, 3, 0]) (by kernel_rfl) (.inl rfl) (by kernel_rfl) (fun K195 hK195 => ?_)
          simp (maxSteps := 999999) (disch := omega) only [av1, av2, av3, eq_self, exists_const, forall_const, implies_true, storeOk, AS.gd, PK.more, PK.cond, PK.val, AV.get, CV.get, AV.ok, CV.ok, AV.off, CV.off, AV.set, CV.set, AV.fits, CV.fits, AV.size, AV.agg, CV.agg, AV.solid, AV.int?, AV.bool?, binOk, AV.els, CV.isByte, Sh.agg, Sh.fits, Sh.fitsL, Sh.fitsR, CV.eqv, CV.eqvs, AV.closed, rsAV, thenQ, AObj.lt, CV.numOf, Nat.reduceAdd, Nat.reduceLT, Nat.reduceMul, reduceCtorEq, ↓reduceIte, Nat.reduceEqDiff, Nat.reduceLeDiff, Nat.reduceSub, Nat.reduceBEq, Nat.reduceBNe, Int.reduceLT, Int.reduceEq, Int.reduceAdd, Int.reduceToNat, Int.reduceLE, Int.reduceBEq, Int.reduceBNe, enc1, cChan, cCSt, eqTy_Sum, toOut]
          (repeat ((with_reducible refine And.intro ?_ ?_); (first | trivial | assumption | omega | (simp; done))))
          refine hK195 _ ?_
          (try clear hK195)
          refine ag_pures (fuel := 3) [5] [It.mk (some 49) none (IK.p (PK.bld (CV.st [CV.pv (Value.slice none 0 0), CV.ar IntKind.u8 32 (List.replicate 32 0), CV.pv (Value.int IntKind.i64 0), CV.pv (Value.int IntKind.i64 0)]) [(0, 1), (1, 32), (33, 1), (34, 1)] [(0, Operand.tmp 46), (3, Operand.tmp 48)]))] (by kernel_rfl) (by kernel_rfl) (by kernel_rfl) (by kernel_rfl) (hideZ_nil _ 0) (fun K196 hK196 => ?_)
          simp (maxSteps := 999999) (disch := omega) only [av1, av2, av3, eq_self, exists_const, forall_const, implies_true, storeOk, AS.gd, PK.more, PK.cond, PK.val, AV.get, CV.get, AV.ok, CV.ok, AV.off, CV.off, AV.set, CV.set, AV.fits, CV.fits, AV.size, AV.agg, CV.agg, AV.solid, AV.int?, AV.bool?, binOk, AV.els, CV.isByte, Sh.agg, Sh.fits, Sh.fitsL, Sh.fitsR, CV.eqv, CV.eqvs, AV.closed, rsAV, thenQ, AObj.lt, CV.numOf, Nat.reduceAdd, Nat.reduceLT, Nat.reduceMul, reduceCtorEq, ↓reduceIte, Nat.reduceEqDiff, Nat.reduceLeDiff, Nat.reduceSub, Nat.reduceBEq, Nat.reduceBNe, Int.reduceLT, Int.reduceEq, Int.reduceAdd, Int.reduceToNat, Int.reduceLE, Int.reduceBEq, Int.reduceBNe, enc1, cChan, cCSt, eqTy_Sum, toOut]
          (repeat ((with_reducible refine And.intro ?_ ?_); (first | trivial | assumption | omega | (simp; done))))
          refine hK196 _ ?_
          (try clear hK196)
          refine ag_one (i := 13) (by kernel_rfl) ?_
          refine agi (it := It.mk (some 57) none (IK.lit 35 [Operand.tmp 49, Operand.tmp 56])) (R' := [0]) (by kernel_rfl) (.inl rfl) (by kernel_rfl) (fun K197 hK197 => ?_)
          simp (maxSteps := 999999) (disch := omega) only [av1, av2, av3, eq_self, exists_const, forall_const, implies_true, storeOk, AS.gd, PK.more, PK.cond, PK.val, AV.get, CV.get, AV.ok, CV.ok, AV.off, CV.off, AV.set, CV.set, AV.fits, CV.fits, AV.size, AV.agg, CV.agg, AV.solid, AV.int?, AV.bool?, binOk, AV.els, CV.isByte, Sh.agg, Sh.fits, Sh.fitsL, Sh.fitsR, CV.eqv, CV.eqvs, AV.closed, rsAV, thenQ, AObj.lt, CV.numOf, Nat.reduceAdd, Nat.reduceLT, Nat.reduceMul, reduceCtorEq, ↓reduceIte, Nat.reduceEqDiff, Nat.reduceLeDiff, Nat.reduceSub, Nat.reduceBEq, Nat.reduceBNe, Int.reduceLT, Int.reduceEq, Int.reduceAdd, Int.reduceToNat, Int.reduceLE, Int.reduceBEq, Int.reduceBNe, enc1, cChan, cCSt, eqTy_Sum, toOut]
          (repeat ((with_reducible refine And.intro ?_ ?_); (first | trivial | assumption | omega | (simp; done))))
          refine hK197 _ ?_
          (try clear hK197)
          refine ag_pures (fuel := 1) [14] [It.mk (some 58) none (IK.p (PK.bld (CV.st [CV.pv (Value.int IntKind.i64 0), CV.pv (Value.slice none 0 0)]) [(0, 1), (1, 1)] [(0, Operand.tmp 44), (1, Operand.tmp 57)]))] (by kernel_rfl) (by kernel_rfl) (by kernel_rfl) (by kernel_rfl) (hideZ_nil _ 0) (fun K198 hK198 => ?_)
          simp (maxSteps := 999999) (disch := omega) only [av1, av2, av3, eq_self, exists_const, forall_const, implies_true, storeOk, AS.gd, PK.more, PK.cond, PK.val, AV.get, CV.get, AV.ok, CV.ok, AV.off, CV.off, AV.set, CV.set, AV.fits, CV.fits, AV.size, AV.agg, CV.agg, AV.solid, AV.int?, AV.bool?, binOk, AV.els, CV.isByte, Sh.agg, Sh.fits, Sh.fitsL, Sh.fitsR, CV.eqv, CV.eqvs, AV.closed, rsAV, thenQ, AObj.lt, CV.numOf, Nat.reduceAdd, Nat.reduceLT, Nat.reduceMul, reduceCtorEq, ↓reduceIte, Nat.reduceEqDiff, Nat.reduceLeDiff, Nat.reduceSub, Nat.reduceBEq, Nat.reduceBNe, Int.reduceLT, Int.reduceEq, Int.reduceAdd, Int.reduceToNat, Int.reduceLE, Int.reduceBEq, Int.reduceBNe, enc1, cChan, cCSt, eqTy_Sum, toOut]
          (repeat ((with_reducible refine And.intro ?_ ?_); (first | trivial | assumption | omega | (simp; done))))
          refine hK198 _ ?_
          (try clear hK198)
          refine ag_one (i := 16) (by kernel_rfl) ?_
          refine agi (it := It.mk none none (IK.store (Operand.tmp 12) (Operand.tmp 58) 2)) (R' := []) (by kernel_rfl) (.inr (by kernel_rfl)) (by kernel_rfl) (fun K199 hK199 => ?_)
          simp (maxSteps := 999999) (disch := omega) only [av1, av2, av3, eq_self, exists_const, forall_const, implies_true, storeOk, AS.gd, PK.more, PK.cond, PK.val, AV.get, CV.get, AV.ok, CV.ok, AV.off, CV.off, AV.set, CV.set, AV.fits, CV.fits, AV.size, AV.agg, CV.agg, AV.solid, AV.int?, AV.bool?, binOk, AV.els, CV.isByte, Sh.agg, Sh.fits, Sh.fitsL, Sh.fitsR, CV.eqv, CV.eqvs, AV.closed, rsAV, thenQ, AObj.lt, CV.numOf, Nat.reduceAdd, Nat.reduceLT, Nat.reduceMul, reduceCtorEq, ↓reduceIte, Nat.reduceEqDiff, Nat.reduceLeDiff, Nat.reduceSub, Nat.reduceBEq, Nat.reduceBNe, Int.reduceLT, Int.reduceEq, Int.reduceAdd, Int.reduceToNat, Int.reduceLE, Int.reduceBEq, Int.reduceBNe, enc1, cChan, cCSt, eqTy_Sum, toOut]
          (repeat ((with_reducible refine And.intro ?_ ?_); (first | trivial | assumption | omega | (simp; done))))
          refine hK199 _ ?_
          (try clear hK199)
          refine ag_done (by kernel_rfl) ?_
          (try simp only [thenQ])
          refine hK14 _ ?_
          (try clear hK14)
          refine at_seq fun K200 hK200 => ?_
          refine at_draws [] (by kernel_rfl) ?_
          refine ag_pures (fuel := 6) [0, 1, 2, 4, 5, 6] [It.mk (some 59) none (IK.p (PK.fAddr (Operand.tmp 3) 3 3)), It.mk (some 60) none (IK.p (PK.load (Operand.tmp 59) 33 true)), It.mk (some 61) none (IK.p (PK.bld (CV.st [CV.st [CV.ar IntKind.u8 32 (List.replicate 32 0), CV.pv (Value.int IntKind.i64 0)], CV.pv (Value.int IntKind.i64 0), CV.pv (Value.slice none 0 0)]) [(0, 33), (33, 1), (34, 1)] [(0, Operand.tmp 60)])), It.mk (some 63) none (IK.p (PK.load (Operand.tmp 12) 2 true)), It.mk (some 64) none (IK.p (PK.mov (Operand.tmp 9))), It.mk (some 65) none (IK.p (PK.mov (Operand.tmp 11)))] (by kernel_rfl) (by kernel_rfl) (by kernel_rfl) (by kernel_rfl) (hideZ_nil _ 0) (fun K201 hK201 => ?_)
          simp (maxSteps := 999999) (disch := omega) only [av1, av2, av3, eq_self, exists_const, forall_const, implies_true, storeOk, AS.gd, PK.more, PK.cond, PK.val, AV.get, CV.get, AV.ok, CV.ok, AV.off, CV.off, AV.set, CV.set, AV.fits, CV.fits, AV.size, AV.agg, CV.agg, AV.solid, AV.int?, AV.bool?, binOk, AV.els, CV.isByte, Sh.agg, Sh.fits, Sh.fitsL, Sh.fitsR, CV.eqv, CV.eqvs, AV.closed, rsAV, thenQ, AObj.lt, CV.numOf, Nat.reduceAdd, Nat.reduceLT, Nat.reduceMul, reduceCtorEq, ↓reduceIte, Nat.reduceEqDiff, Nat.reduceLeDiff, Nat.reduceSub, Nat.reduceBEq, Nat.reduceBNe, Int.reduceLT, Int.reduceEq, Int.reduceAdd, Int.reduceToNat, Int.reduceLE, Int.reduceBEq, Int.reduceBNe, enc1, cChan, cCSt, eqTy_Sum, toOut]
          (repeat ((with_reducible refine And.intro ?_ ?_); (first | trivial | assumption | omega | (simp; done))))
          refine hK201 _ ?_
          (try clear hK201)
          refine ag_two (i := 3) (j := 7) (by kernel_rfl) ?_ ?_
          · refine agi (it := It.mk (some 62) none (IK.lit 35 [Operand.tmp 61])) (R' := [6, 5, 4]) (by kernel_rfl) (.inl rfl) (by kernel_rfl) (fun K202 hK202 => ?_)
            simp (maxSteps := 999999) (disch := omega) only [av1, av2, av3, eq_self, exists_const, forall_const, implies_true, storeOk, AS.gd, PK.more, PK.cond, PK.val, AV.get, CV.get, AV.ok, CV.ok, AV.off, CV.off, AV.set, CV.set, AV.fits, CV.fits, AV.size, AV.agg, CV.agg, AV.solid, AV.int?, AV.bool?, binOk, AV.els, CV.isByte, Sh.agg, Sh.fits, Sh.fitsL, Sh.fitsR, CV.eqv, CV.eqvs, AV.closed, rsAV, thenQ, AObj.lt, CV.numOf, Nat.reduceAdd, Nat.reduceLT, Nat.reduceMul, reduceCtorEq, ↓reduceIte, Nat.reduceEqDiff, Nat.reduceLeDiff, Nat.reduceSub, Nat.reduceBEq, Nat.reduceBNe, Int.reduceLT, Int.reduceEq, Int.reduceAdd, Int.reduceToNat, Int.reduceLE, Int.reduceBEq, Int.reduceBNe, enc1, cChan, cCSt, eqTy_Sum, toOut]
            (repeat ((with_reducible refine And.intro ?_ ?_); (first | trivial | assumption | omega | (simp; done))))
            refine hK202 _ ?_
            (try clear hK202)
            refine ag_one (i := 7) (by kernel_rfl) ?_
            refine agi (it := It.mk (some 66) none (IK.call 23 [Operand.tmp 64, Operand.tmp 65])) (R' := [4]) (by kernel_rfl) (.inl rfl) (by kernel_rfl) (fun K203 hK203 => ?_)
            simp (maxSteps := 999999) (disch := omega) only [av1, av2, av3, eq_self, exists_const, forall_const, implies_true, storeOk, AS.gd, PK.more, PK.cond, PK.val, AV.get, CV.get, AV.ok, CV.ok, AV.off, CV.off, AV.set, CV.set, AV.fits, CV.fits, AV.size, AV.agg, CV.agg, AV.solid, AV.int?, AV.bool?, binOk, AV.els, CV.isByte, Sh.agg, Sh.fits, Sh.fitsL, Sh.fitsR, CV.eqv, CV.eqvs, AV.closed, rsAV, thenQ, AObj.lt, CV.numOf, Nat.reduceAdd, Nat.reduceLT, Nat.reduceMul, reduceCtorEq, ↓reduceIte, Nat.reduceEqDiff, Nat.reduceLeDiff, Nat.reduceSub, Nat.reduceBEq, Nat.reduceBNe, Int.reduceLT, Int.reduceEq, Int.reduceAdd, Int.reduceToNat, Int.reduceLE, Int.reduceBEq, Int.reduceBNe, enc1, cChan, cCSt, eqTy_Sum, toOut]
            apply Exists.intro
            apply And.intro
            · first | exact (lockTo_ap _ _) | exact (fun _ => (lockTo_ap _ _)) | exact (fun h => ⟨h, (lockTo_ap _ _)⟩) | exact (fun h => ⟨by simp_all, (lockTo_ap _ _)⟩)
            (try simp only [rsAV, List.map_cons, List.map_nil, thenQ])
            refine hK203 _ ?_
            (try clear hK203)
            refine ag_one (i := 8) (by kernel_rfl) ?_
            refine agi (it := It.mk (some 67) none (IK.lit 2 [Operand.tmp 63, Operand.tmp 66])) (R' := []) (by kernel_rfl) (.inl rfl) (by kernel_rfl) (fun K204 hK204 => ?_)
            simp (maxSteps := 999999) (disch := omega) only [av1, av2, av3, eq_self, exists_const, forall_const, implies_true, storeOk, AS.gd, PK.more, PK.cond, PK.val, AV.get, CV.get, AV.ok, CV.ok, AV.off, CV.off, AV.set, CV.set, AV.fits, CV.fits, AV.size, AV.agg, CV.agg, AV.solid, AV.int?, AV.bool?, binOk, AV.els, CV.isByte, Sh.agg, Sh.fits, Sh.fitsL, Sh.fitsR, CV.eqv, CV.eqvs, AV.closed, rsAV, thenQ, AObj.lt, CV.numOf, Nat.reduceAdd, Nat.reduceLT, Nat.reduceMul, reduceCtorEq, ↓reduceIte, Nat.reduceEqDiff, Nat.reduceLeDiff, Nat.reduceSub, Nat.reduceBEq, Nat.reduceBNe, Int.reduceLT, Int.reduceEq, Int.reduceAdd, Int.reduceToNat, Int.reduceLE, Int.reduceBEq, Int.reduceBNe, enc1, cChan, cCSt, eqTy_Sum, toOut]
            (repeat ((with_reducible refine And.intro ?_ ?_); (first | trivial | assumption | omega | (simp; done))))
            refine hK204 _ ?_
            (try clear hK204)
            refine ag_pures (fuel := 2) [9] [It.mk (some 68) none (IK.p (PK.bld (CV.st [CV.pv (Value.slice none 0 0), CV.pv (Value.slice none 0 0), CV.st [CV.pv (Value.int IntKind.i64 0), CV.pv (Value.int IntKind.i64 0), CV.pv (Value.int IntKind.i64 0), CV.pv (Value.int IntKind.i64 0), CV.ar IntKind.u8 32 (List.replicate 32 0), CV.pv (Value.slice none 0 0)], CV.pv (Value.slice none 0 0)]) [(0, 1), (1, 1), (2, 37), (39, 1)] [(0, Operand.tmp 62), (1, Operand.tmp 67)]))] (by kernel_rfl) (by kernel_rfl) (by kernel_rfl) (by kernel_rfl) (hideZ_nil _ 0) (fun K205 hK205 => ?_)
            simp (maxSteps := 999999) (disch := omega) only [av1, av2, av3, eq_self, exists_const, forall_const, implies_true, storeOk, AS.gd, PK.more, PK.cond, PK.val, AV.get, CV.get, AV.ok, CV.ok, AV.off, CV.off, AV.set, CV.set, AV.fits, CV.fits, AV.size, AV.agg, CV.agg, AV.solid, AV.int?, AV.bool?, binOk, AV.els, CV.isByte, Sh.agg, Sh.fits, Sh.fitsL, Sh.fitsR, CV.eqv, CV.eqvs, AV.closed, rsAV, thenQ, AObj.lt, CV.numOf, Nat.reduceAdd, Nat.reduceLT, Nat.reduceMul, reduceCtorEq, ↓reduceIte, Nat.reduceEqDiff, Nat.reduceLeDiff, Nat.reduceSub, Nat.reduceBEq, Nat.reduceBNe, Int.reduceLT, Int.reduceEq, Int.reduceAdd, Int.reduceToNat, Int.reduceLE, Int.reduceBEq, Int.reduceBNe, enc1, cChan, cCSt, eqTy_Sum, toOut]
            (repeat ((with_reducible refine And.intro ?_ ?_); (first | trivial | assumption | omega | (simp; done))))
            refine hK205 _ ?_
            (try clear hK205)
            refine ag_one (i := 10) (by kernel_rfl) ?_
            refine agi (it := It.mk none none (IK.store (Operand.tmp 6) (Operand.tmp 68) 40)) (R' := []) (by kernel_rfl) (.inr (by kernel_rfl)) (by kernel_rfl) (fun K206 hK206 => ?_)
            simp (maxSteps := 999999) (disch := omega) only [av1, av2, av3, eq_self, exists_const, forall_const, implies_true, storeOk, AS.gd, PK.more, PK.cond, PK.val, AV.get, CV.get, AV.ok, CV.ok, AV.off, CV.off, AV.set, CV.set, AV.fits, CV.fits, AV.size, AV.agg, CV.agg, AV.solid, AV.int?, AV.bool?, binOk, AV.els, CV.isByte, Sh.agg, Sh.fits, Sh.fitsL, Sh.fitsR, CV.eqv, CV.eqvs, AV.closed, rsAV, thenQ, AObj.lt, CV.numOf, Nat.reduceAdd, Nat.reduceLT, Nat.reduceMul, reduceCtorEq, ↓reduceIte, Nat.reduceEqDiff, Nat.reduceLeDiff, Nat.reduceSub, Nat.reduceBEq, Nat.reduceBNe, Int.reduceLT, Int.reduceEq, Int.reduceAdd, Int.reduceToNat, Int.reduceLE, Int.reduceBEq, Int.reduceBNe, enc1, cChan, cCSt, eqTy_Sum, toOut]
            (repeat ((with_reducible refine And.intro ?_ ?_); (first | trivial | assumption | omega | (simp; done))))
            refine hK206 _ ?_
            (try clear hK206)
            refine ag_pures (fuel := 0) [11] [It.mk (some 7) none (IK.p (PK.mov (Operand.const (Value.int IntKind.i64 0))))] (by kernel_rfl) (by kernel_rfl) (by kernel_rfl) (by kernel_rfl) (hideZ_nil _ 0) (fun K207 hK207 => ?_)
            simp (maxSteps := 999999) (disch := omega) only [av1, av2, av3, eq_self, exists_const, forall_const, implies_true, storeOk, AS.gd, PK.more, PK.cond, PK.val, AV.get, CV.get, AV.ok, CV.ok, AV.off, CV.off, AV.set, CV.set, AV.fits, CV.fits, AV.size, AV.agg, CV.agg, AV.solid, AV.int?, AV.bool?, binOk, AV.els, CV.isByte, Sh.agg, Sh.fits, Sh.fitsL, Sh.fitsR, CV.eqv, CV.eqvs, AV.closed, rsAV, thenQ, AObj.lt, CV.numOf, Nat.reduceAdd, Nat.reduceLT, Nat.reduceMul, reduceCtorEq, ↓reduceIte, Nat.reduceEqDiff, Nat.reduceLeDiff, Nat.reduceSub, Nat.reduceBEq, Nat.reduceBNe, Int.reduceLT, Int.reduceEq, Int.reduceAdd, Int.reduceToNat, Int.reduceLE, Int.reduceBEq, Int.reduceBNe, enc1, cChan, cCSt, eqTy_Sum, toOut]
            (repeat ((with_reducible refine And.intro ?_ ?_); (first | trivial | assumption | omega | (simp; done))))
            refine hK207 _ ?_
            (try clear hK207)
            refine ag_done (by kernel_rfl) ?_
            (try simp only [thenQ])
            refine hK200 _ ?_
            (try clear hK200)
            refine at_ret ?_
            simp (maxSteps := 999999) (disch := omega) only [av1, av2, av3, eq_self, exists_const, forall_const, implies_true, storeOk, AS.gd, PK.more, PK.cond, PK.val, AV.get, CV.get, AV.ok, CV.ok, AV.off, CV.off, AV.set, CV.set, AV.fits, CV.fits, AV.size, AV.agg, CV.agg, AV.solid, AV.int?, AV.bool?, binOk, AV.els, CV.isByte, Sh.agg, Sh.fits, Sh.fitsL, Sh.fitsR, CV.eqv, CV.eqvs, AV.closed, rsAV, thenQ, AObj.lt, CV.numOf, Nat.reduceAdd, Nat.reduceLT, Nat.reduceMul, reduceCtorEq, ↓reduceIte, Nat.reduceEqDiff, Nat.reduceLeDiff, Nat.reduceSub, Nat.reduceBEq, Nat.reduceBNe, Int.reduceLT, Int.reduceEq, Int.reduceAdd, Int.reduceToNat, Int.reduceLE, Int.reduceBEq, Int.reduceBNe, enc1, cChan, cCSt, eqTy_Sum, toOut, blockQ, retQ, RetOk, ResOk, AV.fin, AV.fins, CV.le, CV.les]
            first
              | (obtain ⟨e1, e2⟩ := build_bad (o := 1) h6; simp [e1, e2, zTxx, zOpx] <;> rfl)
              | (obtain ⟨e1, e2⟩ := build_ok (o := 1) h6; simp [e1, e2, comOf, comTx, zOpx, cInp, cOut, cWay, cRef, cSum, ints, ic, toOut, CV.les, CV.le] <;> rfl)
          · refine agi (it := It.mk (some 66) none (IK.call 23 [Operand.tmp 64, Operand.tmp 65])) (R' := [4, 2, 1, 0]) (by kernel_rfl) (.inl rfl) (by kernel_rfl) (fun K208 hK208 => ?_)
            simp (maxSteps := 999999) (disch := omega) only [av1, av2, av3, eq_self, exists_const, forall_const, implies_true, storeOk, AS.gd, PK.more, PK.cond, PK.val, AV.get, CV.get, AV.ok, CV.ok, AV.off, CV.off, AV.set, CV.set, AV.fits, CV.fits, AV.size, AV.agg, CV.agg, AV.solid, AV.int?, AV.bool?, binOk, AV.els, CV.isByte, Sh.agg, Sh.fits, Sh.fitsL, Sh.fitsR, CV.eqv, CV.eqvs, AV.closed, rsAV, thenQ, AObj.lt, CV.numOf, Nat.reduceAdd, Nat.reduceLT, Nat.reduceMul, reduceCtorEq, ↓reduceIte, Nat.reduceEqDiff, Nat.reduceLeDiff, Nat.reduceSub, Nat.reduceBEq, Nat.reduceBNe, Int.reduceLT, Int.reduceEq, Int.reduceAdd, Int.reduceToNat, Int.reduceLE, Int.reduceBEq, Int.reduceBNe, enc1, cChan, cCSt, eqTy_Sum, toOut]
            apply Exists.intro
            apply And.intro
            · first | exact (lockTo_ap _ _) | exact (fun _ => (lockTo_ap _ _)) | exact (fun h => ⟨h, (lockTo_ap _ _)⟩) | exact (fun h => ⟨by simp_all, (lockTo_ap _ _)⟩)
            (try simp only [rsAV, List.map_cons, List.map_nil, thenQ])
            refine hK208 _ ?_
            (try clear hK208)
            refine ag_two (i := 3) (j := 8) (by kernel_rfl) ?_ ?_
            · refine agi (it := It.mk (some 62) none (IK.lit 35 [Operand.tmp 61])) (R' := [4]) (by kernel_rfl) (.inl rfl) (by kernel_rfl) (fun K209 hK209 => ?_)
              simp (maxSteps := 999999) (disch := omega) only [av1, av2, av3, eq_self, exists_const, forall_const, implies_true, storeOk, AS.gd, PK.more, PK.cond, PK.val, AV.get, CV.get, AV.ok, CV.ok, AV.off, CV.off, AV.set, CV.set, AV.fits, CV.fits, AV.size, AV.agg, CV.agg, AV.solid, AV.int?, AV.bool?, binOk, AV.els, CV.isByte, Sh.agg, Sh.fits, Sh.fitsL, Sh.fitsR, CV.eqv, CV.eqvs, AV.closed, rsAV, thenQ, AObj.lt, CV.numOf, Nat.reduceAdd, Nat.reduceLT, Nat.reduceMul, reduceCtorEq, ↓reduceIte, Nat.reduceEqDiff, Nat.reduceLeDiff, Nat.reduceSub, Nat.reduceBEq, Nat.reduceBNe, Int.reduceLT, Int.reduceEq, Int.reduceAdd, Int.reduceToNat, Int.reduceLE, Int.reduceBEq, Int.reduceBNe, enc1, cChan, cCSt, eqTy_Sum, toOut]
              (repeat ((with_reducible refine And.intro ?_ ?_); (first | trivial | assumption | omega | (simp; done))))
              refine hK209 _ ?_
              (try clear hK209)
              refine ag_one (i := 8) (by kernel_rfl) ?_
              refine agi (it := It.mk (some 67) none (IK.lit 2 [Operand.tmp 63, Operand.tmp 66])) (R' := []) (by kernel_rfl) (.inl rfl) (by kernel_rfl) (fun K210 hK210 => ?_)
              simp (maxSteps := 999999) (disch := omega) only [av1, av2, av3, eq_self, exists_const, forall_const, implies_true, storeOk, AS.gd, PK.more, PK.cond, PK.val, AV.get, CV.get, AV.ok, CV.ok, AV.off, CV.off, AV.set, CV.set, AV.fits, CV.fits, AV.size, AV.agg, CV.agg, AV.solid, AV.int?, AV.bool?, binOk, AV.els, CV.isByte, Sh.agg, Sh.fits, Sh.fitsL, Sh.fitsR, CV.eqv, CV.eqvs, AV.closed, rsAV, thenQ, AObj.lt, CV.numOf, Nat.reduceAdd, Nat.reduceLT, Nat.reduceMul, reduceCtorEq, ↓reduceIte, Nat.reduceEqDiff, Nat.reduceLeDiff, Nat.reduceSub, Nat.reduceBEq, Nat.reduceBNe, Int.reduceLT, Int.reduceEq, Int.reduceAdd, Int.reduceToNat, Int.reduceLE, Int.reduceBEq, Int.reduceBNe, enc1, cChan, cCSt, eqTy_Sum, toOut]
              (repeat ((with_reducible refine And.intro ?_ ?_); (first | trivial | assumption | omega | (simp; done))))
              refine hK210 _ ?_
              (try clear hK210)
              refine ag_pures (fuel := 2) [9] [It.mk (some 68) none (IK.p (PK.bld (CV.st [CV.pv (Value.slice none 0 0), CV.pv (Value.slice none 0 0), CV.st [CV.pv (Value.int IntKind.i64 0), CV.pv (Value.int IntKind.i64 0), CV.pv (Value.int IntKind.i64 0), CV.pv (Value.int IntKind.i64 0), CV.ar IntKind.u8 32 (List.replicate 32 0), CV.pv (Value.slice none 0 0)], CV.pv (Value.slice none 0 0)]) [(0, 1), (1, 1), (2, 37), (39, 1)] [(0, Operand.tmp 62), (1, Operand.tmp 67)]))] (by kernel_rfl) (by kernel_rfl) (by kernel_rfl) (by kernel_rfl) (hideZ_nil _ 0) (fun K211 hK211 => ?_)
              simp (maxSteps := 999999) (disch := omega) only [av1, av2, av3, eq_self, exists_const, forall_const, implies_true, storeOk, AS.gd, PK.more, PK.cond, PK.val, AV.get, CV.get, AV.ok, CV.ok, AV.off, CV.off, AV.set, CV.set, AV.fits, CV.fits, AV.size, AV.agg, CV.agg, AV.solid, AV.int?, AV.bool?, binOk, AV.els, CV.isByte, Sh.agg, Sh.fits, Sh.fitsL, Sh.fitsR, CV.eqv, CV.eqvs, AV.closed, rsAV, thenQ, AObj.lt, CV.numOf, Nat.reduceAdd, Nat.reduceLT, Nat.reduceMul, reduceCtorEq, ↓reduceIte, Nat.reduceEqDiff, Nat.reduceLeDiff, Nat.reduceSub, Nat.reduceBEq, Nat.reduceBNe, Int.reduceLT, Int.reduceEq, Int.reduceAdd, Int.reduceToNat, Int.reduceLE, Int.reduceBEq, Int.reduceBNe, enc1, cChan, cCSt, eqTy_Sum, toOut]
              (repeat ((with_reducible refine And.intro ?_ ?_); (first | trivial | assumption | omega | (simp; done))))
              refine hK211 _ ?_
              (try clear hK211)
              refine ag_one (i := 10) (by kernel_rfl) ?_
              refine agi (it := It.mk none none (IK.store (Operand.tmp 6) (Operand.tmp 68) 40)) (R' := []) (by kernel_rfl) (.inr (by kernel_rfl)) (by kernel_rfl) (fun K212 hK212 => ?_)
              simp (maxSteps := 999999) (disch := omega) only [av1, av2, av3, eq_self, exists_const, forall_const, implies_true, storeOk, AS.gd, PK.more, PK.cond, PK.val, AV.get, CV.get, AV.ok, CV.ok, AV.off, CV.off, AV.set, CV.set, AV.fits, CV.fits, AV.size, AV.agg, CV.agg, AV.solid, AV.int?, AV.bool?, binOk, AV.els, CV.isByte, Sh.agg, Sh.fits, Sh.fitsL, Sh.fitsR, CV.eqv, CV.eqvs, AV.closed, rsAV, thenQ, AObj.lt, CV.numOf, Nat.reduceAdd, Nat.reduceLT, Nat.reduceMul, reduceCtorEq, ↓reduceIte, Nat.reduceEqDiff, Nat.reduceLeDiff, Nat.reduceSub, Nat.reduceBEq, Nat.reduceBNe, Int.reduceLT, Int.reduceEq, Int.reduceAdd, Int.reduceToNat, Int.reduceLE, Int.reduceBEq, Int.reduceBNe, enc1, cChan, cCSt, eqTy_Sum, toOut]
              (repeat ((with_reducible refine And.intro ?_ ?_); (first | trivial | assumption | omega | (simp; done))))
              refine hK212 _ ?_
              (try clear hK212)
              refine ag_pures (fuel := 0) [11] [It.mk (some 7) none (IK.p (PK.mov (Operand.const (Value.int IntKind.i64 0))))] (by kernel_rfl) (by kernel_rfl) (by kernel_rfl) (by kernel_rfl) (hideZ_nil _ 0) (fun K213 hK213 => ?_)
              simp (maxSteps := 999999) (disch := omega) only [av1, av2, av3, eq_self, exists_const, forall_const, implies_true, storeOk, AS.gd, PK.more, PK.cond, PK.val, AV.get, CV.get, AV.ok, CV.ok, AV.off, CV.off, AV.set, CV.set, AV.fits, CV.fits, AV.size, AV.agg, CV.agg, AV.solid, AV.int?, AV.bool?, binOk, AV.els, CV.isByte, Sh.agg, Sh.fits, Sh.fitsL, Sh.fitsR, CV.eqv, CV.eqvs, AV.closed, rsAV, thenQ, AObj.lt, CV.numOf, Nat.reduceAdd, Nat.reduceLT, Nat.reduceMul, reduceCtorEq, ↓reduceIte, Nat.reduceEqDiff, Nat.reduceLeDiff, Nat.reduceSub, Nat.reduceBEq, Nat.reduceBNe, Int.reduceLT, Int.reduceEq, Int.reduceAdd, Int.reduceToNat, Int.reduceLE, Int.reduceBEq, Int.reduceBNe, enc1, cChan, cCSt, eqTy_Sum, toOut]
              (repeat ((with_reducible refine And.intro ?_ ?_); (first | trivial | assumption | omega | (simp; done))))
              refine hK213 _ ?_
              (try clear hK213)
              refine ag_done (by kernel_rfl) ?_
              (try simp only [thenQ])
              refine hK200 _ ?_
              (try clear hK200)
              refine at_ret ?_
              simp (maxSteps := 999999) (disch := omega) only [av1, av2, av3, eq_self, exists_const, forall_const, implies_true, storeOk, AS.gd, PK.more, PK.cond, PK.val, AV.get, CV.get, AV.ok, CV.ok, AV.off, CV.off, AV.set, CV.set, AV.fits, CV.fits, AV.size, AV.agg, CV.agg, AV.solid, AV.int?, AV.bool?, binOk, AV.els, CV.isByte, Sh.agg, Sh.fits, Sh.fitsL, Sh.fitsR, CV.eqv, CV.eqvs, AV.closed, rsAV, thenQ, AObj.lt, CV.numOf, Nat.reduceAdd, Nat.reduceLT, Nat.reduceMul, reduceCtorEq, ↓reduceIte, Nat.reduceEqDiff, Nat.reduceLeDiff, Nat.reduceSub, Nat.reduceBEq, Nat.reduceBNe, Int.reduceLT, Int.reduceEq, Int.reduceAdd, Int.reduceToNat, Int.reduceLE, Int.reduceBEq, Int.reduceBNe, enc1, cChan, cCSt, eqTy_Sum, toOut, blockQ, retQ, RetOk, ResOk, AV.fin, AV.fins, CV.le, CV.les]
              first
                | (obtain ⟨e1, e2⟩ := build_bad (o := 1) h6; simp [e1, e2, zTxx, zOpx] <;> rfl)
                | (obtain ⟨e1, e2⟩ := build_ok (o := 1) h6; simp [e1, e2, comOf, comTx, zOpx, cInp, cOut, cWay, cRef, cSum, ints, ic, toOut, CV.les, CV.le] <;> rfl)
            · refine agi (it := It.mk (some 67) none (IK.lit 2 [Operand.tmp 63, Operand.tmp 66])) (R' := [2, 1, 0]) (by kernel_rfl) (.inl rfl) (by kernel_rfl) (fun K214 hK214 => ?_)
              simp (maxSteps := 999999) (disch := omega) only [av1, av2, av3, eq_self, exists_const, forall_const, implies_true, storeOk, AS.gd, PK.more, PK.cond, PK.val, AV.get, CV.get, AV.ok, CV.ok, AV.off, CV.off, AV.set, CV.set, AV.fits, CV.fits, AV.size, AV.agg, CV.agg, AV.solid, AV.int?, AV.bool?, binOk, AV.els, CV.isByte, Sh.agg, Sh.fits, Sh.fitsL, Sh.fitsR, CV.eqv, CV.eqvs, AV.closed, rsAV, thenQ, AObj.lt, CV.numOf, Nat.reduceAdd, Nat.reduceLT, Nat.reduceMul, reduceCtorEq, ↓reduceIte, Nat.reduceEqDiff, Nat.reduceLeDiff, Nat.reduceSub, Nat.reduceBEq, Nat.reduceBNe, Int.reduceLT, Int.reduceEq, Int.reduceAdd, Int.reduceToNat, Int.reduceLE, Int.reduceBEq, Int.reduceBNe, enc1, cChan, cCSt, eqTy_Sum, toOut]
              (repeat ((with_reducible refine And.intro ?_ ?_); (first | trivial | assumption | omega | (simp; done))))
              refine hK214 _ ?_
              (try clear hK214)
              refine ag_one (i := 3) (by kernel_rfl) ?_
              refine agi (it := It.mk (some 62) none (IK.lit 35 [Operand.tmp 61])) (R' := []) (by kernel_rfl) (.inl rfl) (by kernel_rfl) (fun K215 hK215 => ?_)
              simp (maxSteps := 999999) (disch := omega) only [av1, av2, av3, eq_self, exists_const, forall_const, implies_true, storeOk, AS.gd, PK.more, PK.cond, PK.val, AV.get, CV.get, AV.ok, CV.ok, AV.off, CV.off, AV.set, CV.set, AV.fits, CV.fits, AV.size, AV.agg, CV.agg, AV.solid, AV.int?, AV.bool?, binOk, AV.els, CV.isByte, Sh.agg, Sh.fits, Sh.fitsL, Sh.fitsR, CV.eqv, CV.eqvs, AV.closed, rsAV, thenQ, AObj.lt, CV.numOf, Nat.reduceAdd, Nat.reduceLT, Nat.reduceMul, reduceCtorEq, ↓reduceIte, Nat.reduceEqDiff, Nat.reduceLeDiff, Nat.reduceSub, Nat.reduceBEq, Nat.reduceBNe, Int.reduceLT, Int.reduceEq, Int.reduceAdd, Int.reduceToNat, Int.reduceLE, Int.reduceBEq, Int.reduceBNe, enc1, cChan, cCSt, eqTy_Sum, toOut]
              (repeat ((with_reducible refine And.intro ?_ ?_); (first | trivial | assumption | omega | (simp; done))))
              refine hK215 _ ?_
              (try clear hK215)
              refine ag_pures (fuel := 2) [9] [It.mk (some 68) none (IK.p (PK.bld (CV.st [CV.pv (Value.slice none 0 0), CV.pv (Value.slice none 0 0), CV.st [CV.pv (Value.int IntKind.i64 0), CV.pv (Value.int IntKind.i64 0), CV.pv (Value.int IntKind.i64 0), CV.pv (Value.int IntKind.i64 0), CV.ar IntKind.u8 32 (List.replicate 32 0), CV.pv (Value.slice none 0 0)], CV.pv (Value.slice none 0 0)]) [(0, 1), (1, 1), (2, 37), (39, 1)] [(0, Operand.tmp 62), (1, Operand.tmp 67)]))] (by kernel_rfl) (by kernel_rfl) (by kernel_rfl) (by kernel_rfl) (hideZ_nil _ 0) (fun K216 hK216 => ?_)
              simp (maxSteps := 999999) (disch := omega) only [av1, av2, av3, eq_self, exists_const, forall_const, implies_true, storeOk, AS.gd, PK.more, PK.cond, PK.val, AV.get, CV.get, AV.ok, CV.ok, AV.off, CV.off, AV.set, CV.set, AV.fits, CV.fits, AV.size, AV.agg, CV.agg, AV.solid, AV.int?, AV.bool?, binOk, AV.els, CV.isByte, Sh.agg, Sh.fits, Sh.fitsL, Sh.fitsR, CV.eqv, CV.eqvs, AV.closed, rsAV, thenQ, AObj.lt, CV.numOf, Nat.reduceAdd, Nat.reduceLT, Nat.reduceMul, reduceCtorEq, ↓reduceIte, Nat.reduceEqDiff, Nat.reduceLeDiff, Nat.reduceSub, Nat.reduceBEq, Nat.reduceBNe, Int.reduceLT, Int.reduceEq, Int.reduceAdd, Int.reduceToNat, Int.reduceLE, Int.reduceBEq, Int.reduceBNe, enc1, cChan, cCSt, eqTy_Sum, toOut]
              (repeat ((with_reducible refine And.intro ?_ ?_); (first | trivial | assumption | omega | (simp; done))))
              refine hK216 _ ?_
              (try clear hK216)
              refine ag_one (i := 10) (by kernel_rfl) ?_
              refine agi (it := It.mk none none (IK.store (Operand.tmp 6) (Operand.tmp 68) 40)) (R' := []) (by kernel_rfl) (.inr (by kernel_rfl)) (by kernel_rfl) (fun K217 hK217 => ?_)
              simp (maxSteps := 999999) (disch := omega) only [av1, av2, av3, eq_self, exists_const, forall_const, implies_true, storeOk, AS.gd, PK.more, PK.cond, PK.val, AV.get, CV.get, AV.ok, CV.ok, AV.off, CV.off, AV.set, CV.set, AV.fits, CV.fits, AV.size, AV.agg, CV.agg, AV.solid, AV.int?, AV.bool?, binOk, AV.els, CV.isByte, Sh.agg, Sh.fits, Sh.fitsL, Sh.fitsR, CV.eqv, CV.eqvs, AV.closed, rsAV, thenQ, AObj.lt, CV.numOf, Nat.reduceAdd, Nat.reduceLT, Nat.reduceMul, reduceCtorEq, ↓reduceIte, Nat.reduceEqDiff, Nat.reduceLeDiff, Nat.reduceSub, Nat.reduceBEq, Nat.reduceBNe, Int.reduceLT, Int.reduceEq, Int.reduceAdd, Int.reduceToNat, Int.reduceLE, Int.reduceBEq, Int.reduceBNe, enc1, cChan, cCSt, eqTy_Sum, toOut]
              (repeat ((with_reducible refine And.intro ?_ ?_); (first | trivial | assumption | omega | (simp; done))))
              refine hK217 _ ?_
              (try clear hK217)
              refine ag_pures (fuel := 0) [11] [It.mk (some 7) none (IK.p (PK.mov (Operand.const (Value.int IntKind.i64 0))))] (by kernel_rfl) (by kernel_rfl) (by kernel_rfl) (by kernel_rfl) (hideZ_nil _ 0) (fun K218 hK218 => ?_)
              simp (maxSteps := 999999) (disch := omega) only [av1, av2, av3, eq_self, exists_const, forall_const, implies_true, storeOk, AS.gd, PK.more, PK.cond, PK.val, AV.get, CV.get, AV.ok, CV.ok, AV.off, CV.off, AV.set, CV.set, AV.fits, CV.fits, AV.size, AV.agg, CV.agg, AV.solid, AV.int?, AV.bool?, binOk, AV.els, CV.isByte, Sh.agg, Sh.fits, Sh.fitsL, Sh.fitsR, CV.eqv, CV.eqvs, AV.closed, rsAV, thenQ, AObj.lt, CV.numOf, Nat.reduceAdd, Nat.reduceLT, Nat.reduceMul, reduceCtorEq, ↓reduceIte, Nat.reduceEqDiff, Nat.reduceLeDiff, Nat.reduceSub, Nat.reduceBEq, Nat.reduceBNe, Int.reduceLT, Int.reduceEq, Int.reduceAdd, Int.reduceToNat, Int.reduceLE, Int.reduceBEq, Int.reduceBNe, enc1, cChan, cCSt, eqTy_Sum, toOut]
              (repeat ((with_reducible refine And.intro ?_ ?_); (first | trivial | assumption | omega | (simp; done))))
              refine hK218 _ ?_
              (try clear hK218)
              refine ag_done (by kernel_rfl) ?_
              (try simp only [thenQ])
              refine hK200 _ ?_
              (try clear hK200)
              refine at_ret ?_
              simp (maxSteps := 999999) (disch := omega) only [av1, av2, av3, eq_self, exists_const, forall_const, implies_true, storeOk, AS.gd, PK.more, PK.cond, PK.val, AV.get, CV.get, AV.ok, CV.ok, AV.off, CV.off, AV.set, CV.set, AV.fits, CV.fits, AV.size, AV.agg, CV.agg, AV.solid, AV.int?, AV.bool?, binOk, AV.els, CV.isByte, Sh.agg, Sh.fits, Sh.fitsL, Sh.fitsR, CV.eqv, CV.eqvs, AV.closed, rsAV, thenQ, AObj.lt, CV.numOf, Nat.reduceAdd, Nat.reduceLT, Nat.reduceMul, reduceCtorEq, ↓reduceIte, Nat.reduceEqDiff, Nat.reduceLeDiff, Nat.reduceSub, Nat.reduceBEq, Nat.reduceBNe, Int.reduceLT, Int.reduceEq, Int.reduceAdd, Int.reduceToNat, Int.reduceLE, Int.reduceBEq, Int.reduceBNe, enc1, cChan, cCSt, eqTy_Sum, toOut, blockQ, retQ, RetOk, ResOk, AV.fin, AV.fins, CV.le, CV.les]
              first
                | (obtain ⟨e1, e2⟩ := build_bad (o := 1) h6; simp [e1, e2, zTxx, zOpx] <;> rfl)
                | (obtain ⟨e1, e2⟩ := build_ok (o := 1) h6; simp [e1, e2, comOf, comTx, zOpx, cInp, cOut, cWay, cRef, cSum, ints, ic, toOut, CV.les, CV.le] <;> rfl)
    · have r12 := h12
      (try simp only [decide_eq_true_eq, decide_eq_false_iff_not, Bool.and_eq_true, Bool.or_eq_true, Bool.and_eq_false_iff, Bool.or_eq_false_iff, Bool.not_eq_true', Bool.not_eq_false', Bool.not_true, Bool.not_false, Int.not_lt, Int.not_le, Nat.not_lt, Nat.not_le, int_ofNat_lt, int_ofNat_le, beq_iff_eq, bne_iff_ne, ne_eq, gt_iff_lt, ge_iff_le, Bool.not_eq_true, beq_eq_false_iff_ne, bne_eq_false_iff_eq] at h12)
      simp at h12
end Go.Proofs.Ytcghjnegaiiieaa

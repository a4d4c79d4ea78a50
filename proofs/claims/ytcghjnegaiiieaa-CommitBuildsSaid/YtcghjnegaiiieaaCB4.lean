/- Part 4 of the texts that LawCommitBuilds needs, pruned and joined. -/
import Derived.Test.YtcghjnegaiiieaaCB3
set_option linter.unusedSimpArgs false
namespace Go.Proofs.Ytcghjnegaiiieaa
open Go.RowKit
set_option maxRecDepth 100000 in
set_option maxHeartbeats 4000000 in
theorem commitBuild0_ap (c : Chan) (s : CSt) : AP Try.prog 48 [cChan c, cCSt s, ic .i64 0] [cTxx (buildTx c s 0), ic .i64 (buildE c s)] := by
  refine ap_of (fun _ _ => Try.call48 _ _) Try.func48 rfl Try.ntmps48 (by simp) (zs := [RZ.mk 6 (some (40, true)), RZ.mk 7 none]) (by kernel_rfl) (fun w F => ?_)
  simp only [List.map_cons, List.map_nil, argT, Nat.reduceAdd]
  refine at_seq fun K1 hK1 => ?_
  refine at_region [It.mk (some 3) none (IK.box (Operand.tmp 0)), It.mk (some 4) none (IK.box (Operand.tmp 1)), It.mk (some 6) none (IK.alloc (CV.st [CV.pv (Value.slice none 0 0), CV.pv (Value.slice none 0 0), CV.st [CV.pv (Value.int IntKind.i64 0), CV.pv (Value.int IntKind.i64 0), CV.pv (Value.int IntKind.i64 0), CV.pv (Value.int IntKind.i64 0), CV.ar IntKind.u8 32 (List.replicate 32 0), CV.pv (Value.slice none 0 0)], CV.pv (Value.slice none 0 0)])), It.mk (some 7) none (IK.p (PK.mov (Operand.const (Value.int IntKind.i64 0))))] (by kernel_rfl) ?_
  simp (maxSteps:=999999) (disch:=omega) only [av1, av2, av3, av4, eq_self, exists_const, forall_const, implies_true, storeOk, thenQ, PK.cond, PK.val, Nat.reduceAdd, Nat.reduceLT, Nat.reduceMul, reduceCtorEq, ↓reduceIte, Nat.reduceEqDiff, Nat.reduceLeDiff, Nat.reduceSub, Nat.reduceBEq, Nat.reduceBNe, Int.reduceLT, Int.reduceEq, Int.reduceAdd, Int.reduceToNat, Int.reduceLE, Int.reduceBEq, Int.reduceBNe, enc1, cChan, cCSt, eqTy_Sum, toOut]
  (repeat ((with_reducible refine And.intro ?_ ?_); (first | trivial | assumption | omega | (simp; done))))
  refine hK1 _ ?_
  (try clear hK1)
  refine at_seq fun K2 hK2 => ?_
  refine at_seq fun K3 hK3 => ?_
  refine at_region [It.mk (some 13) none (IK.p (PK.load (Operand.tmp 3) 39 true)), It.mk (some 14) none (IK.p (PK.load (Operand.tmp 4) 67 true)), It.mk (some 15) none (IK.call 52 [Operand.tmp 13, Operand.tmp 14]), It.mk (some 16) none (IK.p (PK.not (Operand.tmp 15))), It.mk (some 17) none (IK.p (PK.mov (Operand.tmp 16))), It.mk (some 18) (some (17, false)) (IK.p (PK.mov (Operand.tmp 2))), It.mk (some 19) (some (17, false)) (IK.p (PK.bin BinOp.neq (Operand.tmp 18) (Operand.const (Value.int IntKind.i64 0)))), It.mk (some 20) (some (17, false)) (IK.p (PK.mov (Operand.tmp 19))), It.mk (some 21) (some (20, true)) (IK.p (PK.mov (Operand.tmp 2))), It.mk (some 22) (some (20, true)) (IK.p (PK.bin BinOp.neq (Operand.tmp 21) (Operand.const (Value.int IntKind.i64 1)))), It.mk (some 23) (some (17, false)) (IK.p (PK.pick (Operand.tmp 20) (Operand.tmp 22) (Operand.const (Value.bool false)))), It.mk (some 24) none (IK.p (PK.pick (Operand.tmp 17) (Operand.const (Value.bool true)) (Operand.tmp 23)))] (by kernel_rfl) ?_
  refine apl_cut [_, _] _ (fun K4 hK4 => ?_)
  simp (maxSteps:=999999) (disch:=omega) only [av1, av2, av3, av4, eq_self, exists_const, forall_const, implies_true, storeOk, thenQ, PK.cond, PK.val, Nat.reduceAdd, Nat.reduceLT, Nat.reduceMul, reduceCtorEq, ↓reduceIte, Nat.reduceEqDiff, Nat.reduceLeDiff, Nat.reduceSub, Nat.reduceBEq, Nat.reduceBNe, Int.reduceLT, Int.reduceEq, Int.reduceAdd, Int.reduceToNat, Int.reduceLE, Int.reduceBEq, Int.reduceBNe, enc1, cChan, cCSt, eqTy_Sum, toOut]
  (repeat ((with_reducible refine And.intro ?_ ?_); (first | trivial | assumption | omega | (simp; done))))
  refine hK4 _ ?_
  (try clear hK4)
  refine apl_cut [_] _ (fun K5 hK5 => ?_)
  simp (maxSteps:=999999) (disch:=omega) only [av1, av2, av3, av4, eq_self, exists_const, forall_const, implies_true, storeOk, thenQ, PK.cond, PK.val, Nat.reduceAdd, Nat.reduceLT, Nat.reduceMul, reduceCtorEq, ↓reduceIte, Nat.reduceEqDiff, Nat.reduceLeDiff, Nat.reduceSub, Nat.reduceBEq, Nat.reduceBNe, Int.reduceLT, Int.reduceEq, Int.reduceAdd, Int.reduceToNat, Int.reduceLE, Int.reduceBEq, Int.reduceBNe, enc1, cChan, cCSt, eqTy_Sum, toOut]
  apply Exists.intro
  apply And.intro
  · first | exact (commitRight_ap c s) | exact (fun _ => (commitRight_ap c s)) | exact (fun h => ⟨h, (commitRight_ap c s)⟩) | exact (fun h => ⟨by simp_all, (commitRight_ap c s)⟩)
  (try simp only [rsAV, List.map_cons, List.map_nil, thenQ])
  refine hK5 _ ?_
  (try clear hK5)
  simp (maxSteps:=999999) (disch:=omega) only [av1, av2, av3, av4, eq_self, exists_const, forall_const, implies_true, storeOk, thenQ, PK.cond, PK.val, Nat.reduceAdd, Nat.reduceLT, Nat.reduceMul, reduceCtorEq, ↓reduceIte, Nat.reduceEqDiff, Nat.reduceLeDiff, Nat.reduceSub, Nat.reduceBEq, Nat.reduceBNe, Int.reduceLT, Int.reduceEq, Int.reduceAdd, Int.reduceToNat, Int.reduceLE, Int.reduceBEq, Int.reduceBNe, enc1, cChan, cCSt, eqTy_Sum, toOut]
  (repeat ((with_reducible refine And.intro ?_ ?_); (first | trivial | assumption | omega | (simp; done))))
  refine hK3 _ ?_
  (try clear hK3)
  refine at_cond _ rfl rfl (fun h6 => ?_) (fun h6 => ?_)
  · have r6 := h6
    (try simp only [dB2] at h6)
    refine at_seq fun K7 hK7 => ?_
    refine at_region [It.mk (some 25) none (IK.p (PK.bld (CV.st [CV.pv (Value.slice none 0 0), CV.pv (Value.slice none 0 0), CV.st [CV.pv (Value.int IntKind.i64 0), CV.pv (Value.int IntKind.i64 0), CV.pv (Value.int IntKind.i64 0), CV.pv (Value.int IntKind.i64 0), CV.ar IntKind.u8 32 (List.replicate 32 0), CV.pv (Value.slice none 0 0)], CV.pv (Value.slice none 0 0)]) [(0, 1), (1, 1), (2, 37), (39, 1)] [])), It.mk none none (IK.store (Operand.tmp 6) (Operand.tmp 25) 40), It.mk (some 7) none (IK.p (PK.mov (Operand.const (Value.int IntKind.i64 1))))] (by kernel_rfl) ?_
    simp (maxSteps:=999999) (disch:=omega) only [av1, av2, av3, av4, eq_self, exists_const, forall_const, implies_true, storeOk, thenQ, PK.cond, PK.val, Nat.reduceAdd, Nat.reduceLT, Nat.reduceMul, reduceCtorEq, ↓reduceIte, Nat.reduceEqDiff, Nat.reduceLeDiff, Nat.reduceSub, Nat.reduceBEq, Nat.reduceBNe, Int.reduceLT, Int.reduceEq, Int.reduceAdd, Int.reduceToNat, Int.reduceLE, Int.reduceBEq, Int.reduceBNe, enc1, cChan, cCSt, eqTy_Sum, toOut]
    (repeat ((with_reducible refine And.intro ?_ ?_); (first | trivial | assumption | omega | (simp; done))))
    refine hK7 _ ?_
    (try clear hK7)
    refine at_ret ?_
    simp (maxSteps:=999999) (disch:=omega) only [av1, av2, av3, av4, eq_self, exists_const, forall_const, implies_true, storeOk, thenQ, PK.cond, PK.val, Nat.reduceAdd, Nat.reduceLT, Nat.reduceMul, reduceCtorEq, ↓reduceIte, Nat.reduceEqDiff, Nat.reduceLeDiff, Nat.reduceSub, Nat.reduceBEq, Nat.reduceBNe, Int.reduceLT, Int.reduceEq, Int.reduceAdd, Int.reduceToNat, Int.reduceLE, Int.reduceBEq, Int.reduceBNe, enc1, cChan, cCSt, eqTy_Sum, toOut, blockQ, retQ, RetOk, ResOk, AV.fin, AV.fins, CV.le, CV.les]
    first
      | (obtain ⟨e1, e2⟩ := build_bad (o := 0) h6; simp [e1, e2, zTxx, zOpx] <;> rfl)
      | (obtain ⟨e1, e2⟩ := build_ok (o := 0) h6; simp [e1, e2, comOf, comTx, zOpx, cInp, cOut, cWay, cRef, cSum, ints, ic, toOut, CV.les, CV.le] <;> rfl)
  · have r6 := h6
    (try simp only [dB2] at h6)
    refine at_skip ?_
    (try simp only [thenQ, blockQ])
    refine hK2 _ ?_
    (try clear hK2)
    refine at_seqJ ?_
    apply Exists.intro
    refine And.intro ?_ ?_
    · skip
      refine at_draws [] (by kernel_rfl) ?_
      refine ag_pures (fuel := 0) [0, 1, 2, 3, 4, 5, 6, 7, 8, 9, 10, 11] [It.mk (some 26) none (IK.p (PK.fAddr (Operand.tmp 3) 1 1)), It.mk (some 27) none (IK.p (PK.load (Operand.tmp 26) 1 false)), It.mk (some 28) none (IK.p (PK.fAddr (Operand.tmp 3) 2 2)), It.mk (some 29) none (IK.p (PK.load (Operand.tmp 28) 1 false)), It.mk (some 30) none (IK.p (PK.fAddr (Operand.tmp 4) 1 1)), It.mk (some 31) none (IK.p (PK.load (Operand.tmp 30) 1 false)), It.mk (some 32) none (IK.p (PK.fAddr (Operand.tmp 4) 2 2)), It.mk (some 33) none (IK.p (PK.load (Operand.tmp 32) 1 false)), It.mk (some 8) none (IK.p (PK.mov (Operand.tmp 27))), It.mk (some 9) none (IK.p (PK.mov (Operand.tmp 29))), It.mk (some 10) none (IK.p (PK.mov (Operand.tmp 31))), It.mk (some 11) none (IK.p (PK.mov (Operand.tmp 33)))] (by kernel_rfl) (by kernel_rfl) (by kernel_rfl) (by kernel_rfl) (hideZ_nil _ 0) (fun K9 hK9 => ?_)
      simp (maxSteps:=999999) (disch:=omega) only [av1, av2, av3, av4, eq_self, exists_const, forall_const, implies_true, storeOk, thenQ, PK.cond, PK.val, Nat.reduceAdd, Nat.reduceLT, Nat.reduceMul, reduceCtorEq, ↓reduceIte, Nat.reduceEqDiff, Nat.reduceLeDiff, Nat.reduceSub, Nat.reduceBEq, Nat.reduceBNe, Int.reduceLT, Int.reduceEq, Int.reduceAdd, Int.reduceToNat, Int.reduceLE, Int.reduceBEq, Int.reduceBNe, enc1, cChan, cCSt, eqTy_Sum, toOut]
      (repeat ((with_reducible refine And.intro ?_ ?_); (first | trivial | assumption | omega | (simp; done))))
      refine hK9 _ ?_
      (try clear hK9)
      refine ag_done (by kernel_rfl) ?_
      (try simp only [thenQ])
      exact Le.refl
    refine at_seq fun K10 hK10 => ?_
    refine at_seq fun K11 hK11 => ?_
    refine at_region [It.mk (some 34) none (IK.p (PK.mov (Operand.tmp 2))), It.mk (some 35) none (IK.p (PK.bin BinOp.eql (Operand.tmp 34) (Operand.const (Value.int IntKind.i64 1))))] (by kernel_rfl) ?_
    simp (maxSteps:=999999) (disch:=omega) only [av1, av2, av3, av4, eq_self, exists_const, forall_const, implies_true, storeOk, thenQ, PK.cond, PK.val, Nat.reduceAdd, Nat.reduceLT, Nat.reduceMul, reduceCtorEq, ↓reduceIte, Nat.reduceEqDiff, Nat.reduceLeDiff, Nat.reduceSub, Nat.reduceBEq, Nat.reduceBNe, Int.reduceLT, Int.reduceEq, Int.reduceAdd, Int.reduceToNat, Int.reduceLE, Int.reduceBEq, Int.reduceBNe, enc1, cChan, cCSt, eqTy_Sum, toOut]
    (repeat ((with_reducible refine And.intro ?_ ?_); (first | trivial | assumption | omega | (simp; done))))
    refine hK11 _ ?_
    (try clear hK11)
    refine at_cond _ rfl rfl (fun h12 => ?_) (fun h12 => ?_)
    · have r12 := h12
      (try simp only [dB2] at h12)
      simp at h12
    · have r12 := h12
      (try simp only [dB2] at h12)
      refine at_skip ?_
      (try simp only [thenQ, blockQ])
      refine hK10 _ ?_
      (try clear hK10)
      refine at_seqJ ?_
      apply Exists.intro
      refine And.intro ?_ ?_
      · skip
        refine at_draws [] (by kernel_rfl) ?_
        refine ag_pures (fuel := 8) [0, 1, 3, 4, 6, 8, 9, 10, 11] [It.mk (some 44) none (IK.p (PK.mov (Operand.tmp 10))), It.mk (some 45) none (IK.p (PK.mov (Operand.tmp 8))), It.mk (some 47) none (IK.p (PK.fAddr (Operand.tmp 3) 5 37)), It.mk (some 48) none (IK.p (PK.load (Operand.tmp 47) 1 false)), It.mk (some 50) none (IK.p (PK.mov (Operand.tmp 9))), It.mk (some 52) none (IK.p (PK.mov (Operand.tmp 2))), It.mk (some 53) none (IK.p (PK.fAddr (Operand.tmp 4) 3 3)), It.mk (some 54) none (IK.p (PK.iAddrA (Operand.tmp 53) (Operand.tmp 52) 2 32)), It.mk (some 55) none (IK.p (PK.load (Operand.tmp 54) 32 true))] (by kernel_rfl) (by kernel_rfl) (by kernel_rfl) (by kernel_rfl) (hideZ_nil _ 0) (fun K14 hK14 => ?_)
        simp (maxSteps:=999999) (disch:=omega) only [av1, av2, av3, av4, eq_self, exists_const, forall_const, implies_true, storeOk, thenQ, PK.cond, PK.val, Nat.reduceAdd, Nat.reduceLT, Nat.reduceMul, reduceCtorEq, ↓reduceIte, Nat.reduceEqDiff, Nat.reduceLeDiff, Nat.reduceSub, Nat.reduceBEq, Nat.reduceBNe, Int.reduceLT, Int.reduceEq, Int.reduceAdd, Int.reduceToNat, Int.reduceLE, Int.reduceBEq, Int.reduceBNe, enc1, cChan, cCSt, eqTy_Sum, toOut]
        (repeat ((with_reducible refine And.intro ?_ ?_); (first | trivial | assumption | omega | (simp; done))))
        refine hK14 _ ?_
        (try clear hK14)
        refine ag_three (i := 2) (j := 7) (k := 15) (by kernel_rfl) ?_ ?_ ?_
        · refine agi (it := It.mk (some 46) none (IK.lit 1 [Operand.tmp 45])) (R' := [11, 10, 9, 8, 6, 4, 3, 0]) (by kernel_rfl) (.inl rfl) (by kernel_rfl) (fun K15 hK15 => ?_)
          simp (maxSteps:=999999) (disch:=omega) only [av1, av2, av3, av4, eq_self, exists_const, forall_const, implies_true, storeOk, thenQ, PK.cond, PK.val, Nat.reduceAdd, Nat.reduceLT, Nat.reduceMul, reduceCtorEq, ↓reduceIte, Nat.reduceEqDiff, Nat.reduceLeDiff, Nat.reduceSub, Nat.reduceBEq, Nat.reduceBNe, Int.reduceLT, Int.reduceEq, Int.reduceAdd, Int.reduceToNat, Int.reduceLE, Int.reduceBEq, Int.reduceBNe, enc1, cChan, cCSt, eqTy_Sum, toOut]
          (repeat ((with_reducible refine And.intro ?_ ?_); (first | trivial | assumption | omega | (simp; done))))
          refine hK15 _ ?_
          (try clear hK15)
          refine ag_pures (fuel := 6) [5] [It.mk (some 49) none (IK.p (PK.bld (CV.st [CV.pv (Value.slice none 0 0), CV.ar IntKind.u8 32 (List.replicate 32 0), CV.pv (Value.int IntKind.i64 0), CV.pv (Value.int IntKind.i64 0)]) [(0, 1), (1, 32), (33, 1), (34, 1)] [(0, Operand.tmp 46), (3, Operand.tmp 48)]))] (by kernel_rfl) (by kernel_rfl) (by kernel_rfl) (by kernel_rfl) (hideZ_nil _ 0) (fun K16 hK16 => ?_)
          simp (maxSteps:=999999) (disch:=omega) only [av1, av2, av3, av4, eq_self, exists_const, forall_const, implies_true, storeOk, thenQ, PK.cond, PK.val, Nat.reduceAdd, Nat.reduceLT, Nat.reduceMul, reduceCtorEq, ↓reduceIte, Nat.reduceEqDiff, Nat.reduceLeDiff, Nat.reduceSub, Nat.reduceBEq, Nat.reduceBNe, Int.reduceLT, Int.reduceEq, Int.reduceAdd, Int.reduceToNat, Int.reduceLE, Int.reduceBEq, Int.reduceBNe, enc1, cChan, cCSt, eqTy_Sum, toOut]
          (repeat ((with_reducible refine And.intro ?_ ?_); (first | trivial | assumption | omega | (simp; done))))
          refine hK16 _ ?_
          (try clear hK16)
          refine ag_two (i := 7) (j := 15) (by kernel_rfl) ?_ ?_
          · refine agi (it := It.mk (some 51) none (IK.lit 1 [Operand.tmp 50])) (R' := [5, 11, 10, 9, 8, 4, 3, 0]) (by kernel_rfl) (.inl rfl) (by kernel_rfl) (fun K17 hK17 => ?_)
            simp (maxSteps:=999999) (disch:=omega) only [av1, av2, av3, av4, eq_self, exists_const, forall_const, implies_true, storeOk, thenQ, PK.cond, PK.val, Nat.reduceAdd, Nat.reduceLT, Nat.reduceMul, reduceCtorEq, ↓reduceIte, Nat.reduceEqDiff, Nat.reduceLeDiff, Nat.reduceSub, Nat.reduceBEq, Nat.reduceBNe, Int.reduceLT, Int.reduceEq, Int.reduceAdd, Int.reduceToNat, Int.reduceLE, Int.reduceBEq, Int.reduceBNe, enc1, cChan, cCSt, eqTy_Sum, toOut]
            (repeat ((with_reducible refine And.intro ?_ ?_); (first | trivial | assumption | omega | (simp; done))))
            refine hK17 _ ?_
            (try clear hK17)
            refine ag_pures (fuel := 4) [12] [It.mk (some 56) none (IK.p (PK.bld (CV.st [CV.pv (Value.slice none 0 0), CV.ar IntKind.u8 32 (List.replicate 32 0), CV.pv (Value.int IntKind.i64 0), CV.pv (Value.int IntKind.i64 0)]) [(0, 1), (1, 32), (33, 1), (34, 1)] [(0, Operand.tmp 51), (1, Operand.tmp 55)]))] (by kernel_rfl) (by kernel_rfl) (by kernel_rfl) (by kernel_rfl) (hideZ_nil _ 0) (fun K18 hK18 => ?_)
            simp (maxSteps:=999999) (disch:=omega) only [av1, av2, av3, av4, eq_self, exists_const, forall_const, implies_true, storeOk, thenQ, PK.cond, PK.val, Nat.reduceAdd, Nat.reduceLT, Nat.reduceMul, reduceCtorEq, ↓reduceIte, Nat.reduceEqDiff, Nat.reduceLeDiff, Nat.reduceSub, Nat.reduceBEq, Nat.reduceBNe, Int.reduceLT, Int.reduceEq, Int.reduceAdd, Int.reduceToNat, Int.reduceLE, Int.reduceBEq, Int.reduceBNe, enc1, cChan, cCSt, eqTy_Sum, toOut]
            (repeat ((with_reducible refine And.intro ?_ ?_); (first | trivial | assumption | omega | (simp; done))))
            refine hK18 _ ?_
            (try clear hK18)
            refine ag_two (i := 13) (j := 15) (by kernel_rfl) ?_ ?_
            · refine agi (it := It.mk (some 57) none (IK.lit 35 [Operand.tmp 49, Operand.tmp 56])) (R' := [0]) (by kernel_rfl) (.inl rfl) (by kernel_rfl) (fun K19 hK19 => ?_)
              simp (maxSteps:=999999) (disch:=omega) only [av1, av2, av3, av4, eq_self, exists_const, forall_const, implies_true, storeOk, thenQ, PK.cond, PK.val, Nat.reduceAdd, Nat.reduceLT, Nat.reduceMul, reduceCtorEq, ↓reduceIte, Nat.reduceEqDiff, Nat.reduceLeDiff, Nat.reduceSub, Nat.reduceBEq, Nat.reduceBNe, Int.reduceLT, Int.reduceEq, Int.reduceAdd, Int.reduceToNat, Int.reduceLE, Int.reduceBEq, Int.reduceBNe, enc1, cChan, cCSt, eqTy_Sum, toOut]
              (repeat ((with_reducible refine And.intro ?_ ?_); (first | trivial | assumption | omega | (simp; done))))
              refine hK19 _ ?_
              (try clear hK19)
              refine ag_pures (fuel := 2) [14] [It.mk (some 58) none (IK.p (PK.bld (CV.st [CV.pv (Value.int IntKind.i64 0), CV.pv (Value.slice none 0 0)]) [(0, 1), (1, 1)] [(0, Operand.tmp 44), (1, Operand.tmp 57)]))] (by kernel_rfl) (by kernel_rfl) (by kernel_rfl) (by kernel_rfl) (hideZ_nil _ 0) (fun K20 hK20 => ?_)
              simp (maxSteps:=999999) (disch:=omega) only [av1, av2, av3, av4, eq_self, exists_const, forall_const, implies_true, storeOk, thenQ, PK.cond, PK.val, Nat.reduceAdd, Nat.reduceLT, Nat.reduceMul, reduceCtorEq, ↓reduceIte, Nat.reduceEqDiff, Nat.reduceLeDiff, Nat.reduceSub, Nat.reduceBEq, Nat.reduceBNe, Int.reduceLT, Int.reduceEq, Int.reduceAdd, Int.reduceToNat, Int.reduceLE, Int.reduceBEq, Int.reduceBNe, enc1, cChan, cCSt, eqTy_Sum, toOut]
              (repeat ((with_reducible refine And.intro ?_ ?_); (first | trivial | assumption | omega | (simp; done))))
              refine hK20 _ ?_
              (try clear hK20)
              refine ag_one (i:=15) (by kernel_rfl) ?_
              refine agi (it := It.mk (some 12) none (IK.alloc (CV.st [CV.pv (Value.int IntKind.i64 0), CV.pv (Value.slice none 0 0)]))) (R' := [14, 0]) (by kernel_rfl) (.inl rfl) (by kernel_rfl) (fun K21 hK21 => ?_)
              simp (maxSteps:=999999) (disch:=omega) only [av1, av2, av3, av4, eq_self, exists_const, forall_const, implies_true, storeOk, thenQ, PK.cond, PK.val, Nat.reduceAdd, Nat.reduceLT, Nat.reduceMul, reduceCtorEq, ↓reduceIte, Nat.reduceEqDiff, Nat.reduceLeDiff, Nat.reduceSub, Nat.reduceBEq, Nat.reduceBNe, Int.reduceLT, Int.reduceEq, Int.reduceAdd, Int.reduceToNat, Int.reduceLE, Int.reduceBEq, Int.reduceBNe, enc1, cChan, cCSt, eqTy_Sum, toOut]
              (repeat ((with_reducible refine And.intro ?_ ?_); (first | trivial | assumption | omega | (simp; done))))
              refine hK21 _ ?_
              (try clear hK21)
              refine ag_one (i:=16) (by kernel_rfl) ?_
              refine agi (it := It.mk none none (IK.store (Operand.tmp 12) (Operand.tmp 58) 2)) (R' := []) (by kernel_rfl) (.inr (by kernel_rfl)) (by kernel_rfl) (fun K22 hK22 => ?_)
              simp (maxSteps:=999999) (disch:=omega) only [av1, av2, av3, av4, eq_self, exists_const, forall_const, implies_true, storeOk, thenQ, PK.cond, PK.val, Nat.reduceAdd, Nat.reduceLT, Nat.reduceMul, reduceCtorEq, ↓reduceIte, Nat.reduceEqDiff, Nat.reduceLeDiff, Nat.reduceSub, Nat.reduceBEq, Nat.reduceBNe, Int.reduceLT, Int.reduceEq, Int.reduceAdd, Int.reduceToNat, Int.reduceLE, Int.reduceBEq, Int.reduceBNe, enc1, cChan, cCSt, eqTy_Sum, toOut]
              (repeat ((with_reducible refine And.intro ?_ ?_); (first | trivial | assumption | omega | (simp; done))))
              refine hK22 _ ?_
              (try clear hK22)
              refine ag_done (by kernel_rfl) ?_
              (try simp only [thenQ])
              exact Le.refl
            · refine agi (it := It.mk (some 12) none (IK.alloc (CV.st [CV.pv (Value.int IntKind.i64 0), CV.pv (Value.slice none 0 0)]))) (R' := [12, 5, 11, 10, 9, 8, 4, 3, 0]) (by kernel_rfl) (.inl rfl) (by kernel_rfl) (fun K23 hK23 => ?_)
              simp (maxSteps:=999999) (disch:=omega) only [av1, av2, av3, av4, eq_self, exists_const, forall_const, implies_true, storeOk, thenQ, PK.cond, PK.val, Nat.reduceAdd, Nat.reduceLT, Nat.reduceMul, reduceCtorEq, ↓reduceIte, Nat.reduceEqDiff, Nat.reduceLeDiff, Nat.reduceSub, Nat.reduceBEq, Nat.reduceBNe, Int.reduceLT, Int.reduceEq, Int.reduceAdd, Int.reduceToNat, Int.reduceLE, Int.reduceBEq, Int.reduceBNe, enc1, cChan, cCSt, eqTy_Sum, toOut]
              (repeat ((with_reducible refine And.intro ?_ ?_); (first | trivial | assumption | omega | (simp; done))))
              refine hK23 _ ?_
              (try clear hK23)
              refine ag_one (i:=13) (by kernel_rfl) ?_
              refine agi (it := It.mk (some 57) none (IK.lit 35 [Operand.tmp 49, Operand.tmp 56])) (R' := [0]) (by kernel_rfl) (.inl rfl) (by kernel_rfl) (fun K24 hK24 => ?_)
              simp (maxSteps:=999999) (disch:=omega) only [av1, av2, av3, av4, eq_self, exists_const, forall_const, implies_true, storeOk, thenQ, PK.cond, PK.val, Nat.reduceAdd, Nat.reduceLT, Nat.reduceMul, reduceCtorEq, ↓reduceIte, Nat.reduceEqDiff, Nat.reduceLeDiff, Nat.reduceSub, Nat.reduceBEq, Nat.reduceBNe, Int.reduceLT, Int.reduceEq, Int.reduceAdd, Int.reduceToNat, Int.reduceLE, Int.reduceBEq, Int.reduceBNe, enc1, cChan, cCSt, eqTy_Sum, toOut]
              (repeat ((with_reducible refine And.intro ?_ ?_); (first | trivial | assumption | omega | (simp; done))))
              refine hK24 _ ?_
              (try clear hK24)
              refine ag_pures (fuel := 1) [14] [It.mk (some 58) none (IK.p (PK.bld (CV.st [CV.pv (Value.int IntKind.i64 0), CV.pv (Value.slice none 0 0)]) [(0, 1), (1, 1)] [(0, Operand.tmp 44), (1, Operand.tmp 57)]))] (by kernel_rfl) (by kernel_rfl) (by kernel_rfl) (by kernel_rfl) (hideZ_nil _ 0) (fun K25 hK25 => ?_)
              simp (maxSteps:=999999) (disch:=omega) only [av1, av2, av3, av4, eq_self, exists_const, forall_const, implies_true, storeOk, thenQ, PK.cond, PK.val, Nat.reduceAdd, Nat.reduceLT, Nat.reduceMul, reduceCtorEq, ↓reduceIte, Nat.reduceEqDiff, Nat.reduceLeDiff, Nat.reduceSub, Nat.reduceBEq, Nat.reduceBNe, Int.reduceLT, Int.reduceEq, Int.reduceAdd, Int.reduceToNat, Int.reduceLE, Int.reduceBEq, Int.reduceBNe, enc1, cChan, cCSt, eqTy_Sum, toOut]
              (repeat ((with_reducible refine And.intro ?_ ?_); (first | trivial | assumption | omega | (simp; done))))
              refine hK25 _ ?_
              (try clear hK25)
              refine ag_one (i:=16) (by kernel_rfl) ?_
              refine agi (it := It.mk none none (IK.store (Operand.tmp 12) (Operand.tmp 58) 2)) (R' := []) (by kernel_rfl) (.inr (by kernel_rfl)) (by kernel_rfl) (fun K26 hK26 => ?_)
              simp (maxSteps:=999999) (disch:=omega) only [av1, av2, av3, av4, eq_self, exists_const, forall_const, implies_true, storeOk, thenQ, PK.cond, PK.val, Nat.reduceAdd, Nat.reduceLT, Nat.reduceMul, reduceCtorEq, ↓reduceIte, Nat.reduceEqDiff, Nat.reduceLeDiff, Nat.reduceSub, Nat.reduceBEq, Nat.reduceBNe, Int.reduceLT, Int.reduceEq, Int.reduceAdd, Int.reduceToNat, Int.reduceLE, Int.reduceBEq, Int.reduceBNe, enc1, cChan, cCSt, eqTy_Sum, toOut]
              (repeat ((with_reducible refine And.intro ?_ ?_); (first | trivial | assumption | omega | (simp; done))))
              refine hK26 _ ?_
              (try clear hK26)
              refine ag_done (by kernel_rfl) ?_
              (try simp only [thenQ])
              exact Le.sameL rfl (by repeat (first | exact SubL.nil | refine SubL.cons rfl ?_))
          · refine agi (it := It.mk (some 12) none (IK.alloc (CV.st [CV.pv (Value.int IntKind.i64 0), CV.pv (Value.slice none 0 0)]))) (R' := [5, 11, 10, 9, 8, 6, 4, 3, 0]) (by kernel_rfl) (.inl rfl) (by kernel_rfl) (fun K27 hK27 => ?_)
            simp (maxSteps:=999999) (disch:=omega) only [av1, av2, av3, av4, eq_self, exists_const, forall_const, implies_true, storeOk, thenQ, PK.cond, PK.val, Nat.reduceAdd, Nat.reduceLT, Nat.reduceMul, reduceCtorEq, ↓reduceIte, Nat.reduceEqDiff, Nat.reduceLeDiff, Nat.reduceSub, Nat.reduceBEq, Nat.reduceBNe, Int.reduceLT, Int.reduceEq, Int.reduceAdd, Int.reduceToNat, Int.reduceLE, Int.reduceBEq, Int.reduceBNe, enc1, cChan, cCSt, eqTy_Sum, toOut]
            (repeat ((with_reducible refine And.intro ?_ ?_); (first | trivial | assumption | omega | (simp; done))))
            refine hK27 _ ?_
            (try clear hK27)
            refine ag_one (i:=7) (by kernel_rfl) ?_
            refine agi (it := It.mk (some 51) none (IK.lit 1 [Operand.tmp 50])) (R' := [5, 11, 10, 9, 8, 4, 3, 0]) (by kernel_rfl) (.inl rfl) (by kernel_rfl) (fun K28 hK28 => ?_)
            simp (maxSteps:=999999) (disch:=omega) only [av1, av2, av3, av4, eq_self, exists_const, forall_const, implies_true, storeOk, thenQ, PK.cond, PK.val, Nat.reduceAdd, Nat.reduceLT, Nat.reduceMul, reduceCtorEq, ↓reduceIte, Nat.reduceEqDiff, Nat.reduceLeDiff, Nat.reduceSub, Nat.reduceBEq, Nat.reduceBNe, Int.reduceLT, Int.reduceEq, Int.reduceAdd, Int.reduceToNat, Int.reduceLE, Int.reduceBEq, Int.reduceBNe, enc1, cChan, cCSt, eqTy_Sum, toOut]
            (repeat ((with_reducible refine And.intro ?_ ?_); (first | trivial | assumption | omega | (simp; done))))
            refine hK28 _ ?_
            (try clear hK28)
            refine ag_pures (fuel := 3) [12] [It.mk (some 56) none (IK.p (PK.bld (CV.st [CV.pv (Value.slice none 0 0), CV.ar IntKind.u8 32 (List.replicate 32 0), CV.pv (Value.int IntKind.i64 0), CV.pv (Value.int IntKind.i64 0)]) [(0, 1), (1, 32), (33, 1), (34, 1)] [(0, Operand.tmp 51), (1, Operand.tmp 55)]))] (by kernel_rfl) (by kernel_rfl) (by kernel_rfl) (by kernel_rfl) (hideZ_nil _ 0) (fun K29 hK29 => ?_)
            simp (maxSteps:=999999) (disch:=omega) only [av1, av2, av3, av4, eq_self, exists_const, forall_const, implies_true, storeOk, thenQ, PK.cond, PK.val, Nat.reduceAdd, Nat.reduceLT, Nat.reduceMul, reduceCtorEq, ↓reduceIte, Nat.reduceEqDiff, Nat.reduceLeDiff, Nat.reduceSub, Nat.reduceBEq, Nat.reduceBNe, Int.reduceLT, Int.reduceEq, Int.reduceAdd, Int.reduceToNat, Int.reduceLE, Int.reduceBEq, Int.reduceBNe, enc1, cChan, cCSt, eqTy_Sum, toOut]
            (repeat ((with_reducible refine And.intro ?_ ?_); (first | trivial | assumption | omega | (simp; done))))
            refine hK29 _ ?_
            (try clear hK29)
            refine ag_one (i:=13) (by kernel_rfl) ?_
            refine agi (it := It.mk (some 57) none (IK.lit 35 [Operand.tmp 49, Operand.tmp 56])) (R' := [0]) (by kernel_rfl) (.inl rfl) (by kernel_rfl) (fun K30 hK30 => ?_)
            simp (maxSteps:=999999) (disch:=omega) only [av1, av2, av3, av4, eq_self, exists_const, forall_const, implies_true, storeOk, thenQ, PK.cond, PK.val, Nat.reduceAdd, Nat.reduceLT, Nat.reduceMul, reduceCtorEq, ↓reduceIte, Nat.reduceEqDiff, Nat.reduceLeDiff, Nat.reduceSub, Nat.reduceBEq, Nat.reduceBNe, Int.reduceLT, Int.reduceEq, Int.reduceAdd, Int.reduceToNat, Int.reduceLE, Int.reduceBEq, Int.reduceBNe, enc1, cChan, cCSt, eqTy_Sum, toOut]
            (repeat ((with_reducible refine And.intro ?_ ?_); (first | trivial | assumption | omega | (simp; done))))
            refine hK30 _ ?_
            (try clear hK30)
            refine ag_pures (fuel := 1) [14] [It.mk (some 58) none (IK.p (PK.bld (CV.st [CV.pv (Value.int IntKind.i64 0), CV.pv (Value.slice none 0 0)]) [(0, 1), (1, 1)] [(0, Operand.tmp 44), (1, Operand.tmp 57)]))] (by kernel_rfl) (by kernel_rfl) (by kernel_rfl) (by kernel_rfl) (hideZ_nil _ 0) (fun K31 hK31 => ?_)
            simp (maxSteps:=999999) (disch:=omega) only [av1, av2, av3, av4, eq_self, exists_const, forall_const, implies_true, storeOk, thenQ, PK.cond, PK.val, Nat.reduceAdd, Nat.reduceLT, Nat.reduceMul, reduceCtorEq, ↓reduceIte, Nat.reduceEqDiff, Nat.reduceLeDiff, Nat.reduceSub, Nat.reduceBEq, Nat.reduceBNe, Int.reduceLT, Int.reduceEq, Int.reduceAdd, Int.reduceToNat, Int.reduceLE, Int.reduceBEq, Int.reduceBNe, enc1, cChan, cCSt, eqTy_Sum, toOut]
            (repeat ((with_reducible refine And.intro ?_ ?_); (first | trivial | assumption | omega | (simp; done))))
            refine hK31 _ ?_
            (try clear hK31)
            refine ag_one (i:=16) (by kernel_rfl) ?_
            refine agi (it := It.mk none none (IK.store (Operand.tmp 12) (Operand.tmp 58) 2)) (R' := []) (by kernel_rfl) (.inr (by kernel_rfl)) (by kernel_rfl) (fun K32 hK32 => ?_)
            simp (maxSteps:=999999) (disch:=omega) only [av1, av2, av3, av4, eq_self, exists_const, forall_const, implies_true, storeOk, thenQ, PK.cond, PK.val, Nat.reduceAdd, Nat.reduceLT, Nat.reduceMul, reduceCtorEq, ↓reduceIte, Nat.reduceEqDiff, Nat.reduceLeDiff, Nat.reduceSub, Nat.reduceBEq, Nat.reduceBNe, Int.reduceLT, Int.reduceEq, Int.reduceAdd, Int.reduceToNat, Int.reduceLE, Int.reduceBEq, Int.reduceBNe, enc1, cChan, cCSt, eqTy_Sum, toOut]
            (repeat ((with_reducible refine And.intro ?_ ?_); (first | trivial | assumption | omega | (simp; done))))
            refine hK32 _ ?_
            (try clear hK32)
            refine ag_done (by kernel_rfl) ?_
            (try simp only [thenQ])
            exact Le.sameL rfl (by repeat (first | exact SubL.nil | refine SubL.cons rfl ?_))
        · refine agi (it := It.mk (some 51) none (IK.lit 1 [Operand.tmp 50])) (R' := [11, 10, 9, 8, 4, 3, 1, 0]) (by kernel_rfl) (.inl rfl) (by kernel_rfl) (fun K33 hK33 => ?_)
          simp (maxSteps:=999999) (disch:=omega) only [av1, av2, av3, av4, eq_self, exists_const, forall_const, implies_true, storeOk, thenQ, PK.cond, PK.val, Nat.reduceAdd, Nat.reduceLT, Nat.reduceMul, reduceCtorEq, ↓reduceIte, Nat.reduceEqDiff, Nat.reduceLeDiff, Nat.reduceSub, Nat.reduceBEq, Nat.reduceBNe, Int.reduceLT, Int.reduceEq, Int.reduceAdd, Int.reduceToNat, Int.reduceLE, Int.reduceBEq, Int.reduceBNe, enc1, cChan, cCSt, eqTy_Sum, toOut]
          (repeat ((with_reducible refine And.intro ?_ ?_); (first | trivial | assumption | omega | (simp; done))))
          refine hK33 _ ?_
          (try clear hK33)
          refine ag_pures (fuel := 6) [12] [It.mk (some 56) none (IK.p (PK.bld (CV.st [CV.pv (Value.slice none 0 0), CV.ar IntKind.u8 32 (List.replicate 32 0), CV.pv (Value.int IntKind.i64 0), CV.pv (Value.int IntKind.i64 0)]) [(0, 1), (1, 32), (33, 1), (34, 1)] [(0, Operand.tmp 51), (1, Operand.tmp 55)]))] (by kernel_rfl) (by kernel_rfl) (by kernel_rfl) (by kernel_rfl) (hideZ_nil _ 0) (fun K34 hK34 => ?_)
          simp (maxSteps:=999999) (disch:=omega) only [av1, av2, av3, av4, eq_self, exists_const, forall_const, implies_true, storeOk, thenQ, PK.cond, PK.val, Nat.reduceAdd, Nat.reduceLT, Nat.reduceMul, reduceCtorEq, ↓reduceIte, Nat.reduceEqDiff, Nat.reduceLeDiff, Nat.reduceSub, Nat.reduceBEq, Nat.reduceBNe, Int.reduceLT, Int.reduceEq, Int.reduceAdd, Int.reduceToNat, Int.reduceLE, Int.reduceBEq, Int.reduceBNe, enc1, cChan, cCSt, eqTy_Sum, toOut]
          (repeat ((with_reducible refine And.intro ?_ ?_); (first | trivial | assumption | omega | (simp; done))))
          refine hK34 _ ?_
          (try clear hK34)
          refine ag_two (i := 2) (j := 15) (by kernel_rfl) ?_ ?_
          · refine agi (it := It.mk (some 46) none (IK.lit 1 [Operand.tmp 45])) (R' := [12, 11, 10, 9, 8, 4, 3, 0]) (by kernel_rfl) (.inl rfl) (by kernel_rfl) (fun K35 hK35 => ?_)
            simp (maxSteps:=999999) (disch:=omega) only [av1, av2, av3, av4, eq_self, exists_const, forall_const, implies_true, storeOk, thenQ, PK.cond, PK.val, Nat.reduceAdd, Nat.reduceLT, Nat.reduceMul, reduceCtorEq, ↓reduceIte, Nat.reduceEqDiff, Nat.reduceLeDiff, Nat.reduceSub, Nat.reduceBEq, Nat.reduceBNe, Int.reduceLT, Int.reduceEq, Int.reduceAdd, Int.reduceToNat, Int.reduceLE, Int.reduceBEq, Int.reduceBNe, enc1, cChan, cCSt, eqTy_Sum, toOut]
            (repeat ((with_reducible refine And.intro ?_ ?_); (first | trivial | assumption | omega | (simp; done))))
            refine hK35 _ ?_
            (try clear hK35)
            refine ag_pures (fuel := 4) [5] [It.mk (some 49) none (IK.p (PK.bld (CV.st [CV.pv (Value.slice none 0 0), CV.ar IntKind.u8 32 (List.replicate 32 0), CV.pv (Value.int IntKind.i64 0), CV.pv (Value.int IntKind.i64 0)]) [(0, 1), (1, 32), (33, 1), (34, 1)] [(0, Operand.tmp 46), (3, Operand.tmp 48)]))] (by kernel_rfl) (by kernel_rfl) (by kernel_rfl) (by kernel_rfl) (hideZ_nil _ 0) (fun K36 hK36 => ?_)
            simp (maxSteps:=999999) (disch:=omega) only [av1, av2, av3, av4, eq_self, exists_const, forall_const, implies_true, storeOk, thenQ, PK.cond, PK.val, Nat.reduceAdd, Nat.reduceLT, Nat.reduceMul, reduceCtorEq, ↓reduceIte, Nat.reduceEqDiff, Nat.reduceLeDiff, Nat.reduceSub, Nat.reduceBEq, Nat.reduceBNe, Int.reduceLT, Int.reduceEq, Int.reduceAdd, Int.reduceToNat, Int.reduceLE, Int.reduceBEq, Int.reduceBNe, enc1, cChan, cCSt, eqTy_Sum, toOut]
            (repeat ((with_reducible refine And.intro ?_ ?_); (first | trivial | assumption | omega | (simp; done))))
            refine hK36 _ ?_
            (try clear hK36)
            refine ag_two (i := 13) (j := 15) (by kernel_rfl) ?_ ?_
            · refine agi (it := It.mk (some 57) none (IK.lit 35 [Operand.tmp 49, Operand.tmp 56])) (R' := [0]) (by kernel_rfl) (.inl rfl) (by kernel_rfl) (fun K37 hK37 => ?_)
              simp (maxSteps:=999999) (disch:=omega) only [av1, av2, av3, av4, eq_self, exists_const, forall_const, implies_true, storeOk, thenQ, PK.cond, PK.val, Nat.reduceAdd, Nat.reduceLT, Nat.reduceMul, reduceCtorEq, ↓reduceIte, Nat.reduceEqDiff, Nat.reduceLeDiff, Nat.reduceSub, Nat.reduceBEq, Nat.reduceBNe, Int.reduceLT, Int.reduceEq, Int.reduceAdd, Int.reduceToNat, Int.reduceLE, Int.reduceBEq, Int.reduceBNe, enc1, cChan, cCSt, eqTy_Sum, toOut]
              (repeat ((with_reducible refine And.intro ?_ ?_); (first | trivial | assumption | omega | (simp; done))))
              refine hK37 _ ?_
              (try clear hK37)
              refine ag_pures (fuel := 2) [14] [It.mk (some 58) none (IK.p (PK.bld (CV.st [CV.pv (Value.int IntKind.i64 0), CV.pv (Value.slice none 0 0)]) [(0, 1), (1, 1)] [(0, Operand.tmp 44), (1, Operand.tmp 57)]))] (by kernel_rfl) (by kernel_rfl) (by kernel_rfl) (by kernel_rfl) (hideZ_nil _ 0) (fun K38 hK38 => ?_)
              simp (maxSteps:=999999) (disch:=omega) only [av1, av2, av3, av4, eq_self, exists_const, forall_const, implies_true, storeOk, thenQ, PK.cond, PK.val, Nat.reduceAdd, Nat.reduceLT, Nat.reduceMul, reduceCtorEq, ↓reduceIte, Nat.reduceEqDiff, Nat.reduceLeDiff, Nat.reduceSub, Nat.reduceBEq, Nat.reduceBNe, Int.reduceLT, Int.reduceEq, Int.reduceAdd, Int.reduceToNat, Int.reduceLE, Int.reduceBEq, Int.reduceBNe, enc1, cChan, cCSt, eqTy_Sum, toOut]
              (repeat ((with_reducible refine And.intro ?_ ?_); (first | trivial | assumption | omega | (simp; done))))
              refine hK38 _ ?_
              (try clear hK38)
              refine ag_one (i:=15) (by kernel_rfl) ?_
              refine agi (it := It.mk (some 12) none (IK.alloc (CV.st [CV.pv (Value.int IntKind.i64 0), CV.pv (Value.slice none 0 0)]))) (R' := [14, 0]) (by kernel_rfl) (.inl rfl) (by kernel_rfl) (fun K39 hK39 => ?_)
              simp (maxSteps:=999999) (disch:=omega) only [av1, av2, av3, av4, eq_self, exists_const, forall_const, implies_true, storeOk, thenQ, PK.cond, PK.val, Nat.reduceAdd, Nat.reduceLT, Nat.reduceMul, reduceCtorEq, ↓reduceIte, Nat.reduceEqDiff, Nat.reduceLeDiff, Nat.reduceSub, Nat.reduceBEq, Nat.reduceBNe, Int.reduceLT, Int.reduceEq, Int.reduceAdd, Int.reduceToNat, Int.reduceLE, Int.reduceBEq, Int.reduceBNe, enc1, cChan, cCSt, eqTy_Sum, toOut]
              (repeat ((with_reducible refine And.intro ?_ ?_); (first | trivial | assumption | omega | (simp; done))))
              refine hK39 _ ?_
              (try clear hK39)
              refine ag_one (i:=16) (by kernel_rfl) ?_
              refine agi (it := It.mk none none (IK.store (Operand.tmp 12) (Operand.tmp 58) 2)) (R' := []) (by kernel_rfl) (.inr (by kernel_rfl)) (by kernel_rfl) (fun K40 hK40 => ?_)
              simp (maxSteps:=999999) (disch:=omega) only [av1, av2, av3, av4, eq_self, exists_const, forall_const, implies_true, storeOk, thenQ, PK.cond, PK.val, Nat.reduceAdd, Nat.reduceLT, Nat.reduceMul, reduceCtorEq, ↓reduceIte, Nat.reduceEqDiff, Nat.reduceLeDiff, Nat.reduceSub, Nat.reduceBEq, Nat.reduceBNe, Int.reduceLT, Int.reduceEq, Int.reduceAdd, Int.reduceToNat, Int.reduceLE, Int.reduceBEq, Int.reduceBNe, enc1, cChan, cCSt, eqTy_Sum, toOut]
              (repeat ((with_reducible refine And.intro ?_ ?_); (first | trivial | assumption | omega | (simp; done))))
              refine hK40 _ ?_
              (try clear hK40)
              refine ag_done (by kernel_rfl) ?_
              (try simp only [thenQ])
              exact Le.sameL rfl (by repeat (first | exact SubL.nil | refine SubL.cons rfl ?_))
            · refine agi (it := It.mk (some 12) none (IK.alloc (CV.st [CV.pv (Value.int IntKind.i64 0), CV.pv (Value.slice none 0 0)]))) (R' := [5, 12, 11, 10, 9, 8, 4, 3, 0]) (by kernel_rfl) (.inl rfl) (by kernel_rfl) (fun K41 hK41 => ?_)
              simp (maxSteps:=999999) (disch:=omega) only [av1, av2, av3, av4, eq_self, exists_const, forall_const, implies_true, storeOk, thenQ, PK.cond, PK.val, Nat.reduceAdd, Nat.reduceLT, Nat.reduceMul, reduceCtorEq, ↓reduceIte, Nat.reduceEqDiff, Nat.reduceLeDiff, Nat.reduceSub, Nat.reduceBEq, Nat.reduceBNe, Int.reduceLT, Int.reduceEq, Int.reduceAdd, Int.reduceToNat, Int.reduceLE, Int.reduceBEq, Int.reduceBNe, enc1, cChan, cCSt, eqTy_Sum, toOut]
              (repeat ((with_reducible refine And.intro ?_ ?_); (first | trivial | assumption | omega | (simp; done))))
              refine hK41 _ ?_
              (try clear hK41)
              refine ag_one (i:=13) (by kernel_rfl) ?_
              refine agi (it := It.mk (some 57) none (IK.lit 35 [Operand.tmp 49, Operand.tmp 56])) (R' := [0]) (by kernel_rfl) (.inl rfl) (by kernel_rfl) (fun K42 hK42 => ?_)
              simp (maxSteps:=999999) (disch:=omega) only [av1, av2, av3, av4, eq_self, exists_const, forall_const, implies_true, storeOk, thenQ, PK.cond, PK.val, Nat.reduceAdd, Nat.reduceLT, Nat.reduceMul, reduceCtorEq, ↓reduceIte, Nat.reduceEqDiff, Nat.reduceLeDiff, Nat.reduceSub, Nat.reduceBEq, Nat.reduceBNe, Int.reduceLT, Int.reduceEq, Int.reduceAdd, Int.reduceToNat, Int.reduceLE, Int.reduceBEq, Int.reduceBNe, enc1, cChan, cCSt, eqTy_Sum, toOut]
              (repeat ((with_reducible refine And.intro ?_ ?_); (first | trivial | assumption | omega | (simp; done))))
              refine hK42 _ ?_
              (try clear hK42)
              refine ag_pures (fuel := 1) [14] [It.mk (some 58) none (IK.p (PK.bld (CV.st [CV.pv (Value.int IntKind.i64 0), CV.pv (Value.slice none 0 0)]) [(0, 1), (1, 1)] [(0, Operand.tmp 44), (1, Operand.tmp 57)]))] (by kernel_rfl) (by kernel_rfl) (by kernel_rfl) (by kernel_rfl) (hideZ_nil _ 0) (fun K43 hK43 => ?_)
              simp (maxSteps:=999999) (disch:=omega) only [av1, av2, av3, av4, eq_self, exists_const, forall_const, implies_true, storeOk, thenQ, PK.cond, PK.val, Nat.reduceAdd, Nat.reduceLT, Nat.reduceMul, reduceCtorEq, ↓reduceIte, Nat.reduceEqDiff, Nat.reduceLeDiff, Nat.reduceSub, Nat.reduceBEq, Nat.reduceBNe, Int.reduceLT, Int.reduceEq, Int.reduceAdd, Int.reduceToNat, Int.reduceLE, Int.reduceBEq, Int.reduceBNe, enc1, cChan, cCSt, eqTy_Sum, toOut]
              (repeat ((with_reducible refine And.intro ?_ ?_); (first | trivial | assumption | omega | (simp; done))))
              refine hK43 _ ?_
              (try clear hK43)
              refine ag_one (i:=16) (by kernel_rfl) ?_
              refine agi (it := It.mk none none (IK.store (Operand.tmp 12) (Operand.tmp 58) 2)) (R' := []) (by kernel_rfl) (.inr (by kernel_rfl)) (by kernel_rfl) (fun K44 hK44 => ?_)
              simp (maxSteps:=999999) (disch:=omega) only [av1, av2, av3, av4, eq_self, exists_const, forall_const, implies_true, storeOk, thenQ, PK.cond, PK.val, Nat.reduceAdd, Nat.reduceLT, Nat.reduceMul, reduceCtorEq, ↓reduceIte, Nat.reduceEqDiff, Nat.reduceLeDiff, Nat.reduceSub, Nat.reduceBEq, Nat.reduceBNe, Int.reduceLT, Int.reduceEq, Int.reduceAdd, Int.reduceToNat, Int.reduceLE, Int.reduceBEq, Int.reduceBNe, enc1, cChan, cCSt, eqTy_Sum, toOut]
              (repeat ((with_reducible refine And.intro ?_ ?_); (first | trivial | assumption | omega | (simp; done))))
              refine hK44 _ ?_
              (try clear hK44)
              refine ag_done (by kernel_rfl) ?_
              (try simp only [thenQ])
              exact Le.sameL rfl (by repeat (first | exact SubL.nil | refine SubL.cons rfl ?_))
          · refine agi (it := It.mk (some 12) none (IK.alloc (CV.st [CV.pv (Value.int IntKind.i64 0), CV.pv (Value.slice none 0 0)]))) (R' := [12, 11, 10, 9, 8, 4, 3, 1, 0]) (by kernel_rfl) (.inl rfl) (by kernel_rfl) (fun K45 hK45 => ?_)
            simp (maxSteps:=999999) (disch:=omega) only [av1, av2, av3, av4, eq_self, exists_const, forall_const, implies_true, storeOk, thenQ, PK.cond, PK.val, Nat.reduceAdd, Nat.reduceLT, Nat.reduceMul, reduceCtorEq, ↓reduceIte, Nat.reduceEqDiff, Nat.reduceLeDiff, Nat.reduceSub, Nat.reduceBEq, Nat.reduceBNe, Int.reduceLT, Int.reduceEq, Int.reduceAdd, Int.reduceToNat, Int.reduceLE, Int.reduceBEq, Int.reduceBNe, enc1, cChan, cCSt, eqTy_Sum, toOut]
            (repeat ((with_reducible refine And.intro ?_ ?_); (first | trivial | assumption | omega | (simp; done))))
            refine hK45 _ ?_
            (try clear hK45)
            refine ag_one (i:=2) (by kernel_rfl) ?_
            refine agi (it := It.mk (some 46) none (IK.lit 1 [Operand.tmp 45])) (R' := [12, 11, 10, 9, 8, 4, 3, 0]) (by kernel_rfl) (.inl rfl) (by kernel_rfl) (fun K46 hK46 => ?_)
            simp (maxSteps:=999999) (disch:=omega) only [av1, av2, av3, av4, eq_self, exists_const, forall_const, implies_true, storeOk, thenQ, PK.cond, PK.val, Nat.reduceAdd, Nat.reduceLT, Nat.reduceMul, reduceCtorEq, ↓reduceIte, Nat.reduceEqDiff, Nat.reduceLeDiff, Nat.reduceSub, Nat.reduceBEq, Nat.reduceBNe, Int.reduceLT, Int.reduceEq, Int.reduceAdd, Int.reduceToNat, Int.reduceLE, Int.reduceBEq, Int.reduceBNe, enc1, cChan, cCSt, eqTy_Sum, toOut]
            (repeat ((with_reducible refine And.intro ?_ ?_); (first | trivial | assumption | omega | (simp; done))))
            refine hK46 _ ?_
            (try clear hK46)
            refine ag_pures (fuel := 3) [5] [It.mk (some 49) none (IK.p (PK.bld (CV.st [CV.pv (Value.slice none 0 0), CV.ar IntKind.u8 32 (List.replicate 32 0), CV.pv (Value.int IntKind.i64 0), CV.pv (Value.int IntKind.i64 0)]) [(0, 1), (1, 32), (33, 1), (34, 1)] [(0, Operand.tmp 46), (3, Operand.tmp 48)]))] (by kernel_rfl) (by kernel_rfl) (by kernel_rfl) (by kernel_rfl) (hideZ_nil _ 0) (fun K47 hK47 => ?_)
            simp (maxSteps:=999999) (disch:=omega) only [av1, av2, av3, av4, eq_self, exists_const, forall_const, implies_true, storeOk, thenQ, PK.cond, PK.val, Nat.reduceAdd, Nat.reduceLT, Nat.reduceMul, reduceCtorEq, ↓reduceIte, Nat.reduceEqDiff, Nat.reduceLeDiff, Nat.reduceSub, Nat.reduceBEq, Nat.reduceBNe, Int.reduceLT, Int.reduceEq, Int.reduceAdd, Int.reduceToNat, Int.reduceLE, Int.reduceBEq, Int.reduceBNe, enc1, cChan, cCSt, eqTy_Sum, toOut]
            (repeat ((with_reducible refine And.intro ?_ ?_); (first | trivial | assumption | omega | (simp; done))))
            refine hK47 _ ?_
            (try clear hK47)
            refine ag_one (i:=13) (by kernel_rfl) ?_
            refine agi (it := It.mk (some 57) none (IK.lit 35 [Operand.tmp 49, Operand.tmp 56])) (R' := [0]) (by kernel_rfl) (.inl rfl) (by kernel_rfl) (fun K48 hK48 => ?_)
            simp (maxSteps:=999999) (disch:=omega) only [av1, av2, av3, av4, eq_self, exists_const, forall_const, implies_true, storeOk, thenQ, PK.cond, PK.val, Nat.reduceAdd, Nat.reduceLT, Nat.reduceMul, reduceCtorEq, ↓reduceIte, Nat.reduceEqDiff, Nat.reduceLeDiff, Nat.reduceSub, Nat.reduceBEq, Nat.reduceBNe, Int.reduceLT, Int.reduceEq, Int.reduceAdd, Int.reduceToNat, Int.reduceLE, Int.reduceBEq, Int.reduceBNe, enc1, cChan, cCSt, eqTy_Sum, toOut]
            (repeat ((with_reducible refine And.intro ?_ ?_); (first | trivial | assumption | omega | (simp; done))))
            refine hK48 _ ?_
            (try clear hK48)
            refine ag_pures (fuel := 1) [14] [It.mk (some 58) none (IK.p (PK.bld (CV.st [CV.pv (Value.int IntKind.i64 0), CV.pv (Value.slice none 0 0)]) [(0, 1), (1, 1)] [(0, Operand.tmp 44), (1, Operand.tmp 57)]))] (by kernel_rfl) (by kernel_rfl) (by kernel_rfl) (by kernel_rfl) (hideZ_nil _ 0) (fun K49 hK49 => ?_)
            simp (maxSteps:=999999) (disch:=omega) only [av1, av2, av3, av4, eq_self, exists_const, forall_const, implies_true, storeOk, thenQ, PK.cond, PK.val, Nat.reduceAdd, Nat.reduceLT, Nat.reduceMul, reduceCtorEq, ↓reduceIte, Nat.reduceEqDiff, Nat.reduceLeDiff, Nat.reduceSub, Nat.reduceBEq, Nat.reduceBNe, Int.reduceLT, Int.reduceEq, Int.reduceAdd, Int.reduceToNat, Int.reduceLE, Int.reduceBEq, Int.reduceBNe, enc1, cChan, cCSt, eqTy_Sum, toOut]
            (repeat ((with_reducible refine And.intro ?_ ?_); (first | trivial | assumption | omega | (simp; done))))
            refine hK49 _ ?_
            (try clear hK49)
            refine ag_one (i:=16) (by kernel_rfl) ?_
            refine agi (it := It.mk none none (IK.store (Operand.tmp 12) (Operand.tmp 58) 2)) (R' := []) (by kernel_rfl) (.inr (by kernel_rfl)) (by kernel_rfl) (fun K50 hK50 => ?_)
            simp (maxSteps:=999999) (disch:=omega) only [av1, av2, av3, av4, eq_self, exists_const, forall_const, implies_true, storeOk, thenQ, PK.cond, PK.val, Nat.reduceAdd, Nat.reduceLT, Nat.reduceMul, reduceCtorEq, ↓reduceIte, Nat.reduceEqDiff, Nat.reduceLeDiff, Nat.reduceSub, Nat.reduceBEq, Nat.reduceBNe, Int.reduceLT, Int.reduceEq, Int.reduceAdd, Int.reduceToNat, Int.reduceLE, Int.reduceBEq, Int.reduceBNe, enc1, cChan, cCSt, eqTy_Sum, toOut]
            (repeat ((with_reducible refine And.intro ?_ ?_); (first | trivial | assumption | omega | (simp; done))))
            refine hK50 _ ?_
            (try clear hK50)
            refine ag_done (by kernel_rfl) ?_
            (try simp only [thenQ])
            exact Le.sameL rfl (by repeat (first | exact SubL.nil | refine SubL.cons rfl ?_))
        · refine agi (it := It.mk (some 12) none (IK.alloc (CV.st [CV.pv (Value.int IntKind.i64 0), CV.pv (Value.slice none 0 0)]))) (R' := [11, 10, 9, 8, 6, 4, 3, 1, 0]) (by kernel_rfl) (.inl rfl) (by kernel_rfl) (fun K51 hK51 => ?_)
          simp (maxSteps:=999999) (disch:=omega) only [av1, av2, av3, av4, eq_self, exists_const, forall_const, implies_true, storeOk, thenQ, PK.cond, PK.val, Nat.reduceAdd, Nat.reduceLT, Nat.reduceMul, reduceCtorEq, ↓reduceIte, Nat.reduceEqDiff, Nat.reduceLeDiff, Nat.reduceSub, Nat.reduceBEq, Nat.reduceBNe, Int.reduceLT, Int.reduceEq, Int.reduceAdd, Int.reduceToNat, Int.reduceLE, Int.reduceBEq, Int.reduceBNe, enc1, cChan, cCSt, eqTy_Sum, toOut]
          (repeat ((with_reducible refine And.intro ?_ ?_); (first | trivial | assumption | omega | (simp; done))))
          refine hK51 _ ?_
          (try clear hK51)
          refine ag_two (i := 2) (j := 7) (by kernel_rfl) ?_ ?_
          · refine agi (it := It.mk (some 46) none (IK.lit 1 [Operand.tmp 45])) (R' := [11, 10, 9, 8, 6, 4, 3, 0]) (by kernel_rfl) (.inl rfl) (by kernel_rfl) (fun K52 hK52 => ?_)
            simp (maxSteps:=999999) (disch:=omega) only [av1, av2, av3, av4, eq_self, exists_const, forall_const, implies_true, storeOk, thenQ, PK.cond, PK.val, Nat.reduceAdd, Nat.reduceLT, Nat.reduceMul, reduceCtorEq, ↓reduceIte, Nat.reduceEqDiff, Nat.reduceLeDiff, Nat.reduceSub, Nat.reduceBEq, Nat.reduceBNe, Int.reduceLT, Int.reduceEq, Int.reduceAdd, Int.reduceToNat, Int.reduceLE, Int.reduceBEq, Int.reduceBNe, enc1, cChan, cCSt, eqTy_Sum, toOut]
            (repeat ((with_reducible refine And.intro ?_ ?_); (first | trivial | assumption | omega | (simp; done))))
            refine hK52 _ ?_
            (try clear hK52)
            refine ag_pures (fuel := 5) [5] [It.mk (some 49) none (IK.p (PK.bld (CV.st [CV.pv (Value.slice none 0 0), CV.ar IntKind.u8 32 (List.replicate 32 0), CV.pv (Value.int IntKind.i64 0), CV.pv (Value.int IntKind.i64 0)]) [(0, 1), (1, 32), (33, 1), (34, 1)] [(0, Operand.tmp 46), (3, Operand.tmp 48)]))] (by kernel_rfl) (by kernel_rfl) (by kernel_rfl) (by kernel_rfl) (hideZ_nil _ 0) (fun K53 hK53 => ?_)
            simp (maxSteps:=999999) (disch:=omega) only [av1, av2, av3, av4, eq_self, exists_const, forall_const, implies_true, storeOk, thenQ, PK.cond, PK.val, Nat.reduceAdd, Nat.reduceLT, Nat.reduceMul, reduceCtorEq, ↓reduceIte, Nat.reduceEqDiff, Nat.reduceLeDiff, Nat.reduceSub, Nat.reduceBEq, Nat.reduceBNe, Int.reduceLT, Int.reduceEq, Int.reduceAdd, Int.reduceToNat, Int.reduceLE, Int.reduceBEq, Int.reduceBNe, enc1, cChan, cCSt, eqTy_Sum, toOut]
            (repeat ((with_reducible refine And.intro ?_ ?_); (first | trivial | assumption | omega | (simp; done))))
            refine hK53 _ ?_
            (try clear hK53)
            refine ag_one (i:=7) (by kernel_rfl) ?_
            refine agi (it := It.mk (some 51) none (IK.lit 1 [Operand.tmp 50])) (R' := [5, 11, 10, 9, 8, 4, 3, 0]) (by kernel_rfl) (.inl rfl) (by kernel_rfl) (fun K54 hK54 => ?_)
            simp (maxSteps:=999999) (disch:=omega) only [av1, av2, av3, av4, eq_self, exists_const, forall_const, implies_true, storeOk, thenQ, PK.cond, PK.val, Nat.reduceAdd, Nat.reduceLT, Nat.reduceMul, reduceCtorEq, ↓reduceIte, Nat.reduceEqDiff, Nat.reduceLeDiff, Nat.reduceSub, Nat.reduceBEq, Nat.reduceBNe, Int.reduceLT, Int.reduceEq, Int.reduceAdd, Int.reduceToNat, Int.reduceLE, Int.reduceBEq, Int.reduceBNe, enc1, cChan, cCSt, eqTy_Sum, toOut]
            (repeat ((with_reducible refine And.intro ?_ ?_); (first | trivial | assumption | omega | (simp; done))))
            refine hK54 _ ?_
            (try clear hK54)
            refine ag_pures (fuel := 3) [12] [It.mk (some 56) none (IK.p (PK.bld (CV.st [CV.pv (Value.slice none 0 0), CV.ar IntKind.u8 32 (List.replicate 32 0), CV.pv (Value.int IntKind.i64 0), CV.pv (Value.int IntKind.i64 0)]) [(0, 1), (1, 32), (33, 1), (34, 1)] [(0, Operand.tmp 51), (1, Operand.tmp 55)]))] (by kernel_rfl) (by kernel_rfl) (by kernel_rfl) (by kernel_rfl) (hideZ_nil _ 0) (fun K55 hK55 => ?_)
            simp (maxSteps:=999999) (disch:=omega) only [av1, av2, av3, av4, eq_self, exists_const, forall_const, implies_true, storeOk, thenQ, PK.cond, PK.val, Nat.reduceAdd, Nat.reduceLT, Nat.reduceMul, reduceCtorEq, ↓reduceIte, Nat.reduceEqDiff, Nat.reduceLeDiff, Nat.reduceSub, Nat.reduceBEq, Nat.reduceBNe, Int.reduceLT, Int.reduceEq, Int.reduceAdd, Int.reduceToNat, Int.reduceLE, Int.reduceBEq, Int.reduceBNe, enc1, cChan, cCSt, eqTy_Sum, toOut]
            (repeat ((with_reducible refine And.intro ?_ ?_); (first | trivial | assumption | omega | (simp; done))))
            refine hK55 _ ?_
            (try clear hK55)
            refine ag_one (i:=13) (by kernel_rfl) ?_
            refine agi (it := It.mk (some 57) none (IK.lit 35 [Operand.tmp 49, Operand.tmp 56])) (R' := [0]) (by kernel_rfl) (.inl rfl) (by kernel_rfl) (fun K56 hK56 => ?_)
            simp (maxSteps:=999999) (disch:=omega) only [av1, av2, av3, av4, eq_self, exists_const, forall_const, implies_true, storeOk, thenQ, PK.cond, PK.val, Nat.reduceAdd, Nat.reduceLT, Nat.reduceMul, reduceCtorEq, ↓reduceIte, Nat.reduceEqDiff, Nat.reduceLeDiff, Nat.reduceSub, Nat.reduceBEq, Nat.reduceBNe, Int.reduceLT, Int.reduceEq, Int.reduceAdd, Int.reduceToNat, Int.reduceLE, Int.reduceBEq, Int.reduceBNe, enc1, cChan, cCSt, eqTy_Sum, toOut]
            (repeat ((with_reducible refine And.intro ?_ ?_); (first | trivial | assumption | omega | (simp; done))))
            refine hK56 _ ?_
            (try clear hK56)
            refine ag_pures (fuel := 1) [14] [It.mk (some 58) none (IK.p (PK.bld (CV.st [CV.pv (Value.int IntKind.i64 0), CV.pv (Value.slice none 0 0)]) [(0, 1), (1, 1)] [(0, Operand.tmp 44), (1, Operand.tmp 57)]))] (by kernel_rfl) (by kernel_rfl) (by kernel_rfl) (by kernel_rfl) (hideZ_nil _ 0) (fun K57 hK57 => ?_)
            simp (maxSteps:=999999) (disch:=omega) only [av1, av2, av3, av4, eq_self, exists_const, forall_const, implies_true, storeOk, thenQ, PK.cond, PK.val, Nat.reduceAdd, Nat.reduceLT, Nat.reduceMul, reduceCtorEq, ↓reduceIte, Nat.reduceEqDiff, Nat.reduceLeDiff, Nat.reduceSub, Nat.reduceBEq, Nat.reduceBNe, Int.reduceLT, Int.reduceEq, Int.reduceAdd, Int.reduceToNat, Int.reduceLE, Int.reduceBEq, Int.reduceBNe, enc1, cChan, cCSt, eqTy_Sum, toOut]
            (repeat ((with_reducible refine And.intro ?_ ?_); (first | trivial | assumption | omega | (simp; done))))
            refine hK57 _ ?_
            (try clear hK57)
            refine ag_one (i:=16) (by kernel_rfl) ?_
            refine agi (it := It.mk none none (IK.store (Operand.tmp 12) (Operand.tmp 58) 2)) (R' := []) (by kernel_rfl) (.inr (by kernel_rfl)) (by kernel_rfl) (fun K58 hK58 => ?_)
            simp (maxSteps:=999999) (disch:=omega) only [av1, av2, av3, av4, eq_self, exists_const, forall_const, implies_true, storeOk, thenQ, PK.cond, PK.val, Nat.reduceAdd, Nat.reduceLT, Nat.reduceMul, reduceCtorEq, ↓reduceIte, Nat.reduceEqDiff, Nat.reduceLeDiff, Nat.reduceSub, Nat.reduceBEq, Nat.reduceBNe, Int.reduceLT, Int.reduceEq, Int.reduceAdd, Int.reduceToNat, Int.reduceLE, Int.reduceBEq, Int.reduceBNe, enc1, cChan, cCSt, eqTy_Sum, toOut]
            (repeat ((with_reducible refine And.intro ?_ ?_); (first | trivial | assumption | omega | (simp; done))))
            refine hK58 _ ?_
            (try clear hK58)
            refine ag_done (by kernel_rfl) ?_
            (try simp only [thenQ])
            exact Le.sameL rfl (by repeat (first | exact SubL.nil | refine SubL.cons rfl ?_))
          · refine agi (it := It.mk (some 51) none (IK.lit 1 [Operand.tmp 50])) (R' := [11, 10, 9, 8, 4, 3, 1, 0]) (by kernel_rfl) (.inl rfl) (by kernel_rfl) (fun K59 hK59 => ?_)
            simp (maxSteps:=999999) (disch:=omega) only [av1, av2, av3, av4, eq_self, exists_const, forall_const, implies_true, storeOk, thenQ, PK.cond, PK.val, Nat.reduceAdd, Nat.reduceLT, Nat.reduceMul, reduceCtorEq, ↓reduceIte, Nat.reduceEqDiff, Nat.reduceLeDiff, Nat.reduceSub, Nat.reduceBEq, Nat.reduceBNe, Int.reduceLT, Int.reduceEq, Int.reduceAdd, Int.reduceToNat, Int.reduceLE, Int.reduceBEq, Int.reduceBNe, enc1, cChan, cCSt, eqTy_Sum, toOut]
            (repeat ((with_reducible refine And.intro ?_ ?_); (first | trivial | assumption | omega | (simp; done))))
            refine hK59 _ ?_
            (try clear hK59)
            refine ag_pures (fuel := 5) [12] [It.mk (some 56) none (IK.p (PK.bld (CV.st [CV.pv (Value.slice none 0 0), CV.ar IntKind.u8 32 (List.replicate 32 0), CV.pv (Value.int IntKind.i64 0), CV.pv (Value.int IntKind.i64 0)]) [(0, 1), (1, 32), (33, 1), (34, 1)] [(0, Operand.tmp 51), (1, Operand.tmp 55)]))] (by kernel_rfl) (by kernel_rfl) (by kernel_rfl) (by kernel_rfl) (hideZ_nil _ 0) (fun K60 hK60 => ?_)
            simp (maxSteps:=999999) (disch:=omega) only [av1, av2, av3, av4, eq_self, exists_const, forall_const, implies_true, storeOk, thenQ, PK.cond, PK.val, Nat.reduceAdd, Nat.reduceLT, Nat.reduceMul, reduceCtorEq, ↓reduceIte, Nat.reduceEqDiff, Nat.reduceLeDiff, Nat.reduceSub, Nat.reduceBEq, Nat.reduceBNe, Int.reduceLT, Int.reduceEq, Int.reduceAdd, Int.reduceToNat, Int.reduceLE, Int.reduceBEq, Int.reduceBNe, enc1, cChan, cCSt, eqTy_Sum, toOut]
            (repeat ((with_reducible refine And.intro ?_ ?_); (first | trivial | assumption | omega | (simp; done))))
            refine hK60 _ ?_
            (try clear hK60)
            refine ag_one (i:=2) (by kernel_rfl) ?_
            refine agi (it := It.mk (some 46) none (IK.lit 1 [Operand.tmp 45])) (R' := [12, 11, 10, 9, 8, 4, 3, 0]) (by kernel_rfl) (.inl rfl) (by kernel_rfl) (fun K61 hK61 => ?_)
            simp (maxSteps:=999999) (disch:=omega) only [av1, av2, av3, av4, eq_self, exists_const, forall_const, implies_true, storeOk, thenQ, PK.cond, PK.val, Nat.reduceAdd, Nat.reduceLT, Nat.reduceMul, reduceCtorEq, ↓reduceIte, Nat.reduceEqDiff, Nat.reduceLeDiff, Nat.reduceSub, Nat.reduceBEq, Nat.reduceBNe, Int.reduceLT, Int.reduceEq, Int.reduceAdd, Int.reduceToNat, Int.reduceLE, Int.reduceBEq, Int.reduceBNe, enc1, cChan, cCSt, eqTy_Sum, toOut]
            (repeat ((with_reducible refine And.intro ?_ ?_); (first | trivial | assumption | omega | (simp; done))))
            refine hK61 _ ?_
            (try clear hK61)
            refine ag_pures (fuel := 3) [5] [It.mk (some 49) none (IK.p (PK.bld (CV.st [CV.pv (Value.slice none 0 0), CV.ar IntKind.u8 32 (List.replicate 32 0), CV.pv (Value.int IntKind.i64 0), CV.pv (Value.int IntKind.i64 0)]) [(0, 1), (1, 32), (33, 1), (34, 1)] [(0, Operand.tmp 46), (3, Operand.tmp 48)]))] (by kernel_rfl) (by kernel_rfl) (by kernel_rfl) (by kernel_rfl) (hideZ_nil _ 0) (fun K62 hK62 => ?_)
            simp (maxSteps:=999999) (disch:=omega) only [av1, av2, av3, av4, eq_self, exists_const, forall_const, implies_true, storeOk, thenQ, PK.cond, PK.val, Nat.reduceAdd, Nat.reduceLT, Nat.reduceMul, reduceCtorEq, ↓reduceIte, Nat.reduceEqDiff, Nat.reduceLeDiff, Nat.reduceSub, Nat.reduceBEq, Nat.reduceBNe, Int.reduceLT, Int.reduceEq, Int.reduceAdd, Int.reduceToNat, Int.reduceLE, Int.reduceBEq, Int.reduceBNe, enc1, cChan, cCSt, eqTy_Sum, toOut]
            (repeat ((with_reducible refine And.intro ?_ ?_); (first | trivial | assumption | omega | (simp; done))))
            refine hK62 _ ?_
            (try clear hK62)
            refine ag_one (i:=13) (by kernel_rfl) ?_
            refine agi (it := It.mk (some 57) none (IK.lit 35 [Operand.tmp 49, Operand.tmp 56])) (R' := [0]) (by kernel_rfl) (.inl rfl) (by kernel_rfl) (fun K63 hK63 => ?_)
            simp (maxSteps:=999999) (disch:=omega) only [av1, av2, av3, av4, eq_self, exists_const, forall_const, implies_true, storeOk, thenQ, PK.cond, PK.val, Nat.reduceAdd, Nat.reduceLT, Nat.reduceMul, reduceCtorEq, ↓reduceIte, Nat.reduceEqDiff, Nat.reduceLeDiff, Nat.reduceSub, Nat.reduceBEq, Nat.reduceBNe, Int.reduceLT, Int.reduceEq, Int.reduceAdd, Int.reduceToNat, Int.reduceLE, Int.reduceBEq, Int.reduceBNe, enc1, cChan, cCSt, eqTy_Sum, toOut]
            (repeat ((with_reducible refine And.intro ?_ ?_); (first | trivial | assumption | omega | (simp; done))))
            refine hK63 _ ?_
            (try clear hK63)
            refine ag_pures (fuel := 1) [14] [It.mk (some 58) none (IK.p (PK.bld (CV.st [CV.pv (Value.int IntKind.i64 0), CV.pv (Value.slice none 0 0)]) [(0, 1), (1, 1)] [(0, Operand.tmp 44), (1, Operand.tmp 57)]))] (by kernel_rfl) (by kernel_rfl) (by kernel_rfl) (by kernel_rfl) (hideZ_nil _ 0) (fun K64 hK64 => ?_)
            simp (maxSteps:=999999) (disch:=omega) only [av1, av2, av3, av4, eq_self, exists_const, forall_const, implies_true, storeOk, thenQ, PK.cond, PK.val, Nat.reduceAdd, Nat.reduceLT, Nat.reduceMul, reduceCtorEq, ↓reduceIte, Nat.reduceEqDiff, Nat.reduceLeDiff, Nat.reduceSub, Nat.reduceBEq, Nat.reduceBNe, Int.reduceLT, Int.reduceEq, Int.reduceAdd, Int.reduceToNat, Int.reduceLE, Int.reduceBEq, Int.reduceBNe, enc1, cChan, cCSt, eqTy_Sum, toOut]
            (repeat ((with_reducible refine And.intro ?_ ?_); (first | trivial | assumption | omega | (simp; done))))
            refine hK64 _ ?_
            (try clear hK64)
            refine ag_one (i:=16) (by kernel_rfl) ?_
            refine agi (it := It.mk none none (IK.store (Operand.tmp 12) (Operand.tmp 58) 2)) (R' := []) (by kernel_rfl) (.inr (by kernel_rfl)) (by kernel_rfl) (fun K65 hK65 => ?_)
            simp (maxSteps:=999999) (disch:=omega) only [av1, av2, av3, av4, eq_self, exists_const, forall_const, implies_true, storeOk, thenQ, PK.cond, PK.val, Nat.reduceAdd, Nat.reduceLT, Nat.reduceMul, reduceCtorEq, ↓reduceIte, Nat.reduceEqDiff, Nat.reduceLeDiff, Nat.reduceSub, Nat.reduceBEq, Nat.reduceBNe, Int.reduceLT, Int.reduceEq, Int.reduceAdd, Int.reduceToNat, Int.reduceLE, Int.reduceBEq, Int.reduceBNe, enc1, cChan, cCSt, eqTy_Sum, toOut]
            (repeat ((with_reducible refine And.intro ?_ ?_); (first | trivial | assumption | omega | (simp; done))))
            refine hK65 _ ?_
            (try clear hK65)
            refine ag_done (by kernel_rfl) ?_
            (try simp only [thenQ])
            exact Le.sameL rfl (by repeat (first | exact SubL.nil | refine SubL.cons rfl ?_))
      refine at_seqJ ?_
      apply Exists.intro
      refine And.intro ?_ ?_
      · skip
        refine at_draws [] (by kernel_rfl) ?_
        refine ag_pures (fuel := 6) [0, 1, 2, 4, 5, 6] [It.mk (some 59) none (IK.p (PK.fAddr (Operand.tmp 3) 3 3)), It.mk (some 60) none (IK.p (PK.load (Operand.tmp 59) 33 true)), It.mk (some 61) none (IK.p (PK.bld (CV.st [CV.st [CV.ar IntKind.u8 32 (List.replicate 32 0), CV.pv (Value.int IntKind.i64 0)], CV.pv (Value.int IntKind.i64 0), CV.pv (Value.slice none 0 0)]) [(0, 33), (33, 1), (34, 1)] [(0, Operand.tmp 60)])), It.mk (some 63) none (IK.p (PK.load (Operand.tmp 12) 2 true)), It.mk (some 64) none (IK.p (PK.mov (Operand.tmp 9))), It.mk (some 65) none (IK.p (PK.mov (Operand.tmp 11)))] (by kernel_rfl) (by kernel_rfl) (by kernel_rfl) (by kernel_rfl) (hideZ_nil _ 0) (fun K67 hK67 => ?_)
        simp (maxSteps:=999999) (disch:=omega) only [av1, av2, av3, av4, eq_self, exists_const, forall_const, implies_true, storeOk, thenQ, PK.cond, PK.val, Nat.reduceAdd, Nat.reduceLT, Nat.reduceMul, reduceCtorEq, ↓reduceIte, Nat.reduceEqDiff, Nat.reduceLeDiff, Nat.reduceSub, Nat.reduceBEq, Nat.reduceBNe, Int.reduceLT, Int.reduceEq, Int.reduceAdd, Int.reduceToNat, Int.reduceLE, Int.reduceBEq, Int.reduceBNe, enc1, cChan, cCSt, eqTy_Sum, toOut]
        (repeat ((with_reducible refine And.intro ?_ ?_); (first | trivial | assumption | omega | (simp; done))))
        refine hK67 _ ?_
        (try clear hK67)
        refine ag_two (i := 3) (j := 7) (by kernel_rfl) ?_ ?_
        · refine agi (it := It.mk (some 62) none (IK.lit 35 [Operand.tmp 61])) (R' := [6, 5, 4]) (by kernel_rfl) (.inl rfl) (by kernel_rfl) (fun K68 hK68 => ?_)
          simp (maxSteps:=999999) (disch:=omega) only [av1, av2, av3, av4, eq_self, exists_const, forall_const, implies_true, storeOk, thenQ, PK.cond, PK.val, Nat.reduceAdd, Nat.reduceLT, Nat.reduceMul, reduceCtorEq, ↓reduceIte, Nat.reduceEqDiff, Nat.reduceLeDiff, Nat.reduceSub, Nat.reduceBEq, Nat.reduceBNe, Int.reduceLT, Int.reduceEq, Int.reduceAdd, Int.reduceToNat, Int.reduceLE, Int.reduceBEq, Int.reduceBNe, enc1, cChan, cCSt, eqTy_Sum, toOut]
          (repeat ((with_reducible refine And.intro ?_ ?_); (first | trivial | assumption | omega | (simp; done))))
          refine hK68 _ ?_
          (try clear hK68)
          refine ag_one (i:=7) (by kernel_rfl) ?_
          refine agi (it := It.mk (some 66) none (IK.call 23 [Operand.tmp 64, Operand.tmp 65])) (R' := [4]) (by kernel_rfl) (.inl rfl) (by kernel_rfl) (fun K69 hK69 => ?_)
          simp (maxSteps:=999999) (disch:=omega) only [av1, av2, av3, av4, eq_self, exists_const, forall_const, implies_true, storeOk, thenQ, PK.cond, PK.val, Nat.reduceAdd, Nat.reduceLT, Nat.reduceMul, reduceCtorEq, ↓reduceIte, Nat.reduceEqDiff, Nat.reduceLeDiff, Nat.reduceSub, Nat.reduceBEq, Nat.reduceBNe, Int.reduceLT, Int.reduceEq, Int.reduceAdd, Int.reduceToNat, Int.reduceLE, Int.reduceBEq, Int.reduceBNe, enc1, cChan, cCSt, eqTy_Sum, toOut]
          apply Exists.intro
          apply And.intro
          · first | exact (lockTo_ap _ _) | exact (fun _ => (lockTo_ap _ _)) | exact (fun h => ⟨h, (lockTo_ap _ _)⟩) | exact (fun h => ⟨by simp_all, (lockTo_ap _ _)⟩)
          (try simp only [rsAV, List.map_cons, List.map_nil, thenQ])
          refine hK69 _ ?_
          (try clear hK69)
          refine ag_one (i:=8) (by kernel_rfl) ?_
          refine agi (it := It.mk (some 67) none (IK.lit 2 [Operand.tmp 63, Operand.tmp 66])) (R' := []) (by kernel_rfl) (.inl rfl) (by kernel_rfl) (fun K70 hK70 => ?_)
          simp (maxSteps:=999999) (disch:=omega) only [av1, av2, av3, av4, eq_self, exists_const, forall_const, implies_true, storeOk, thenQ, PK.cond, PK.val, Nat.reduceAdd, Nat.reduceLT, Nat.reduceMul, reduceCtorEq, ↓reduceIte, Nat.reduceEqDiff, Nat.reduceLeDiff, Nat.reduceSub, Nat.reduceBEq, Nat.reduceBNe, Int.reduceLT, Int.reduceEq, Int.reduceAdd, Int.reduceToNat, Int.reduceLE, Int.reduceBEq, Int.reduceBNe, enc1, cChan, cCSt, eqTy_Sum, toOut]
          (repeat ((with_reducible refine And.intro ?_ ?_); (first | trivial | assumption | omega | (simp; done))))
          refine hK70 _ ?_
          (try clear hK70)
          refine ag_pures (fuel := 2) [9] [It.mk (some 68) none (IK.p (PK.bld (CV.st [CV.pv (Value.slice none 0 0), CV.pv (Value.slice none 0 0), CV.st [CV.pv (Value.int IntKind.i64 0), CV.pv (Value.int IntKind.i64 0), CV.pv (Value.int IntKind.i64 0), CV.pv (Value.int IntKind.i64 0), CV.ar IntKind.u8 32 (List.replicate 32 0), CV.pv (Value.slice none 0 0)], CV.pv (Value.slice none 0 0)]) [(0, 1), (1, 1), (2, 37), (39, 1)] [(0, Operand.tmp 62), (1, Operand.tmp 67)]))] (by kernel_rfl) (by kernel_rfl) (by kernel_rfl) (by kernel_rfl) (hideZ_nil _ 0) (fun K71 hK71 => ?_)
          simp (maxSteps:=999999) (disch:=omega) only [av1, av2, av3, av4, eq_self, exists_const, forall_const, implies_true, storeOk, thenQ, PK.cond, PK.val, Nat.reduceAdd, Nat.reduceLT, Nat.reduceMul, reduceCtorEq, ↓reduceIte, Nat.reduceEqDiff, Nat.reduceLeDiff, Nat.reduceSub, Nat.reduceBEq, Nat.reduceBNe, Int.reduceLT, Int.reduceEq, Int.reduceAdd, Int.reduceToNat, Int.reduceLE, Int.reduceBEq, Int.reduceBNe, enc1, cChan, cCSt, eqTy_Sum, toOut]
          (repeat ((with_reducible refine And.intro ?_ ?_); (first | trivial | assumption | omega | (simp; done))))
          refine hK71 _ ?_
          (try clear hK71)
          refine ag_one (i:=10) (by kernel_rfl) ?_
          refine agi (it := It.mk none none (IK.store (Operand.tmp 6) (Operand.tmp 68) 40)) (R' := []) (by kernel_rfl) (.inr (by kernel_rfl)) (by kernel_rfl) (fun K72 hK72 => ?_)
          simp (maxSteps:=999999) (disch:=omega) only [av1, av2, av3, av4, eq_self, exists_const, forall_const, implies_true, storeOk, thenQ, PK.cond, PK.val, Nat.reduceAdd, Nat.reduceLT, Nat.reduceMul, reduceCtorEq, ↓reduceIte, Nat.reduceEqDiff, Nat.reduceLeDiff, Nat.reduceSub, Nat.reduceBEq, Nat.reduceBNe, Int.reduceLT, Int.reduceEq, Int.reduceAdd, Int.reduceToNat, Int.reduceLE, Int.reduceBEq, Int.reduceBNe, enc1, cChan, cCSt, eqTy_Sum, toOut]
          (repeat ((with_reducible refine And.intro ?_ ?_); (first | trivial | assumption | omega | (simp; done))))
          refine hK72 _ ?_
          (try clear hK72)
          refine ag_pures (fuel := 0) [11] [It.mk (some 7) none (IK.p (PK.mov (Operand.const (Value.int IntKind.i64 0))))] (by kernel_rfl) (by kernel_rfl) (by kernel_rfl) (by kernel_rfl) (hideZ_nil _ 0) (fun K73 hK73 => ?_)
          simp (maxSteps:=999999) (disch:=omega) only [av1, av2, av3, av4, eq_self, exists_const, forall_const, implies_true, storeOk, thenQ, PK.cond, PK.val, Nat.reduceAdd, Nat.reduceLT, Nat.reduceMul, reduceCtorEq, ↓reduceIte, Nat.reduceEqDiff, Nat.reduceLeDiff, Nat.reduceSub, Nat.reduceBEq, Nat.reduceBNe, Int.reduceLT, Int.reduceEq, Int.reduceAdd, Int.reduceToNat, Int.reduceLE, Int.reduceBEq, Int.reduceBNe, enc1, cChan, cCSt, eqTy_Sum, toOut]
          (repeat ((with_reducible refine And.intro ?_ ?_); (first | trivial | assumption | omega | (simp; done))))
          refine hK73 _ ?_
          (try clear hK73)
          refine ag_done (by kernel_rfl) ?_
          (try simp only [thenQ])
          exact Le.refl
        · refine agi (it := It.mk (some 66) none (IK.call 23 [Operand.tmp 64, Operand.tmp 65])) (R' := [4, 2, 1, 0]) (by kernel_rfl) (.inl rfl) (by kernel_rfl) (fun K74 hK74 => ?_)
          simp (maxSteps:=999999) (disch:=omega) only [av1, av2, av3, av4, eq_self, exists_const, forall_const, implies_true, storeOk, thenQ, PK.cond, PK.val, Nat.reduceAdd, Nat.reduceLT, Nat.reduceMul, reduceCtorEq, ↓reduceIte, Nat.reduceEqDiff, Nat.reduceLeDiff, Nat.reduceSub, Nat.reduceBEq, Nat.reduceBNe, Int.reduceLT, Int.reduceEq, Int.reduceAdd, Int.reduceToNat, Int.reduceLE, Int.reduceBEq, Int.reduceBNe, enc1, cChan, cCSt, eqTy_Sum, toOut]
          apply Exists.intro
          apply And.intro
          · first | exact (lockTo_ap _ _) | exact (fun _ => (lockTo_ap _ _)) | exact (fun h => ⟨h, (lockTo_ap _ _)⟩) | exact (fun h => ⟨by simp_all, (lockTo_ap _ _)⟩)
          (try simp only [rsAV, List.map_cons, List.map_nil, thenQ])
          refine hK74 _ ?_
          (try clear hK74)
          refine ag_two (i := 3) (j := 8) (by kernel_rfl) ?_ ?_
          · refine agi (it := It.mk (some 62) none (IK.lit 35 [Operand.tmp 61])) (R' := [4]) (by kernel_rfl) (.inl rfl) (by kernel_rfl) (fun K75 hK75 => ?_)
            simp (maxSteps:=999999) (disch:=omega) only [av1, av2, av3, av4, eq_self, exists_const, forall_const, implies_true, storeOk, thenQ, PK.cond, PK.val, Nat.reduceAdd, Nat.reduceLT, Nat.reduceMul, reduceCtorEq, ↓reduceIte, Nat.reduceEqDiff, Nat.reduceLeDiff, Nat.reduceSub, Nat.reduceBEq, Nat.reduceBNe, Int.reduceLT, Int.reduceEq, Int.reduceAdd, Int.reduceToNat, Int.reduceLE, Int.reduceBEq, Int.reduceBNe, enc1, cChan, cCSt, eqTy_Sum, toOut]
            (repeat ((with_reducible refine And.intro ?_ ?_); (first | trivial | assumption | omega | (simp; done))))
            refine hK75 _ ?_
            (try clear hK75)
            refine ag_one (i:=8) (by kernel_rfl) ?_
            refine agi (it := It.mk (some 67) none (IK.lit 2 [Operand.tmp 63, Operand.tmp 66])) (R' := []) (by kernel_rfl) (.inl rfl) (by kernel_rfl) (fun K76 hK76 => ?_)
            simp (maxSteps:=999999) (disch:=omega) only [av1, av2, av3, av4, eq_self, exists_const, forall_const, implies_true, storeOk, thenQ, PK.cond, PK.val, Nat.reduceAdd, Nat.reduceLT, Nat.reduceMul, reduceCtorEq, ↓reduceIte, Nat.reduceEqDiff, Nat.reduceLeDiff, Nat.reduceSub, Nat.reduceBEq, Nat.reduceBNe, Int.reduceLT, Int.reduceEq, Int.reduceAdd, Int.reduceToNat, Int.reduceLE, Int.reduceBEq, Int.reduceBNe, enc1, cChan, cCSt, eqTy_Sum, toOut]
            (repeat ((with_reducible refine And.intro ?_ ?_); (first | trivial | assumption | omega | (simp; done))))
            refine hK76 _ ?_
            (try clear hK76)
            refine ag_pures (fuel := 2) [9] [It.mk (some 68) none (IK.p (PK.bld (CV.st [CV.pv (Value.slice none 0 0), CV.pv (Value.slice none 0 0), CV.st [CV.pv (Value.int IntKind.i64 0), CV.pv (Value.int IntKind.i64 0), CV.pv (Value.int IntKind.i64 0), CV.pv (Value.int IntKind.i64 0), CV.ar IntKind.u8 32 (List.replicate 32 0), CV.pv (Value.slice none 0 0)], CV.pv (Value.slice none 0 0)]) [(0, 1), (1, 1), (2, 37), (39, 1)] [(0, Operand.tmp 62), (1, Operand.tmp 67)]))] (by kernel_rfl) (by kernel_rfl) (by kernel_rfl) (by kernel_rfl) (hideZ_nil _ 0) (fun K77 hK77 => ?_)
            simp (maxSteps:=999999) (disch:=omega) only [av1, av2, av3, av4, eq_self, exists_const, forall_const, implies_true, storeOk, thenQ, PK.cond, PK.val, Nat.reduceAdd, Nat.reduceLT, Nat.reduceMul, reduceCtorEq, ↓reduceIte, Nat.reduceEqDiff, Nat.reduceLeDiff, Nat.reduceSub, Nat.reduceBEq, Nat.reduceBNe, Int.reduceLT, Int.reduceEq, Int.reduceAdd, Int.reduceToNat, Int.reduceLE, Int.reduceBEq, Int.reduceBNe, enc1, cChan, cCSt, eqTy_Sum, toOut]
            (repeat ((with_reducible refine And.intro ?_ ?_); (first | trivial | assumption | omega | (simp; done))))
            refine hK77 _ ?_
            (try clear hK77)
            refine ag_one (i:=10) (by kernel_rfl) ?_
            refine agi (it := It.mk none none (IK.store (Operand.tmp 6) (Operand.tmp 68) 40)) (R' := []) (by kernel_rfl) (.inr (by kernel_rfl)) (by kernel_rfl) (fun K78 hK78 => ?_)
            simp (maxSteps:=999999) (disch:=omega) only [av1, av2, av3, av4, eq_self, exists_const, forall_const, implies_true, storeOk, thenQ, PK.cond, PK.val, Nat.reduceAdd, Nat.reduceLT, Nat.reduceMul, reduceCtorEq, ↓reduceIte, Nat.reduceEqDiff, Nat.reduceLeDiff, Nat.reduceSub, Nat.reduceBEq, Nat.reduceBNe, Int.reduceLT, Int.reduceEq, Int.reduceAdd, Int.reduceToNat, Int.reduceLE, Int.reduceBEq, Int.reduceBNe, enc1, cChan, cCSt, eqTy_Sum, toOut]
            (repeat ((with_reducible refine And.intro ?_ ?_); (first | trivial | assumption | omega | (simp; done))))
            refine hK78 _ ?_
            (try clear hK78)
            refine ag_pures (fuel := 0) [11] [It.mk (some 7) none (IK.p (PK.mov (Operand.const (Value.int IntKind.i64 0))))] (by kernel_rfl) (by kernel_rfl) (by kernel_rfl) (by kernel_rfl) (hideZ_nil _ 0) (fun K79 hK79 => ?_)
            simp (maxSteps:=999999) (disch:=omega) only [av1, av2, av3, av4, eq_self, exists_const, forall_const, implies_true, storeOk, thenQ, PK.cond, PK.val, Nat.reduceAdd, Nat.reduceLT, Nat.reduceMul, reduceCtorEq, ↓reduceIte, Nat.reduceEqDiff, Nat.reduceLeDiff, Nat.reduceSub, Nat.reduceBEq, Nat.reduceBNe, Int.reduceLT, Int.reduceEq, Int.reduceAdd, Int.reduceToNat, Int.reduceLE, Int.reduceBEq, Int.reduceBNe, enc1, cChan, cCSt, eqTy_Sum, toOut]
            (repeat ((with_reducible refine And.intro ?_ ?_); (first | trivial | assumption | omega | (simp; done))))
            refine hK79 _ ?_
            (try clear hK79)
            refine ag_done (by kernel_rfl) ?_
            (try simp only [thenQ])
            exact Le.sameL rfl (by repeat (first | exact SubL.nil | refine SubL.cons rfl ?_))
          · refine agi (it := It.mk (some 67) none (IK.lit 2 [Operand.tmp 63, Operand.tmp 66])) (R' := [2, 1, 0]) (by kernel_rfl) (.inl rfl) (by kernel_rfl) (fun K80 hK80 => ?_)
            simp (maxSteps:=999999) (disch:=omega) only [av1, av2, av3, av4, eq_self, exists_const, forall_const, implies_true, storeOk, thenQ, PK.cond, PK.val, Nat.reduceAdd, Nat.reduceLT, Nat.reduceMul, reduceCtorEq, ↓reduceIte, Nat.reduceEqDiff, Nat.reduceLeDiff, Nat.reduceSub, Nat.reduceBEq, Nat.reduceBNe, Int.reduceLT, Int.reduceEq, Int.reduceAdd, Int.reduceToNat, Int.reduceLE, Int.reduceBEq, Int.reduceBNe, enc1, cChan, cCSt, eqTy_Sum, toOut]
            (repeat ((with_reducible refine And.intro ?_ ?_); (first | trivial | assumption | omega | (simp; done))))
            refine hK80 _ ?_
            (try clear hK80)
            refine ag_one (i:=3) (by kernel_rfl) ?_
            refine agi (it := It.mk (some 62) none (IK.lit 35 [Operand.tmp 61])) (R' := []) (by kernel_rfl) (.inl rfl) (by kernel_rfl) (fun K81 hK81 => ?_)
            simp (maxSteps:=999999) (disch:=omega) only [av1, av2, av3, av4, eq_self, exists_const, forall_const, implies_true, storeOk, thenQ, PK.cond, PK.val, Nat.reduceAdd, Nat.reduceLT, Nat.reduceMul, reduceCtorEq, ↓reduceIte, Nat.reduceEqDiff, Nat.reduceLeDiff, Nat.reduceSub, Nat.reduceBEq, Nat.reduceBNe, Int.reduceLT, Int.reduceEq, Int.reduceAdd, Int.reduceToNat, Int.reduceLE, Int.reduceBEq, Int.reduceBNe, enc1, cChan, cCSt, eqTy_Sum, toOut]
            (repeat ((with_reducible refine And.intro ?_ ?_); (first | trivial | assumption | omega | (simp; done))))
            refine hK81 _ ?_
            (try clear hK81)
            refine ag_pures (fuel := 2) [9] [It.mk (some 68) none (IK.p (PK.bld (CV.st [CV.pv (Value.slice none 0 0), CV.pv (Value.slice none 0 0), CV.st [CV.pv (Value.int IntKind.i64 0), CV.pv (Value.int IntKind.i64 0), CV.pv (Value.int IntKind.i64 0), CV.pv (Value.int IntKind.i64 0), CV.ar IntKind.u8 32 (List.replicate 32 0), CV.pv (Value.slice none 0 0)], CV.pv (Value.slice none 0 0)]) [(0, 1), (1, 1), (2, 37), (39, 1)] [(0, Operand.tmp 62), (1, Operand.tmp 67)]))] (by kernel_rfl) (by kernel_rfl) (by kernel_rfl) (by kernel_rfl) (hideZ_nil _ 0) (fun K82 hK82 => ?_)
            simp (maxSteps:=999999) (disch:=omega) only [av1, av2, av3, av4, eq_self, exists_const, forall_const, implies_true, storeOk, thenQ, PK.cond, PK.val, Nat.reduceAdd, Nat.reduceLT, Nat.reduceMul, reduceCtorEq, ↓reduceIte, Nat.reduceEqDiff, Nat.reduceLeDiff, Nat.reduceSub, Nat.reduceBEq, Nat.reduceBNe, Int.reduceLT, Int.reduceEq, Int.reduceAdd, Int.reduceToNat, Int.reduceLE, Int.reduceBEq, Int.reduceBNe, enc1, cChan, cCSt, eqTy_Sum, toOut]
            (repeat ((with_reducible refine And.intro ?_ ?_); (first | trivial | assumption | omega | (simp; done))))
            refine hK82 _ ?_
            (try clear hK82)
            refine ag_one (i:=10) (by kernel_rfl) ?_
            refine agi (it := It.mk none none (IK.store (Operand.tmp 6) (Operand.tmp 68) 40)) (R' := []) (by kernel_rfl) (.inr (by kernel_rfl)) (by kernel_rfl) (fun K83 hK83 => ?_)
            simp (maxSteps:=999999) (disch:=omega) only [av1, av2, av3, av4, eq_self, exists_const, forall_const, implies_true, storeOk, thenQ, PK.cond, PK.val, Nat.reduceAdd, Nat.reduceLT, Nat.reduceMul, reduceCtorEq, ↓reduceIte, Nat.reduceEqDiff, Nat.reduceLeDiff, Nat.reduceSub, Nat.reduceBEq, Nat.reduceBNe, Int.reduceLT, Int.reduceEq, Int.reduceAdd, Int.reduceToNat, Int.reduceLE, Int.reduceBEq, Int.reduceBNe, enc1, cChan, cCSt, eqTy_Sum, toOut]
            (repeat ((with_reducible refine And.intro ?_ ?_); (first | trivial | assumption | omega | (simp; done))))
            refine hK83 _ ?_
            (try clear hK83)
            refine ag_pures (fuel := 0) [11] [It.mk (some 7) none (IK.p (PK.mov (Operand.const (Value.int IntKind.i64 0))))] (by kernel_rfl) (by kernel_rfl) (by kernel_rfl) (by kernel_rfl) (hideZ_nil _ 0) (fun K84 hK84 => ?_)
            simp (maxSteps:=999999) (disch:=omega) only [av1, av2, av3, av4, eq_self, exists_const, forall_const, implies_true, storeOk, thenQ, PK.cond, PK.val, Nat.reduceAdd, Nat.reduceLT, Nat.reduceMul, reduceCtorEq, ↓reduceIte, Nat.reduceEqDiff, Nat.reduceLeDiff, Nat.reduceSub, Nat.reduceBEq, Nat.reduceBNe, Int.reduceLT, Int.reduceEq, Int.reduceAdd, Int.reduceToNat, Int.reduceLE, Int.reduceBEq, Int.reduceBNe, enc1, cChan, cCSt, eqTy_Sum, toOut]
            (repeat ((with_reducible refine And.intro ?_ ?_); (first | trivial | assumption | omega | (simp; done))))
            refine hK84 _ ?_
            (try clear hK84)
            refine ag_done (by kernel_rfl) ?_
            (try simp only [thenQ])
            exact Le.sameL rfl (by repeat (first | exact SubL.nil | refine SubL.cons rfl ?_))
      refine at_ret ?_
      simp (maxSteps:=999999) (disch:=omega) only [av1, av2, av3, av4, eq_self, exists_const, forall_const, implies_true, storeOk, thenQ, PK.cond, PK.val, Nat.reduceAdd, Nat.reduceLT, Nat.reduceMul, reduceCtorEq, ↓reduceIte, Nat.reduceEqDiff, Nat.reduceLeDiff, Nat.reduceSub, Nat.reduceBEq, Nat.reduceBNe, Int.reduceLT, Int.reduceEq, Int.reduceAdd, Int.reduceToNat, Int.reduceLE, Int.reduceBEq, Int.reduceBNe, enc1, cChan, cCSt, eqTy_Sum, toOut, blockQ, retQ, RetOk, ResOk, AV.fin, AV.fins, CV.le, CV.les]
      first
        | (obtain ⟨e1, e2⟩ := build_bad (o := 0) h6; simp [e1, e2, zTxx, zOpx] <;> rfl)
        | (obtain ⟨e1, e2⟩ := build_ok (o := 0) h6; simp [e1, e2, comOf, comTx, zOpx, cInp, cOut, cWay, cRef, cSum, ints, ic, toOut, CV.les, CV.le] <;> rfl)
set_option maxRecDepth 100000 in
set_option maxHeartbeats 4000000 in
theorem commitBuild1_ap (c : Chan) (s : CSt) : AP Try.prog 48 [cChan c, cCSt s, ic .i64 1] [cTxx (buildTx c s 1), ic .i64 (buildE c s)] := by
  refine ap_of (fun _ _ => Try.call48 _ _) Try.func48 rfl Try.ntmps48 (by simp) (zs := [RZ.mk 6 (some (40, true)), RZ.mk 7 none]) (by kernel_rfl) (fun w F => ?_)
  simp only [List.map_cons, List.map_nil, argT, Nat.reduceAdd]
  refine at_seq fun K1 hK1 => ?_
  refine at_region [It.mk (some 3) none (IK.box (Operand.tmp 0)), It.mk (some 4) none (IK.box (Operand.tmp 1)), It.mk (some 6) none (IK.alloc (CV.st [CV.pv (Value.slice none 0 0), CV.pv (Value.slice none 0 0), CV.st [CV.pv (Value.int IntKind.i64 0), CV.pv (Value.int IntKind.i64 0), CV.pv (Value.int IntKind.i64 0), CV.pv (Value.int IntKind.i64 0), CV.ar IntKind.u8 32 (List.replicate 32 0), CV.pv (Value.slice none 0 0)], CV.pv (Value.slice none 0 0)])), It.mk (some 7) none (IK.p (PK.mov (Operand.const (Value.int IntKind.i64 0))))] (by kernel_rfl) ?_
  simp (maxSteps:=999999) (disch:=omega) only [av1, av2, av3, av4, eq_self, exists_const, forall_const, implies_true, storeOk, thenQ, PK.cond, PK.val, Nat.reduceAdd, Nat.reduceLT, Nat.reduceMul, reduceCtorEq, ↓reduceIte, Nat.reduceEqDiff, Nat.reduceLeDiff, Nat.reduceSub, Nat.reduceBEq, Nat.reduceBNe, Int.reduceLT, Int.reduceEq, Int.reduceAdd, Int.reduceToNat, Int.reduceLE, Int.reduceBEq, Int.reduceBNe, enc1, cChan, cCSt, eqTy_Sum, toOut]
  (repeat ((with_reducible refine And.intro ?_ ?_); (first | trivial | assumption | omega | (simp; done))))
  refine hK1 _ ?_
  (try clear hK1)
  refine at_seq fun K2 hK2 => ?_
  refine at_seq fun K3 hK3 => ?_
  refine at_region [It.mk (some 13) none (IK.p (PK.load (Operand.tmp 3) 39 true)), It.mk (some 14) none (IK.p (PK.load (Operand.tmp 4) 67 true)), It.mk (some 15) none (IK.call 52 [Operand.tmp 13, Operand.tmp 14]), It.mk (some 16) none (IK.p (PK.not (Operand.tmp 15))), It.mk (some 17) none (IK.p (PK.mov (Operand.tmp 16))), It.mk (some 18) (some (17, false)) (IK.p (PK.mov (Operand.tmp 2))), It.mk (some 19) (some (17, false)) (IK.p (PK.bin BinOp.neq (Operand.tmp 18) (Operand.const (Value.int IntKind.i64 0)))), It.mk (some 20) (some (17, false)) (IK.p (PK.mov (Operand.tmp 19))), It.mk (some 21) (some (20, true)) (IK.p (PK.mov (Operand.tmp 2))), It.mk (some 22) (some (20, true)) (IK.p (PK.bin BinOp.neq (Operand.tmp 21) (Operand.const (Value.int IntKind.i64 1)))), It.mk (some 23) (some (17, false)) (IK.p (PK.pick (Operand.tmp 20) (Operand.tmp 22) (Operand.const (Value.bool false)))), It.mk (some 24) none (IK.p (PK.pick (Operand.tmp 17) (Operand.const (Value.bool true)) (Operand.tmp 23)))] (by kernel_rfl) ?_
  refine apl_cut [_, _] _ (fun K4 hK4 => ?_)
  simp (maxSteps:=999999) (disch:=omega) only [av1, av2, av3, av4, eq_self, exists_const, forall_const, implies_true, storeOk, thenQ, PK.cond, PK.val, Nat.reduceAdd, Nat.reduceLT, Nat.reduceMul, reduceCtorEq, ↓reduceIte, Nat.reduceEqDiff, Nat.reduceLeDiff, Nat.reduceSub, Nat.reduceBEq, Nat.reduceBNe, Int.reduceLT, Int.reduceEq, Int.reduceAdd, Int.reduceToNat, Int.reduceLE, Int.reduceBEq, Int.reduceBNe, enc1, cChan, cCSt, eqTy_Sum, toOut]
  (repeat ((with_reducible refine And.intro ?_ ?_); (first | trivial | assumption | omega | (simp; done))))
  refine hK4 _ ?_
  (try clear hK4)
  refine apl_cut [_] _ (fun K5 hK5 => ?_)
  simp (maxSteps:=999999) (disch:=omega) only [av1, av2, av3, av4, eq_self, exists_const, forall_const, implies_true, storeOk, thenQ, PK.cond, PK.val, Nat.reduceAdd, Nat.reduceLT, Nat.reduceMul, reduceCtorEq, ↓reduceIte, Nat.reduceEqDiff, Nat.reduceLeDiff, Nat.reduceSub, Nat.reduceBEq, Nat.reduceBNe, Int.reduceLT, Int.reduceEq, Int.reduceAdd, Int.reduceToNat, Int.reduceLE, Int.reduceBEq, Int.reduceBNe, enc1, cChan, cCSt, eqTy_Sum, toOut]
  apply Exists.intro
  apply And.intro
  · first | exact (commitRight_ap c s) | exact (fun _ => (commitRight_ap c s)) | exact (fun h => ⟨h, (commitRight_ap c s)⟩) | exact (fun h => ⟨by simp_all, (commitRight_ap c s)⟩)
  (try simp only [rsAV, List.map_cons, List.map_nil, thenQ])
  refine hK5 _ ?_
  (try clear hK5)
  simp (maxSteps:=999999) (disch:=omega) only [av1, av2, av3, av4, eq_self, exists_const, forall_const, implies_true, storeOk, thenQ, PK.cond, PK.val, Nat.reduceAdd, Nat.reduceLT, Nat.reduceMul, reduceCtorEq, ↓reduceIte, Nat.reduceEqDiff, Nat.reduceLeDiff, Nat.reduceSub, Nat.reduceBEq, Nat.reduceBNe, Int.reduceLT, Int.reduceEq, Int.reduceAdd, Int.reduceToNat, Int.reduceLE, Int.reduceBEq, Int.reduceBNe, enc1, cChan, cCSt, eqTy_Sum, toOut]
  (repeat ((with_reducible refine And.intro ?_ ?_); (first | trivial | assumption | omega | (simp; done))))
  refine hK3 _ ?_
  (try clear hK3)
  refine at_cond _ rfl rfl (fun h6 => ?_) (fun h6 => ?_)
  · have r6 := h6
    (try simp only [dB2] at h6)
    refine at_seq fun K7 hK7 => ?_
    refine at_region [It.mk (some 25) none (IK.p (PK.bld (CV.st [CV.pv (Value.slice none 0 0), CV.pv (Value.slice none 0 0), CV.st [CV.pv (Value.int IntKind.i64 0), CV.pv (Value.int IntKind.i64 0), CV.pv (Value.int IntKind.i64 0), CV.pv (Value.int IntKind.i64 0), CV.ar IntKind.u8 32 (List.replicate 32 0), CV.pv (Value.slice none 0 0)], CV.pv (Value.slice none 0 0)]) [(0, 1), (1, 1), (2, 37), (39, 1)] [])), It.mk none none (IK.store (Operand.tmp 6) (Operand.tmp 25) 40), It.mk (some 7) none (IK.p (PK.mov (Operand.const (Value.int IntKind.i64 1))))] (by kernel_rfl) ?_
    simp (maxSteps:=999999) (disch:=omega) only [av1, av2, av3, av4, eq_self, exists_const, forall_const, implies_true, storeOk, thenQ, PK.cond, PK.val, Nat.reduceAdd, Nat.reduceLT, Nat.reduceMul, reduceCtorEq, ↓reduceIte, Nat.reduceEqDiff, Nat.reduceLeDiff, Nat.reduceSub, Nat.reduceBEq, Nat.reduceBNe, Int.reduceLT, Int.reduceEq, Int.reduceAdd, Int.reduceToNat, Int.reduceLE, Int.reduceBEq, Int.reduceBNe, enc1, cChan, cCSt, eqTy_Sum, toOut]
    (repeat ((with_reducible refine And.intro ?_ ?_); (first | trivial | assumption | omega | (simp; done))))
    refine hK7 _ ?_
    (try clear hK7)
    refine at_ret ?_
    simp (maxSteps:=999999) (disch:=omega) only [av1, av2, av3, av4, eq_self, exists_const, forall_const, implies_true, storeOk, thenQ, PK.cond, PK.val, Nat.reduceAdd, Nat.reduceLT, Nat.reduceMul, reduceCtorEq, ↓reduceIte, Nat.reduceEqDiff, Nat.reduceLeDiff, Nat.reduceSub, Nat.reduceBEq, Nat.reduceBNe, Int.reduceLT, Int.reduceEq, Int.reduceAdd, Int.reduceToNat, Int.reduceLE, Int.reduceBEq, Int.reduceBNe, enc1, cChan, cCSt, eqTy_Sum, toOut, blockQ, retQ, RetOk, ResOk, AV.fin, AV.fins, CV.le, CV.les]
    first
      | (obtain ⟨e1, e2⟩ := build_bad (o := 1) h6; simp [e1, e2, zTxx, zOpx] <;> rfl)
      | (obtain ⟨e1, e2⟩ := build_ok (o := 1) h6; simp [e1, e2, comOf, comTx, zOpx, cInp, cOut, cWay, cRef, cSum, ints, ic, toOut, CV.les, CV.le] <;> rfl)
  · have r6 := h6
    (try simp only [dB2] at h6)
    refine at_skip ?_
    (try simp only [thenQ, blockQ])
    refine hK2 _ ?_
    (try clear hK2)
    refine at_seqJ ?_
    apply Exists.intro
    refine And.intro ?_ ?_
    · skip
      refine at_draws [] (by kernel_rfl) ?_
      refine ag_pures (fuel := 0) [0, 1, 2, 3, 4, 5, 6, 7, 8, 9, 10, 11] [It.mk (some 26) none (IK.p (PK.fAddr (Operand.tmp 3) 1 1)), It.mk (some 27) none (IK.p (PK.load (Operand.tmp 26) 1 false)), It.mk (some 28) none (IK.p (PK.fAddr (Operand.tmp 3) 2 2)), It.mk (some 29) none (IK.p (PK.load (Operand.tmp 28) 1 false)), It.mk (some 30) none (IK.p (PK.fAddr (Operand.tmp 4) 1 1)), It.mk (some 31) none (IK.p (PK.load (Operand.tmp 30) 1 false)), It.mk (some 32) none (IK.p (PK.fAddr (Operand.tmp 4) 2 2)), It.mk (some 33) none (IK.p (PK.load (Operand.tmp 32) 1 false)), It.mk (some 8) none (IK.p (PK.mov (Operand.tmp 27))), It.mk (some 9) none (IK.p (PK.mov (Operand.tmp 29))), It.mk (some 10) none (IK.p (PK.mov (Operand.tmp 31))), It.mk (some 11) none (IK.p (PK.mov (Operand.tmp 33)))] (by kernel_rfl) (by kernel_rfl) (by kernel_rfl) (by kernel_rfl) (hideZ_nil _ 0) (fun K9 hK9 => ?_)
      simp (maxSteps:=999999) (disch:=omega) only [av1, av2, av3, av4, eq_self, exists_const, forall_const, implies_true, storeOk, thenQ, PK.cond, PK.val, Nat.reduceAdd, Nat.reduceLT, Nat.reduceMul, reduceCtorEq, ↓reduceIte, Nat.reduceEqDiff, Nat.reduceLeDiff, Nat.reduceSub, Nat.reduceBEq, Nat.reduceBNe, Int.reduceLT, Int.reduceEq, Int.reduceAdd, Int.reduceToNat, Int.reduceLE, Int.reduceBEq, Int.reduceBNe, enc1, cChan, cCSt, eqTy_Sum, toOut]
      (repeat ((with_reducible refine And.intro ?_ ?_); (first | trivial | assumption | omega | (simp; done))))
      refine hK9 _ ?_
      (try clear hK9)
      refine ag_done (by kernel_rfl) ?_
      (try simp only [thenQ])
      exact Le.refl
    refine at_seq fun K10 hK10 => ?_
    refine at_seq fun K11 hK11 => ?_
    refine at_region [It.mk (some 34) none (IK.p (PK.mov (Operand.tmp 2))), It.mk (some 35) none (IK.p (PK.bin BinOp.eql (Operand.tmp 34) (Operand.const (Value.int IntKind.i64 1))))] (by kernel_rfl) ?_
    simp (maxSteps:=999999) (disch:=omega) only [av1, av2, av3, av4, eq_self, exists_const, forall_const, implies_true, storeOk, thenQ, PK.cond, PK.val, Nat.reduceAdd, Nat.reduceLT, Nat.reduceMul, reduceCtorEq, ↓reduceIte, Nat.reduceEqDiff, Nat.reduceLeDiff, Nat.reduceSub, Nat.reduceBEq, Nat.reduceBNe, Int.reduceLT, Int.reduceEq, Int.reduceAdd, Int.reduceToNat, Int.reduceLE, Int.reduceBEq, Int.reduceBNe, enc1, cChan, cCSt, eqTy_Sum, toOut]
    (repeat ((with_reducible refine And.intro ?_ ?_); (first | trivial | assumption | omega | (simp; done))))
    refine hK11 _ ?_
    (try clear hK11)
    refine at_cond _ rfl rfl (fun h12 => ?_) (fun h12 => ?_)
    · have r12 := h12
      (try simp only [dB2] at h12)
      refine at_draws [] (by kernel_rfl) ?_
      refine ag_pures (fuel := 0) [0, 1, 2, 3, 4, 5, 6, 7, 8, 9, 10, 11] [It.mk (some 36) none (IK.p (PK.fAddr (Operand.tmp 3) 2 2)), It.mk (some 37) none (IK.p (PK.load (Operand.tmp 36) 1 false)), It.mk (some 38) none (IK.p (PK.fAddr (Operand.tmp 3) 1 1)), It.mk (some 39) none (IK.p (PK.load (Operand.tmp 38) 1 false)), It.mk (some 40) none (IK.p (PK.fAddr (Operand.tmp 4) 2 2)), It.mk (some 41) none (IK.p (PK.load (Operand.tmp 40) 1 false)), It.mk (some 42) none (IK.p (PK.fAddr (Operand.tmp 4) 1 1)), It.mk (some 43) none (IK.p (PK.load (Operand.tmp 42) 1 false)), It.mk (some 8) none (IK.p (PK.mov (Operand.tmp 37))), It.mk (some 9) none (IK.p (PK.mov (Operand.tmp 39))), It.mk (some 10) none (IK.p (PK.mov (Operand.tmp 41))), It.mk (some 11) none (IK.p (PK.mov (Operand.tmp 43)))] (by kernel_rfl) (by kernel_rfl) (by kernel_rfl) (by kernel_rfl) (hideZ_nil _ 0) (fun K13 hK13 => ?_)
      simp (maxSteps:=999999) (disch:=omega) only [av1, av2, av3, av4, eq_self, exists_const, forall_const, implies_true, storeOk, thenQ, PK.cond, PK.val, Nat.reduceAdd, Nat.reduceLT, Nat.reduceMul, reduceCtorEq, ↓reduceIte, Nat.reduceEqDiff, Nat.reduceLeDiff, Nat.reduceSub, Nat.reduceBEq, Nat.reduceBNe, Int.reduceLT, Int.reduceEq, Int.reduceAdd, Int.reduceToNat, Int.reduceLE, Int.reduceBEq, Int.reduceBNe, enc1, cChan, cCSt, eqTy_Sum, toOut]
      (repeat ((with_reducible refine And.intro ?_ ?_); (first | trivial | assumption | omega | (simp; done))))
      refine hK13 _ ?_
      (try clear hK13)
      refine ag_done (by kernel_rfl) ?_
      (try simp only [thenQ])
      refine hK10 _ ?_
      (try clear hK10)
      refine at_seqJ ?_
      apply Exists.intro
      refine And.intro ?_ ?_
      · skip
        refine at_draws [] (by kernel_rfl) ?_
        refine ag_pures (fuel := 8) [0, 1, 3, 4, 6, 8, 9, 10, 11] [It.mk (some 44) none (IK.p (PK.mov (Operand.tmp 10))), It.mk (some 45) none (IK.p (PK.mov (Operand.tmp 8))), It.mk (some 47) none (IK.p (PK.fAddr (Operand.tmp 3) 5 37)), It.mk (some 48) none (IK.p (PK.load (Operand.tmp 47) 1 false)), It.mk (some 50) none (IK.p (PK.mov (Operand.tmp 9))), It.mk (some 52) none (IK.p (PK.mov (Operand.tmp 2))), It.mk (some 53) none (IK.p (PK.fAddr (Operand.tmp 4) 3 3)), It.mk (some 54) none (IK.p (PK.iAddrA (Operand.tmp 53) (Operand.tmp 52) 2 32)), It.mk (some 55) none (IK.p (PK.load (Operand.tmp 54) 32 true))] (by kernel_rfl) (by kernel_rfl) (by kernel_rfl) (by kernel_rfl) (hideZ_nil _ 0) (fun K15 hK15 => ?_)
        simp (maxSteps:=999999) (disch:=omega) only [av1, av2, av3, av4, eq_self, exists_const, forall_const, implies_true, storeOk, thenQ, PK.cond, PK.val, Nat.reduceAdd, Nat.reduceLT, Nat.reduceMul, reduceCtorEq, ↓reduceIte, Nat.reduceEqDiff, Nat.reduceLeDiff, Nat.reduceSub, Nat.reduceBEq, Nat.reduceBNe, Int.reduceLT, Int.reduceEq, Int.reduceAdd, Int.reduceToNat, Int.reduceLE, Int.reduceBEq, Int.reduceBNe, enc1, cChan, cCSt, eqTy_Sum, toOut]
        (repeat ((with_reducible refine And.intro ?_ ?_); (first | trivial | assumption | omega | (simp; done))))
        refine hK15 _ ?_
        (try clear hK15)
        refine ag_three (i := 2) (j := 7) (k := 15) (by kernel_rfl) ?_ ?_ ?_
        · refine agi (it := It.mk (some 46) none (IK.lit 1 [Operand.tmp 45])) (R' := [11, 10, 9, 8, 6, 4, 3, 0]) (by kernel_rfl) (.inl rfl) (by kernel_rfl) (fun K16 hK16 => ?_)
          simp (maxSteps:=999999) (disch:=omega) only [av1, av2, av3, av4, eq_self, exists_const, forall_const, implies_true, storeOk, thenQ, PK.cond, PK.val, Nat.reduceAdd, Nat.reduceLT, Nat.reduceMul, reduceCtorEq, ↓reduceIte, Nat.reduceEqDiff, Nat.reduceLeDiff, Nat.reduceSub, Nat.reduceBEq, Nat.reduceBNe, Int.reduceLT, Int.reduceEq, Int.reduceAdd, Int.reduceToNat, Int.reduceLE, Int.reduceBEq, Int.reduceBNe, enc1, cChan, cCSt, eqTy_Sum, toOut]
          (repeat ((with_reducible refine And.intro ?_ ?_); (first | trivial | assumption | omega | (simp; done))))
          refine hK16 _ ?_
          (try clear hK16)
          refine ag_pures (fuel := 6) [5] [It.mk (some 49) none (IK.p (PK.bld (CV.st [CV.pv (Value.slice none 0 0), CV.ar IntKind.u8 32 (List.replicate 32 0), CV.pv (Value.int IntKind.i64 0), CV.pv (Value.int IntKind.i64 0)]) [(0, 1), (1, 32), (33, 1), (34, 1)] [(0, Operand.tmp 46), (3, Operand.tmp 48)]))] (by kernel_rfl) (by kernel_rfl) (by kernel_rfl) (by kernel_rfl) (hideZ_nil _ 0) (fun K17 hK17 => ?_)
          simp (maxSteps:=999999) (disch:=omega) only [av1, av2, av3, av4, eq_self, exists_const, forall_const, implies_true, storeOk, thenQ, PK.cond, PK.val, Nat.reduceAdd, Nat.reduceLT, Nat.reduceMul, reduceCtorEq, ↓reduceIte, Nat.reduceEqDiff, Nat.reduceLeDiff, Nat.reduceSub, Nat.reduceBEq, Nat.reduceBNe, Int.reduceLT, Int.reduceEq, Int.reduceAdd, Int.reduceToNat, Int.reduceLE, Int.reduceBEq, Int.reduceBNe, enc1, cChan, cCSt, eqTy_Sum, toOut]
          (repeat ((with_reducible refine And.intro ?_ ?_); (first | trivial | assumption | omega | (simp; done))))
          refine hK17 _ ?_
          (try clear hK17)
          refine ag_two (i := 7) (j := 15) (by kernel_rfl) ?_ ?_
          · refine agi (it := It.mk (some 51) none (IK.lit 1 [Operand.tmp 50])) (R' := [5, 11, 10, 9, 8, 4, 3, 0]) (by kernel_rfl) (.inl rfl) (by kernel_rfl) (fun K18 hK18 => ?_)
            simp (maxSteps:=999999) (disch:=omega) only [av1, av2, av3, av4, eq_self, exists_const, forall_const, implies_true, storeOk, thenQ, PK.cond, PK.val, Nat.reduceAdd, Nat.reduceLT, Nat.reduceMul, reduceCtorEq, ↓reduceIte, Nat.reduceEqDiff, Nat.reduceLeDiff, Nat.reduceSub, Nat.reduceBEq, Nat.reduceBNe, Int.reduceLT, Int.reduceEq, Int.reduceAdd, Int.reduceToNat, Int.reduceLE, Int.reduceBEq, Int.reduceBNe, enc1, cChan, cCSt, eqTy_Sum, toOut]
            (repeat ((with_reducible refine And.intro ?_ ?_); (first | trivial | assumption | omega | (simp; done))))
            refine hK18 _ ?_
            (try clear hK18)
            refine ag_pures (fuel := 4) [12] [It.mk (some 56) none (IK.p (PK.bld (CV.st [CV.pv (Value.slice none 0 0), CV.ar IntKind.u8 32 (List.replicate 32 0), CV.pv (Value.int IntKind.i64 0), CV.pv (Value.int IntKind.i64 0)]) [(0, 1), (1, 32), (33, 1), (34, 1)] [(0, Operand.tmp 51), (1, Operand.tmp 55)]))] (by kernel_rfl) (by kernel_rfl) (by kernel_rfl) (by kernel_rfl) (hideZ_nil _ 0) (fun K19 hK19 => ?_)
            simp (maxSteps:=999999) (disch:=omega) only [av1, av2, av3, av4, eq_self, exists_const, forall_const, implies_true, storeOk, thenQ, PK.cond, PK.val, Nat.reduceAdd, Nat.reduceLT, Nat.reduceMul, reduceCtorEq, ↓reduceIte, Nat.reduceEqDiff, Nat.reduceLeDiff, Nat.reduceSub, Nat.reduceBEq, Nat.reduceBNe, Int.reduceLT, Int.reduceEq, Int.reduceAdd, Int.reduceToNat, Int.reduceLE, Int.reduceBEq, Int.reduceBNe, enc1, cChan, cCSt, eqTy_Sum, toOut]
            (repeat ((with_reducible refine And.intro ?_ ?_); (first | trivial | assumption | omega | (simp; done))))
            refine hK19 _ ?_
            (try clear hK19)
            refine ag_two (i := 13) (j := 15) (by kernel_rfl) ?_ ?_
            · refine agi (it := It.mk (some 57) none (IK.lit 35 [Operand.tmp 49, Operand.tmp 56])) (R' := [0]) (by kernel_rfl) (.inl rfl) (by kernel_rfl) (fun K20 hK20 => ?_)
              simp (maxSteps:=999999) (disch:=omega) only [av1, av2, av3, av4, eq_self, exists_const, forall_const, implies_true, storeOk, thenQ, PK.cond, PK.val, Nat.reduceAdd, Nat.reduceLT, Nat.reduceMul, reduceCtorEq, ↓reduceIte, Nat.reduceEqDiff, Nat.reduceLeDiff, Nat.reduceSub, Nat.reduceBEq, Nat.reduceBNe, Int.reduceLT, Int.reduceEq, Int.reduceAdd, Int.reduceToNat, Int.reduceLE, Int.reduceBEq, Int.reduceBNe, enc1, cChan, cCSt, eqTy_Sum, toOut]
              (repeat ((with_reducible refine And.intro ?_ ?_); (first | trivial | assumption | omega | (simp; done))))
              refine hK20 _ ?_
              (try clear hK20)
              refine ag_pures (fuel := 2) [14] [It.mk (some 58) none (IK.p (PK.bld (CV.st [CV.pv (Value.int IntKind.i64 0), CV.pv (Value.slice none 0 0)]) [(0, 1), (1, 1)] [(0, Operand.tmp 44), (1, Operand.tmp 57)]))] (by kernel_rfl) (by kernel_rfl) (by kernel_rfl) (by kernel_rfl) (hideZ_nil _ 0) (fun K21 hK21 => ?_)
              simp (maxSteps:=999999) (disch:=omega) only [av1, av2, av3, av4, eq_self, exists_const, forall_const, implies_true, storeOk, thenQ, PK.cond, PK.val, Nat.reduceAdd, Nat.reduceLT, Nat.reduceMul, reduceCtorEq, ↓reduceIte, Nat.reduceEqDiff, Nat.reduceLeDiff, Nat.reduceSub, Nat.reduceBEq, Nat.reduceBNe, Int.reduceLT, Int.reduceEq, Int.reduceAdd, Int.reduceToNat, Int.reduceLE, Int.reduceBEq, Int.reduceBNe, enc1, cChan, cCSt, eqTy_Sum, toOut]
              (repeat ((with_reducible refine And.intro ?_ ?_); (first | trivial | assumption | omega | (simp; done))))
              refine hK21 _ ?_
              (try clear hK21)
              refine ag_one (i:=15) (by kernel_rfl) ?_
              refine agi (it := It.mk (some 12) none (IK.alloc (CV.st [CV.pv (Value.int IntKind.i64 0), CV.pv (Value.slice none 0 0)]))) (R' := [14, 0]) (by kernel_rfl) (.inl rfl) (by kernel_rfl) (fun K22 hK22 => ?_)
              simp (maxSteps:=999999) (disch:=omega) only [av1, av2, av3, av4, eq_self, exists_const, forall_const, implies_true, storeOk, thenQ, PK.cond, PK.val, Nat.reduceAdd, Nat.reduceLT, Nat.reduceMul, reduceCtorEq, ↓reduceIte, Nat.reduceEqDiff, Nat.reduceLeDiff, Nat.reduceSub, Nat.reduceBEq, Nat.reduceBNe, Int.reduceLT, Int.reduceEq, Int.reduceAdd, Int.reduceToNat, Int.reduceLE, Int.reduceBEq, Int.reduceBNe, enc1, cChan, cCSt, eqTy_Sum, toOut]
              (repeat ((with_reducible refine And.intro ?_ ?_); (first | trivial | assumption | omega | (simp; done))))
              refine hK22 _ ?_
              (try clear hK22)
              refine ag_one (i:=16) (by kernel_rfl) ?_
              refine agi (it := It.mk none none (IK.store (Operand.tmp 12) (Operand.tmp 58) 2)) (R' := []) (by kernel_rfl) (.inr (by kernel_rfl)) (by kernel_rfl) (fun K23 hK23 => ?_)
              simp (maxSteps:=999999) (disch:=omega) only [av1, av2, av3, av4, eq_self, exists_const, forall_const, implies_true, storeOk, thenQ, PK.cond, PK.val, Nat.reduceAdd, Nat.reduceLT, Nat.reduceMul, reduceCtorEq, ↓reduceIte, Nat.reduceEqDiff, Nat.reduceLeDiff, Nat.reduceSub, Nat.reduceBEq, Nat.reduceBNe, Int.reduceLT, Int.reduceEq, Int.reduceAdd, Int.reduceToNat, Int.reduceLE, Int.reduceBEq, Int.reduceBNe, enc1, cChan, cCSt, eqTy_Sum, toOut]
              (repeat ((with_reducible refine And.intro ?_ ?_); (first | trivial | assumption | omega | (simp; done))))
              refine hK23 _ ?_
              (try clear hK23)
              refine ag_done (by kernel_rfl) ?_
              (try simp only [thenQ])
              exact Le.refl
            · refine agi (it := It.mk (some 12) none (IK.alloc (CV.st [CV.pv (Value.int IntKind.i64 0), CV.pv (Value.slice none 0 0)]))) (R' := [12, 5, 11, 10, 9, 8, 4, 3, 0]) (by kernel_rfl) (.inl rfl) (by kernel_rfl) (fun K24 hK24 => ?_)
              simp (maxSteps:=999999) (disch:=omega) only [av1, av2, av3, av4, eq_self, exists_const, forall_const, implies_true, storeOk, thenQ, PK.cond, PK.val, Nat.reduceAdd, Nat.reduceLT, Nat.reduceMul, reduceCtorEq, ↓reduceIte, Nat.reduceEqDiff, Nat.reduceLeDiff, Nat.reduceSub, Nat.reduceBEq, Nat.reduceBNe, Int.reduceLT, Int.reduceEq, Int.reduceAdd, Int.reduceToNat, Int.reduceLE, Int.reduceBEq, Int.reduceBNe, enc1, cChan, cCSt, eqTy_Sum, toOut]
              (repeat ((with_reducible refine And.intro ?_ ?_); (first | trivial | assumption | omega | (simp; done))))
              refine hK24 _ ?_
              (try clear hK24)
              refine ag_one (i:=13) (by kernel_rfl) ?_
              refine agi (it := It.mk (some 57) none (IK.lit 35 [Operand.tmp 49, Operand.tmp 56])) (R' := [0]) (by kernel_rfl) (.inl rfl) (by kernel_rfl) (fun K25 hK25 => ?_)
              simp (maxSteps:=999999) (disch:=omega) only [av1, av2, av3, av4, eq_self, exists_const, forall_const, implies_true, storeOk, thenQ, PK.cond, PK.val, Nat.reduceAdd, Nat.reduceLT, Nat.reduceMul, reduceCtorEq, ↓reduceIte, Nat.reduceEqDiff, Nat.reduceLeDiff, Nat.reduceSub, Nat.reduceBEq, Nat.reduceBNe, Int.reduceLT, Int.reduceEq, Int.reduceAdd, Int.reduceToNat, Int.reduceLE, Int.reduceBEq, Int.reduceBNe, enc1, cChan, cCSt, eqTy_Sum, toOut]
              (repeat ((with_reducible refine And.intro ?_ ?_); (first | trivial | assumption | omega | (simp; done))))
              refine hK25 _ ?_
              (try clear hK25)
              refine ag_pures (fuel := 1) [14] [It.mk (some 58) none (IK.p (PK.bld (CV.st [CV.pv (Value.int IntKind.i64 0), CV.pv (Value.slice none 0 0)]) [(0, 1), (1, 1)] [(0, Operand.tmp 44), (1, Operand.tmp 57)]))] (by kernel_rfl) (by kernel_rfl) (by kernel_rfl) (by kernel_rfl) (hideZ_nil _ 0) (fun K26 hK26 => ?_)
              simp (maxSteps:=999999) (disch:=omega) only [av1, av2, av3, av4, eq_self, exists_const, forall_const, implies_true, storeOk, thenQ, PK.cond, PK.val, Nat.reduceAdd, Nat.reduceLT, Nat.reduceMul, reduceCtorEq, ↓reduceIte, Nat.reduceEqDiff, Nat.reduceLeDiff, Nat.reduceSub, Nat.reduceBEq, Nat.reduceBNe, Int.reduceLT, Int.reduceEq, Int.reduceAdd, Int.reduceToNat, Int.reduceLE, Int.reduceBEq, Int.reduceBNe, enc1, cChan, cCSt, eqTy_Sum, toOut]
              (repeat ((with_reducible refine And.intro ?_ ?_); (first | trivial | assumption | omega | (simp; done))))
              refine hK26 _ ?_
              (try clear hK26)
              refine ag_one (i:=16) (by kernel_rfl) ?_
              refine agi (it := It.mk none none (IK.store (Operand.tmp 12) (Operand.tmp 58) 2)) (R' := []) (by kernel_rfl) (.inr (by kernel_rfl)) (by kernel_rfl) (fun K27 hK27 => ?_)
              simp (maxSteps:=999999) (disch:=omega) only [av1, av2, av3, av4, eq_self, exists_const, forall_const, implies_true, storeOk, thenQ, PK.cond, PK.val, Nat.reduceAdd, Nat.reduceLT, Nat.reduceMul, reduceCtorEq, ↓reduceIte, Nat.reduceEqDiff, Nat.reduceLeDiff, Nat.reduceSub, Nat.reduceBEq, Nat.reduceBNe, Int.reduceLT, Int.reduceEq, Int.reduceAdd, Int.reduceToNat, Int.reduceLE, Int.reduceBEq, Int.reduceBNe, enc1, cChan, cCSt, eqTy_Sum, toOut]
              (repeat ((with_reducible refine And.intro ?_ ?_); (first | trivial | assumption | omega | (simp; done))))
              refine hK27 _ ?_
              (try clear hK27)
              refine ag_done (by kernel_rfl) ?_
              (try simp only [thenQ])
              exact Le.sameL rfl (by repeat (first | exact SubL.nil | refine SubL.cons rfl ?_))
          · refine agi (it := It.mk (some 12) none (IK.alloc (CV.st [CV.pv (Value.int IntKind.i64 0), CV.pv (Value.slice none 0 0)]))) (R' := [5, 11, 10, 9, 8, 6, 4, 3, 0]) (by kernel_rfl) (.inl rfl) (by kernel_rfl) (fun K28 hK28 => ?_)
            simp (maxSteps:=999999) (disch:=omega) only [av1, av2, av3, av4, eq_self, exists_const, forall_const, implies_true, storeOk, thenQ, PK.cond, PK.val, Nat.reduceAdd, Nat.reduceLT, Nat.reduceMul, reduceCtorEq, ↓reduceIte, Nat.reduceEqDiff, Nat.reduceLeDiff, Nat.reduceSub, Nat.reduceBEq, Nat.reduceBNe, Int.reduceLT, Int.reduceEq, Int.reduceAdd, Int.reduceToNat, Int.reduceLE, Int.reduceBEq, Int.reduceBNe, enc1, cChan, cCSt, eqTy_Sum, toOut]
            (repeat ((with_reducible refine And.intro ?_ ?_); (first | trivial | assumption | omega | (simp; done))))
            refine hK28 _ ?_
            (try clear hK28)
            refine ag_one (i:=7) (by kernel_rfl) ?_
            refine agi (it := It.mk (some 51) none (IK.lit 1 [Operand.tmp 50])) (R' := [5, 11, 10, 9, 8, 4, 3, 0]) (by kernel_rfl) (.inl rfl) (by kernel_rfl) (fun K29 hK29 => ?_)
            simp (maxSteps:=999999) (disch:=omega) only [av1, av2, av3, av4, eq_self, exists_const, forall_const, implies_true, storeOk, thenQ, PK.cond, PK.val, Nat.reduceAdd, Nat.reduceLT, Nat.reduceMul, reduceCtorEq, ↓reduceIte, Nat.reduceEqDiff, Nat.reduceLeDiff, Nat.reduceSub, Nat.reduceBEq, Nat.reduceBNe, Int.reduceLT, Int.reduceEq, Int.reduceAdd, Int.reduceToNat, Int.reduceLE, Int.reduceBEq, Int.reduceBNe, enc1, cChan, cCSt, eqTy_Sum, toOut]
            (repeat ((with_reducible refine And.intro ?_ ?_); (first | trivial | assumption | omega | (simp; done))))
            refine hK29 _ ?_
            (try clear hK29)
            refine ag_pures (fuel := 3) [12] [It.mk (some 56) none (IK.p (PK.bld (CV.st [CV.pv (Value.slice none 0 0), CV.ar IntKind.u8 32 (List.replicate 32 0), CV.pv (Value.int IntKind.i64 0), CV.pv (Value.int IntKind.i64 0)]) [(0, 1), (1, 32), (33, 1), (34, 1)] [(0, Operand.tmp 51), (1, Operand.tmp 55)]))] (by kernel_rfl) (by kernel_rfl) (by kernel_rfl) (by kernel_rfl) (hideZ_nil _ 0) (fun K30 hK30 => ?_)
            simp (maxSteps:=999999) (disch:=omega) only [av1, av2, av3, av4, eq_self, exists_const, forall_const, implies_true, storeOk, thenQ, PK.cond, PK.val, Nat.reduceAdd, Nat.reduceLT, Nat.reduceMul, reduceCtorEq, ↓reduceIte, Nat.reduceEqDiff, Nat.reduceLeDiff, Nat.reduceSub, Nat.reduceBEq, Nat.reduceBNe, Int.reduceLT, Int.reduceEq, Int.reduceAdd, Int.reduceToNat, Int.reduceLE, Int.reduceBEq, Int.reduceBNe, enc1, cChan, cCSt, eqTy_Sum, toOut]
            (repeat ((with_reducible refine And.intro ?_ ?_); (first | trivial | assumption | omega | (simp; done))))
            refine hK30 _ ?_
            (try clear hK30)
            refine ag_one (i:=13) (by kernel_rfl) ?_
            refine agi (it := It.mk (some 57) none (IK.lit 35 [Operand.tmp 49, Operand.tmp 56])) (R' := [0]) (by kernel_rfl) (.inl rfl) (by kernel_rfl) (fun K31 hK31 => ?_)
            simp (maxSteps:=999999) (disch:=omega) only [av1, av2, av3, av4, eq_self, exists_const, forall_const, implies_true, storeOk, thenQ, PK.cond, PK.val, Nat.reduceAdd, Nat.reduceLT, Nat.reduceMul, reduceCtorEq, ↓reduceIte, Nat.reduceEqDiff, Nat.reduceLeDiff, Nat.reduceSub, Nat.reduceBEq, Nat.reduceBNe, Int.reduceLT, Int.reduceEq, Int.reduceAdd, Int.reduceToNat, Int.reduceLE, Int.reduceBEq, Int.reduceBNe, enc1, cChan, cCSt, eqTy_Sum, toOut]
            (repeat ((with_reducible refine And.intro ?_ ?_); (first | trivial | assumption | omega | (simp; done))))
            refine hK31 _ ?_
            (try clear hK31)
            refine ag_pures (fuel := 1) [14] [It.mk (some 58) none (IK.p (PK.bld (CV.st [CV.pv (Value.int IntKind.i64 0), CV.pv (Value.slice none 0 0)]) [(0, 1), (1, 1)] [(0, Operand.tmp 44), (1, Operand.tmp 57)]))] (by kernel_rfl) (by kernel_rfl) (by kernel_rfl) (by kernel_rfl) (hideZ_nil _ 0) (fun K32 hK32 => ?_)
            simp (maxSteps:=999999) (disch:=omega) only [av1, av2, av3, av4, eq_self, exists_const, forall_const, implies_true, storeOk, thenQ, PK.cond, PK.val, Nat.reduceAdd, Nat.reduceLT, Nat.reduceMul, reduceCtorEq, ↓reduceIte, Nat.reduceEqDiff, Nat.reduceLeDiff, Nat.reduceSub, Nat.reduceBEq, Nat.reduceBNe, Int.reduceLT, Int.reduceEq, Int.reduceAdd, Int.reduceToNat, Int.reduceLE, Int.reduceBEq, Int.reduceBNe, enc1, cChan, cCSt, eqTy_Sum, toOut]
            (repeat ((with_reducible refine And.intro ?_ ?_); (first | trivial | assumption | omega | (simp; done))))
            refine hK32 _ ?_
            (try clear hK32)
            refine ag_one (i:=16) (by kernel_rfl) ?_
            refine agi (it := It.mk none none (IK.store (Operand.tmp 12) (Operand.tmp 58) 2)) (R' := []) (by kernel_rfl) (.inr (by kernel_rfl)) (by kernel_rfl) (fun K33 hK33 => ?_)
            simp (maxSteps:=999999) (disch:=omega) only [av1, av2, av3, av4, eq_self, exists_const, forall_const, implies_true, storeOk, thenQ, PK.cond, PK.val, Nat.reduceAdd, Nat.reduceLT, Nat.reduceMul, reduceCtorEq, ↓reduceIte, Nat.reduceEqDiff, Nat.reduceLeDiff, Nat.reduceSub, Nat.reduceBEq, Nat.reduceBNe, Int.reduceLT, Int.reduceEq, Int.reduceAdd, Int.reduceToNat, Int.reduceLE, Int.reduceBEq, Int.reduceBNe, enc1, cChan, cCSt, eqTy_Sum, toOut]
            (repeat ((with_reducible refine And.intro ?_ ?_); (first | trivial | assumption | omega | (simp; done))))
            refine hK33 _ ?_
            (try clear hK33)
            refine ag_done (by kernel_rfl) ?_
            (try simp only [thenQ])
            exact Le.sameL rfl (by repeat (first | exact SubL.nil | refine SubL.cons rfl ?_))
        · refine agi (it := It.mk (some 51) none (IK.lit 1 [Operand.tmp 50])) (R' := [11, 10, 9, 8, 4, 3, 1, 0]) (by kernel_rfl) (.inl rfl) (by kernel_rfl) (fun K34 hK34 => ?_)
          simp (maxSteps:=999999) (disch:=omega) only [av1, av2, av3, av4, eq_self, exists_const, forall_const, implies_true, storeOk, thenQ, PK.cond, PK.val, Nat.reduceAdd, Nat.reduceLT, Nat.reduceMul, reduceCtorEq, ↓reduceIte, Nat.reduceEqDiff, Nat.reduceLeDiff, Nat.reduceSub, Nat.reduceBEq, Nat.reduceBNe, Int.reduceLT, Int.reduceEq, Int.reduceAdd, Int.reduceToNat, Int.reduceLE, Int.reduceBEq, Int.reduceBNe, enc1, cChan, cCSt, eqTy_Sum, toOut]
          (repeat ((with_reducible refine And.intro ?_ ?_); (first | trivial | assumption | omega | (simp; done))))
          refine hK34 _ ?_
          (try clear hK34)
          refine ag_pures (fuel := 6) [12] [It.mk (some 56) none (IK.p (PK.bld (CV.st [CV.pv (Value.slice none 0 0), CV.ar IntKind.u8 32 (List.replicate 32 0), CV.pv (Value.int IntKind.i64 0), CV.pv (Value.int IntKind.i64 0)]) [(0, 1), (1, 32), (33, 1), (34, 1)] [(0, Operand.tmp 51), (1, Operand.tmp 55)]))] (by kernel_rfl) (by kernel_rfl) (by kernel_rfl) (by kernel_rfl) (hideZ_nil _ 0) (fun K35 hK35 => ?_)
          simp (maxSteps:=999999) (disch:=omega) only [av1, av2, av3, av4, eq_self, exists_const, forall_const, implies_true, storeOk, thenQ, PK.cond, PK.val, Nat.reduceAdd, Nat.reduceLT, Nat.reduceMul, reduceCtorEq, ↓reduceIte, Nat.reduceEqDiff, Nat.reduceLeDiff, Nat.reduceSub, Nat.reduceBEq, Nat.reduceBNe, Int.reduceLT, Int.reduceEq, Int.reduceAdd, Int.reduceToNat, Int.reduceLE, Int.reduceBEq, Int.reduceBNe, enc1, cChan, cCSt, eqTy_Sum, toOut]
          (repeat ((with_reducible refine And.intro ?_ ?_); (first | trivial | assumption | omega | (simp; done))))
          refine hK35 _ ?_
          (try clear hK35)
          refine ag_two (i := 2) (j := 15) (by kernel_rfl) ?_ ?_
          · refine agi (it := It.mk (some 46) none (IK.lit 1 [Operand.tmp 45])) (R' := [12, 11, 10, 9, 8, 4, 3, 0]) (by kernel_rfl) (.inl rfl) (by kernel_rfl) (fun K36 hK36 => ?_)
            simp (maxSteps:=999999) (disch:=omega) only [av1, av2, av3, av4, eq_self, exists_const, forall_const, implies_true, storeOk, thenQ, PK.cond, PK.val, Nat.reduceAdd, Nat.reduceLT, Nat.reduceMul, reduceCtorEq, ↓reduceIte, Nat.reduceEqDiff, Nat.reduceLeDiff, Nat.reduceSub, Nat.reduceBEq, Nat.reduceBNe, Int.reduceLT, Int.reduceEq, Int.reduceAdd, Int.reduceToNat, Int.reduceLE, Int.reduceBEq, Int.reduceBNe, enc1, cChan, cCSt, eqTy_Sum, toOut]
            (repeat ((with_reducible refine And.intro ?_ ?_); (first | trivial | assumption | omega | (simp; done))))
            refine hK36 _ ?_
            (try clear hK36)
            refine ag_pures (fuel := 4) [5] [It.mk (some 49) none (IK.p (PK.bld (CV.st [CV.pv (Value.slice none 0 0), CV.ar IntKind.u8 32 (List.replicate 32 0), CV.pv (Value.int IntKind.i64 0), CV.pv (Value.int IntKind.i64 0)]) [(0, 1), (1, 32), (33, 1), (34, 1)] [(0, Operand.tmp 46), (3, Operand.tmp 48)]))] (by kernel_rfl) (by kernel_rfl) (by kernel_rfl) (by kernel_rfl) (hideZ_nil _ 0) (fun K37 hK37 => ?_)
            simp (maxSteps:=999999) (disch:=omega) only [av1, av2, av3, av4, eq_self, exists_const, forall_const, implies_true, storeOk, thenQ, PK.cond, PK.val, Nat.reduceAdd, Nat.reduceLT, Nat.reduceMul, reduceCtorEq, ↓reduceIte, Nat.reduceEqDiff, Nat.reduceLeDiff, Nat.reduceSub, Nat.reduceBEq, Nat.reduceBNe, Int.reduceLT, Int.reduceEq, Int.reduceAdd, Int.reduceToNat, Int.reduceLE, Int.reduceBEq, Int.reduceBNe, enc1, cChan, cCSt, eqTy_Sum, toOut]
            (repeat ((with_reducible refine And.intro ?_ ?_); (first | trivial | assumption | omega | (simp; done))))
            refine hK37 _ ?_
            (try clear hK37)
            refine ag_two (i := 13) (j := 15) (by kernel_rfl) ?_ ?_
            · refine agi (it := It.mk (some 57) none (IK.lit 35 [Operand.tmp 49, Operand.tmp 56])) (R' := [0]) (by kernel_rfl) (.inl rfl) (by kernel_rfl) (fun K38 hK38 => ?_)
              simp (maxSteps:=999999) (disch:=omega) only [av1, av2, av3, av4, eq_self, exists_const, forall_const, implies_true, storeOk, thenQ, PK.cond, PK.val, Nat.reduceAdd, Nat.reduceLT, Nat.reduceMul, reduceCtorEq, ↓reduceIte, Nat.reduceEqDiff, Nat.reduceLeDiff, Nat.reduceSub, Nat.reduceBEq, Nat.reduceBNe, Int.reduceLT, Int.reduceEq, Int.reduceAdd, Int.reduceToNat, Int.reduceLE, Int.reduceBEq, Int.reduceBNe, enc1, cChan, cCSt, eqTy_Sum, toOut]
              (repeat ((with_reducible refine And.intro ?_ ?_); (first | trivial | assumption | omega | (simp; done))))
              refine hK38 _ ?_
              (try clear hK38)
              refine ag_pures (fuel := 2) [14] [It.mk (some 58) none (IK.p (PK.bld (CV.st [CV.pv (Value.int IntKind.i64 0), CV.pv (Value.slice none 0 0)]) [(0, 1), (1, 1)] [(0, Operand.tmp 44), (1, Operand.tmp 57)]))] (by kernel_rfl) (by kernel_rfl) (by kernel_rfl) (by kernel_rfl) (hideZ_nil _ 0) (fun K39 hK39 => ?_)
              simp (maxSteps:=999999) (disch:=omega) only [av1, av2, av3, av4, eq_self, exists_const, forall_const, implies_true, storeOk, thenQ, PK.cond, PK.val, Nat.reduceAdd, Nat.reduceLT, Nat.reduceMul, reduceCtorEq, ↓reduceIte, Nat.reduceEqDiff, Nat.reduceLeDiff, Nat.reduceSub, Nat.reduceBEq, Nat.reduceBNe, Int.reduceLT, Int.reduceEq, Int.reduceAdd, Int.reduceToNat, Int.reduceLE, Int.reduceBEq, Int.reduceBNe, enc1, cChan, cCSt, eqTy_Sum, toOut]
              (repeat ((with_reducible refine And.intro ?_ ?_); (first | trivial | assumption | omega | (simp; done))))
              refine hK39 _ ?_
              (try clear hK39)
              refine ag_one (i:=15) (by kernel_rfl) ?_
              refine agi (it := It.mk (some 12) none (IK.alloc (CV.st [CV.pv (Value.int IntKind.i64 0), CV.pv (Value.slice none 0 0)]))) (R' := [14, 0]) (by kernel_rfl) (.inl rfl) (by kernel_rfl) (fun K40 hK40 => ?_)
              simp (maxSteps:=999999) (disch:=omega) only [av1, av2, av3, av4, eq_self, exists_const, forall_const, implies_true, storeOk, thenQ, PK.cond, PK.val, Nat.reduceAdd, Nat.reduceLT, Nat.reduceMul, reduceCtorEq, ↓reduceIte, Nat.reduceEqDiff, Nat.reduceLeDiff, Nat.reduceSub, Nat.reduceBEq, Nat.reduceBNe, Int.reduceLT, Int.reduceEq, Int.reduceAdd, Int.reduceToNat, Int.reduceLE, Int.reduceBEq, Int.reduceBNe, enc1, cChan, cCSt, eqTy_Sum, toOut]
              (repeat ((with_reducible refine And.intro ?_ ?_); (first | trivial | assumption | omega | (simp; done))))
              refine hK40 _ ?_
              (try clear hK40)
              refine ag_one (i:=16) (by kernel_rfl) ?_
              refine agi (it := It.mk none none (IK.store (Operand.tmp 12) (Operand.tmp 58) 2)) (R' := []) (by kernel_rfl) (.inr (by kernel_rfl)) (by kernel_rfl) (fun K41 hK41 => ?_)
              simp (maxSteps:=999999) (disch:=omega) only [av1, av2, av3, av4, eq_self, exists_const, forall_const, implies_true, storeOk, thenQ, PK.cond, PK.val, Nat.reduceAdd, Nat.reduceLT, Nat.reduceMul, reduceCtorEq, ↓reduceIte, Nat.reduceEqDiff, Nat.reduceLeDiff, Nat.reduceSub, Nat.reduceBEq, Nat.reduceBNe, Int.reduceLT, Int.reduceEq, Int.reduceAdd, Int.reduceToNat, Int.reduceLE, Int.reduceBEq, Int.reduceBNe, enc1, cChan, cCSt, eqTy_Sum, toOut]
              (repeat ((with_reducible refine And.intro ?_ ?_); (first | trivial | assumption | omega | (simp; done))))
              refine hK41 _ ?_
              (try clear hK41)
              refine ag_done (by kernel_rfl) ?_
              (try simp only [thenQ])
              exact Le.sameL rfl (by repeat (first | exact SubL.nil | refine SubL.cons rfl ?_))
            · refine agi (it := It.mk (some 12) none (IK.alloc (CV.st [CV.pv (Value.int IntKind.i64 0), CV.pv (Value.slice none 0 0)]))) (R' := [5, 12, 11, 10, 9, 8, 4, 3, 0]) (by kernel_rfl) (.inl rfl) (by kernel_rfl) (fun K42 hK42 => ?_)
              simp (maxSteps:=999999) (disch:=omega) only [av1, av2, av3, av4, eq_self, exists_const, forall_const, implies_true, storeOk, thenQ, PK.cond, PK.val, Nat.reduceAdd, Nat.reduceLT, Nat.reduceMul, reduceCtorEq, ↓reduceIte, Nat.reduceEqDiff, Nat.reduceLeDiff, Nat.reduceSub, Nat.reduceBEq, Nat.reduceBNe, Int.reduceLT, Int.reduceEq, Int.reduceAdd, Int.reduceToNat, Int.reduceLE, Int.reduceBEq, Int.reduceBNe, enc1, cChan, cCSt, eqTy_Sum, toOut]
              (repeat ((with_reducible refine And.intro ?_ ?_); (first | trivial | assumption | omega | (simp; done))))
              refine hK42 _ ?_
              (try clear hK42)
              refine ag_one (i:=13) (by kernel_rfl) ?_
              refine agi (it := It.mk (some 57) none (IK.lit 35 [Operand.tmp 49, Operand.tmp 56])) (R' := [0]) (by kernel_rfl) (.inl rfl) (by kernel_rfl) (fun K43 hK43 => ?_)
              simp (maxSteps:=999999) (disch:=omega) only [av1, av2, av3, av4, eq_self, exists_const, forall_const, implies_true, storeOk, thenQ, PK.cond, PK.val, Nat.reduceAdd, Nat.reduceLT, Nat.reduceMul, reduceCtorEq, ↓reduceIte, Nat.reduceEqDiff, Nat.reduceLeDiff, Nat.reduceSub, Nat.reduceBEq, Nat.reduceBNe, Int.reduceLT, Int.reduceEq, Int.reduceAdd, Int.reduceToNat, Int.reduceLE, Int.reduceBEq, Int.reduceBNe, enc1, cChan, cCSt, eqTy_Sum, toOut]
              (repeat ((with_reducible refine And.intro ?_ ?_); (first | trivial | assumption | omega | (simp; done))))
              refine hK43 _ ?_
              (try clear hK43)
              refine ag_pures (fuel := 1) [14] [It.mk (some 58) none (IK.p (PK.bld (CV.st [CV.pv (Value.int IntKind.i64 0), CV.pv (Value.slice none 0 0)]) [(0, 1), (1, 1)] [(0, Operand.tmp 44), (1, Operand.tmp 57)]))] (by kernel_rfl) (by kernel_rfl) (by kernel_rfl) (by kernel_rfl) (hideZ_nil _ 0) (fun K44 hK44 => ?_)
              simp (maxSteps:=999999) (disch:=omega) only [av1, av2, av3, av4, eq_self, exists_const, forall_const, implies_true, storeOk, thenQ, PK.cond, PK.val, Nat.reduceAdd, Nat.reduceLT, Nat.reduceMul, reduceCtorEq, ↓reduceIte, Nat.reduceEqDiff, Nat.reduceLeDiff, Nat.reduceSub, Nat.reduceBEq, Nat.reduceBNe, Int.reduceLT, Int.reduceEq, Int.reduceAdd, Int.reduceToNat, Int.reduceLE, Int.reduceBEq, Int.reduceBNe, enc1, cChan, cCSt, eqTy_Sum, toOut]
              (repeat ((with_reducible refine And.intro ?_ ?_); (first | trivial | assumption | omega | (simp; done))))
              refine hK44 _ ?_
              (try clear hK44)
              refine ag_one (i:=16) (by kernel_rfl) ?_
              refine agi (it := It.mk none none (IK.store (Operand.tmp 12) (Operand.tmp 58) 2)) (R' := []) (by kernel_rfl) (.inr (by kernel_rfl)) (by kernel_rfl) (fun K45 hK45 => ?_)
              simp (maxSteps:=999999) (disch:=omega) only [av1, av2, av3, av4, eq_self, exists_const, forall_const, implies_true, storeOk, thenQ, PK.cond, PK.val, Nat.reduceAdd, Nat.reduceLT, Nat.reduceMul, reduceCtorEq, ↓reduceIte, Nat.reduceEqDiff, Nat.reduceLeDiff, Nat.reduceSub, Nat.reduceBEq, Nat.reduceBNe, Int.reduceLT, Int.reduceEq, Int.reduceAdd, Int.reduceToNat, Int.reduceLE, Int.reduceBEq, Int.reduceBNe, enc1, cChan, cCSt, eqTy_Sum, toOut]
              (repeat ((with_reducible refine And.intro ?_ ?_); (first | trivial | assumption | omega | (simp; done))))
              refine hK45 _ ?_
              (try clear hK45)
              refine ag_done (by kernel_rfl) ?_
              (try simp only [thenQ])
              exact Le.sameL rfl (by repeat (first | exact SubL.nil | refine SubL.cons rfl ?_))
          · refine agi (it := It.mk (some 12) none (IK.alloc (CV.st [CV.pv (Value.int IntKind.i64 0), CV.pv (Value.slice none 0 0)]))) (R' := [12, 11, 10, 9, 8, 4, 3, 1, 0]) (by kernel_rfl) (.inl rfl) (by kernel_rfl) (fun K46 hK46 => ?_)
            simp (maxSteps:=999999) (disch:=omega) only [av1, av2, av3, av4, eq_self, exists_const, forall_const, implies_true, storeOk, thenQ, PK.cond, PK.val, Nat.reduceAdd, Nat.reduceLT, Nat.reduceMul, reduceCtorEq, ↓reduceIte, Nat.reduceEqDiff, Nat.reduceLeDiff, Nat.reduceSub, Nat.reduceBEq, Nat.reduceBNe, Int.reduceLT, Int.reduceEq, Int.reduceAdd, Int.reduceToNat, Int.reduceLE, Int.reduceBEq, Int.reduceBNe, enc1, cChan, cCSt, eqTy_Sum, toOut]
            (repeat ((with_reducible refine And.intro ?_ ?_); (first | trivial | assumption | omega | (simp; done))))
            refine hK46 _ ?_
            (try clear hK46)
            refine ag_one (i:=2) (by kernel_rfl) ?_
            refine agi (it := It.mk (some 46) none (IK.lit 1 [Operand.tmp 45])) (R' := [12, 11, 10, 9, 8, 4, 3, 0]) (by kernel_rfl) (.inl rfl) (by kernel_rfl) (fun K47 hK47 => ?_)
            simp (maxSteps:=999999) (disch:=omega) only [av1, av2, av3, av4, eq_self, exists_const, forall_const, implies_true, storeOk, thenQ, PK.cond, PK.val, Nat.reduceAdd, Nat.reduceLT, Nat.reduceMul, reduceCtorEq, ↓reduceIte, Nat.reduceEqDiff, Nat.reduceLeDiff, Nat.reduceSub, Nat.reduceBEq, Nat.reduceBNe, Int.reduceLT, Int.reduceEq, Int.reduceAdd, Int.reduceToNat, Int.reduceLE, Int.reduceBEq, Int.reduceBNe, enc1, cChan, cCSt, eqTy_Sum, toOut]
            (repeat ((with_reducible refine And.intro ?_ ?_); (first | trivial | assumption | omega | (simp; done))))
            refine hK47 _ ?_
            (try clear hK47)
            refine ag_pures (fuel := 3) [5] [It.mk (some 49) none (IK.p (PK.bld (CV.st [CV.pv (Value.slice none 0 0), CV.ar IntKind.u8 32 (List.replicate 32 0), CV.pv (Value.int IntKind.i64 0), CV.pv (Value.int IntKind.i64 0)]) [(0, 1), (1, 32), (33, 1), (34, 1)] [(0, Operand.tmp 46), (3, Operand.tmp 48)]))] (by kernel_rfl) (by kernel_rfl) (by kernel_rfl) (by kernel_rfl) (hideZ_nil _ 0) (fun K48 hK48 => ?_)
            simp (maxSteps:=999999) (disch:=omega) only [av1, av2, av3, av4, eq_self, exists_const, forall_const, implies_true, storeOk, thenQ, PK.cond, PK.val, Nat.reduceAdd, Nat.reduceLT, Nat.reduceMul, reduceCtorEq, ↓reduceIte, Nat.reduceEqDiff, Nat.reduceLeDiff, Nat.reduceSub, Nat.reduceBEq, Nat.reduceBNe, Int.reduceLT, Int.reduceEq, Int.reduceAdd, Int.reduceToNat, Int.reduceLE, Int.reduceBEq, Int.reduceBNe, enc1, cChan, cCSt, eqTy_Sum, toOut]
            (repeat ((with_reducible refine And.intro ?_ ?_); (first | trivial | assumption | omega | (simp; done))))
            refine hK48 _ ?_
            (try clear hK48)
            refine ag_one (i:=13) (by kernel_rfl) ?_
            refine agi (it := It.mk (some 57) none (IK.lit 35 [Operand.tmp 49, Operand.tmp 56])) (R' := [0]) (by kernel_rfl) (.inl rfl) (by kernel_rfl) (fun K49 hK49 => ?_)
            simp (maxSteps:=999999) (disch:=omega) only [av1, av2, av3, av4, eq_self, exists_const, forall_const, implies_true, storeOk, thenQ, PK.cond, PK.val, Nat.reduceAdd, Nat.reduceLT, Nat.reduceMul, reduceCtorEq, ↓reduceIte, Nat.reduceEqDiff, Nat.reduceLeDiff, Nat.reduceSub, Nat.reduceBEq, Nat.reduceBNe, Int.reduceLT, Int.reduceEq, Int.reduceAdd, Int.reduceToNat, Int.reduceLE, Int.reduceBEq, Int.reduceBNe, enc1, cChan, cCSt, eqTy_Sum, toOut]
            (repeat ((with_reducible refine And.intro ?_ ?_); (first | trivial | assumption | omega | (simp; done))))
            refine hK49 _ ?_
            (try clear hK49)
            refine ag_pures (fuel := 1) [14] [It.mk (some 58) none (IK.p (PK.bld (CV.st [CV.pv (Value.int IntKind.i64 0), CV.pv (Value.slice none 0 0)]) [(0, 1), (1, 1)] [(0, Operand.tmp 44), (1, Operand.tmp 57)]))] (by kernel_rfl) (by kernel_rfl) (by kernel_rfl) (by kernel_rfl) (hideZ_nil _ 0) (fun K50 hK50 => ?_)
            simp (maxSteps:=999999) (disch:=omega) only [av1, av2, av3, av4, eq_self, exists_const, forall_const, implies_true, storeOk, thenQ, PK.cond, PK.val, Nat.reduceAdd, Nat.reduceLT, Nat.reduceMul, reduceCtorEq, ↓reduceIte, Nat.reduceEqDiff, Nat.reduceLeDiff, Nat.reduceSub, Nat.reduceBEq, Nat.reduceBNe, Int.reduceLT, Int.reduceEq, Int.reduceAdd, Int.reduceToNat, Int.reduceLE, Int.reduceBEq, Int.reduceBNe, enc1, cChan, cCSt, eqTy_Sum, toOut]
            (repeat ((with_reducible refine And.intro ?_ ?_); (first | trivial | assumption | omega | (simp; done))))
            refine hK50 _ ?_
            (try clear hK50)
            refine ag_one (i:=16) (by kernel_rfl) ?_
            refine agi (it := It.mk none none (IK.store (Operand.tmp 12) (Operand.tmp 58) 2)) (R' := []) (by kernel_rfl) (.inr (by kernel_rfl)) (by kernel_rfl) (fun K51 hK51 => ?_)
            simp (maxSteps:=999999) (disch:=omega) only [av1, av2, av3, av4, eq_self, exists_const, forall_const, implies_true, storeOk, thenQ, PK.cond, PK.val, Nat.reduceAdd, Nat.reduceLT, Nat.reduceMul, reduceCtorEq, ↓reduceIte, Nat.reduceEqDiff, Nat.reduceLeDiff, Nat.reduceSub, Nat.reduceBEq, Nat.reduceBNe, Int.reduceLT, Int.reduceEq, Int.reduceAdd, Int.reduceToNat, Int.reduceLE, Int.reduceBEq, Int.reduceBNe, enc1, cChan, cCSt, eqTy_Sum, toOut]
            (repeat ((with_reducible refine And.intro ?_ ?_); (first | trivial | assumption | omega | (simp; done))))
            refine hK51 _ ?_
            (try clear hK51)
            refine ag_done (by kernel_rfl) ?_
            (try simp only [thenQ])
            exact Le.sameL rfl (by repeat (first | exact SubL.nil | refine SubL.cons rfl ?_))
        · refine agi (it := It.mk (some 12) none (IK.alloc (CV.st [CV.pv (Value.int IntKind.i64 0), CV.pv (Value.slice none 0 0)]))) (R' := [11, 10, 9, 8, 6, 4, 3, 1, 0]) (by kernel_rfl) (.inl rfl) (by kernel_rfl) (fun K52 hK52 => ?_)
          simp (maxSteps:=999999) (disch:=omega) only [av1, av2, av3, av4, eq_self, exists_const, forall_const, implies_true, storeOk, thenQ, PK.cond, PK.val, Nat.reduceAdd, Nat.reduceLT, Nat.reduceMul, reduceCtorEq, ↓reduceIte, Nat.reduceEqDiff, Nat.reduceLeDiff, Nat.reduceSub, Nat.reduceBEq, Nat.reduceBNe, Int.reduceLT, Int.reduceEq, Int.reduceAdd, Int.reduceToNat, Int.reduceLE, Int.reduceBEq, Int.reduceBNe, enc1, cChan, cCSt, eqTy_Sum, toOut]
          (repeat ((with_reducible refine And.intro ?_ ?_); (first | trivial | assumption | omega | (simp; done))))
          refine hK52 _ ?_
          (try clear hK52)
          refine ag_two (i := 2) (j := 7) (by kernel_rfl) ?_ ?_
          · refine agi (it := It.mk (some 46) none (IK.lit 1 [Operand.tmp 45])) (R' := [11, 10, 9, 8, 6, 4, 3, 0]) (by kernel_rfl) (.inl rfl) (by kernel_rfl) (fun K53 hK53 => ?_)
            simp (maxSteps:=999999) (disch:=omega) only [av1, av2, av3, av4, eq_self, exists_const, forall_const, implies_true, storeOk, thenQ, PK.cond, PK.val, Nat.reduceAdd, Nat.reduceLT, Nat.reduceMul, reduceCtorEq, ↓reduceIte, Nat.reduceEqDiff, Nat.reduceLeDiff, Nat.reduceSub, Nat.reduceBEq, Nat.reduceBNe, Int.reduceLT, Int.reduceEq, Int.reduceAdd, Int.reduceToNat, Int.reduceLE, Int.reduceBEq, Int.reduceBNe, enc1, cChan, cCSt, eqTy_Sum, toOut]
            (repeat ((with_reducible refine And.intro ?_ ?_); (first | trivial | assumption | omega | (simp; done))))
            refine hK53 _ ?_
            (try clear hK53)
            refine ag_pures (fuel := 5) [5] [It.mk (some 49) none (IK.p (PK.bld (CV.st [CV.pv (Value.slice none 0 0), CV.ar IntKind.u8 32 (List.replicate 32 0), CV.pv (Value.int IntKind.i64 0), CV.pv (Value.int IntKind.i64 0)]) [(0, 1), (1, 32), (33, 1), (34, 1)] [(0, Operand.tmp 46), (3, Operand.tmp 48)]))] (by kernel_rfl) (by kernel_rfl) (by kernel_rfl) (by kernel_rfl) (hideZ_nil _ 0) (fun K54 hK54 => ?_)
            simp (maxSteps:=999999) (disch:=omega) only [av1, av2, av3, av4, eq_self, exists_const, forall_const, implies_true, storeOk, thenQ, PK.cond, PK.val, Nat.reduceAdd, Nat.reduceLT, Nat.reduceMul, reduceCtorEq, ↓reduceIte, Nat.reduceEqDiff, Nat.reduceLeDiff, Nat.reduceSub, Nat.reduceBEq, Nat.reduceBNe, Int.reduceLT, Int.reduceEq, Int.reduceAdd, Int.reduceToNat, Int.reduceLE, Int.reduceBEq, Int.reduceBNe, enc1, cChan, cCSt, eqTy_Sum, toOut]
            (repeat ((with_reducible refine And.intro ?_ ?_); (first | trivial | assumption | omega | (simp; done))))
            refine hK54 _ ?_
            (try clear hK54)
            refine ag_one (i:=7) (by kernel_rfl) ?_
            refine agi (it := It.mk (some 51) none (IK.lit 1 [Operand.tmp 50])) (R' := [5, 11, 10, 9, 8, 4, 3, 0]) (by kernel_rfl) (.inl rfl) (by kernel_rfl) (fun K55 hK55 => ?_)
            simp (maxSteps:=999999) (disch:=omega) only [av1, av2, av3, av4, eq_self, exists_const, forall_const, implies_true, storeOk, thenQ, PK.cond, PK.val, Nat.reduceAdd, Nat.reduceLT, Nat.reduceMul, reduceCtorEq, ↓reduceIte, Nat.reduceEqDiff, Nat.reduceLeDiff, Nat.reduceSub, Nat.reduceBEq, Nat.reduceBNe, Int.reduceLT, Int.reduceEq, Int.reduceAdd, Int.reduceToNat, Int.reduceLE, Int.reduceBEq, Int.reduceBNe, enc1, cChan, cCSt, eqTy_Sum, toOut]
            (repeat ((with_reducible refine And.intro ?_ ?_); (first | trivial | assumption | omega | (simp; done))))
            refine hK55 _ ?_
            (try clear hK55)
            refine ag_pures (fuel := 3) [12] [It.mk (some 56) none (IK.p (PK.bld (CV.st [CV.pv (Value.slice none 0 0), CV.ar IntKind.u8 32 (List.replicate 32 0), CV.pv (Value.int IntKind.i64 0), CV.pv (Value.int IntKind.i64 0)]) [(0, 1), (1, 32), (33, 1), (34, 1)] [(0, Operand.tmp 51), (1, Operand.tmp 55)]))] (by kernel_rfl) (by kernel_rfl) (by kernel_rfl) (by kernel_rfl) (hideZ_nil _ 0) (fun K56 hK56 => ?_)
            simp (maxSteps:=999999) (disch:=omega) only [av1, av2, av3, av4, eq_self, exists_const, forall_const, implies_true, storeOk, thenQ, PK.cond, PK.val, Nat.reduceAdd, Nat.reduceLT, Nat.reduceMul, reduceCtorEq, ↓reduceIte, Nat.reduceEqDiff, Nat.reduceLeDiff, Nat.reduceSub, Nat.reduceBEq, Nat.reduceBNe, Int.reduceLT, Int.reduceEq, Int.reduceAdd, Int.reduceToNat, Int.reduceLE, Int.reduceBEq, Int.reduceBNe, enc1, cChan, cCSt, eqTy_Sum, toOut]
            (repeat ((with_reducible refine And.intro ?_ ?_); (first | trivial | assumption | omega | (simp; done))))
            refine hK56 _ ?_
            (try clear hK56)
            refine ag_one (i:=13) (by kernel_rfl) ?_
            refine agi (it := It.mk (some 57) none (IK.lit 35 [Operand.tmp 49, Operand.tmp 56])) (R' := [0]) (by kernel_rfl) (.inl rfl) (by kernel_rfl) (fun K57 hK57 => ?_)
            simp (maxSteps:=999999) (disch:=omega) only [av1, av2, av3, av4, eq_self, exists_const, forall_const, implies_true, storeOk, thenQ, PK.cond, PK.val, Nat.reduceAdd, Nat.reduceLT, Nat.reduceMul, reduceCtorEq, ↓reduceIte, Nat.reduceEqDiff, Nat.reduceLeDiff, Nat.reduceSub, Nat.reduceBEq, Nat.reduceBNe, Int.reduceLT, Int.reduceEq, Int.reduceAdd, Int.reduceToNat, Int.reduceLE, Int.reduceBEq, Int.reduceBNe, enc1, cChan, cCSt, eqTy_Sum, toOut]
            (repeat ((with_reducible refine And.intro ?_ ?_); (first | trivial | assumption | omega | (simp; done))))
            refine hK57 _ ?_
            (try clear hK57)
            refine ag_pures (fuel := 1) [14] [It.mk (some 58) none (IK.p (PK.bld (CV.st [CV.pv (Value.int IntKind.i64 0), CV.pv (Value.slice none 0 0)]) [(0, 1), (1, 1)] [(0, Operand.tmp 44), (1, Operand.tmp 57)]))] (by kernel_rfl) (by kernel_rfl) (by kernel_rfl) (by kernel_rfl) (hideZ_nil _ 0) (fun K58 hK58 => ?_)
            simp (maxSteps:=999999) (disch:=omega) only [av1, av2, av3, av4, eq_self, exists_const, forall_const, implies_true, storeOk, thenQ, PK.cond, PK.val, Nat.reduceAdd, Nat.reduceLT, Nat.reduceMul, reduceCtorEq, ↓reduceIte, Nat.reduceEqDiff, Nat.reduceLeDiff, Nat.reduceSub, Nat.reduceBEq, Nat.reduceBNe, Int.reduceLT, Int.reduceEq, Int.reduceAdd, Int.reduceToNat, Int.reduceLE, Int.reduceBEq, Int.reduceBNe, enc1, cChan, cCSt, eqTy_Sum, toOut]
            (repeat ((with_reducible refine And.intro ?_ ?_); (first | trivial | assumption | omega | (simp; done))))
            refine hK58 _ ?_
            (try clear hK58)
            refine ag_one (i:=16) (by kernel_rfl) ?_
            refine agi (it := It.mk none none (IK.store (Operand.tmp 12) (Operand.tmp 58) 2)) (R' := []) (by kernel_rfl) (.inr (by kernel_rfl)) (by kernel_rfl) (fun K59 hK59 => ?_)
            simp (maxSteps:=999999) (disch:=omega) only [av1, av2, av3, av4, eq_self, exists_const, forall_const, implies_true, storeOk, thenQ, PK.cond, PK.val, Nat.reduceAdd, Nat.reduceLT, Nat.reduceMul, reduceCtorEq, ↓reduceIte, Nat.reduceEqDiff, Nat.reduceLeDiff, Nat.reduceSub, Nat.reduceBEq, Nat.reduceBNe, Int.reduceLT, Int.reduceEq, Int.reduceAdd, Int.reduceToNat, Int.reduceLE, Int.reduceBEq, Int.reduceBNe, enc1, cChan, cCSt, eqTy_Sum, toOut]
            (repeat ((with_reducible refine And.intro ?_ ?_); (first | trivial | assumption | omega | (simp; done))))
            refine hK59 _ ?_
            (try clear hK59)
            refine ag_done (by kernel_rfl) ?_
            (try simp only [thenQ])
            exact Le.sameL rfl (by repeat (first | exact SubL.nil | refine SubL.cons rfl ?_))
          · refine agi (it := It.mk (some 51) none (IK.lit 1 [Operand.tmp 50])) (R' := [11, 10, 9, 8, 4, 3, 1, 0]) (by kernel_rfl) (.inl rfl) (by kernel_rfl) (fun K60 hK60 => ?_)
            simp (maxSteps:=999999) (disch:=omega) only [av1, av2, av3, av4, eq_self, exists_const, forall_const, implies_true, storeOk, thenQ, PK.cond, PK.val, Nat.reduceAdd, Nat.reduceLT, Nat.reduceMul, reduceCtorEq, ↓reduceIte, Nat.reduceEqDiff, Nat.reduceLeDiff, Nat.reduceSub, Nat.reduceBEq, Nat.reduceBNe, Int.reduceLT, Int.reduceEq, Int.reduceAdd, Int.reduceToNat, Int.reduceLE, Int.reduceBEq, Int.reduceBNe, enc1, cChan, cCSt, eqTy_Sum, toOut]
            (repeat ((with_reducible refine And.intro ?_ ?_); (first | trivial | assumption | omega | (simp; done))))
            refine hK60 _ ?_
            (try clear hK60)
            refine ag_pures (fuel := 5) [12] [It.mk (some 56) none (IK.p (PK.bld (CV.st [CV.pv (Value.slice none 0 0), CV.ar IntKind.u8 32 (List.replicate 32 0), CV.pv (Value.int IntKind.i64 0), CV.pv (Value.int IntKind.i64 0)]) [(0, 1), (1, 32), (33, 1), (34, 1)] [(0, Operand.tmp 51), (1, Operand.tmp 55)]))] (by kernel_rfl) (by kernel_rfl) (by kernel_rfl) (by kernel_rfl) (hideZ_nil _ 0) (fun K61 hK61 => ?_)
            simp (maxSteps:=999999) (disch:=omega) only [av1, av2, av3, av4, eq_self, exists_const, forall_const, implies_true, storeOk, thenQ, PK.cond, PK.val, Nat.reduceAdd, Nat.reduceLT, Nat.reduceMul, reduceCtorEq, ↓reduceIte, Nat.reduceEqDiff, Nat.reduceLeDiff, Nat.reduceSub, Nat.reduceBEq, Nat.reduceBNe, Int.reduceLT, Int.reduceEq, Int.reduceAdd, Int.reduceToNat, Int.reduceLE, Int.reduceBEq, Int.reduceBNe, enc1, cChan, cCSt, eqTy_Sum, toOut]
            (repeat ((with_reducible refine And.intro ?_ ?_); (first | trivial | assumption | omega | (simp; done))))
            refine hK61 _ ?_
            (try clear hK61)
            refine ag_one (i:=2) (by kernel_rfl) ?_
            refine agi (it := It.mk (some 46) none (IK.lit 1 [Operand.tmp 45])) (R' := [12, 11, 10, 9, 8, 4, 3, 0]) (by kernel_rfl) (.inl rfl) (by kernel_rfl) (fun K62 hK62 => ?_)
            simp (maxSteps:=999999) (disch:=omega) only [av1, av2, av3, av4, eq_self, exists_const, forall_const, implies_true, storeOk, thenQ, PK.cond, PK.val, Nat.reduceAdd, Nat.reduceLT, Nat.reduceMul, reduceCtorEq, ↓reduceIte, Nat.reduceEqDiff, Nat.reduceLeDiff, Nat.reduceSub, Nat.reduceBEq, Nat.reduceBNe, Int.reduceLT, Int.reduceEq, Int.reduceAdd, Int.reduceToNat, Int.reduceLE, Int.reduceBEq, Int.reduceBNe, enc1, cChan, cCSt, eqTy_Sum, toOut]
            (repeat ((with_reducible refine And.intro ?_ ?_); (first | trivial | assumption | omega | (simp; done))))
            refine hK62 _ ?_
            (try clear hK62)
            refine ag_pures (fuel := 3) [5] [It.mk (some 49) none (IK.p (PK.bld (CV.st [CV.pv (Value.slice none 0 0), CV.ar IntKind.u8 32 (List.replicate 32 0), CV.pv (Value.int IntKind.i64 0), CV.pv (Value.int IntKind.i64 0)]) [(0, 1), (1, 32), (33, 1), (34, 1)] [(0, Operand.tmp 46), (3, Operand.tmp 48)]))] (by kernel_rfl) (by kernel_rfl) (by kernel_rfl) (by kernel_rfl) (hideZ_nil _ 0) (fun K63 hK63 => ?_)
            simp (maxSteps:=999999) (disch:=omega) only [av1, av2, av3, av4, eq_self, exists_const, forall_const, implies_true, storeOk, thenQ, PK.cond, PK.val, Nat.reduceAdd, Nat.reduceLT, Nat.reduceMul, reduceCtorEq, ↓reduceIte, Nat.reduceEqDiff, Nat.reduceLeDiff, Nat.reduceSub, Nat.reduceBEq, Nat.reduceBNe, Int.reduceLT, Int.reduceEq, Int.reduceAdd, Int.reduceToNat, Int.reduceLE, Int.reduceBEq, Int.reduceBNe, enc1, cChan, cCSt, eqTy_Sum, toOut]
            (repeat ((with_reducible refine And.intro ?_ ?_); (first | trivial | assumption | omega | (simp; done))))
            refine hK63 _ ?_
            (try clear hK63)
            refine ag_one (i:=13) (by kernel_rfl) ?_
            refine agi (it := It.mk (some 57) none (IK.lit 35 [Operand.tmp 49, Operand.tmp 56])) (R' := [0]) (by kernel_rfl) (.inl rfl) (by kernel_rfl) (fun K64 hK64 => ?_)
            simp (maxSteps:=999999) (disch:=omega) only [av1, av2, av3, av4, eq_self, exists_const, forall_const, implies_true, storeOk, thenQ, PK.cond, PK.val, Nat.reduceAdd, Nat.reduceLT, Nat.reduceMul, reduceCtorEq, ↓reduceIte, Nat.reduceEqDiff, Nat.reduceLeDiff, Nat.reduceSub, Nat.reduceBEq, Nat.reduceBNe, Int.reduceLT, Int.reduceEq, Int.reduceAdd, Int.reduceToNat, Int.reduceLE, Int.reduceBEq, Int.reduceBNe, enc1, cChan, cCSt, eqTy_Sum, toOut]
            (repeat ((with_reducible refine And.intro ?_ ?_); (first | trivial | assumption | omega | (simp; done))))
            refine hK64 _ ?_
            (try clear hK64)
            refine ag_pures (fuel := 1) [14] [It.mk (some 58) none (IK.p (PK.bld (CV.st [CV.pv (Value.int IntKind.i64 0), CV.pv (Value.slice none 0 0)]) [(0, 1), (1, 1)] [(0, Operand.tmp 44), (1, Operand.tmp 57)]))] (by kernel_rfl) (by kernel_rfl) (by kernel_rfl) (by kernel_rfl) (hideZ_nil _ 0) (fun K65 hK65 => ?_)
            simp (maxSteps:=999999) (disch:=omega) only [av1, av2, av3, av4, eq_self, exists_const, forall_const, implies_true, storeOk, thenQ, PK.cond, PK.val, Nat.reduceAdd, Nat.reduceLT, Nat.reduceMul, reduceCtorEq, ↓reduceIte, Nat.reduceEqDiff, Nat.reduceLeDiff, Nat.reduceSub, Nat.reduceBEq, Nat.reduceBNe, Int.reduceLT, Int.reduceEq, Int.reduceAdd, Int.reduceToNat, Int.reduceLE, Int.reduceBEq, Int.reduceBNe, enc1, cChan, cCSt, eqTy_Sum, toOut]
            (repeat ((with_reducible refine And.intro ?_ ?_); (first | trivial | assumption | omega | (simp; done))))
            refine hK65 _ ?_
            (try clear hK65)
            refine ag_one (i:=16) (by kernel_rfl) ?_
            refine agi (it := It.mk none none (IK.store (Operand.tmp 12) (Operand.tmp 58) 2)) (R' := []) (by kernel_rfl) (.inr (by kernel_rfl)) (by kernel_rfl) (fun K66 hK66 => ?_)
            simp (maxSteps:=999999) (disch:=omega) only [av1, av2, av3, av4, eq_self, exists_const, forall_const, implies_true, storeOk, thenQ, PK.cond, PK.val, Nat.reduceAdd, Nat.reduceLT, Nat.reduceMul, reduceCtorEq, ↓reduceIte, Nat.reduceEqDiff, Nat.reduceLeDiff, Nat.reduceSub, Nat.reduceBEq, Nat.reduceBNe, Int.reduceLT, Int.reduceEq, Int.reduceAdd, Int.reduceToNat, Int.reduceLE, Int.reduceBEq, Int.reduceBNe, enc1, cChan, cCSt, eqTy_Sum, toOut]
            (repeat ((with_reducible refine And.intro ?_ ?_); (first | trivial | assumption | omega | (simp; done))))
            refine hK66 _ ?_
            (try clear hK66)
            refine ag_done (by kernel_rfl) ?_
            (try simp only [thenQ])
            exact Le.sameL rfl (by repeat (first | exact SubL.nil | refine SubL.cons rfl ?_))
      refine at_seqJ ?_
      apply Exists.intro
      refine And.intro ?_ ?_
      · skip
        refine at_draws [] (by kernel_rfl) ?_
        refine ag_pures (fuel := 6) [0, 1, 2, 4, 5, 6] [It.mk (some 59) none (IK.p (PK.fAddr (Operand.tmp 3) 3 3)), It.mk (some 60) none (IK.p (PK.load (Operand.tmp 59) 33 true)), It.mk (some 61) none (IK.p (PK.bld (CV.st [CV.st [CV.ar IntKind.u8 32 (List.replicate 32 0), CV.pv (Value.int IntKind.i64 0)], CV.pv (Value.int IntKind.i64 0), CV.pv (Value.slice none 0 0)]) [(0, 33), (33, 1), (34, 1)] [(0, Operand.tmp 60)])), It.mk (some 63) none (IK.p (PK.load (Operand.tmp 12) 2 true)), It.mk (some 64) none (IK.p (PK.mov (Operand.tmp 9))), It.mk (some 65) none (IK.p (PK.mov (Operand.tmp 11)))] (by kernel_rfl) (by kernel_rfl) (by kernel_rfl) (by kernel_rfl) (hideZ_nil _ 0) (fun K68 hK68 => ?_)
        simp (maxSteps:=999999) (disch:=omega) only [av1, av2, av3, av4, eq_self, exists_const, forall_const, implies_true, storeOk, thenQ, PK.cond, PK.val, Nat.reduceAdd, Nat.reduceLT, Nat.reduceMul, reduceCtorEq, ↓reduceIte, Nat.reduceEqDiff, Nat.reduceLeDiff, Nat.reduceSub, Nat.reduceBEq, Nat.reduceBNe, Int.reduceLT, Int.reduceEq, Int.reduceAdd, Int.reduceToNat, Int.reduceLE, Int.reduceBEq, Int.reduceBNe, enc1, cChan, cCSt, eqTy_Sum, toOut]
        (repeat ((with_reducible refine And.intro ?_ ?_); (first | trivial | assumption | omega | (simp; done))))
        refine hK68 _ ?_
        (try clear hK68)
        refine ag_two (i := 3) (j := 7) (by kernel_rfl) ?_ ?_
        · refine agi (it := It.mk (some 62) none (IK.lit 35 [Operand.tmp 61])) (R' := [6, 5, 4]) (by kernel_rfl) (.inl rfl) (by kernel_rfl) (fun K69 hK69 => ?_)
          simp (maxSteps:=999999) (disch:=omega) only [av1, av2, av3, av4, eq_self, exists_const, forall_const, implies_true, storeOk, thenQ, PK.cond, PK.val, Nat.reduceAdd, Nat.reduceLT, Nat.reduceMul, reduceCtorEq, ↓reduceIte, Nat.reduceEqDiff, Nat.reduceLeDiff, Nat.reduceSub, Nat.reduceBEq, Nat.reduceBNe, Int.reduceLT, Int.reduceEq, Int.reduceAdd, Int.reduceToNat, Int.reduceLE, Int.reduceBEq, Int.reduceBNe, enc1, cChan, cCSt, eqTy_Sum, toOut]
          (repeat ((with_reducible refine And.intro ?_ ?_); (first | trivial | assumption | omega | (simp; done))))
          refine hK69 _ ?_
          (try clear hK69)
          refine ag_one (i:=7) (by kernel_rfl) ?_
          refine agi (it := It.mk (some 66) none (IK.call 23 [Operand.tmp 64, Operand.tmp 65])) (R' := [4]) (by kernel_rfl) (.inl rfl) (by kernel_rfl) (fun K70 hK70 => ?_)
          simp (maxSteps:=999999) (disch:=omega) only [av1, av2, av3, av4, eq_self, exists_const, forall_const, implies_true, storeOk, thenQ, PK.cond, PK.val, Nat.reduceAdd, Nat.reduceLT, Nat.reduceMul, reduceCtorEq, ↓reduceIte, Nat.reduceEqDiff, Nat.reduceLeDiff, Nat.reduceSub, Nat.reduceBEq, Nat.reduceBNe, Int.reduceLT, Int.reduceEq, Int.reduceAdd, Int.reduceToNat, Int.reduceLE, Int.reduceBEq, Int.reduceBNe, enc1, cChan, cCSt, eqTy_Sum, toOut]
          apply Exists.intro
          apply And.intro
          · first | exact (lockTo_ap _ _) | exact (fun _ => (lockTo_ap _ _)) | exact (fun h => ⟨h, (lockTo_ap _ _)⟩) | exact (fun h => ⟨by simp_all, (lockTo_ap _ _)⟩)
          (try simp only [rsAV, List.map_cons, List.map_nil, thenQ])
          refine hK70 _ ?_
          (try clear hK70)
          refine ag_one (i:=8) (by kernel_rfl) ?_
          refine agi (it := It.mk (some 67) none (IK.lit 2 [Operand.tmp 63, Operand.tmp 66])) (R' := []) (by kernel_rfl) (.inl rfl) (by kernel_rfl) (fun K71 hK71 => ?_)
          simp (maxSteps:=999999) (disch:=omega) only [av1, av2, av3, av4, eq_self, exists_const, forall_const, implies_true, storeOk, thenQ, PK.cond, PK.val, Nat.reduceAdd, Nat.reduceLT, Nat.reduceMul, reduceCtorEq, ↓reduceIte, Nat.reduceEqDiff, Nat.reduceLeDiff, Nat.reduceSub, Nat.reduceBEq, Nat.reduceBNe, Int.reduceLT, Int.reduceEq, Int.reduceAdd, Int.reduceToNat, Int.reduceLE, Int.reduceBEq, Int.reduceBNe, enc1, cChan, cCSt, eqTy_Sum, toOut]
          (repeat ((with_reducible refine And.intro ?_ ?_); (first | trivial | assumption | omega | (simp; done))))
          refine hK71 _ ?_
          (try clear hK71)
          refine ag_pures (fuel := 2) [9] [It.mk (some 68) none (IK.p (PK.bld (CV.st [CV.pv (Value.slice none 0 0), CV.pv (Value.slice none 0 0), CV.st [CV.pv (Value.int IntKind.i64 0), CV.pv (Value.int IntKind.i64 0), CV.pv (Value.int IntKind.i64 0), CV.pv (Value.int IntKind.i64 0), CV.ar IntKind.u8 32 (List.replicate 32 0), CV.pv (Value.slice none 0 0)], CV.pv (Value.slice none 0 0)]) [(0, 1), (1, 1), (2, 37), (39, 1)] [(0, Operand.tmp 62), (1, Operand.tmp 67)]))] (by kernel_rfl) (by kernel_rfl) (by kernel_rfl) (by kernel_rfl) (hideZ_nil _ 0) (fun K72 hK72 => ?_)
          simp (maxSteps:=999999) (disch:=omega) only [av1, av2, av3, av4, eq_self, exists_const, forall_const, implies_true, storeOk, thenQ, PK.cond, PK.val, Nat.reduceAdd, Nat.reduceLT, Nat.reduceMul, reduceCtorEq, ↓reduceIte, Nat.reduceEqDiff, Nat.reduceLeDiff, Nat.reduceSub, Nat.reduceBEq, Nat.reduceBNe, Int.reduceLT, Int.reduceEq, Int.reduceAdd, Int.reduceToNat, Int.reduceLE, Int.reduceBEq, Int.reduceBNe, enc1, cChan, cCSt, eqTy_Sum, toOut]
          (repeat ((with_reducible refine And.intro ?_ ?_); (first | trivial | assumption | omega | (simp; done))))
          refine hK72 _ ?_
          (try clear hK72)
          refine ag_one (i:=10) (by kernel_rfl) ?_
          refine agi (it := It.mk none none (IK.store (Operand.tmp 6) (Operand.tmp 68) 40)) (R' := []) (by kernel_rfl) (.inr (by kernel_rfl)) (by kernel_rfl) (fun K73 hK73 => ?_)
          simp (maxSteps:=999999) (disch:=omega) only [av1, av2, av3, av4, eq_self, exists_const, forall_const, implies_true, storeOk, thenQ, PK.cond, PK.val, Nat.reduceAdd, Nat.reduceLT, Nat.reduceMul, reduceCtorEq, ↓reduceIte, Nat.reduceEqDiff, Nat.reduceLeDiff, Nat.reduceSub, Nat.reduceBEq, Nat.reduceBNe, Int.reduceLT, Int.reduceEq, Int.reduceAdd, Int.reduceToNat, Int.reduceLE, Int.reduceBEq, Int.reduceBNe, enc1, cChan, cCSt, eqTy_Sum, toOut]
          (repeat ((with_reducible refine And.intro ?_ ?_); (first | trivial | assumption | omega | (simp; done))))
          refine hK73 _ ?_
          (try clear hK73)
          refine ag_pures (fuel := 0) [11] [It.mk (some 7) none (IK.p (PK.mov (Operand.const (Value.int IntKind.i64 0))))] (by kernel_rfl) (by kernel_rfl) (by kernel_rfl) (by kernel_rfl) (hideZ_nil _ 0) (fun K74 hK74 => ?_)
          simp (maxSteps:=999999) (disch:=omega) only [av1, av2, av3, av4, eq_self, exists_const, forall_const, implies_true, storeOk, thenQ, PK.cond, PK.val, Nat.reduceAdd, Nat.reduceLT, Nat.reduceMul, reduceCtorEq, ↓reduceIte, Nat.reduceEqDiff, Nat.reduceLeDiff, Nat.reduceSub, Nat.reduceBEq, Nat.reduceBNe, Int.reduceLT, Int.reduceEq, Int.reduceAdd, Int.reduceToNat, Int.reduceLE, Int.reduceBEq, Int.reduceBNe, enc1, cChan, cCSt, eqTy_Sum, toOut]
          (repeat ((with_reducible refine And.intro ?_ ?_); (first | trivial | assumption | omega | (simp; done))))
          refine hK74 _ ?_
          (try clear hK74)
          refine ag_done (by kernel_rfl) ?_
          (try simp only [thenQ])
          exact Le.refl
        · refine agi (it := It.mk (some 66) none (IK.call 23 [Operand.tmp 64, Operand.tmp 65])) (R' := [4, 2, 1, 0]) (by kernel_rfl) (.inl rfl) (by kernel_rfl) (fun K75 hK75 => ?_)
          simp (maxSteps:=999999) (disch:=omega) only [av1, av2, av3, av4, eq_self, exists_const, forall_const, implies_true, storeOk, thenQ, PK.cond, PK.val, Nat.reduceAdd, Nat.reduceLT, Nat.reduceMul, reduceCtorEq, ↓reduceIte, Nat.reduceEqDiff, Nat.reduceLeDiff, Nat.reduceSub, Nat.reduceBEq, Nat.reduceBNe, Int.reduceLT, Int.reduceEq, Int.reduceAdd, Int.reduceToNat, Int.reduceLE, Int.reduceBEq, Int.reduceBNe, enc1, cChan, cCSt, eqTy_Sum, toOut]
          apply Exists.intro
          apply And.intro
          · first | exact (lockTo_ap _ _) | exact (fun _ => (lockTo_ap _ _)) | exact (fun h => ⟨h, (lockTo_ap _ _)⟩) | exact (fun h => ⟨by simp_all, (lockTo_ap _ _)⟩)
          (try simp only [rsAV, List.map_cons, List.map_nil, thenQ])
          refine hK75 _ ?_
          (try clear hK75)
          refine ag_two (i := 3) (j := 8) (by kernel_rfl) ?_ ?_
          · refine agi (it := It.mk (some 62) none (IK.lit 35 [Operand.tmp 61])) (R' := [4]) (by kernel_rfl) (.inl rfl) (by kernel_rfl) (fun K76 hK76 => ?_)
            simp (maxSteps:=999999) (disch:=omega) only [av1, av2, av3, av4, eq_self, exists_const, forall_const, implies_true, storeOk, thenQ, PK.cond, PK.val, Nat.reduceAdd, Nat.reduceLT, Nat.reduceMul, reduceCtorEq, ↓reduceIte, Nat.reduceEqDiff, Nat.reduceLeDiff, Nat.reduceSub, Nat.reduceBEq, Nat.reduceBNe, Int.reduceLT, Int.reduceEq, Int.reduceAdd, Int.reduceToNat, Int.reduceLE, Int.reduceBEq, Int.reduceBNe, enc1, cChan, cCSt, eqTy_Sum, toOut]
            (repeat ((with_reducible refine And.intro ?_ ?_); (first | trivial | assumption | omega | (simp; done))))
            refine hK76 _ ?_
            (try clear hK76)
            refine ag_one (i:=8) (by kernel_rfl) ?_
            refine agi (it := It.mk (some 67) none (IK.lit 2 [Operand.tmp 63, Operand.tmp 66])) (R' := []) (by kernel_rfl) (.inl rfl) (by kernel_rfl) (fun K77 hK77 => ?_)
            simp (maxSteps:=999999) (disch:=omega) only [av1, av2, av3, av4, eq_self, exists_const, forall_const, implies_true, storeOk, thenQ, PK.cond, PK.val, Nat.reduceAdd, Nat.reduceLT, Nat.reduceMul, reduceCtorEq, ↓reduceIte, Nat.reduceEqDiff, Nat.reduceLeDiff, Nat.reduceSub, Nat.reduceBEq, Nat.reduceBNe, Int.reduceLT, Int.reduceEq, Int.reduceAdd, Int.reduceToNat, Int.reduceLE, Int.reduceBEq, Int.reduceBNe, enc1, cChan, cCSt, eqTy_Sum, toOut]
            (repeat ((with_reducible refine And.intro ?_ ?_); (first | trivial | assumption | omega | (simp; done))))
            refine hK77 _ ?_
            (try clear hK77)
            refine ag_pures (fuel := 2) [9] [It.mk (some 68) none (IK.p (PK.bld (CV.st [CV.pv (Value.slice none 0 0), CV.pv (Value.slice none 0 0), CV.st [CV.pv (Value.int IntKind.i64 0), CV.pv (Value.int IntKind.i64 0), CV.pv (Value.int IntKind.i64 0), CV.pv (Value.int IntKind.i64 0), CV.ar IntKind.u8 32 (List.replicate 32 0), CV.pv (Value.slice none 0 0)], CV.pv (Value.slice none 0 0)]) [(0, 1), (1, 1), (2, 37), (39, 1)] [(0, Operand.tmp 62), (1, Operand.tmp 67)]))] (by kernel_rfl) (by kernel_rfl) (by kernel_rfl) (by kernel_rfl) (hideZ_nil _ 0) (fun K78 hK78 => ?_)
            simp (maxSteps:=999999) (disch:=omega) only [av1, av2, av3, av4, eq_self, exists_const, forall_const, implies_true, storeOk, thenQ, PK.cond, PK.val, Nat.reduceAdd, Nat.reduceLT, Nat.reduceMul, reduceCtorEq, ↓reduceIte, Nat.reduceEqDiff, Nat.reduceLeDiff, Nat.reduceSub, Nat.reduceBEq, Nat.reduceBNe, Int.reduceLT, Int.reduceEq, Int.reduceAdd, Int.reduceToNat, Int.reduceLE, Int.reduceBEq, Int.reduceBNe, enc1, cChan, cCSt, eqTy_Sum, toOut]
            (repeat ((with_reducible refine And.intro ?_ ?_); (first | trivial | assumption | omega | (simp; done))))
            refine hK78 _ ?_
            (try clear hK78)
            refine ag_one (i:=10) (by kernel_rfl) ?_
            refine agi (it := It.mk none none (IK.store (Operand.tmp 6) (Operand.tmp 68) 40)) (R' := []) (by kernel_rfl) (.inr (by kernel_rfl)) (by kernel_rfl) (fun K79 hK79 => ?_)
            simp (maxSteps:=999999) (disch:=omega) only [av1, av2, av3, av4, eq_self, exists_const, forall_const, implies_true, storeOk, thenQ, PK.cond, PK.val, Nat.reduceAdd, Nat.reduceLT, Nat.reduceMul, reduceCtorEq, ↓reduceIte, Nat.reduceEqDiff, Nat.reduceLeDiff, Nat.reduceSub, Nat.reduceBEq, Nat.reduceBNe, Int.reduceLT, Int.reduceEq, Int.reduceAdd, Int.reduceToNat, Int.reduceLE, Int.reduceBEq, Int.reduceBNe, enc1, cChan, cCSt, eqTy_Sum, toOut]
            (repeat ((with_reducible refine And.intro ?_ ?_); (first | trivial | assumption | omega | (simp; done))))
            refine hK79 _ ?_
            (try clear hK79)
            refine ag_pures (fuel := 0) [11] [It.mk (some 7) none (IK.p (PK.mov (Operand.const (Value.int IntKind.i64 0))))] (by kernel_rfl) (by kernel_rfl) (by kernel_rfl) (by kernel_rfl) (hideZ_nil _ 0) (fun K80 hK80 => ?_)
            simp (maxSteps:=999999) (disch:=omega) only [av1, av2, av3, av4, eq_self, exists_const, forall_const, implies_true, storeOk, thenQ, PK.cond, PK.val, Nat.reduceAdd, Nat.reduceLT, Nat.reduceMul, reduceCtorEq, ↓reduceIte, Nat.reduceEqDiff, Nat.reduceLeDiff, Nat.reduceSub, Nat.reduceBEq, Nat.reduceBNe, Int.reduceLT, Int.reduceEq, Int.reduceAdd, Int.reduceToNat, Int.reduceLE, Int.reduceBEq, Int.reduceBNe, enc1, cChan, cCSt, eqTy_Sum, toOut]
            (repeat ((with_reducible refine And.intro ?_ ?_); (first | trivial | assumption | omega | (simp; done))))
            refine hK80 _ ?_
            (try clear hK80)
            refine ag_done (by kernel_rfl) ?_
            (try simp only [thenQ])
            exact Le.sameL rfl (by repeat (first | exact SubL.nil | refine SubL.cons rfl ?_))
          · refine agi (it := It.mk (some 67) none (IK.lit 2 [Operand.tmp 63, Operand.tmp 66])) (R' := [2, 1, 0]) (by kernel_rfl) (.inl rfl) (by kernel_rfl) (fun K81 hK81 => ?_)
            simp (maxSteps:=999999) (disch:=omega) only [av1, av2, av3, av4, eq_self, exists_const, forall_const, implies_true, storeOk, thenQ, PK.cond, PK.val, Nat.reduceAdd, Nat.reduceLT, Nat.reduceMul, reduceCtorEq, ↓reduceIte, Nat.reduceEqDiff, Nat.reduceLeDiff, Nat.reduceSub, Nat.reduceBEq, Nat.reduceBNe, Int.reduceLT, Int.reduceEq, Int.reduceAdd, Int.reduceToNat, Int.reduceLE, Int.reduceBEq, Int.reduceBNe, enc1, cChan, cCSt, eqTy_Sum, toOut]
            (repeat ((with_reducible refine And.intro ?_ ?_); (first | trivial | assumption | omega | (simp; done))))
            refine hK81 _ ?_
            (try clear hK81)
            refine ag_one (i:=3) (by kernel_rfl) ?_
            refine agi (it := It.mk (some 62) none (IK.lit 35 [Operand.tmp 61])) (R' := []) (by kernel_rfl) (.inl rfl) (by kernel_rfl) (fun K82 hK82 => ?_)
            simp (maxSteps:=999999) (disch:=omega) only [av1, av2, av3, av4, eq_self, exists_const, forall_const, implies_true, storeOk, thenQ, PK.cond, PK.val, Nat.reduceAdd, Nat.reduceLT, Nat.reduceMul, reduceCtorEq, ↓reduceIte, Nat.reduceEqDiff, Nat.reduceLeDiff, Nat.reduceSub, Nat.reduceBEq, Nat.reduceBNe, Int.reduceLT, Int.reduceEq, Int.reduceAdd, Int.reduceToNat, Int.reduceLE, Int.reduceBEq, Int.reduceBNe, enc1, cChan, cCSt, eqTy_Sum, toOut]
            (repeat ((with_reducible refine And.intro ?_ ?_); (first | trivial | assumption | omega | (simp; done))))
            refine hK82 _ ?_
            (try clear hK82)
            refine ag_pures (fuel := 2) [9] [It.mk (some 68) none (IK.p (PK.bld (CV.st [CV.pv (Value.slice none 0 0), CV.pv (Value.slice none 0 0), CV.st [CV.pv (Value.int IntKind.i64 0), CV.pv (Value.int IntKind.i64 0), CV.pv (Value.int IntKind.i64 0), CV.pv (Value.int IntKind.i64 0), CV.ar IntKind.u8 32 (List.replicate 32 0), CV.pv (Value.slice none 0 0)], CV.pv (Value.slice none 0 0)]) [(0, 1), (1, 1), (2, 37), (39, 1)] [(0, Operand.tmp 62), (1, Operand.tmp 67)]))] (by kernel_rfl) (by kernel_rfl) (by kernel_rfl) (by kernel_rfl) (hideZ_nil _ 0) (fun K83 hK83 => ?_)
            simp (maxSteps:=999999) (disch:=omega) only [av1, av2, av3, av4, eq_self, exists_const, forall_const, implies_true, storeOk, thenQ, PK.cond, PK.val, Nat.reduceAdd, Nat.reduceLT, Nat.reduceMul, reduceCtorEq, ↓reduceIte, Nat.reduceEqDiff, Nat.reduceLeDiff, Nat.reduceSub, Nat.reduceBEq, Nat.reduceBNe, Int.reduceLT, Int.reduceEq, Int.reduceAdd, Int.reduceToNat, Int.reduceLE, Int.reduceBEq, Int.reduceBNe, enc1, cChan, cCSt, eqTy_Sum, toOut]
            (repeat ((with_reducible refine And.intro ?_ ?_); (first | trivial | assumption | omega | (simp; done))))
            refine hK83 _ ?_
            (try clear hK83)
            refine ag_one (i:=10) (by kernel_rfl) ?_
            refine agi (it := It.mk none none (IK.store (Operand.tmp 6) (Operand.tmp 68) 40)) (R' := []) (by kernel_rfl) (.inr (by kernel_rfl)) (by kernel_rfl) (fun K84 hK84 => ?_)
            simp (maxSteps:=999999) (disch:=omega) only [av1, av2, av3, av4, eq_self, exists_const, forall_const, implies_true, storeOk, thenQ, PK.cond, PK.val, Nat.reduceAdd, Nat.reduceLT, Nat.reduceMul, reduceCtorEq, ↓reduceIte, Nat.reduceEqDiff, Nat.reduceLeDiff, Nat.reduceSub, Nat.reduceBEq, Nat.reduceBNe, Int.reduceLT, Int.reduceEq, Int.reduceAdd, Int.reduceToNat, Int.reduceLE, Int.reduceBEq, Int.reduceBNe, enc1, cChan, cCSt, eqTy_Sum, toOut]
            (repeat ((with_reducible refine And.intro ?_ ?_); (first | trivial | assumption | omega | (simp; done))))
            refine hK84 _ ?_
            (try clear hK84)
            refine ag_pures (fuel := 0) [11] [It.mk (some 7) none (IK.p (PK.mov (Operand.const (Value.int IntKind.i64 0))))] (by kernel_rfl) (by kernel_rfl) (by kernel_rfl) (by kernel_rfl) (hideZ_nil _ 0) (fun K85 hK85 => ?_)
            simp (maxSteps:=999999) (disch:=omega) only [av1, av2, av3, av4, eq_self, exists_const, forall_const, implies_true, storeOk, thenQ, PK.cond, PK.val, Nat.reduceAdd, Nat.reduceLT, Nat.reduceMul, reduceCtorEq, ↓reduceIte, Nat.reduceEqDiff, Nat.reduceLeDiff, Nat.reduceSub, Nat.reduceBEq, Nat.reduceBNe, Int.reduceLT, Int.reduceEq, Int.reduceAdd, Int.reduceToNat, Int.reduceLE, Int.reduceBEq, Int.reduceBNe, enc1, cChan, cCSt, eqTy_Sum, toOut]
            (repeat ((with_reducible refine And.intro ?_ ?_); (first | trivial | assumption | omega | (simp; done))))
            refine hK85 _ ?_
            (try clear hK85)
            refine ag_done (by kernel_rfl) ?_
            (try simp only [thenQ])
            exact Le.sameL rfl (by repeat (first | exact SubL.nil | refine SubL.cons rfl ?_))
      refine at_ret ?_
      simp (maxSteps:=999999) (disch:=omega) only [av1, av2, av3, av4, eq_self, exists_const, forall_const, implies_true, storeOk, thenQ, PK.cond, PK.val, Nat.reduceAdd, Nat.reduceLT, Nat.reduceMul, reduceCtorEq, ↓reduceIte, Nat.reduceEqDiff, Nat.reduceLeDiff, Nat.reduceSub, Nat.reduceBEq, Nat.reduceBNe, Int.reduceLT, Int.reduceEq, Int.reduceAdd, Int.reduceToNat, Int.reduceLE, Int.reduceBEq, Int.reduceBNe, enc1, cChan, cCSt, eqTy_Sum, toOut, blockQ, retQ, RetOk, ResOk, AV.fin, AV.fins, CV.le, CV.les]
      first
        | (obtain ⟨e1, e2⟩ := build_bad (o := 1) h6; simp [e1, e2, zTxx, zOpx] <;> rfl)
        | (obtain ⟨e1, e2⟩ := build_ok (o := 1) h6; simp [e1, e2, comOf, comTx, zOpx, cInp, cOut, cWay, cRef, cSum, ints, ic, toOut, CV.les, CV.le] <;> rfl)
    · have r12 := h12
      (try simp only [dB2] at h12)
      simp at h12
end Go.Proofs.Ytcghjnegaiiieaa
namespace Go.Proofs.Ytcghjnegaiiieaa
open Go.RowKit
def BytesOk (xs : List Int) : Prop := ∀ x ∈ xs, (Lit.int .u8 x).wf = true
theorem BytesOk.right {xs ys : List Int} (h : BytesOk (xs ++ ys)) : BytesOk ys := fun x hx => h x (List.mem_append_right _ hx)
end Go.Proofs.Ytcghjnegaiiieaa
namespace Go.Proofs.Ytcghjnegaiiieaa
open Go.RowKit
set_option maxRecDepth 100000 in
set_option maxHeartbeats 8000000 in
theorem rightOp_any (x : Opx) (cs : List Value) (F : Nat → Prop) (w : World) (h : ROpx w F cs x) :
    Calls Try.prog 111 #[.agg cs.toArray] w fun e w' => e = .returned (.bool (opxB x)) ∧ Kept Nob w w' := by
  obtain ⟨A, c, rfl, hi, hok⟩ := h.open_
  have hb : (w.alloc (.cells (opxCells A c x).toArray 87)).heap[w.heap.size]? = some (.cells (opxCells A c x).toArray 87 (0, 0)) := heap_alloc_new _ _
  have HK : Hid (Kept Nob w (w.alloc (.cells (opxCells A c x).toArray 87))) := hidden (Kept.alloc (Kept.refl _ _) _)
  have q0 : (w.alloc (.cells (opxCells A c x).toArray 87)).cell? ⟨w.heap.size, 0, none⟩ = some (.int .i64 x.kind) := (blk_cell hb 0).trans rfl
  have q1 : (w.alloc (.cells (opxCells A c x).toArray 87)).cell? ⟨w.heap.size, 1, none⟩ = some (.int .i64 x.tower) := (blk_cell hb 1).trans rfl
  have q2 : (w.alloc (.cells (opxCells A c x).toArray 87)).cell? ⟨w.heap.size, 2, none⟩ = some (.int .i64 x.channel) := (blk_cell hb 2).trans rfl
  have q3 : (w.alloc (.cells (opxCells A c x).toArray 87)).cell? ⟨w.heap.size, 3, none⟩ = some (.int .i64 x.amount) := (blk_cell hb 3).trans rfl
  have q36 : (w.alloc (.cells (opxCells A c x).toArray 87)).cell? ⟨w.heap.size, 36, none⟩ = some (.slice A x.data.length c) := (blk_cell hb 36).trans (by simpa using opx_data (A := A) (c := c) hok)
  have HR : Hid (∀ j u, (nums .u8 x.root)[j]? = some u → (w.alloc (.cells (opxCells A c x).toArray 87)).cell? ((⟨w.heap.size, 4, none⟩ : Addr).add j) = some u) := hidden (fun j u hj => by
    have ea : (⟨w.heap.size, 4, none⟩ : Addr).add j = ⟨w.heap.size, 4 + j, none⟩ := by unfold Addr.add; split <;> simp_all
    rw [ea, blk_cell hb]
    simpa using opx_root (A := A) (c := c) (x := x) j u hj)
  have HL := hidden hok.hl
  have hle := hi.le
  have hmx := hi.max
  unfold maxLen at hmx
  have EZ := hidden (eqlZero x.root hok.hl)
  clear h hi hb
  obtain ⟨k, t, ch, a, root, data⟩ := x
  dsimp only at *
  generalize (opxCells A c ⟨k, t, ch, a, root, data⟩).toArray = CS at *
  have hv : opxB ⟨k, t, ch, a, root, data⟩ = if k = 0 then (t == 0) && (ch == 0) && (a == 0) && (root == zero32) && (data.length == 0) else decide (1 ≤ k) && decide (k ≤ 7) && decide (0 ≤ t) && decide (t < 16) && decide (0 ≤ ch) && decide (ch ≤ 1048576) && decide (0 ≤ a) && decide (a ≤ 1125899906842624) && decide (data.length ≤ 65536) := rfl
  have HV := hidden hv
  clear hv hok
  by_cases hk : k = 0
  · have hv := HV.out
    rw [if_pos hk] at hv
    have HV2 := hidden hv
    clear hv HV
    have e1 : (k == 0) = true := by simpa using hk
    have eqz := EZ.out
    generalize hbz : (root == zero32) = b at *
    cases b
    all_goals
      go_enter Try.func111, Try.ntmps111
      go_wp2_with ((with_reducible refine load_lit aggSum (.tmp 20) ⟨w.heap.size, 4, none⟩ (nums .u8 root) ?_ ?_ ?_ ?_ ?_); rfl; rfl; exact (nums_length _ _).trans HL.out; exact HR.out)
      all_goals
        go_ret
        refine ⟨ret_bool ?_, HK.out⟩
        rw [HV2.out]
        symm
        simp_all
        try (rw [Bool.eq_iff_iff]; simp)
  · have hv := HV.out
    rw [if_neg hk] at hv
    have HV2 := hidden hv
    clear hv HV
    have e1 : (k == 0) = false := by simpa using hk
    go_enter Try.func111, Try.ntmps111
    go_wp2
    all_goals
      go_ret
      refine ⟨ret_bool ?_, HK.out⟩
      rw [HV2.out]
      symm
      simp_all
      try omega
set_option maxRecDepth 100000 in
set_option maxHeartbeats 8000000 in
theorem rightIn_any (x : Inp) (cs : List Value) (F : Nat → Prop) (w : World) (h : RInp w F cs x) :
    Calls Try.prog 112 #[.agg cs.toArray] w fun e w' => e = .returned (.bool (inpB x)) ∧ Kept Nob w w' := by
  obtain ⟨A, c, rfl, hi, hok⟩ := h.open_
  have hb : (w.alloc (.cells (inpCells A c x).toArray 96)).heap[w.heap.size]? = some (.cells (inpCells A c x).toArray 96 (0, 0)) := heap_alloc_new _ _
  have HK : Hid (Kept Nob w (w.alloc (.cells (inpCells A c x).toArray 96))) := hidden (Kept.alloc (Kept.refl _ _) _)
  obtain ⟨c32, c33, c34⟩ := inp_at (A := A) (c := c) hok
  have q32 : (w.alloc (.cells (inpCells A c x).toArray 96)).cell? ⟨w.heap.size, 32, none⟩ = some (.int .i64 x.at_) := (blk_cell hb 32).trans (by simpa using c32)
  have q33 : (w.alloc (.cells (inpCells A c x).toArray 96)).cell? ⟨w.heap.size, 33, none⟩ = some (.int .i64 x.way) := (blk_cell hb 33).trans (by simpa using c33)
  have q34 : (w.alloc (.cells (inpCells A c x).toArray 96)).cell? ⟨w.heap.size, 34, none⟩ = some (.slice A x.pre.length c) := (blk_cell hb 34).trans (by simpa using c34)
  have hle := hi.le
  have hmx := hi.max
  unfold maxLen at hmx
  have HV : Hid (inpB x = (decide (0 ≤ x.at_) && decide (x.at_ < 16) && decide (0 ≤ x.way) && decide (x.way < 16) && decide (x.pre.length ≤ 64))) := hidden rfl
  clear h hi hb c32 c33 c34 hok
  generalize (inpCells A c x).toArray = CS at *
  generalize inpB x = v at *
  obtain ⟨txx, at_, way, pre⟩ := x
  dsimp only at *
  go_enter Try.func112, Try.ntmps112
  go_wp2
  all_goals
    go_ret
    refine ⟨ret_bool ?_, HK.out⟩
    rw [HV.out]
    symm
    simp_all
    try omega
end Go.Proofs.Ytcghjnegaiiieaa
namespace Go.Proofs.Ytcghjnegaiiieaa
open Go.RowKit
def refCells (a : List Int) (i : Int) : List Value := nums .u8 a ++ [.int .i64 i]
theorem run_equalIn_ref (d : Nat) (a b : List Int) (i j : Int) (ha : a.length = 32) (hb : b.length = 32) (w : World) : (Op.equalIn (d + 3) 62 (.agg (refCells a i).toArray) (.agg (refCells b j).toArray)).run Try.prog w = .ok ((a == b) && (i == j)) w := by
  have hna : (nums IntKind.u8 a).length = 32 := by rw [nums_length, ha]
  have hnb : (nums IntKind.u8 b).length = 32 := by rw [nums_length, hb]
  have pa : ∀ (x : List Int) (k : Int), (nums IntKind.u8 x).length = 32 → (part 24 (refCells x k).toArray 0).run Try.prog w = .ok (.agg (nums .u8 x).toArray) w := by
    intro x k hx
    have hs : (sizeOf 24).run Try.prog w = .ok 32 w := by kernel_rfl
    have hag : (isAgg 24).run Try.prog w = .ok true w := by kernel_rfl
    simp [part, Sem.run_bind, hag, hs, refCells]
    rw [List.take_append_of_le_length (by omega), List.take_of_length_le (by omega)]
  have pb : ∀ (x : List Int) (k : Int), (nums IntKind.u8 x).length = 32 → (part 3 (refCells x k).toArray 32).run Try.prog w = .ok (.int .i64 k) w := by
    intro x k hx
    have hag : (isAgg 3).run Try.prog w = .ok false w := by kernel_rfl
    have hc : (refCells x k)[32]? = some (.int .i64 k) := by
      unfold refCells
      rw [List.getElem?_append_right (by omega), hx]; rfl
    simp [part, Sem.run_bind, hag, hc]
  have hT : Try.prog.underlying 62 = some (.struct (Try.prog.fieldsOf 62)) := by
    unfold Program.fieldsOf
    rw [Try.underlying62]
  have hst : Try.prog.stoodInHeld 62 = false := Try.stoodInHeld62
  rw [run_equalIn_agg w (d + 2) 62 _ _ hT hst]
  unfold Program.fieldsOf
  rw [Try.underlying62]
  dsimp only
  rw [Op.eqFields, if_pos (by simp), Sem.run_bind, pa a i hna, Result.andThen_ok, Sem.run_bind, pa b j hnb, Result.andThen_ok, Sem.run_bind, run_equalIn_nums w d 24 5 32 .u8 Try.underlying24 Try.underlying5 size1 a b ha hb, Result.andThen_ok]
  cases (a == b)
  · rw [if_pos (by simp), Sem.run_pure, Bool.false_and]
  · rw [if_neg (by simp), Op.eqFields, if_pos (by simp), Sem.run_bind, pb a i hna, Result.andThen_ok, Sem.run_bind, pb b j hnb, Result.andThen_ok, Sem.run_bind, run_equalIn_int w (d + 1) 3 .i64 .i64 i j Try.underlying3, Result.andThen_ok, Bool.true_and]
    cases (i == j)
    · rw [if_pos (by simp), Sem.run_pure]
    · rw [if_neg (by simp), Op.eqFields, Sem.run_pure]
theorem eqlRef (a b : List Int) (i j : Int) (ha : a.length = 32) (hb : b.length = 32) (w : World) : (binOp .eql 62 (.agg (refCells a i).toArray) (.agg (refCells b j).toArray)).run Try.prog w = .ok (.bool ((a == b) && (i == j))) w := by
  rw [run_eql_struct, run_equalIn_ref 9997 a b i j ha hb w]; rfl
theorem inp_ref {A : Option Addr} {c : Nat} {x : Inp} (j : Nat) (u : Value) (hj : (refCells x.tx x.at_)[j]? = some u) : (inpCells A c x)[j]? = some u := by
  have e : inpCells A c x = refCells x.tx x.at_ ++ [.int .i64 x.way, .slice A x.pre.length c] := by unfold inpCells refCells; simp
  have hl : j < (refCells x.tx x.at_).length := (List.getElem?_eq_some_iff.1 hj).1
  rw [e, List.getElem?_append_left hl, hj]
theorem ref_len {a : List Int} {i : Int} (h : a.length = 32) : (refCells a i).length = 33 := by simp [refCells, nums_length, h]
set_option maxRecDepth 100000 in
set_option maxHeartbeats 8000000 in
theorem right1_any (x y : Inp) (cs : List Value) (A : Option Addr) (c g : Nat) (F : Nat → Prop) (w : World) (h : RInp w F cs y) (hx : InpOk x) (hg : w.heap[g]? = some (.cells (inpCells A c x).toArray 96 (0, 0))) :
    Calls Try.prog 114 #[.agg cs.toArray, .pointer (some ⟨g, 0, none⟩)] w fun e w' => e = .returned (.bool (refB y x)) ∧ Kept Nob w w' := by
  obtain ⟨B, d, rfl, _, hok⟩ := h.open_
  have HK : Hid (Kept Nob w (w.alloc (.cells (inpCells B d y).toArray 96))) := hidden (Kept.alloc (Kept.refl _ _) _)
  have HC0 : Hid (∀ j u, (refCells y.tx y.at_)[j]? = some u → (w.alloc (.cells (inpCells B d y).toArray 96)).cell? ((⟨w.heap.size, 0, none⟩ : Addr).add j) = some u) := hidden (fun j u hj => row_cells (heap_alloc_new _ _) j u (inp_ref j u hj))
  have HC1 : Hid (∀ j u, (refCells x.tx x.at_)[j]? = some u → (w.alloc (.cells (inpCells B d y).toArray 96)).cell? ((⟨g, 0, none⟩ : Addr).add j) = some u) := hidden (fun j u hj => row_cells (blk_alloc hg _) j u (inp_ref j u hj))
  have HL0 := hidden hok.hl
  have HL1 := hidden hx.hl
  have eqr := eqlRef y.tx x.tx y.at_ x.at_ hok.hl hx.hl
  have HV : Hid (refB y x = ((y.tx == x.tx) && (y.at_ == x.at_))) := hidden rfl
  rw [HV.out]
  generalize ((y.tx == x.tx) && (y.at_ == x.at_)) = b at *
  clear h hx hg hok
  go_enter Try.func114, Try.ntmps114
  go_wp2_with (first
    | ((with_reducible refine load_lit aggRef (.tmp 4) ⟨w.heap.size, 0, none⟩ (refCells y.tx y.at_) ?_ ?_ ?_ ?_ ?_); rfl; rfl; exact ref_len HL0.out; exact HC0.out)
    | ((with_reducible refine load_lit aggRef (.tmp 6) ⟨g, 0, none⟩ (refCells x.tx x.at_) ?_ ?_ ?_ ?_ ?_); rfl; rfl; exact ref_len HL1.out; exact HC1.out))
  go_ret
  exact ⟨rfl, HK.out⟩
end Go.Proofs.Ytcghjnegaiiieaa
namespace Go.Proofs.Ytcghjnegaiiieaa
open Go.RowKit
theorem any_take_succ {α : Type} (p : α → Bool) (xs : List α) (i : Nat) (hi : i < xs.length) : (xs.take (i + 1)).any p = ((xs.take i).any p || p xs[i]) := by
  rw [List.take_succ_eq_append_getElem hi, List.any_append]; simp
theorem any_of {α : Type} (p : α → Bool) (xs : List α) (i : Nat) (hi : i < xs.length) (h : p xs[i] = true) : xs.any p = true := List.any_eq_true.2 ⟨xs[i], List.getElem_mem hi, h⟩
set_option maxRecDepth 100000 in
set_option maxHeartbeats 8000000 in
theorem index_ins (A : Option Addr) (c : Nat) (xs : List Inp) (x : Inp) (B : Option Addr) (d g : Nat) (F : Nat → Prop) (w : World) (h : Els RInp 35 w F A c xs) (hx : InpOk x) (hg : w.heap[g]? = some (.cells (inpCells B d x).toArray 96 (0, 0))) :
    Calls Try.prog 137 #[.slice A xs.length c, .func (.func 114) #[] #[.pointer (some ⟨g, 0, none⟩)]] w (IxPost (xs.any fun y => refB y x) w) := by
  have H := hidden h
  have HX := hidden hx
  have HG := hidden hg
  have hmax := h.max
  have hle := h.le
  unfold maxLen at hmax
  clear h hx hg
  go_enter Try.func137, Try.ntmps137
  go_wp2
  go_loopw [5, 8] (fun _ i wr => ∃ k : Nat, k ≤ xs.length ∧ i = .int .i64 k ∧ ((xs.take k).any fun y => refB y x) = false ∧ Kept Nob w wr) (fun _ i _ => xs.length - (intOf i).toNat)
  case atStart => exact ⟨0, Nat.zero_le _, rfl, rfl, Kept.refl _ _⟩
  case round =>
    obtain ⟨k, hk, rfl, hall, hkp⟩ := hrel
    have HALL := hidden hall
    have HKP := hidden hkp
    clear hall hkp
    by_cases hlt : k < xs.length
    · obtain ⟨ad, es, rfl, _, hl, hc, hr⟩ := (H.out.keep RInp.good HKP.out (fun _ _ h => h)).cells k hlt
      have HL := hidden hl
      have HC := hidden hc
      have HR := hidden (right1_any x xs[k] es B d g F wr hr HX.out (HKP.out.blk HG.out (fun h => h)))
      have HNO := hidden (any_of (fun y => refB y x) xs k hlt)
      have HSN := hidden (any_take_succ (fun y => refB y x) xs k hlt)
      clear hl hc hr
      generalize refB xs[k] x = b at HR HNO HSN
      cases b with
      | true =>
        go_wp2_with (first
          | (refine load_at aggInp (.tmp 14) rfl rfl _ rfl es HL.out HC.out ?_)
          | (go_at_call 114; refine HR.out.mono ?_; rintro e w1 ⟨rfl, hk1⟩; have HK1 := hidden hk1; clear hk1))
        go_ret
        exact ⟨k, rfl, by rw [HNO.out (by simp)]; simp, HKP.out.trans HK1.out⟩
      | false =>
        go_wp2_with (first
          | (refine load_at aggInp (.tmp 14) rfl rfl _ rfl es HL.out HC.out ?_)
          | (go_at_call 114; refine HR.out.mono ?_; rintro e w1 ⟨rfl, hk1⟩; have HK1 := hidden hk1; clear hk1))
        go_roundw
        case rel => exact ⟨k + 1, by omega, by go_num, by rw [HSN.out, HALL.out]; rfl, HKP.out.trans HK1.out⟩
        case measure => simp [intOf]; omega
    · obtain rfl : k = xs.length := by omega
      go_wp2
      go_ret
      refine ⟨-1, rfl, ?_, HKP.out⟩
      have := HALL.out
      rw [List.take_length] at this
      rw [this]
      rfl
set_option maxRecDepth 100000 in
set_option maxHeartbeats 8000000 in
theorem contains_ins (A : Option Addr) (c : Nat) (xs : List Inp) (x : Inp) (B : Option Addr) (d g : Nat) (F : Nat → Prop) (w : World) (h : Els RInp 35 w F A c xs) (hx : InpOk x) (hg : w.heap[g]? = some (.cells (inpCells B d x).toArray 96 (0, 0))) :
    Calls Try.prog 113 #[.slice A xs.length c, .func (.func 114) #[] #[.pointer (some ⟨g, 0, none⟩)]] w fun e w' => e = .returned (.bool (xs.any fun y => refB y x)) ∧ Kept Nob w w' := by
  have HI := hidden (index_ins A c xs x B d g F w h hx hg)
  generalize (xs.any fun y => refB y x) = b at *
  clear h hx hg
  go_enter Try.func113, Try.ntmps113
  go_wp2_with (go_at_call 137; refine HI.out.mono ?_; rintro e w1 ⟨r, rfl, hr, hk1⟩; have HK1 := hidden hk1; have HRR := hidden hr; clear hk1 hr)
  go_ret
  exact ⟨ret_bool HRR.out, HK1.out⟩
set_option maxRecDepth 100000 in
set_option maxHeartbeats 8000000 in
theorem right2_any (o : Out) (cs : List Value) (F : Nat → Prop) (w : World) (h : ROut w F cs o) :
    Calls Try.prog 116 #[.agg cs.toArray] w fun e w' => e = .returned (.bool (!outB o)) ∧ Kept Nob w w' := by
  obtain ⟨A, c, rfl, hw, _⟩ := h.open_
  have HR := hidden (rightOut_any o A c F _ (hw.keep (Kept.alloc (Kept.refl Nob w) (.cells #[.int .i64 o.amount, .slice A o.ways.length c] 38)) (fun _ _ h => h)))
  have HK : Hid (Kept Nob w (w.alloc (.cells #[.int .i64 o.amount, .slice A o.ways.length c] 38))) := hidden (Kept.alloc (Kept.refl _ _) _)
  generalize outB o = b at *
  clear h hw
  show Calls Try.prog 116 #[.agg #[.int .i64 o.amount, .slice A o.ways.length c]] w _
  go_enter Try.func116, Try.ntmps116
  go_wp2_with (go_at_call 32; refine HR.out.mono ?_; rintro e w1 ⟨rfl, hk1⟩; have HK1 := hidden hk1; clear hk1)
  go_ret
  exact ⟨rfl, HK.out.trans HK1.out⟩
set_option maxRecDepth 100000 in
set_option maxHeartbeats 8000000 in
theorem index_outs (A : Option Addr) (c : Nat) (xs : List Out) (F : Nat → Prop) (w : World) (h : Els ROut 2 w F A c xs) :
    Calls Try.prog 138 #[.slice A xs.length c, .func (.func 116) #[] #[]] w (IxPost (xs.any fun o => !outB o) w) := by
  have H := hidden h
  have hmax := h.max
  have hle := h.le
  unfold maxLen at hmax
  clear h
  go_enter Try.func138, Try.ntmps138
  go_wp2
  go_loopw [5, 8] (fun _ i wr => ∃ k : Nat, k ≤ xs.length ∧ i = .int .i64 k ∧ ((xs.take k).any fun o => !outB o) = false ∧ Kept Nob w wr) (fun _ i _ => xs.length - (intOf i).toNat)
  case atStart => exact ⟨0, Nat.zero_le _, rfl, rfl, Kept.refl _ _⟩
  case round =>
    obtain ⟨k, hk, rfl, hall, hkp⟩ := hrel
    have HALL := hidden hall
    have HKP := hidden hkp
    clear hall hkp
    by_cases hlt : k < xs.length
    · obtain ⟨ad, es, rfl, _, hl, hc, hr⟩ := (H.out.keep ROut.good HKP.out (fun _ _ h => h)).cells k hlt
      have HL := hidden hl
      have HC := hidden hc
      have HR := hidden (right2_any xs[k] es F wr hr)
      have HNO := hidden (any_of (fun o => !outB o) xs k hlt)
      have HSN := hidden (any_take_succ (fun o => !outB o) xs k hlt)
      clear hl hc hr
      generalize (!outB xs[k]) = b at HR HNO HSN
      cases b with
      | true =>
        go_wp2_with (first
          | (refine load_at aggOut (.tmp 14) rfl rfl _ rfl es HL.out HC.out ?_)
          | (go_at_call 116; refine HR.out.mono ?_; rintro e w1 ⟨rfl, hk1⟩; have HK1 := hidden hk1; clear hk1))
        go_ret
        exact ⟨k, rfl, by rw [HNO.out (by simp)]; simp, HKP.out.trans HK1.out⟩
      | false =>
        go_wp2_with (first
          | (refine load_at aggOut (.tmp 14) rfl rfl _ rfl es HL.out HC.out ?_)
          | (go_at_call 116; refine HR.out.mono ?_; rintro e w1 ⟨rfl, hk1⟩; have HK1 := hidden hk1; clear hk1))
        go_roundw
        case rel => exact ⟨k + 1, by omega, by go_num, by rw [HSN.out, HALL.out]; rfl, HKP.out.trans HK1.out⟩
        case measure => simp [intOf]; omega
    · obtain rfl : k = xs.length := by omega
      go_wp2
      go_ret
      refine ⟨-1, rfl, ?_, HKP.out⟩
      have := HALL.out
      rw [List.take_length] at this
      rw [this]
      rfl
set_option maxRecDepth 100000 in
set_option maxHeartbeats 8000000 in
theorem contains_outs (A : Option Addr) (c : Nat) (xs : List Out) (F : Nat → Prop) (w : World) (h : Els ROut 2 w F A c xs) :
    Calls Try.prog 115 #[.slice A xs.length c, .func (.func 116) #[] #[]] w fun e w' => e = .returned (.bool (!xs.all outB)) ∧ Kept Nob w w' := by
  have HI := hidden (index_outs A c xs F w h)
  have hv : (xs.any fun o => !outB o) = !xs.all outB := by rw [List.not_all_eq_any_not]
  rw [hv] at HI
  generalize (!xs.all outB) = b at *
  clear h hv
  go_enter Try.func115, Try.ntmps115
  go_wp2_with (go_at_call 138; refine HI.out.mono ?_; rintro e w1 ⟨r, rfl, hr, hk1⟩; have HK1 := hidden hk1; have HRR := hidden hr; clear hk1 hr)
  go_ret
  exact ⟨ret_bool HRR.out, HK1.out⟩
end Go.Proofs.Ytcghjnegaiiieaa

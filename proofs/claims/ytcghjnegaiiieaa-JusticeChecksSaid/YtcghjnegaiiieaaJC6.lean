/- Part 6 of the texts that LawJusticeChecks needs, pruned and joined. -/
import Derived.Test.YtcghjnegaiiieaaJC5
set_option linter.unusedSimpArgs false
namespace Go.Proofs.Ytcghjnegaiiieaa
open Go.RowKit
set_option maxRecDepth 100000 in
set_option maxHeartbeats 4000000 in
theorem ownerIns_ap (c : Chan) (I : List Inp) (O : List Out) (o : Opx) (g : List Sgn) (h : ((I.length : Int) != 1) = true) : AP Try.prog 56 [cChan c, cTxx ⟨I, O, o, g⟩] [ic .i64 (-1)] := by
  refine ap_of (fun _ _ => Try.call56 _ _) Try.func56 rfl Try.ntmps56 (by simp) (zs := [RZ.mk 4 none]) (by kernel_rfl) (fun w F => ?_)
  simp only [List.map_cons, List.map_nil, argT, Nat.reduceAdd]
  refine at_seq fun K1 hK1 => ?_
  refine at_region [It.mk (some 2) none (IK.box (Operand.tmp 0)), It.mk (some 3) none (IK.box (Operand.tmp 1)), It.mk (some 4) none (IK.p (PK.mov (Operand.const (Value.int IntKind.i64 0))))] (by kernel_rfl) ?_
  simp (maxSteps:=999999) (disch:=omega) only [av1, av2, av3, av4, av5, av6, eq_self, exists_const, forall_const, implies_true, storeOk, thenQ, PK.cond, PK.val, Nat.reduceAdd, Nat.reduceLT, Nat.reduceMul, reduceCtorEq, ↓reduceIte, Nat.reduceEqDiff, Nat.reduceLeDiff, Nat.reduceSub, Nat.reduceBEq, Nat.reduceBNe, Int.reduceLT, Int.reduceEq, Int.reduceAdd, Int.reduceToNat, Int.reduceLE, Int.reduceBEq, Int.reduceBNe, enc1, cChan, cCSt, eqTy_Sum, eqTy_Ref, h]
  (repeat ((with_reducible refine And.intro ?_ ?_); (first | trivial | assumption | omega | (simp; done))))
  refine hK1 _ ?_
  (try clear hK1)
  refine at_seq fun K2 hK2 => ?_
  refine at_seq fun K3 hK3 => ?_
  refine at_draws [] (by kernel_rfl) ?_
  refine ag_pures (fuel := 0) [0, 1, 2, 3, 4, 5, 6, 7, 8, 9, 10, 11, 12, 13, 14, 15, 16, 17, 18, 19, 20, 21, 22, 23, 24, 25, 26, 27, 28, 29, 30, 31, 32, 33, 34] [It.mk (some 10) none (IK.p (PK.fAddr (Operand.tmp 3) 0 0)), It.mk (some 11) none (IK.p (PK.load (Operand.tmp 10) 1 false)), It.mk (some 12) none (IK.p (PK.len false (Operand.tmp 11))), It.mk (some 13) none (IK.p (PK.bin BinOp.neq (Operand.tmp 12) (Operand.const (Value.int IntKind.i64 1)))), It.mk (some 14) none (IK.p (PK.mov (Operand.tmp 13))), It.mk (some 15) (some (14, false)) (IK.p (PK.fAddr (Operand.tmp 3) 0 0)), It.mk (some 16) (some (14, false)) (IK.p (PK.load (Operand.tmp 15) 1 false)), It.mk (some 17) (some (14, false)) (IK.p (PK.iAddrS (Operand.tmp 16) (Operand.const (Value.int IntKind.i64 0)) 35)), It.mk (some 18) (some (14, false)) (IK.p (PK.fAddr (Operand.tmp 17) 0 0)), It.mk (some 19) (some (14, false)) (IK.p (PK.load (Operand.tmp 18) 33 true)), It.mk (some 20) (some (14, false)) (IK.p (PK.fAddr (Operand.tmp 2) 3 3)), It.mk (some 21) (some (14, false)) (IK.p (PK.load (Operand.tmp 20) 33 true)), It.mk (some 22) (some (14, false)) (IK.p (PK.eqA true 62 (Sh.st [Sh.a IntKind.u8 32, Sh.i]) (Operand.tmp 19) (Operand.tmp 21))), It.mk (some 23) none (IK.p (PK.pick (Operand.tmp 14) (Operand.const (Value.bool true)) (Operand.tmp 22))), It.mk (some 24) none (IK.p (PK.mov (Operand.tmp 23))), It.mk (some 25) (some (24, false)) (IK.p (PK.fAddr (Operand.tmp 3) 1 1)), It.mk (some 26) (some (24, false)) (IK.p (PK.load (Operand.tmp 25) 1 false)), It.mk (some 27) (some (24, false)) (IK.p (PK.len false (Operand.tmp 26))), It.mk (some 28) (some (24, false)) (IK.p (PK.bin BinOp.neq (Operand.tmp 27) (Operand.const (Value.int IntKind.i64 2)))), It.mk (some 29) none (IK.p (PK.pick (Operand.tmp 24) (Operand.const (Value.bool true)) (Operand.tmp 28))), It.mk (some 30) none (IK.p (PK.mov (Operand.tmp 29))), It.mk (some 31) (some (30, false)) (IK.p (PK.fAddr (Operand.tmp 3) 1 1)), It.mk (some 32) (some (30, false)) (IK.p (PK.load (Operand.tmp 31) 1 false)), It.mk (some 33) (some (30, false)) (IK.p (PK.iAddrS (Operand.tmp 32) (Operand.const (Value.int IntKind.i64 0)) 2)), It.mk (some 34) (some (30, false)) (IK.p (PK.fAddr (Operand.tmp 33) 1 1)), It.mk (some 35) (some (30, false)) (IK.p (PK.load (Operand.tmp 34) 1 false)), It.mk (some 36) (some (30, false)) (IK.p (PK.len false (Operand.tmp 35))), It.mk (some 37) (some (30, false)) (IK.p (PK.bin BinOp.neq (Operand.tmp 36) (Operand.const (Value.int IntKind.i64 2)))), It.mk (some 38) none (IK.p (PK.pick (Operand.tmp 30) (Operand.const (Value.bool true)) (Operand.tmp 37))), It.mk (some 39) none (IK.p (PK.mov (Operand.tmp 38))), It.mk (some 40) (some (39, false)) (IK.p (PK.fAddr (Operand.tmp 3) 2 2)), It.mk (some 41) (some (39, false)) (IK.p (PK.fAddr (Operand.tmp 40) 0 0)), It.mk (some 42) (some (39, false)) (IK.p (PK.load (Operand.tmp 41) 1 false)), It.mk (some 43) (some (39, false)) (IK.p (PK.bin BinOp.neq (Operand.tmp 42) (Operand.const (Value.int IntKind.i64 0)))), It.mk (some 44) none (IK.p (PK.pick (Operand.tmp 39) (Operand.const (Value.bool true)) (Operand.tmp 43)))] (by kernel_rfl) (by kernel_rfl) (by kernel_rfl) (by kernel_rfl) (hideZ_nil _ 0) (fun K4 hK4 => ?_)
  simp (maxSteps:=999999) (disch:=omega) only [av1, av2, av3, av4, av5, av6, eq_self, exists_const, forall_const, implies_true, storeOk, thenQ, PK.cond, PK.val, Nat.reduceAdd, Nat.reduceLT, Nat.reduceMul, reduceCtorEq, ↓reduceIte, Nat.reduceEqDiff, Nat.reduceLeDiff, Nat.reduceSub, Nat.reduceBEq, Nat.reduceBNe, Int.reduceLT, Int.reduceEq, Int.reduceAdd, Int.reduceToNat, Int.reduceLE, Int.reduceBEq, Int.reduceBNe, enc1, cChan, cCSt, eqTy_Sum, eqTy_Ref, h]
  (repeat ((with_reducible refine And.intro ?_ ?_); (first | trivial | assumption | omega | (simp; done))))
  refine hK4 _ ?_
  (try clear hK4)
  refine ag_done (by kernel_rfl) ?_
  (try simp only [thenQ])
  refine hK3 _ ?_
  (try clear hK3)
  refine at_cond _ rfl rfl (fun h5 => ?_) (fun h5 => ?_)
  · have r5 := h5
    (try simp only [dB2] at h5)
    refine at_seq fun K6 hK6 => ?_
    refine at_region [It.mk (some 4) none (IK.p (PK.mov (Operand.const (Value.int IntKind.i64 (-1)))))] (by kernel_rfl) ?_
    simp (maxSteps:=999999) (disch:=omega) only [av1, av2, av3, av4, av5, av6, eq_self, exists_const, forall_const, implies_true, storeOk, thenQ, PK.cond, PK.val, Nat.reduceAdd, Nat.reduceLT, Nat.reduceMul, reduceCtorEq, ↓reduceIte, Nat.reduceEqDiff, Nat.reduceLeDiff, Nat.reduceSub, Nat.reduceBEq, Nat.reduceBNe, Int.reduceLT, Int.reduceEq, Int.reduceAdd, Int.reduceToNat, Int.reduceLE, Int.reduceBEq, Int.reduceBNe, enc1, cChan, cCSt, eqTy_Sum, eqTy_Ref, h]
    (repeat ((with_reducible refine And.intro ?_ ?_); (first | trivial | assumption | omega | (simp; done))))
    refine hK6 _ ?_
    (try clear hK6)
    refine at_ret ?_
    simp (maxSteps:=999999) (disch:=omega) only [av1, av2, av3, av4, av5, av6, eq_self, exists_const, forall_const, implies_true, storeOk, thenQ, PK.cond, PK.val, Nat.reduceAdd, Nat.reduceLT, Nat.reduceMul, reduceCtorEq, ↓reduceIte, Nat.reduceEqDiff, Nat.reduceLeDiff, Nat.reduceSub, Nat.reduceBEq, Nat.reduceBNe, Int.reduceLT, Int.reduceEq, Int.reduceAdd, Int.reduceToNat, Int.reduceLE, Int.reduceBEq, Int.reduceBNe, enc1, cChan, cCSt, eqTy_Sum, eqTy_Ref, h, blockQ, retQ, RetOk, ResOk, AV.fin, AV.fins, CV.le, CV.les]
    (first | rfl | trace_state)
  · have r5 := h5
    (try simp only [dB2] at h5)
    simp at h5
set_option maxRecDepth 100000 in
set_option maxHeartbeats 4000000 in
theorem ownerOuts_ap (c : Chan) (x : Inp) (O : List Out) (o : Opx) (g : List Sgn) (h : ((O.length : Int) != 2) = true) : AP Try.prog 56 [cChan c, cTxx ⟨[x], O, o, g⟩] [ic .i64 (-1)] := by
  refine ap_of (fun _ _ => Try.call56 _ _) Try.func56 rfl Try.ntmps56 (by simp) (zs := [RZ.mk 4 none]) (by kernel_rfl) (fun w F => ?_)
  simp only [List.map_cons, List.map_nil, argT, Nat.reduceAdd]
  refine at_seq fun K1 hK1 => ?_
  refine at_region [It.mk (some 2) none (IK.box (Operand.tmp 0)), It.mk (some 3) none (IK.box (Operand.tmp 1)), It.mk (some 4) none (IK.p (PK.mov (Operand.const (Value.int IntKind.i64 0))))] (by kernel_rfl) ?_
  simp (maxSteps:=999999) (disch:=omega) only [av1, av2, av3, av4, av5, av6, eq_self, exists_const, forall_const, implies_true, storeOk, thenQ, PK.cond, PK.val, Nat.reduceAdd, Nat.reduceLT, Nat.reduceMul, reduceCtorEq, ↓reduceIte, Nat.reduceEqDiff, Nat.reduceLeDiff, Nat.reduceSub, Nat.reduceBEq, Nat.reduceBNe, Int.reduceLT, Int.reduceEq, Int.reduceAdd, Int.reduceToNat, Int.reduceLE, Int.reduceBEq, Int.reduceBNe, enc1, cChan, cCSt, eqTy_Sum, eqTy_Ref, h]
  (repeat ((with_reducible refine And.intro ?_ ?_); (first | trivial | assumption | omega | (simp; done))))
  refine hK1 _ ?_
  (try clear hK1)
  refine at_seq fun K2 hK2 => ?_
  refine at_seq fun K3 hK3 => ?_
  refine at_draws [] (by kernel_rfl) ?_
  refine ag_pures (fuel := 0) [0, 1, 2, 3, 4, 5, 6, 7, 8, 9, 10, 11, 12, 13, 14, 15, 16, 17, 18, 19, 20, 21, 22, 23, 24, 25, 26, 27, 28, 29, 30, 31, 32, 33, 34] [It.mk (some 10) none (IK.p (PK.fAddr (Operand.tmp 3) 0 0)), It.mk (some 11) none (IK.p (PK.load (Operand.tmp 10) 1 false)), It.mk (some 12) none (IK.p (PK.len false (Operand.tmp 11))), It.mk (some 13) none (IK.p (PK.bin BinOp.neq (Operand.tmp 12) (Operand.const (Value.int IntKind.i64 1)))), It.mk (some 14) none (IK.p (PK.mov (Operand.tmp 13))), It.mk (some 15) (some (14, false)) (IK.p (PK.fAddr (Operand.tmp 3) 0 0)), It.mk (some 16) (some (14, false)) (IK.p (PK.load (Operand.tmp 15) 1 false)), It.mk (some 17) (some (14, false)) (IK.p (PK.iAddrS (Operand.tmp 16) (Operand.const (Value.int IntKind.i64 0)) 35)), It.mk (some 18) (some (14, false)) (IK.p (PK.fAddr (Operand.tmp 17) 0 0)), It.mk (some 19) (some (14, false)) (IK.p (PK.load (Operand.tmp 18) 33 true)), It.mk (some 20) (some (14, false)) (IK.p (PK.fAddr (Operand.tmp 2) 3 3)), It.mk (some 21) (some (14, false)) (IK.p (PK.load (Operand.tmp 20) 33 true)), It.mk (some 22) (some (14, false)) (IK.p (PK.eqA true 62 (Sh.st [Sh.a IntKind.u8 32, Sh.i]) (Operand.tmp 19) (Operand.tmp 21))), It.mk (some 23) none (IK.p (PK.pick (Operand.tmp 14) (Operand.const (Value.bool true)) (Operand.tmp 22))), It.mk (some 24) none (IK.p (PK.mov (Operand.tmp 23))), It.mk (some 25) (some (24, false)) (IK.p (PK.fAddr (Operand.tmp 3) 1 1)), It.mk (some 26) (some (24, false)) (IK.p (PK.load (Operand.tmp 25) 1 false)), It.mk (some 27) (some (24, false)) (IK.p (PK.len false (Operand.tmp 26))), It.mk (some 28) (some (24, false)) (IK.p (PK.bin BinOp.neq (Operand.tmp 27) (Operand.const (Value.int IntKind.i64 2)))), It.mk (some 29) none (IK.p (PK.pick (Operand.tmp 24) (Operand.const (Value.bool true)) (Operand.tmp 28))), It.mk (some 30) none (IK.p (PK.mov (Operand.tmp 29))), It.mk (some 31) (some (30, false)) (IK.p (PK.fAddr (Operand.tmp 3) 1 1)), It.mk (some 32) (some (30, false)) (IK.p (PK.load (Operand.tmp 31) 1 false)), It.mk (some 33) (some (30, false)) (IK.p (PK.iAddrS (Operand.tmp 32) (Operand.const (Value.int IntKind.i64 0)) 2)), It.mk (some 34) (some (30, false)) (IK.p (PK.fAddr (Operand.tmp 33) 1 1)), It.mk (some 35) (some (30, false)) (IK.p (PK.load (Operand.tmp 34) 1 false)), It.mk (some 36) (some (30, false)) (IK.p (PK.len false (Operand.tmp 35))), It.mk (some 37) (some (30, false)) (IK.p (PK.bin BinOp.neq (Operand.tmp 36) (Operand.const (Value.int IntKind.i64 2)))), It.mk (some 38) none (IK.p (PK.pick (Operand.tmp 30) (Operand.const (Value.bool true)) (Operand.tmp 37))), It.mk (some 39) none (IK.p (PK.mov (Operand.tmp 38))), It.mk (some 40) (some (39, false)) (IK.p (PK.fAddr (Operand.tmp 3) 2 2)), It.mk (some 41) (some (39, false)) (IK.p (PK.fAddr (Operand.tmp 40) 0 0)), It.mk (some 42) (some (39, false)) (IK.p (PK.load (Operand.tmp 41) 1 false)), It.mk (some 43) (some (39, false)) (IK.p (PK.bin BinOp.neq (Operand.tmp 42) (Operand.const (Value.int IntKind.i64 0)))), It.mk (some 44) none (IK.p (PK.pick (Operand.tmp 39) (Operand.const (Value.bool true)) (Operand.tmp 43)))] (by kernel_rfl) (by kernel_rfl) (by kernel_rfl) (by kernel_rfl) (hideZ_nil _ 0) (fun K4 hK4 => ?_)
  simp (maxSteps:=999999) (disch:=omega) only [av1, av2, av3, av4, av5, av6, eq_self, exists_const, forall_const, implies_true, storeOk, thenQ, PK.cond, PK.val, Nat.reduceAdd, Nat.reduceLT, Nat.reduceMul, reduceCtorEq, ↓reduceIte, Nat.reduceEqDiff, Nat.reduceLeDiff, Nat.reduceSub, Nat.reduceBEq, Nat.reduceBNe, Int.reduceLT, Int.reduceEq, Int.reduceAdd, Int.reduceToNat, Int.reduceLE, Int.reduceBEq, Int.reduceBNe, enc1, cChan, cCSt, eqTy_Sum, eqTy_Ref, h]
  (repeat ((with_reducible refine And.intro ?_ ?_); (first | trivial | assumption | omega | (simp; done))))
  refine hK4 _ ?_
  (try clear hK4)
  refine ag_done (by kernel_rfl) ?_
  (try simp only [thenQ])
  refine hK3 _ ?_
  (try clear hK3)
  refine at_cond _ rfl rfl (fun h5 => ?_) (fun h5 => ?_)
  · have r5 := h5
    (try simp only [dB2] at h5)
    refine at_seq fun K6 hK6 => ?_
    refine at_region [It.mk (some 4) none (IK.p (PK.mov (Operand.const (Value.int IntKind.i64 (-1)))))] (by kernel_rfl) ?_
    simp (maxSteps:=999999) (disch:=omega) only [av1, av2, av3, av4, av5, av6, eq_self, exists_const, forall_const, implies_true, storeOk, thenQ, PK.cond, PK.val, Nat.reduceAdd, Nat.reduceLT, Nat.reduceMul, reduceCtorEq, ↓reduceIte, Nat.reduceEqDiff, Nat.reduceLeDiff, Nat.reduceSub, Nat.reduceBEq, Nat.reduceBNe, Int.reduceLT, Int.reduceEq, Int.reduceAdd, Int.reduceToNat, Int.reduceLE, Int.reduceBEq, Int.reduceBNe, enc1, cChan, cCSt, eqTy_Sum, eqTy_Ref, h]
    (repeat ((with_reducible refine And.intro ?_ ?_); (first | trivial | assumption | omega | (simp; done))))
    refine hK6 _ ?_
    (try clear hK6)
    refine at_ret ?_
    simp (maxSteps:=999999) (disch:=omega) only [av1, av2, av3, av4, av5, av6, eq_self, exists_const, forall_const, implies_true, storeOk, thenQ, PK.cond, PK.val, Nat.reduceAdd, Nat.reduceLT, Nat.reduceMul, reduceCtorEq, ↓reduceIte, Nat.reduceEqDiff, Nat.reduceLeDiff, Nat.reduceSub, Nat.reduceBEq, Nat.reduceBNe, Int.reduceLT, Int.reduceEq, Int.reduceAdd, Int.reduceToNat, Int.reduceLE, Int.reduceBEq, Int.reduceBNe, enc1, cChan, cCSt, eqTy_Sum, eqTy_Ref, h, blockQ, retQ, RetOk, ResOk, AV.fin, AV.fins, CV.le, CV.les]
    (first | rfl | trace_state)
  · have r5 := h5
    (try simp only [dB2] at h5)
    simp at h5
set_option maxRecDepth 100000 in
set_option maxHeartbeats 4000000 in
theorem ownerHead_ap (c : Chan) (x : Inp) (a : Int) (W : List Way) (b : Out) (o : Opx) (g : List Sgn) (h : ¬ (x.tx = c.ft ∧ x.at_ = c.fa ∧ W.length = 2 ∧ o.kind = 0)) : AP Try.prog 56 [cChan c, cTxx ⟨[x], [⟨a, W⟩, b], o, g⟩] [ic .i64 (-1)] := by
  refine ap_of (fun _ _ => Try.call56 _ _) Try.func56 rfl Try.ntmps56 (by simp) (zs := [RZ.mk 4 none]) (by kernel_rfl) (fun w F => ?_)
  simp only [List.map_cons, List.map_nil, argT, Nat.reduceAdd]
  refine at_seq fun K1 hK1 => ?_
  refine at_region [It.mk (some 2) none (IK.box (Operand.tmp 0)), It.mk (some 3) none (IK.box (Operand.tmp 1)), It.mk (some 4) none (IK.p (PK.mov (Operand.const (Value.int IntKind.i64 0))))] (by kernel_rfl) ?_
  simp (maxSteps:=999999) (disch:=omega) only [av1, av2, av3, av4, av5, av6, eq_self, exists_const, forall_const, implies_true, storeOk, thenQ, PK.cond, PK.val, Nat.reduceAdd, Nat.reduceLT, Nat.reduceMul, reduceCtorEq, ↓reduceIte, Nat.reduceEqDiff, Nat.reduceLeDiff, Nat.reduceSub, Nat.reduceBEq, Nat.reduceBNe, Int.reduceLT, Int.reduceEq, Int.reduceAdd, Int.reduceToNat, Int.reduceLE, Int.reduceBEq, Int.reduceBNe, enc1, cChan, cCSt, eqTy_Sum, eqTy_Ref]
  (repeat ((with_reducible refine And.intro ?_ ?_); (first | trivial | assumption | omega | (simp; done))))
  refine hK1 _ ?_
  (try clear hK1)
  refine at_seq fun K2 hK2 => ?_
  refine at_seq fun K3 hK3 => ?_
  refine at_draws [] (by kernel_rfl) ?_
  refine ag_pures (fuel := 0) [0, 1, 2, 3, 4, 5, 6, 7, 8, 9, 10, 11, 12, 13, 14, 15, 16, 17, 18, 19, 20, 21, 22, 23, 24, 25, 26, 27, 28, 29, 30, 31, 32, 33, 34] [It.mk (some 10) none (IK.p (PK.fAddr (Operand.tmp 3) 0 0)), It.mk (some 11) none (IK.p (PK.load (Operand.tmp 10) 1 false)), It.mk (some 12) none (IK.p (PK.len false (Operand.tmp 11))), It.mk (some 13) none (IK.p (PK.bin BinOp.neq (Operand.tmp 12) (Operand.const (Value.int IntKind.i64 1)))), It.mk (some 14) none (IK.p (PK.mov (Operand.tmp 13))), It.mk (some 15) (some (14, false)) (IK.p (PK.fAddr (Operand.tmp 3) 0 0)), It.mk (some 16) (some (14, false)) (IK.p (PK.load (Operand.tmp 15) 1 false)), It.mk (some 17) (some (14, false)) (IK.p (PK.iAddrS (Operand.tmp 16) (Operand.const (Value.int IntKind.i64 0)) 35)), It.mk (some 18) (some (14, false)) (IK.p (PK.fAddr (Operand.tmp 17) 0 0)), It.mk (some 19) (some (14, false)) (IK.p (PK.load (Operand.tmp 18) 33 true)), It.mk (some 20) (some (14, false)) (IK.p (PK.fAddr (Operand.tmp 2) 3 3)), It.mk (some 21) (some (14, false)) (IK.p (PK.load (Operand.tmp 20) 33 true)), It.mk (some 22) (some (14, false)) (IK.p (PK.eqA true 62 (Sh.st [Sh.a IntKind.u8 32, Sh.i]) (Operand.tmp 19) (Operand.tmp 21))), It.mk (some 23) none (IK.p (PK.pick (Operand.tmp 14) (Operand.const (Value.bool true)) (Operand.tmp 22))), It.mk (some 24) none (IK.p (PK.mov (Operand.tmp 23))), It.mk (some 25) (some (24, false)) (IK.p (PK.fAddr (Operand.tmp 3) 1 1)), It.mk (some 26) (some (24, false)) (IK.p (PK.load (Operand.tmp 25) 1 false)), It.mk (some 27) (some (24, false)) (IK.p (PK.len false (Operand.tmp 26))), It.mk (some 28) (some (24, false)) (IK.p (PK.bin BinOp.neq (Operand.tmp 27) (Operand.const (Value.int IntKind.i64 2)))), It.mk (some 29) none (IK.p (PK.pick (Operand.tmp 24) (Operand.const (Value.bool true)) (Operand.tmp 28))), It.mk (some 30) none (IK.p (PK.mov (Operand.tmp 29))), It.mk (some 31) (some (30, false)) (IK.p (PK.fAddr (Operand.tmp 3) 1 1)), It.mk (some 32) (some (30, false)) (IK.p (PK.load (Operand.tmp 31) 1 false)), It.mk (some 33) (some (30, false)) (IK.p (PK.iAddrS (Operand.tmp 32) (Operand.const (Value.int IntKind.i64 0)) 2)), It.mk (some 34) (some (30, false)) (IK.p (PK.fAddr (Operand.tmp 33) 1 1)), It.mk (some 35) (some (30, false)) (IK.p (PK.load (Operand.tmp 34) 1 false)), It.mk (some 36) (some (30, false)) (IK.p (PK.len false (Operand.tmp 35))), It.mk (some 37) (some (30, false)) (IK.p (PK.bin BinOp.neq (Operand.tmp 36) (Operand.const (Value.int IntKind.i64 2)))), It.mk (some 38) none (IK.p (PK.pick (Operand.tmp 30) (Operand.const (Value.bool true)) (Operand.tmp 37))), It.mk (some 39) none (IK.p (PK.mov (Operand.tmp 38))), It.mk (some 40) (some (39, false)) (IK.p (PK.fAddr (Operand.tmp 3) 2 2)), It.mk (some 41) (some (39, false)) (IK.p (PK.fAddr (Operand.tmp 40) 0 0)), It.mk (some 42) (some (39, false)) (IK.p (PK.load (Operand.tmp 41) 1 false)), It.mk (some 43) (some (39, false)) (IK.p (PK.bin BinOp.neq (Operand.tmp 42) (Operand.const (Value.int IntKind.i64 0)))), It.mk (some 44) none (IK.p (PK.pick (Operand.tmp 39) (Operand.const (Value.bool true)) (Operand.tmp 43)))] (by kernel_rfl) (by kernel_rfl) (by kernel_rfl) (by kernel_rfl) (hideZ_nil _ 0) (fun K4 hK4 => ?_)
  simp (maxSteps:=999999) (disch:=omega) only [av1, av2, av3, av4, av5, av6, eq_self, exists_const, forall_const, implies_true, storeOk, thenQ, PK.cond, PK.val, Nat.reduceAdd, Nat.reduceLT, Nat.reduceMul, reduceCtorEq, ↓reduceIte, Nat.reduceEqDiff, Nat.reduceLeDiff, Nat.reduceSub, Nat.reduceBEq, Nat.reduceBNe, Int.reduceLT, Int.reduceEq, Int.reduceAdd, Int.reduceToNat, Int.reduceLE, Int.reduceBEq, Int.reduceBNe, enc1, cChan, cCSt, eqTy_Sum, eqTy_Ref]
  (repeat ((with_reducible refine And.intro ?_ ?_); (first | trivial | assumption | omega | (simp; done))))
  refine hK4 _ ?_
  (try clear hK4)
  refine ag_done (by kernel_rfl) ?_
  (try simp only [thenQ])
  refine hK3 _ ?_
  (try clear hK3)
  refine at_cond _ rfl rfl (fun h5 => ?_) (fun h5 => ?_)
  · have r5 := h5
    (try simp only [dB2] at h5)
    refine at_seq fun K6 hK6 => ?_
    refine at_region [It.mk (some 4) none (IK.p (PK.mov (Operand.const (Value.int IntKind.i64 (-1)))))] (by kernel_rfl) ?_
    simp (maxSteps:=999999) (disch:=omega) only [av1, av2, av3, av4, av5, av6, eq_self, exists_const, forall_const, implies_true, storeOk, thenQ, PK.cond, PK.val, Nat.reduceAdd, Nat.reduceLT, Nat.reduceMul, reduceCtorEq, ↓reduceIte, Nat.reduceEqDiff, Nat.reduceLeDiff, Nat.reduceSub, Nat.reduceBEq, Nat.reduceBNe, Int.reduceLT, Int.reduceEq, Int.reduceAdd, Int.reduceToNat, Int.reduceLE, Int.reduceBEq, Int.reduceBNe, enc1, cChan, cCSt, eqTy_Sum, eqTy_Ref]
    (repeat ((with_reducible refine And.intro ?_ ?_); (first | trivial | assumption | omega | (simp; done))))
    refine hK6 _ ?_
    (try clear hK6)
    refine at_ret ?_
    simp (maxSteps:=999999) (disch:=omega) only [av1, av2, av3, av4, av5, av6, eq_self, exists_const, forall_const, implies_true, storeOk, thenQ, PK.cond, PK.val, Nat.reduceAdd, Nat.reduceLT, Nat.reduceMul, reduceCtorEq, ↓reduceIte, Nat.reduceEqDiff, Nat.reduceLeDiff, Nat.reduceSub, Nat.reduceBEq, Nat.reduceBNe, Int.reduceLT, Int.reduceEq, Int.reduceAdd, Int.reduceToNat, Int.reduceLE, Int.reduceBEq, Int.reduceBNe, enc1, cChan, cCSt, eqTy_Sum, eqTy_Ref, blockQ, retQ, RetOk, ResOk, AV.fin, AV.fins, CV.le, CV.les]
    (first | rfl | trace_state)
  · have r5 := h5
    (try simp only [dB2] at h5)
    (obtain ⟨⟨⟨e1, e2⟩, e3⟩, e4⟩ := h5; exact absurd ⟨e1, e2, by omega, e4⟩ h)
set_option maxRecDepth 100000 in
set_option maxHeartbeats 4000000 in
theorem ownerOwn_ap (c : Chan) (x : Inp) (a : Int) (p q : Way) (b : Out) (o : Opx) (g : List Sgn) (hi : ((p.keys.length : Int) == 1) = false) (hx : x.tx = c.ft) (hx2 : x.at_ = c.fa) (ho : o.kind = 0) : AP Try.prog 56 [cChan c, cTxx ⟨[x], [⟨a, [p, q]⟩, b], o, g⟩] [ic .i64 (-1)] := by
  refine ap_of (fun _ _ => Try.call56 _ _) Try.func56 rfl Try.ntmps56 (by simp) (zs := [RZ.mk 4 none]) (by kernel_rfl) (fun w F => ?_)
  simp only [List.map_cons, List.map_nil, argT, Nat.reduceAdd]
  refine at_seq fun K1 hK1 => ?_
  refine at_region [It.mk (some 2) none (IK.box (Operand.tmp 0)), It.mk (some 3) none (IK.box (Operand.tmp 1)), It.mk (some 4) none (IK.p (PK.mov (Operand.const (Value.int IntKind.i64 0))))] (by kernel_rfl) ?_
  simp (maxSteps:=999999) (disch:=omega) only [av1, av2, av3, av4, av5, av6, eq_self, exists_const, forall_const, implies_true, storeOk, thenQ, PK.cond, PK.val, Nat.reduceAdd, Nat.reduceLT, Nat.reduceMul, reduceCtorEq, ↓reduceIte, Nat.reduceEqDiff, Nat.reduceLeDiff, Nat.reduceSub, Nat.reduceBEq, Nat.reduceBNe, Int.reduceLT, Int.reduceEq, Int.reduceAdd, Int.reduceToNat, Int.reduceLE, Int.reduceBEq, Int.reduceBNe, enc1, cChan, cCSt, eqTy_Sum, eqTy_Ref, hx, hx2, ho, hi]
  (repeat ((with_reducible refine And.intro ?_ ?_); (first | trivial | assumption | omega | (simp; done))))
  refine hK1 _ ?_
  (try clear hK1)
  refine at_seq fun K2 hK2 => ?_
  refine at_seq fun K3 hK3 => ?_
  refine at_draws [] (by kernel_rfl) ?_
  refine ag_pures (fuel := 0) [0, 1, 2, 3, 4, 5, 6, 7, 8, 9, 10, 11, 12, 13, 14, 15, 16, 17, 18, 19, 20, 21, 22, 23, 24, 25, 26, 27, 28, 29, 30, 31, 32, 33, 34] [It.mk (some 10) none (IK.p (PK.fAddr (Operand.tmp 3) 0 0)), It.mk (some 11) none (IK.p (PK.load (Operand.tmp 10) 1 false)), It.mk (some 12) none (IK.p (PK.len false (Operand.tmp 11))), It.mk (some 13) none (IK.p (PK.bin BinOp.neq (Operand.tmp 12) (Operand.const (Value.int IntKind.i64 1)))), It.mk (some 14) none (IK.p (PK.mov (Operand.tmp 13))), It.mk (some 15) (some (14, false)) (IK.p (PK.fAddr (Operand.tmp 3) 0 0)), It.mk (some 16) (some (14, false)) (IK.p (PK.load (Operand.tmp 15) 1 false)), It.mk (some 17) (some (14, false)) (IK.p (PK.iAddrS (Operand.tmp 16) (Operand.const (Value.int IntKind.i64 0)) 35)), It.mk (some 18) (some (14, false)) (IK.p (PK.fAddr (Operand.tmp 17) 0 0)), It.mk (some 19) (some (14, false)) (IK.p (PK.load (Operand.tmp 18) 33 true)), It.mk (some 20) (some (14, false)) (IK.p (PK.fAddr (Operand.tmp 2) 3 3)), It.mk (some 21) (some (14, false)) (IK.p (PK.load (Operand.tmp 20) 33 true)), It.mk (some 22) (some (14, false)) (IK.p (PK.eqA true 62 (Sh.st [Sh.a IntKind.u8 32, Sh.i]) (Operand.tmp 19) (Operand.tmp 21))), It.mk (some 23) none (IK.p (PK.pick (Operand.tmp 14) (Operand.const (Value.bool true)) (Operand.tmp 22))), It.mk (some 24) none (IK.p (PK.mov (Operand.tmp 23))), It.mk (some 25) (some (24, false)) (IK.p (PK.fAddr (Operand.tmp 3) 1 1)), It.mk (some 26) (some (24, false)) (IK.p (PK.load (Operand.tmp 25) 1 false)), It.mk (some 27) (some (24, false)) (IK.p (PK.len false (Operand.tmp 26))), It.mk (some 28) (some (24, false)) (IK.p (PK.bin BinOp.neq (Operand.tmp 27) (Operand.const (Value.int IntKind.i64 2)))), It.mk (some 29) none (IK.p (PK.pick (Operand.tmp 24) (Operand.const (Value.bool true)) (Operand.tmp 28))), It.mk (some 30) none (IK.p (PK.mov (Operand.tmp 29))), It.mk (some 31) (some (30, false)) (IK.p (PK.fAddr (Operand.tmp 3) 1 1)), It.mk (some 32) (some (30, false)) (IK.p (PK.load (Operand.tmp 31) 1 false)), It.mk (some 33) (some (30, false)) (IK.p (PK.iAddrS (Operand.tmp 32) (Operand.const (Value.int IntKind.i64 0)) 2)), It.mk (some 34) (some (30, false)) (IK.p (PK.fAddr (Operand.tmp 33) 1 1)), It.mk (some 35) (some (30, false)) (IK.p (PK.load (Operand.tmp 34) 1 false)), It.mk (some 36) (some (30, false)) (IK.p (PK.len false (Operand.tmp 35))), It.mk (some 37) (some (30, false)) (IK.p (PK.bin BinOp.neq (Operand.tmp 36) (Operand.const (Value.int IntKind.i64 2)))), It.mk (some 38) none (IK.p (PK.pick (Operand.tmp 30) (Operand.const (Value.bool true)) (Operand.tmp 37))), It.mk (some 39) none (IK.p (PK.mov (Operand.tmp 38))), It.mk (some 40) (some (39, false)) (IK.p (PK.fAddr (Operand.tmp 3) 2 2)), It.mk (some 41) (some (39, false)) (IK.p (PK.fAddr (Operand.tmp 40) 0 0)), It.mk (some 42) (some (39, false)) (IK.p (PK.load (Operand.tmp 41) 1 false)), It.mk (some 43) (some (39, false)) (IK.p (PK.bin BinOp.neq (Operand.tmp 42) (Operand.const (Value.int IntKind.i64 0)))), It.mk (some 44) none (IK.p (PK.pick (Operand.tmp 39) (Operand.const (Value.bool true)) (Operand.tmp 43)))] (by kernel_rfl) (by kernel_rfl) (by kernel_rfl) (by kernel_rfl) (hideZ_nil _ 0) (fun K4 hK4 => ?_)
  simp (maxSteps:=999999) (disch:=omega) only [av1, av2, av3, av4, av5, av6, eq_self, exists_const, forall_const, implies_true, storeOk, thenQ, PK.cond, PK.val, Nat.reduceAdd, Nat.reduceLT, Nat.reduceMul, reduceCtorEq, ↓reduceIte, Nat.reduceEqDiff, Nat.reduceLeDiff, Nat.reduceSub, Nat.reduceBEq, Nat.reduceBNe, Int.reduceLT, Int.reduceEq, Int.reduceAdd, Int.reduceToNat, Int.reduceLE, Int.reduceBEq, Int.reduceBNe, enc1, cChan, cCSt, eqTy_Sum, eqTy_Ref, hx, hx2, ho, hi]
  (repeat ((with_reducible refine And.intro ?_ ?_); (first | trivial | assumption | omega | (simp; done))))
  refine hK4 _ ?_
  (try clear hK4)
  refine ag_done (by kernel_rfl) ?_
  (try simp only [thenQ])
  refine hK3 _ ?_
  (try clear hK3)
  refine at_cond _ rfl rfl (fun h5 => ?_) (fun h5 => ?_)
  · have r5 := h5
    (try simp only [dB2] at h5)
    simp at h5
  · have r5 := h5
    (try simp only [dB2] at h5)
    refine at_skip ?_
    (try simp only [thenQ, blockQ])
    refine hK2 _ ?_
    (try clear hK2)
    refine at_seq fun K6 hK6 => ?_
    refine at_draws [2, 3] (by kernel_rfl) ?_
    refine ag_pures (fuel := 4) [0, 1, 2, 3, 4, 5, 6, 7, 8, 9, 10, 11, 12, 13] [It.mk (some 45) none (IK.p (PK.fAddr (Operand.tmp 3) 1 1)), It.mk (some 46) none (IK.p (PK.load (Operand.tmp 45) 1 false)), It.mk (some 47) none (IK.p (PK.iAddrS (Operand.tmp 46) (Operand.const (Value.int IntKind.i64 0)) 2)), It.mk (some 48) none (IK.p (PK.fAddr (Operand.tmp 47) 1 1)), It.mk (some 49) none (IK.p (PK.load (Operand.tmp 48) 1 false)), It.mk (some 50) none (IK.p (PK.iAddrS (Operand.tmp 49) (Operand.const (Value.int IntKind.i64 0)) 35)), It.mk (some 51) none (IK.p (PK.load (Operand.tmp 50) 35 true)), It.mk (some 52) none (IK.p (PK.fAddr (Operand.tmp 3) 1 1)), It.mk (some 53) none (IK.p (PK.load (Operand.tmp 52) 1 false)), It.mk (some 54) none (IK.p (PK.iAddrS (Operand.tmp 53) (Operand.const (Value.int IntKind.i64 0)) 2)), It.mk (some 55) none (IK.p (PK.fAddr (Operand.tmp 54) 1 1)), It.mk (some 56) none (IK.p (PK.load (Operand.tmp 55) 1 false)), It.mk (some 57) none (IK.p (PK.iAddrS (Operand.tmp 56) (Operand.const (Value.int IntKind.i64 1)) 35)), It.mk (some 58) none (IK.p (PK.load (Operand.tmp 57) 35 true))] (by kernel_rfl) (by kernel_rfl) (by kernel_rfl) (by kernel_rfl) (by simp only [hideZ, List.contains_cons, List.contains_nil, Nat.reduceAdd, Nat.reduceBEq, Bool.or_false, Bool.false_or, Bool.or_true, Bool.true_or, Bool.false_eq_true, if_true, if_false, ↓reduceIte]; rfl) (fun K7 hK7 => ?_)
    simp (maxSteps:=999999) (disch:=omega) only [av1, av2, av3, av4, av5, av6, eq_self, exists_const, forall_const, implies_true, storeOk, thenQ, PK.cond, PK.val, Nat.reduceAdd, Nat.reduceLT, Nat.reduceMul, reduceCtorEq, ↓reduceIte, Nat.reduceEqDiff, Nat.reduceLeDiff, Nat.reduceSub, Nat.reduceBEq, Nat.reduceBNe, Int.reduceLT, Int.reduceEq, Int.reduceAdd, Int.reduceToNat, Int.reduceLE, Int.reduceBEq, Int.reduceBNe, enc1, cChan, cCSt, eqTy_Sum, eqTy_Ref, hx, hx2, ho, hi]
    (repeat ((with_reducible refine And.intro ?_ ?_); (first | trivial | assumption | omega | (simp; done))))
    refine hK7 _ ?_
    (try clear hK7)
    refine ag_two (i := 14) (j := 15) (by kernel_rfl) ?_ ?_
    · refine agi (it := It.mk (some 5) none (IK.alloc (CV.st [CV.pv (Value.slice none 0 0), CV.ar IntKind.u8 32 (List.replicate 32 0), CV.pv (Value.int IntKind.i64 0), CV.pv (Value.int IntKind.i64 0)]))) (R' := [13, 12, 11, 10, 9, 8, 7, 6, 5, 4, 3, 2, 1, 0]) (by kernel_rfl) (.inl rfl) (by kernel_rfl) (fun K8 hK8 => ?_)
      simp (maxSteps:=999999) (disch:=omega) only [av1, av2, av3, av4, av5, av6, eq_self, exists_const, forall_const, implies_true, storeOk, thenQ, PK.cond, PK.val, Nat.reduceAdd, Nat.reduceLT, Nat.reduceMul, reduceCtorEq, ↓reduceIte, Nat.reduceEqDiff, Nat.reduceLeDiff, Nat.reduceSub, Nat.reduceBEq, Nat.reduceBNe, Int.reduceLT, Int.reduceEq, Int.reduceAdd, Int.reduceToNat, Int.reduceLE, Int.reduceBEq, Int.reduceBNe, enc1, cChan, cCSt, eqTy_Sum, eqTy_Ref, hx, hx2, ho, hi]
      (repeat ((with_reducible refine And.intro ?_ ?_); (first | trivial | assumption | omega | (simp; done))))
      refine hK8 _ ?_
      (try clear hK8)
      refine ag_one (i:=15) (by kernel_rfl) ?_
      refine agi (it := It.mk (some 6) none (IK.alloc (CV.st [CV.pv (Value.slice none 0 0), CV.ar IntKind.u8 32 (List.replicate 32 0), CV.pv (Value.int IntKind.i64 0), CV.pv (Value.int IntKind.i64 0)]))) (R' := [13, 12, 11, 10, 9, 8, 7, 6, 5, 4, 3, 2, 1, 0]) (by kernel_rfl) (.inl rfl) (by kernel_rfl) (fun K9 hK9 => ?_)
      simp (maxSteps:=999999) (disch:=omega) only [av1, av2, av3, av4, av5, av6, eq_self, exists_const, forall_const, implies_true, storeOk, thenQ, PK.cond, PK.val, Nat.reduceAdd, Nat.reduceLT, Nat.reduceMul, reduceCtorEq, ↓reduceIte, Nat.reduceEqDiff, Nat.reduceLeDiff, Nat.reduceSub, Nat.reduceBEq, Nat.reduceBNe, Int.reduceLT, Int.reduceEq, Int.reduceAdd, Int.reduceToNat, Int.reduceLE, Int.reduceBEq, Int.reduceBNe, enc1, cChan, cCSt, eqTy_Sum, eqTy_Ref, hx, hx2, ho, hi]
      (repeat ((with_reducible refine And.intro ?_ ?_); (first | trivial | assumption | omega | (simp; done))))
      refine hK9 _ ?_
      (try clear hK9)
      refine ag_one (i:=16) (by kernel_rfl) ?_
      refine agi (it := It.mk none none (IK.store (Operand.tmp 5) (Operand.tmp 51) 35)) (R' := [13, 12, 11, 10, 9, 8, 7]) (by kernel_rfl) (.inl rfl) (by kernel_rfl) (fun K10 hK10 => ?_)
      simp (maxSteps:=999999) (disch:=omega) only [av1, av2, av3, av4, av5, av6, eq_self, exists_const, forall_const, implies_true, storeOk, thenQ, PK.cond, PK.val, Nat.reduceAdd, Nat.reduceLT, Nat.reduceMul, reduceCtorEq, ↓reduceIte, Nat.reduceEqDiff, Nat.reduceLeDiff, Nat.reduceSub, Nat.reduceBEq, Nat.reduceBNe, Int.reduceLT, Int.reduceEq, Int.reduceAdd, Int.reduceToNat, Int.reduceLE, Int.reduceBEq, Int.reduceBNe, enc1, cChan, cCSt, eqTy_Sum, eqTy_Ref, hx, hx2, ho, hi]
      (repeat ((with_reducible refine And.intro ?_ ?_); (first | trivial | assumption | omega | (simp; done))))
      refine hK10 _ ?_
      (try clear hK10)
      refine ag_one (i:=17) (by kernel_rfl) ?_
      refine agi (it := It.mk none none (IK.store (Operand.tmp 6) (Operand.tmp 58) 35)) (R' := []) (by kernel_rfl) (.inr (by kernel_rfl)) (by kernel_rfl) (fun K11 hK11 => ?_)
      simp (maxSteps:=999999) (disch:=omega) only [av1, av2, av3, av4, av5, av6, eq_self, exists_const, forall_const, implies_true, storeOk, thenQ, PK.cond, PK.val, Nat.reduceAdd, Nat.reduceLT, Nat.reduceMul, reduceCtorEq, ↓reduceIte, Nat.reduceEqDiff, Nat.reduceLeDiff, Nat.reduceSub, Nat.reduceBEq, Nat.reduceBNe, Int.reduceLT, Int.reduceEq, Int.reduceAdd, Int.reduceToNat, Int.reduceLE, Int.reduceBEq, Int.reduceBNe, enc1, cChan, cCSt, eqTy_Sum, eqTy_Ref, hx, hx2, ho, hi]
      (repeat ((with_reducible refine And.intro ?_ ?_); (first | trivial | assumption | omega | (simp; done))))
      refine hK11 _ ?_
      (try clear hK11)
      refine ag_done (by kernel_rfl) ?_
      (try simp only [thenQ])
      refine hK6 _ ?_
      (try clear hK6)
      refine at_seq fun K12 hK12 => ?_
      refine at_seq fun K13 hK13 => ?_
      refine at_region [It.mk (some 59) none (IK.p (PK.fAddr (Operand.tmp 2) 1 1)), It.mk (some 60) none (IK.p (PK.load (Operand.tmp 59) 1 false)), It.mk (some 61) none (IK.p (PK.fAddr (Operand.tmp 2) 2 2)), It.mk (some 62) none (IK.p (PK.load (Operand.tmp 61) 1 false)), It.mk (some 63) none (IK.p (PK.bld (CV.ar IntKind.i64 2 [0, 0]) [(0, 1), (1, 1)] [(0, Operand.tmp 60), (1, Operand.tmp 62)])), It.mk (some 64) none (IK.p (PK.mov (Operand.const (Value.int IntKind.i64 0))))] (by kernel_rfl) ?_
      simp (maxSteps:=999999) (disch:=omega) only [av1, av2, av3, av4, av5, av6, eq_self, exists_const, forall_const, implies_true, storeOk, thenQ, PK.cond, PK.val, Nat.reduceAdd, Nat.reduceLT, Nat.reduceMul, reduceCtorEq, ↓reduceIte, Nat.reduceEqDiff, Nat.reduceLeDiff, Nat.reduceSub, Nat.reduceBEq, Nat.reduceBNe, Int.reduceLT, Int.reduceEq, Int.reduceAdd, Int.reduceToNat, Int.reduceLE, Int.reduceBEq, Int.reduceBNe, enc1, cChan, cCSt, eqTy_Sum, eqTy_Ref, hx, hx2, ho, hi]
      (repeat ((with_reducible refine And.intro ?_ ?_); (first | trivial | assumption | omega | (simp; done))))
      refine hK13 _ ?_
      (try clear hK13)
      refine at_block ?_
      refine at_loopK [2, 3, 5, 6, 63] (fun k : { k : Nat // k ≤ 2 } => [(64, true, bi .i64 k.1)]) (fun k => 2 - k.1) ⟨0, by omega⟩ ?_ ?_
      · simp (maxSteps:=999999) (disch:=omega) only [av1, av2, av3, av4, av5, av6, eq_self, exists_const, forall_const, implies_true, storeOk, thenQ, PK.cond, PK.val, Nat.reduceAdd, Nat.reduceLT, Nat.reduceMul, reduceCtorEq, ↓reduceIte, Nat.reduceEqDiff, Nat.reduceLeDiff, Nat.reduceSub, Nat.reduceBEq, Nat.reduceBNe, Int.reduceLT, Int.reduceEq, Int.reduceAdd, Int.reduceToNat, Int.reduceLE, Int.reduceBEq, Int.reduceBNe, enc1, cChan, cCSt, eqTy_Sum, eqTy_Ref, hx, hx2, ho, hi]
        repeat' (first | exact SubT.nil | refine SubT.cons (by first | rfl | (simp [look]; done) | (fail)) ?_)
      rintro ⟨k, hk⟩
      simp (maxSteps:=999999) (disch:=omega) only [av1, av2, av3, av4, av5, av6, eq_self, exists_const, forall_const, implies_true, storeOk, thenQ, PK.cond, PK.val, Nat.reduceAdd, Nat.reduceLT, Nat.reduceMul, reduceCtorEq, ↓reduceIte, Nat.reduceEqDiff, Nat.reduceLeDiff, Nat.reduceSub, Nat.reduceBEq, Nat.reduceBNe, Int.reduceLT, Int.reduceEq, Int.reduceAdd, Int.reduceToNat, Int.reduceLE, Int.reduceBEq, Int.reduceBNe, enc1, cChan, cCSt, eqTy_Sum, eqTy_Ref, hx, hx2, ho, hi]
      refine at_seq fun K14 hK14 => ?_
      refine at_region [It.mk (some 65) none (IK.p (PK.bin BinOp.lss (Operand.tmp 64) (Operand.const (Value.int IntKind.i64 2))))] (by kernel_rfl) ?_
      simp (maxSteps:=999999) (disch:=omega) only [av1, av2, av3, av4, av5, av6, eq_self, exists_const, forall_const, implies_true, storeOk, thenQ, PK.cond, PK.val, Nat.reduceAdd, Nat.reduceLT, Nat.reduceMul, reduceCtorEq, ↓reduceIte, Nat.reduceEqDiff, Nat.reduceLeDiff, Nat.reduceSub, Nat.reduceBEq, Nat.reduceBNe, Int.reduceLT, Int.reduceEq, Int.reduceAdd, Int.reduceToNat, Int.reduceLE, Int.reduceBEq, Int.reduceBNe, enc1, cChan, cCSt, eqTy_Sum, eqTy_Ref, hx, hx2, ho, hi]
      (repeat ((with_reducible refine And.intro ?_ ?_); (first | trivial | assumption | omega | (simp; done))))
      refine hK14 _ ?_
      (try clear hK14)
      refine at_seq fun K15 hK15 => ?_
      refine at_cond _ rfl rfl (fun h16 => ?_) (fun h16 => ?_)
      · have r16 := h16
        (try simp only [dB2] at h16)
        refine at_skip ?_
        (try simp only [thenQ, blockQ])
        refine hK15 _ ?_
        (try clear hK15)
        refine at_seq fun K17 hK17 => ?_
        refine at_block ?_
        refine at_seq fun K18 hK18 => ?_
        refine at_region [It.mk (some 66) none (IK.p (PK.mov (Operand.tmp 64))), It.mk (some 67) none (IK.p (PK.idxA (Operand.tmp 63) (Operand.tmp 64) 2 1 false)), It.mk (some 7) none (IK.p (PK.mov (Operand.tmp 66))), It.mk (some 8) none (IK.p (PK.mov (Operand.tmp 67)))] (by kernel_rfl) ?_
        simp (maxSteps:=999999) (disch:=omega) only [av1, av2, av3, av4, av5, av6, eq_self, exists_const, forall_const, implies_true, storeOk, thenQ, PK.cond, PK.val, Nat.reduceAdd, Nat.reduceLT, Nat.reduceMul, reduceCtorEq, ↓reduceIte, Nat.reduceEqDiff, Nat.reduceLeDiff, Nat.reduceSub, Nat.reduceBEq, Nat.reduceBNe, Int.reduceLT, Int.reduceEq, Int.reduceAdd, Int.reduceToNat, Int.reduceLE, Int.reduceBEq, Int.reduceBNe, enc1, cChan, cCSt, eqTy_Sum, eqTy_Ref, hx, hx2, ho, hi]
        (repeat ((with_reducible refine And.intro ?_ ?_); (first | trivial | assumption | omega | (simp; done))))
        refine hK18 _ ?_
        (try clear hK18)
        refine at_seq fun K19 hK19 => ?_
        refine at_region [It.mk (some 68) none (IK.p (PK.fAddr (Operand.tmp 2) 1 1)), It.mk (some 69) none (IK.p (PK.load (Operand.tmp 68) 1 false)), It.mk (some 70) none (IK.p (PK.fAddr (Operand.tmp 2) 2 2)), It.mk (some 71) none (IK.p (PK.load (Operand.tmp 70) 1 false)), It.mk (some 72) none (IK.p (PK.bin BinOp.add (Operand.tmp 69) (Operand.tmp 71))), It.mk (some 73) none (IK.p (PK.mov (Operand.tmp 8))), It.mk (some 74) none (IK.p (PK.bin BinOp.sub (Operand.tmp 72) (Operand.tmp 73))), It.mk (some 9) none (IK.p (PK.mov (Operand.tmp 74)))] (by kernel_rfl) ?_
        simp (maxSteps:=999999) (disch:=omega) only [av1, av2, av3, av4, av5, av6, eq_self, exists_const, forall_const, implies_true, storeOk, thenQ, PK.cond, PK.val, Nat.reduceAdd, Nat.reduceLT, Nat.reduceMul, reduceCtorEq, ↓reduceIte, Nat.reduceEqDiff, Nat.reduceLeDiff, Nat.reduceSub, Nat.reduceBEq, Nat.reduceBNe, Int.reduceLT, Int.reduceEq, Int.reduceAdd, Int.reduceToNat, Int.reduceLE, Int.reduceBEq, Int.reduceBNe, enc1, cChan, cCSt, eqTy_Sum, eqTy_Ref, hx, hx2, ho, hi]
        (repeat ((with_reducible refine And.intro ?_ ?_); (first | trivial | assumption | omega | (simp; done))))
        refine hK19 _ ?_
        (try clear hK19)
        refine at_seq fun K20 hK20 => ?_
        refine at_region [It.mk (some 75) none (IK.p (PK.fAddr (Operand.tmp 5) 0 0)), It.mk (some 76) none (IK.p (PK.load (Operand.tmp 75) 1 false)), It.mk (some 77) none (IK.p (PK.len false (Operand.tmp 76))), It.mk (some 78) none (IK.p (PK.bin BinOp.eql (Operand.tmp 77) (Operand.const (Value.int IntKind.i64 1)))), It.mk (some 79) none (IK.p (PK.mov (Operand.tmp 78))), It.mk (some 80) (some (79, true)) (IK.p (PK.fAddr (Operand.tmp 5) 0 0)), It.mk (some 81) (some (79, true)) (IK.p (PK.load (Operand.tmp 80) 1 false)), It.mk (some 82) (some (79, true)) (IK.p (PK.iAddrS (Operand.tmp 81) (Operand.const (Value.int IntKind.i64 0)) 1)), It.mk (some 83) (some (79, true)) (IK.p (PK.load (Operand.tmp 82) 1 false)), It.mk (some 84) (some (79, true)) (IK.p (PK.mov (Operand.tmp 8))), It.mk (some 85) (some (79, true)) (IK.p (PK.bin BinOp.eql (Operand.tmp 83) (Operand.tmp 84))), It.mk (some 86) none (IK.p (PK.pick (Operand.tmp 79) (Operand.tmp 85) (Operand.const (Value.bool false)))), It.mk (some 87) none (IK.p (PK.mov (Operand.tmp 86))), It.mk (some 88) (some (87, true)) (IK.p (PK.fAddr (Operand.tmp 5) 3 34)), It.mk (some 89) (some (87, true)) (IK.p (PK.load (Operand.tmp 88) 1 false)), It.mk (some 90) (some (87, true)) (IK.p (PK.fAddr (Operand.tmp 2) 5 37)), It.mk (some 91) (some (87, true)) (IK.p (PK.load (Operand.tmp 90) 1 false)), It.mk (some 92) (some (87, true)) (IK.p (PK.bin BinOp.eql (Operand.tmp 89) (Operand.tmp 91))), It.mk (some 93) none (IK.p (PK.pick (Operand.tmp 87) (Operand.tmp 92) (Operand.const (Value.bool false)))), It.mk (some 94) none (IK.p (PK.mov (Operand.tmp 93))), It.mk (some 95) (some (94, true)) (IK.p (PK.fAddr (Operand.tmp 5) 2 33)), It.mk (some 96) (some (94, true)) (IK.p (PK.load (Operand.tmp 95) 1 false)), It.mk (some 97) (some (94, true)) (IK.p (PK.bin BinOp.eql (Operand.tmp 96) (Operand.const (Value.int IntKind.i64 0)))), It.mk (some 98) none (IK.p (PK.pick (Operand.tmp 94) (Operand.tmp 97) (Operand.const (Value.bool false)))), It.mk (some 99) none (IK.p (PK.mov (Operand.tmp 98))), It.mk (some 100) (some (99, true)) (IK.p (PK.fAddr (Operand.tmp 5) 1 1)), It.mk (some 101) (some (99, true)) (IK.p (PK.load (Operand.tmp 100) 32 true)), It.mk (some 102) (some (99, true)) (IK.p (PK.bld (CV.ar IntKind.u8 32 (List.replicate 32 0)) [(0, 1), (1, 1), (2, 1), (3, 1), (4, 1), (5, 1), (6, 1), (7, 1), (8, 1), (9, 1), (10, 1), (11, 1), (12, 1), (13, 1), (14, 1), (15, 1), (16, 1), (17, 1), (18, 1), (19, 1), (20, 1), (21, 1), (22, 1), (23, 1), (24, 1), (25, 1), (26, 1), (27, 1), (28, 1), (29, 1), (30, 1), (31, 1)] [])), It.mk (some 103) (some (99, true)) (IK.p (PK.eqA false 24 (Sh.a IntKind.u8 32) (Operand.tmp 101) (Operand.tmp 102))), It.mk (some 104) none (IK.p (PK.pick (Operand.tmp 99) (Operand.tmp 103) (Operand.const (Value.bool false)))), It.mk (some 105) none (IK.p (PK.mov (Operand.tmp 104))), It.mk (some 106) (some (105, true)) (IK.p (PK.fAddr (Operand.tmp 6) 0 0)), It.mk (some 107) (some (105, true)) (IK.p (PK.load (Operand.tmp 106) 1 false)), It.mk (some 108) (some (105, true)) (IK.p (PK.len false (Operand.tmp 107))), It.mk (some 109) (some (105, true)) (IK.p (PK.bin BinOp.eql (Operand.tmp 108) (Operand.const (Value.int IntKind.i64 1)))), It.mk (some 110) none (IK.p (PK.pick (Operand.tmp 105) (Operand.tmp 109) (Operand.const (Value.bool false)))), It.mk (some 111) none (IK.p (PK.mov (Operand.tmp 110))), It.mk (some 112) (some (111, true)) (IK.p (PK.fAddr (Operand.tmp 6) 0 0)), It.mk (some 113) (some (111, true)) (IK.p (PK.load (Operand.tmp 112) 1 false)), It.mk (some 114) (some (111, true)) (IK.p (PK.iAddrS (Operand.tmp 113) (Operand.const (Value.int IntKind.i64 0)) 1)), It.mk (some 115) (some (111, true)) (IK.p (PK.load (Operand.tmp 114) 1 false)), It.mk (some 116) (some (111, true)) (IK.p (PK.mov (Operand.tmp 9))), It.mk (some 117) (some (111, true)) (IK.p (PK.bin BinOp.eql (Operand.tmp 115) (Operand.tmp 116))), It.mk (some 118) none (IK.p (PK.pick (Operand.tmp 111) (Operand.tmp 117) (Operand.const (Value.bool false)))), It.mk (some 119) none (IK.p (PK.mov (Operand.tmp 118))), It.mk (some 120) (some (119, true)) (IK.p (PK.fAddr (Operand.tmp 6) 3 34)), It.mk (some 121) (some (119, true)) (IK.p (PK.load (Operand.tmp 120) 1 false)), It.mk (some 122) (some (119, true)) (IK.p (PK.bin BinOp.eql (Operand.tmp 121) (Operand.const (Value.int IntKind.i64 0)))), It.mk (some 123) none (IK.p (PK.pick (Operand.tmp 119) (Operand.tmp 122) (Operand.const (Value.bool false)))), It.mk (some 124) none (IK.p (PK.mov (Operand.tmp 123))), It.mk (some 125) (some (124, true)) (IK.p (PK.fAddr (Operand.tmp 6) 2 33)), It.mk (some 126) (some (124, true)) (IK.p (PK.load (Operand.tmp 125) 1 false)), It.mk (some 127) (some (124, true)) (IK.p (PK.bin BinOp.eql (Operand.tmp 126) (Operand.const (Value.int IntKind.i64 0)))), It.mk (some 128) none (IK.p (PK.pick (Operand.tmp 124) (Operand.tmp 127) (Operand.const (Value.bool false)))), It.mk (some 129) none (IK.p (PK.mov (Operand.tmp 128))), It.mk (some 130) (some (129, true)) (IK.p (PK.fAddr (Operand.tmp 6) 1 1)), It.mk (some 131) (some (129, true)) (IK.p (PK.load (Operand.tmp 130) 32 true)), It.mk (some 132) (some (129, true)) (IK.p (PK.bld (CV.ar IntKind.u8 32 (List.replicate 32 0)) [(0, 1), (1, 1), (2, 1), (3, 1), (4, 1), (5, 1), (6, 1), (7, 1), (8, 1), (9, 1), (10, 1), (11, 1), (12, 1), (13, 1), (14, 1), (15, 1), (16, 1), (17, 1), (18, 1), (19, 1), (20, 1), (21, 1), (22, 1), (23, 1), (24, 1), (25, 1), (26, 1), (27, 1), (28, 1), (29, 1), (30, 1), (31, 1)] [])), It.mk (some 133) (some (129, true)) (IK.p (PK.eqA true 24 (Sh.a IntKind.u8 32) (Operand.tmp 131) (Operand.tmp 132))), It.mk (some 134) none (IK.p (PK.pick (Operand.tmp 129) (Operand.tmp 133) (Operand.const (Value.bool false)))), It.mk (some 135) none (IK.p (PK.mov (Operand.tmp 134))), It.mk (some 136) (some (135, true)) (IK.p (PK.fAddr (Operand.tmp 3) 1 1)), It.mk (some 137) (some (135, true)) (IK.p (PK.load (Operand.tmp 136) 1 false)), It.mk (some 138) (some (135, true)) (IK.p (PK.iAddrS (Operand.tmp 137) (Operand.const (Value.int IntKind.i64 1)) 2)), It.mk (some 139) (some (135, true)) (IK.p (PK.load (Operand.tmp 138) 2 true)), It.mk (some 140) (some (135, true)) (IK.p (PK.mov (Operand.tmp 9))), It.mk (some 141) (some (135, true)) (IK.call 24 [Operand.tmp 139, Operand.tmp 140]), It.mk (some 142) none (IK.p (PK.pick (Operand.tmp 135) (Operand.tmp 141) (Operand.const (Value.bool false))))] (by kernel_rfl) ?_
        refine apl_cut [_, _, _, _, _, _, _, _, _, _, _, _, _, _, _, _, _, _, _, _, _, _, _, _, _, _, _, _, _, _, _, _, _, _, _, _, _, _, _, _, _, _, _, _, _, _, _, _, _, _, _, _, _, _, _, _, _, _, _, _, _, _, _, _, _, _] _ (fun K21 hK21 => ?_)
        simp (maxSteps:=999999) (disch:=omega) only [av1, av2, av3, av4, av5, av6, eq_self, exists_const, forall_const, implies_true, storeOk, thenQ, PK.cond, PK.val, Nat.reduceAdd, Nat.reduceLT, Nat.reduceMul, reduceCtorEq, ↓reduceIte, Nat.reduceEqDiff, Nat.reduceLeDiff, Nat.reduceSub, Nat.reduceBEq, Nat.reduceBNe, Int.reduceLT, Int.reduceEq, Int.reduceAdd, Int.reduceToNat, Int.reduceLE, Int.reduceBEq, Int.reduceBNe, enc1, cChan, cCSt, eqTy_Sum, eqTy_Ref, hx, hx2, ho, hi]
        (repeat ((with_reducible refine And.intro ?_ ?_); (first | trivial | assumption | omega | (simp; done))))
        refine hK21 _ ?_
        (try clear hK21)
        refine apl_cut [_] _ (fun K22 hK22 => ?_)
        simp (maxSteps:=999999) (disch:=omega) only [av1, av2, av3, av4, av5, av6, eq_self, exists_const, forall_const, implies_true, storeOk, thenQ, PK.cond, PK.val, Nat.reduceAdd, Nat.reduceLT, Nat.reduceMul, reduceCtorEq, ↓reduceIte, Nat.reduceEqDiff, Nat.reduceLeDiff, Nat.reduceSub, Nat.reduceBEq, Nat.reduceBNe, Int.reduceLT, Int.reduceEq, Int.reduceAdd, Int.reduceToNat, Int.reduceLE, Int.reduceBEq, Int.reduceBNe, enc1, cChan, cCSt, eqTy_Sum, eqTy_Ref, hx, hx2, ho, hi]
        apply Or.inl
        first | refine ⟨[], trivial, ?_⟩ | refine ⟨_, (lockSole_ap b _ (by assumption)), ?_⟩ | refine ⟨_, fun _ => (lockSole_ap b _ (by assumption)), ?_⟩ | refine ⟨_, fun h => ⟨h, (lockSole_ap b _ (by assumption))⟩, ?_⟩ | refine ⟨_, fun h => ⟨by simp_all, (lockSole_ap b _ (by assumption))⟩, ?_⟩ | refine ⟨[], ?_⟩
        (try simp only [rsAV, List.map_cons, List.map_nil, thenQ])
        refine hK22 _ ?_
        (try clear hK22)
        simp (maxSteps:=999999) (disch:=omega) only [av1, av2, av3, av4, av5, av6, eq_self, exists_const, forall_const, implies_true, storeOk, thenQ, PK.cond, PK.val, Nat.reduceAdd, Nat.reduceLT, Nat.reduceMul, reduceCtorEq, ↓reduceIte, Nat.reduceEqDiff, Nat.reduceLeDiff, Nat.reduceSub, Nat.reduceBEq, Nat.reduceBNe, Int.reduceLT, Int.reduceEq, Int.reduceAdd, Int.reduceToNat, Int.reduceLE, Int.reduceBEq, Int.reduceBNe, enc1, cChan, cCSt, eqTy_Sum, eqTy_Ref, hx, hx2, ho, hi]
        (repeat ((with_reducible refine And.intro ?_ ?_); (first | trivial | assumption | omega | (simp; done))))
        refine hK20 _ ?_
        (try clear hK20)
        refine at_cond _ rfl rfl (fun h23 => ?_) (fun h23 => ?_)
        · have r23 := h23
          (try simp only [dB2] at h23)
          simp at h23
        · have r23 := h23
          (try simp only [dB2] at h23)
          refine at_skip ?_
          (try simp only [thenQ, blockQ])
          (try simp only [blockQ])
          refine hK17 _ ?_
          (try clear hK17)
          refine at_region [It.mk (some 144) none (IK.p (PK.bin BinOp.add (Operand.tmp 64) (Operand.const (Value.int IntKind.i64 1)))), It.mk (some 64) none (IK.p (PK.mov (Operand.tmp 144)))] (by kernel_rfl) ?_
          simp (maxSteps:=999999) (disch:=omega) only [av1, av2, av3, av4, av5, av6, eq_self, exists_const, forall_const, implies_true, storeOk, thenQ, PK.cond, PK.val, Nat.reduceAdd, Nat.reduceLT, Nat.reduceMul, reduceCtorEq, ↓reduceIte, Nat.reduceEqDiff, Nat.reduceLeDiff, Nat.reduceSub, Nat.reduceBEq, Nat.reduceBNe, Int.reduceLT, Int.reduceEq, Int.reduceAdd, Int.reduceToNat, Int.reduceLE, Int.reduceBEq, Int.reduceBNe, enc1, cChan, cCSt, eqTy_Sum, eqTy_Ref, hx, hx2, ho, hi]
          (repeat ((with_reducible refine And.intro ?_ ?_); (first | trivial | assumption | omega | (simp; done))))
          refine ⟨⟨k + 1, by omega⟩, by (dsimp only; omega), ?_⟩
          refine Le.same rfl ?_
          (try simp (maxSteps:=999999) (disch:=omega) only [av1, av2, av3, av4, av5, av6, eq_self, exists_const, forall_const, implies_true, storeOk, thenQ, PK.cond, PK.val, Nat.reduceAdd, Nat.reduceLT, Nat.reduceMul, reduceCtorEq, ↓reduceIte, Nat.reduceEqDiff, Nat.reduceLeDiff, Nat.reduceSub, Nat.reduceBEq, Nat.reduceBNe, Int.reduceLT, Int.reduceEq, Int.reduceAdd, Int.reduceToNat, Int.reduceLE, Int.reduceBEq, Int.reduceBNe, enc1, cChan, cCSt, eqTy_Sum, eqTy_Ref, hx, hx2, ho, hi])
          repeat' (first | exact SubT.nil | refine SubT.cons ?_ ?_)
          all_goals (first | rfl | (simp only [look, Nat.reduceEqDiff, ↓reduceIte]; first | rfl | ((rw [wrap64 (by omega) (by omega)]; rfl))))
      · have r16 := h16
        (try simp only [dB2] at h16)
        refine at_exit ?_
        simp only [thenQ, blockQ, if_true]
        refine hK12 _ ?_
        (try clear hK12)
        refine at_seq fun K24 hK24 => ?_
        refine at_region [It.mk (some 4) none (IK.p (PK.mov (Operand.const (Value.int IntKind.i64 (-1)))))] (by kernel_rfl) ?_
        simp (maxSteps:=999999) (disch:=omega) only [av1, av2, av3, av4, av5, av6, eq_self, exists_const, forall_const, implies_true, storeOk, thenQ, PK.cond, PK.val, Nat.reduceAdd, Nat.reduceLT, Nat.reduceMul, reduceCtorEq, ↓reduceIte, Nat.reduceEqDiff, Nat.reduceLeDiff, Nat.reduceSub, Nat.reduceBEq, Nat.reduceBNe, Int.reduceLT, Int.reduceEq, Int.reduceAdd, Int.reduceToNat, Int.reduceLE, Int.reduceBEq, Int.reduceBNe, enc1, cChan, cCSt, eqTy_Sum, eqTy_Ref, hx, hx2, ho, hi]
        (repeat ((with_reducible refine And.intro ?_ ?_); (first | trivial | assumption | omega | (simp; done))))
        refine hK24 _ ?_
        (try clear hK24)
        refine at_ret ?_
        simp (maxSteps:=999999) (disch:=omega) only [av1, av2, av3, av4, av5, av6, eq_self, exists_const, forall_const, implies_true, storeOk, thenQ, PK.cond, PK.val, Nat.reduceAdd, Nat.reduceLT, Nat.reduceMul, reduceCtorEq, ↓reduceIte, Nat.reduceEqDiff, Nat.reduceLeDiff, Nat.reduceSub, Nat.reduceBEq, Nat.reduceBNe, Int.reduceLT, Int.reduceEq, Int.reduceAdd, Int.reduceToNat, Int.reduceLE, Int.reduceBEq, Int.reduceBNe, enc1, cChan, cCSt, eqTy_Sum, eqTy_Ref, hx, hx2, ho, hi, blockQ, retQ, RetOk, ResOk, AV.fin, AV.fins, CV.le, CV.les]
        (first | rfl | trace_state)
    · refine agi (it := It.mk (some 6) none (IK.alloc (CV.st [CV.pv (Value.slice none 0 0), CV.ar IntKind.u8 32 (List.replicate 32 0), CV.pv (Value.int IntKind.i64 0), CV.pv (Value.int IntKind.i64 0)]))) (R' := [13, 12, 11, 10, 9, 8, 7, 6, 5, 4, 3, 2, 1, 0]) (by kernel_rfl) (.inl rfl) (by kernel_rfl) (fun K25 hK25 => ?_)
      simp (maxSteps:=999999) (disch:=omega) only [av1, av2, av3, av4, av5, av6, eq_self, exists_const, forall_const, implies_true, storeOk, thenQ, PK.cond, PK.val, Nat.reduceAdd, Nat.reduceLT, Nat.reduceMul, reduceCtorEq, ↓reduceIte, Nat.reduceEqDiff, Nat.reduceLeDiff, Nat.reduceSub, Nat.reduceBEq, Nat.reduceBNe, Int.reduceLT, Int.reduceEq, Int.reduceAdd, Int.reduceToNat, Int.reduceLE, Int.reduceBEq, Int.reduceBNe, enc1, cChan, cCSt, eqTy_Sum, eqTy_Ref, hx, hx2, ho, hi]
      (repeat ((with_reducible refine And.intro ?_ ?_); (first | trivial | assumption | omega | (simp; done))))
      refine hK25 _ ?_
      (try clear hK25)
      refine ag_one (i:=14) (by kernel_rfl) ?_
      refine agi (it := It.mk (some 5) none (IK.alloc (CV.st [CV.pv (Value.slice none 0 0), CV.ar IntKind.u8 32 (List.replicate 32 0), CV.pv (Value.int IntKind.i64 0), CV.pv (Value.int IntKind.i64 0)]))) (R' := [13, 12, 11, 10, 9, 8, 7, 6, 5, 4, 3, 2, 1, 0]) (by kernel_rfl) (.inl rfl) (by kernel_rfl) (fun K26 hK26 => ?_)
      simp (maxSteps:=999999) (disch:=omega) only [av1, av2, av3, av4, av5, av6, eq_self, exists_const, forall_const, implies_true, storeOk, thenQ, PK.cond, PK.val, Nat.reduceAdd, Nat.reduceLT, Nat.reduceMul, reduceCtorEq, ↓reduceIte, Nat.reduceEqDiff, Nat.reduceLeDiff, Nat.reduceSub, Nat.reduceBEq, Nat.reduceBNe, Int.reduceLT, Int.reduceEq, Int.reduceAdd, Int.reduceToNat, Int.reduceLE, Int.reduceBEq, Int.reduceBNe, enc1, cChan, cCSt, eqTy_Sum, eqTy_Ref, hx, hx2, ho, hi]
      (repeat ((with_reducible refine And.intro ?_ ?_); (first | trivial | assumption | omega | (simp; done))))
      refine hK26 _ ?_
      (try clear hK26)
      refine ag_one (i:=16) (by kernel_rfl) ?_
      refine agi (it := It.mk none none (IK.store (Operand.tmp 5) (Operand.tmp 51) 35)) (R' := [13, 12, 11, 10, 9, 8, 7]) (by kernel_rfl) (.inl rfl) (by kernel_rfl) (fun K27 hK27 => ?_)
      simp (maxSteps:=999999) (disch:=omega) only [av1, av2, av3, av4, av5, av6, eq_self, exists_const, forall_const, implies_true, storeOk, thenQ, PK.cond, PK.val, Nat.reduceAdd, Nat.reduceLT, Nat.reduceMul, reduceCtorEq, ↓reduceIte, Nat.reduceEqDiff, Nat.reduceLeDiff, Nat.reduceSub, Nat.reduceBEq, Nat.reduceBNe, Int.reduceLT, Int.reduceEq, Int.reduceAdd, Int.reduceToNat, Int.reduceLE, Int.reduceBEq, Int.reduceBNe, enc1, cChan, cCSt, eqTy_Sum, eqTy_Ref, hx, hx2, ho, hi]
      (repeat ((with_reducible refine And.intro ?_ ?_); (first | trivial | assumption | omega | (simp; done))))
      refine hK27 _ ?_
      (try clear hK27)
      refine ag_one (i:=17) (by kernel_rfl) ?_
      refine agi (it := It.mk none none (IK.store (Operand.tmp 6) (Operand.tmp 58) 35)) (R' := []) (by kernel_rfl) (.inr (by kernel_rfl)) (by kernel_rfl) (fun K28 hK28 => ?_)
      simp (maxSteps:=999999) (disch:=omega) only [av1, av2, av3, av4, av5, av6, eq_self, exists_const, forall_const, implies_true, storeOk, thenQ, PK.cond, PK.val, Nat.reduceAdd, Nat.reduceLT, Nat.reduceMul, reduceCtorEq, ↓reduceIte, Nat.reduceEqDiff, Nat.reduceLeDiff, Nat.reduceSub, Nat.reduceBEq, Nat.reduceBNe, Int.reduceLT, Int.reduceEq, Int.reduceAdd, Int.reduceToNat, Int.reduceLE, Int.reduceBEq, Int.reduceBNe, enc1, cChan, cCSt, eqTy_Sum, eqTy_Ref, hx, hx2, ho, hi]
      (repeat ((with_reducible refine And.intro ?_ ?_); (first | trivial | assumption | omega | (simp; done))))
      refine hK28 _ ?_
      (try clear hK28)
      refine ag_done (by kernel_rfl) ?_
      (try simp only [thenQ])
      refine hK6 _ ?_
      (try clear hK6)
      refine at_seq fun K29 hK29 => ?_
      refine at_seq fun K30 hK30 => ?_
      refine at_region [It.mk (some 59) none (IK.p (PK.fAddr (Operand.tmp 2) 1 1)), It.mk (some 60) none (IK.p (PK.load (Operand.tmp 59) 1 false)), It.mk (some 61) none (IK.p (PK.fAddr (Operand.tmp 2) 2 2)), It.mk (some 62) none (IK.p (PK.load (Operand.tmp 61) 1 false)), It.mk (some 63) none (IK.p (PK.bld (CV.ar IntKind.i64 2 [0, 0]) [(0, 1), (1, 1)] [(0, Operand.tmp 60), (1, Operand.tmp 62)])), It.mk (some 64) none (IK.p (PK.mov (Operand.const (Value.int IntKind.i64 0))))] (by kernel_rfl) ?_
      simp (maxSteps:=999999) (disch:=omega) only [av1, av2, av3, av4, av5, av6, eq_self, exists_const, forall_const, implies_true, storeOk, thenQ, PK.cond, PK.val, Nat.reduceAdd, Nat.reduceLT, Nat.reduceMul, reduceCtorEq, ↓reduceIte, Nat.reduceEqDiff, Nat.reduceLeDiff, Nat.reduceSub, Nat.reduceBEq, Nat.reduceBNe, Int.reduceLT, Int.reduceEq, Int.reduceAdd, Int.reduceToNat, Int.reduceLE, Int.reduceBEq, Int.reduceBNe, enc1, cChan, cCSt, eqTy_Sum, eqTy_Ref, hx, hx2, ho, hi]
      (repeat ((with_reducible refine And.intro ?_ ?_); (first | trivial | assumption | omega | (simp; done))))
      refine hK30 _ ?_
      (try clear hK30)
      refine at_block ?_
      refine at_loopK [2, 3, 5, 6, 63] (fun k : { k : Nat // k ≤ 2 } => [(64, true, bi .i64 k.1)]) (fun k => 2 - k.1) ⟨0, by omega⟩ ?_ ?_
      · simp (maxSteps:=999999) (disch:=omega) only [av1, av2, av3, av4, av5, av6, eq_self, exists_const, forall_const, implies_true, storeOk, thenQ, PK.cond, PK.val, Nat.reduceAdd, Nat.reduceLT, Nat.reduceMul, reduceCtorEq, ↓reduceIte, Nat.reduceEqDiff, Nat.reduceLeDiff, Nat.reduceSub, Nat.reduceBEq, Nat.reduceBNe, Int.reduceLT, Int.reduceEq, Int.reduceAdd, Int.reduceToNat, Int.reduceLE, Int.reduceBEq, Int.reduceBNe, enc1, cChan, cCSt, eqTy_Sum, eqTy_Ref, hx, hx2, ho, hi]
        repeat' (first | exact SubT.nil | refine SubT.cons (by first | rfl | (simp [look]; done) | (fail)) ?_)
      rintro ⟨k, hk⟩
      simp (maxSteps:=999999) (disch:=omega) only [av1, av2, av3, av4, av5, av6, eq_self, exists_const, forall_const, implies_true, storeOk, thenQ, PK.cond, PK.val, Nat.reduceAdd, Nat.reduceLT, Nat.reduceMul, reduceCtorEq, ↓reduceIte, Nat.reduceEqDiff, Nat.reduceLeDiff, Nat.reduceSub, Nat.reduceBEq, Nat.reduceBNe, Int.reduceLT, Int.reduceEq, Int.reduceAdd, Int.reduceToNat, Int.reduceLE, Int.reduceBEq, Int.reduceBNe, enc1, cChan, cCSt, eqTy_Sum, eqTy_Ref, hx, hx2, ho, hi]
      refine at_seq fun K31 hK31 => ?_
      refine at_region [It.mk (some 65) none (IK.p (PK.bin BinOp.lss (Operand.tmp 64) (Operand.const (Value.int IntKind.i64 2))))] (by kernel_rfl) ?_
      simp (maxSteps:=999999) (disch:=omega) only [av1, av2, av3, av4, av5, av6, eq_self, exists_const, forall_const, implies_true, storeOk, thenQ, PK.cond, PK.val, Nat.reduceAdd, Nat.reduceLT, Nat.reduceMul, reduceCtorEq, ↓reduceIte, Nat.reduceEqDiff, Nat.reduceLeDiff, Nat.reduceSub, Nat.reduceBEq, Nat.reduceBNe, Int.reduceLT, Int.reduceEq, Int.reduceAdd, Int.reduceToNat, Int.reduceLE, Int.reduceBEq, Int.reduceBNe, enc1, cChan, cCSt, eqTy_Sum, eqTy_Ref, hx, hx2, ho, hi]
      (repeat ((with_reducible refine And.intro ?_ ?_); (first | trivial | assumption | omega | (simp; done))))
      refine hK31 _ ?_
      (try clear hK31)
      refine at_seq fun K32 hK32 => ?_
      refine at_cond _ rfl rfl (fun h33 => ?_) (fun h33 => ?_)
      · have r33 := h33
        (try simp only [dB2] at h33)
        refine at_skip ?_
        (try simp only [thenQ, blockQ])
        refine hK32 _ ?_
        (try clear hK32)
        refine at_seq fun K34 hK34 => ?_
        refine at_block ?_
        refine at_seq fun K35 hK35 => ?_
        refine at_region [It.mk (some 66) none (IK.p (PK.mov (Operand.tmp 64))), It.mk (some 67) none (IK.p (PK.idxA (Operand.tmp 63) (Operand.tmp 64) 2 1 false)), It.mk (some 7) none (IK.p (PK.mov (Operand.tmp 66))), It.mk (some 8) none (IK.p (PK.mov (Operand.tmp 67)))] (by kernel_rfl) ?_
        simp (maxSteps:=999999) (disch:=omega) only [av1, av2, av3, av4, av5, av6, eq_self, exists_const, forall_const, implies_true, storeOk, thenQ, PK.cond, PK.val, Nat.reduceAdd, Nat.reduceLT, Nat.reduceMul, reduceCtorEq, ↓reduceIte, Nat.reduceEqDiff, Nat.reduceLeDiff, Nat.reduceSub, Nat.reduceBEq, Nat.reduceBNe, Int.reduceLT, Int.reduceEq, Int.reduceAdd, Int.reduceToNat, Int.reduceLE, Int.reduceBEq, Int.reduceBNe, enc1, cChan, cCSt, eqTy_Sum, eqTy_Ref, hx, hx2, ho, hi]
        (repeat ((with_reducible refine And.intro ?_ ?_); (first | trivial | assumption | omega | (simp; done))))
        refine hK35 _ ?_
        (try clear hK35)
        refine at_seq fun K36 hK36 => ?_
        refine at_region [It.mk (some 68) none (IK.p (PK.fAddr (Operand.tmp 2) 1 1)), It.mk (some 69) none (IK.p (PK.load (Operand.tmp 68) 1 false)), It.mk (some 70) none (IK.p (PK.fAddr (Operand.tmp 2) 2 2)), It.mk (some 71) none (IK.p (PK.load (Operand.tmp 70) 1 false)), It.mk (some 72) none (IK.p (PK.bin BinOp.add (Operand.tmp 69) (Operand.tmp 71))), It.mk (some 73) none (IK.p (PK.mov (Operand.tmp 8))), It.mk (some 74) none (IK.p (PK.bin BinOp.sub (Operand.tmp 72) (Operand.tmp 73))), It.mk (some 9) none (IK.p (PK.mov (Operand.tmp 74)))] (by kernel_rfl) ?_
        simp (maxSteps:=999999) (disch:=omega) only [av1, av2, av3, av4, av5, av6, eq_self, exists_const, forall_const, implies_true, storeOk, thenQ, PK.cond, PK.val, Nat.reduceAdd, Nat.reduceLT, Nat.reduceMul, reduceCtorEq, ↓reduceIte, Nat.reduceEqDiff, Nat.reduceLeDiff, Nat.reduceSub, Nat.reduceBEq, Nat.reduceBNe, Int.reduceLT, Int.reduceEq, Int.reduceAdd, Int.reduceToNat, Int.reduceLE, Int.reduceBEq, Int.reduceBNe, enc1, cChan, cCSt, eqTy_Sum, eqTy_Ref, hx, hx2, ho, hi]
        (repeat ((with_reducible refine And.intro ?_ ?_); (first | trivial | assumption | omega | (simp; done))))
        refine hK36 _ ?_
        (try clear hK36)
        refine at_seq fun K37 hK37 => ?_
        refine at_region [It.mk (some 75) none (IK.p (PK.fAddr (Operand.tmp 5) 0 0)), It.mk (some 76) none (IK.p (PK.load (Operand.tmp 75) 1 false)), It.mk (some 77) none (IK.p (PK.len false (Operand.tmp 76))), It.mk (some 78) none (IK.p (PK.bin BinOp.eql (Operand.tmp 77) (Operand.const (Value.int IntKind.i64 1)))), It.mk (some 79) none (IK.p (PK.mov (Operand.tmp 78))), It.mk (some 80) (some (79, true)) (IK.p (PK.fAddr (Operand.tmp 5) 0 0)), It.mk (some 81) (some (79, true)) (IK.p (PK.load (Operand.tmp 80) 1 false)), It.mk (some 82) (some (79, true)) (IK.p (PK.iAddrS (Operand.tmp 81) (Operand.const (Value.int IntKind.i64 0)) 1)), It.mk (some 83) (some (79, true)) (IK.p (PK.load (Operand.tmp 82) 1 false)), It.mk (some 84) (some (79, true)) (IK.p (PK.mov (Operand.tmp 8))), It.mk (some 85) (some (79, true)) (IK.p (PK.bin BinOp.eql (Operand.tmp 83) (Operand.tmp 84))), It.mk (some 86) none (IK.p (PK.pick (Operand.tmp 79) (Operand.tmp 85) (Operand.const (Value.bool false)))), It.mk (some 87) none (IK.p (PK.mov (Operand.tmp 86))), It.mk (some 88) (some (87, true)) (IK.p (PK.fAddr (Operand.tmp 5) 3 34)), It.mk (some 89) (some (87, true)) (IK.p (PK.load (Operand.tmp 88) 1 false)), It.mk (some 90) (some (87, true)) (IK.p (PK.fAddr (Operand.tmp 2) 5 37)), It.mk (some 91) (some (87, true)) (IK.p (PK.load (Operand.tmp 90) 1 false)), It.mk (some 92) (some (87, true)) (IK.p (PK.bin BinOp.eql (Operand.tmp 89) (Operand.tmp 91))), It.mk (some 93) none (IK.p (PK.pick (Operand.tmp 87) (Operand.tmp 92) (Operand.const (Value.bool false)))), It.mk (some 94) none (IK.p (PK.mov (Operand.tmp 93))), It.mk (some 95) (some (94, true)) (IK.p (PK.fAddr (Operand.tmp 5) 2 33)), It.mk (some 96) (some (94, true)) (IK.p (PK.load (Operand.tmp 95) 1 false)), It.mk (some 97) (some (94, true)) (IK.p (PK.bin BinOp.eql (Operand.tmp 96) (Operand.const (Value.int IntKind.i64 0)))), It.mk (some 98) none (IK.p (PK.pick (Operand.tmp 94) (Operand.tmp 97) (Operand.const (Value.bool false)))), It.mk (some 99) none (IK.p (PK.mov (Operand.tmp 98))), It.mk (some 100) (some (99, true)) (IK.p (PK.fAddr (Operand.tmp 5) 1 1)), It.mk (some 101) (some (99, true)) (IK.p (PK.load (Operand.tmp 100) 32 true)), It.mk (some 102) (some (99, true)) (IK.p (PK.bld (CV.ar IntKind.u8 32 (List.replicate 32 0)) [(0, 1), (1, 1), (2, 1), (3, 1), (4, 1), (5, 1), (6, 1), (7, 1), (8, 1), (9, 1), (10, 1), (11, 1), (12, 1), (13, 1), (14, 1), (15, 1), (16, 1), (17, 1), (18, 1), (19, 1), (20, 1), (21, 1), (22, 1), (23, 1), (24, 1), (25, 1), (26, 1), (27, 1), (28, 1), (29, 1), (30, 1), (31, 1)] [])), It.mk (some 103) (some (99, true)) (IK.p (PK.eqA false 24 (Sh.a IntKind.u8 32) (Operand.tmp 101) (Operand.tmp 102))), It.mk (some 104) none (IK.p (PK.pick (Operand.tmp 99) (Operand.tmp 103) (Operand.const (Value.bool false)))), It.mk (some 105) none (IK.p (PK.mov (Operand.tmp 104))), It.mk (some 106) (some (105, true)) (IK.p (PK.fAddr (Operand.tmp 6) 0 0)), It.mk (some 107) (some (105, true)) (IK.p (PK.load (Operand.tmp 106) 1 false)), It.mk (some 108) (some (105, true)) (IK.p (PK.len false (Operand.tmp 107))), It.mk (some 109) (some (105, true)) (IK.p (PK.bin BinOp.eql (Operand.tmp 108) (Operand.const (Value.int IntKind.i64 1)))), It.mk (some 110) none (IK.p (PK.pick (Operand.tmp 105) (Operand.tmp 109) (Operand.const (Value.bool false)))), It.mk (some 111) none (IK.p (PK.mov (Operand.tmp 110))), It.mk (some 112) (some (111, true)) (IK.p (PK.fAddr (Operand.tmp 6) 0 0)), It.mk (some 113) (some (111, true)) (IK.p (PK.load (Operand.tmp 112) 1 false)), It.mk (some 114) (some (111, true)) (IK.p (PK.iAddrS (Operand.tmp 113) (Operand.const (Value.int IntKind.i64 0)) 1)), It.mk (some 115) (some (111, true)) (IK.p (PK.load (Operand.tmp 114) 1 false)), It.mk (some 116) (some (111, true)) (IK.p (PK.mov (Operand.tmp 9))), It.mk (some 117) (some (111, true)) (IK.p (PK.bin BinOp.eql (Operand.tmp 115) (Operand.tmp 116))), It.mk (some 118) none (IK.p (PK.pick (Operand.tmp 111) (Operand.tmp 117) (Operand.const (Value.bool false)))), It.mk (some 119) none (IK.p (PK.mov (Operand.tmp 118))), It.mk (some 120) (some (119, true)) (IK.p (PK.fAddr (Operand.tmp 6) 3 34)), It.mk (some 121) (some (119, true)) (IK.p (PK.load (Operand.tmp 120) 1 false)), It.mk (some 122) (some (119, true)) (IK.p (PK.bin BinOp.eql (Operand.tmp 121) (Operand.const (Value.int IntKind.i64 0)))), It.mk (some 123) none (IK.p (PK.pick (Operand.tmp 119) (Operand.tmp 122) (Operand.const (Value.bool false)))), It.mk (some 124) none (IK.p (PK.mov (Operand.tmp 123))), It.mk (some 125) (some (124, true)) (IK.p (PK.fAddr (Operand.tmp 6) 2 33)), It.mk (some 126) (some (124, true)) (IK.p (PK.load (Operand.tmp 125) 1 false)), It.mk (some 127) (some (124, true)) (IK.p (PK.bin BinOp.eql (Operand.tmp 126) (Operand.const (Value.int IntKind.i64 0)))), It.mk (some 128) none (IK.p (PK.pick (Operand.tmp 124) (Operand.tmp 127) (Operand.const (Value.bool false)))), It.mk (some 129) none (IK.p (PK.mov (Operand.tmp 128))), It.mk (some 130) (some (129, true)) (IK.p (PK.fAddr (Operand.tmp 6) 1 1)), It.mk (some 131) (some (129, true)) (IK.p (PK.load (Operand.tmp 130) 32 true)), It.mk (some 132) (some (129, true)) (IK.p (PK.bld (CV.ar IntKind.u8 32 (List.replicate 32 0)) [(0, 1), (1, 1), (2, 1), (3, 1), (4, 1), (5, 1), (6, 1), (7, 1), (8, 1), (9, 1), (10, 1), (11, 1), (12, 1), (13, 1), (14, 1), (15, 1), (16, 1), (17, 1), (18, 1), (19, 1), (20, 1), (21, 1), (22, 1), (23, 1), (24, 1), (25, 1), (26, 1), (27, 1), (28, 1), (29, 1), (30, 1), (31, 1)] [])), It.mk (some 133) (some (129, true)) (IK.p (PK.eqA true 24 (Sh.a IntKind.u8 32) (Operand.tmp 131) (Operand.tmp 132))), It.mk (some 134) none (IK.p (PK.pick (Operand.tmp 129) (Operand.tmp 133) (Operand.const (Value.bool false)))), It.mk (some 135) none (IK.p (PK.mov (Operand.tmp 134))), It.mk (some 136) (some (135, true)) (IK.p (PK.fAddr (Operand.tmp 3) 1 1)), It.mk (some 137) (some (135, true)) (IK.p (PK.load (Operand.tmp 136) 1 false)), It.mk (some 138) (some (135, true)) (IK.p (PK.iAddrS (Operand.tmp 137) (Operand.const (Value.int IntKind.i64 1)) 2)), It.mk (some 139) (some (135, true)) (IK.p (PK.load (Operand.tmp 138) 2 true)), It.mk (some 140) (some (135, true)) (IK.p (PK.mov (Operand.tmp 9))), It.mk (some 141) (some (135, true)) (IK.call 24 [Operand.tmp 139, Operand.tmp 140]), It.mk (some 142) none (IK.p (PK.pick (Operand.tmp 135) (Operand.tmp 141) (Operand.const (Value.bool false))))] (by kernel_rfl) ?_
        refine apl_cut [_, _, _, _, _, _, _, _, _, _, _, _, _, _, _, _, _, _, _, _, _, _, _, _, _, _, _, _, _, _, _, _, _, _, _, _, _, _, _, _, _, _, _, _, _, _, _, _, _, _, _, _, _, _, _, _, _, _, _, _, _, _, _, _, _, _] _ (fun K38 hK38 => ?_)
        simp (maxSteps:=999999) (disch:=omega) only [av1, av2, av3, av4, av5, av6, eq_self, exists_const, forall_const, implies_true, storeOk, thenQ, PK.cond, PK.val, Nat.reduceAdd, Nat.reduceLT, Nat.reduceMul, reduceCtorEq, ↓reduceIte, Nat.reduceEqDiff, Nat.reduceLeDiff, Nat.reduceSub, Nat.reduceBEq, Nat.reduceBNe, Int.reduceLT, Int.reduceEq, Int.reduceAdd, Int.reduceToNat, Int.reduceLE, Int.reduceBEq, Int.reduceBNe, enc1, cChan, cCSt, eqTy_Sum, eqTy_Ref, hx, hx2, ho, hi]
        (repeat ((with_reducible refine And.intro ?_ ?_); (first | trivial | assumption | omega | (simp; done))))
        refine hK38 _ ?_
        (try clear hK38)
        refine apl_cut [_] _ (fun K39 hK39 => ?_)
        simp (maxSteps:=999999) (disch:=omega) only [av1, av2, av3, av4, av5, av6, eq_self, exists_const, forall_const, implies_true, storeOk, thenQ, PK.cond, PK.val, Nat.reduceAdd, Nat.reduceLT, Nat.reduceMul, reduceCtorEq, ↓reduceIte, Nat.reduceEqDiff, Nat.reduceLeDiff, Nat.reduceSub, Nat.reduceBEq, Nat.reduceBNe, Int.reduceLT, Int.reduceEq, Int.reduceAdd, Int.reduceToNat, Int.reduceLE, Int.reduceBEq, Int.reduceBNe, enc1, cChan, cCSt, eqTy_Sum, eqTy_Ref, hx, hx2, ho, hi]
        apply Or.inl
        first | refine ⟨[], trivial, ?_⟩ | refine ⟨_, (lockSole_ap b _ (by assumption)), ?_⟩ | refine ⟨_, fun _ => (lockSole_ap b _ (by assumption)), ?_⟩ | refine ⟨_, fun h => ⟨h, (lockSole_ap b _ (by assumption))⟩, ?_⟩ | refine ⟨_, fun h => ⟨by simp_all, (lockSole_ap b _ (by assumption))⟩, ?_⟩ | refine ⟨[], ?_⟩
        (try simp only [rsAV, List.map_cons, List.map_nil, thenQ])
        refine hK39 _ ?_
        (try clear hK39)
        simp (maxSteps:=999999) (disch:=omega) only [av1, av2, av3, av4, av5, av6, eq_self, exists_const, forall_const, implies_true, storeOk, thenQ, PK.cond, PK.val, Nat.reduceAdd, Nat.reduceLT, Nat.reduceMul, reduceCtorEq, ↓reduceIte, Nat.reduceEqDiff, Nat.reduceLeDiff, Nat.reduceSub, Nat.reduceBEq, Nat.reduceBNe, Int.reduceLT, Int.reduceEq, Int.reduceAdd, Int.reduceToNat, Int.reduceLE, Int.reduceBEq, Int.reduceBNe, enc1, cChan, cCSt, eqTy_Sum, eqTy_Ref, hx, hx2, ho, hi]
        (repeat ((with_reducible refine And.intro ?_ ?_); (first | trivial | assumption | omega | (simp; done))))
        refine hK37 _ ?_
        (try clear hK37)
        refine at_cond _ rfl rfl (fun h40 => ?_) (fun h40 => ?_)
        · have r40 := h40
          (try simp only [dB2] at h40)
          simp at h40
        · have r40 := h40
          (try simp only [dB2] at h40)
          refine at_skip ?_
          (try simp only [thenQ, blockQ])
          (try simp only [blockQ])
          refine hK34 _ ?_
          (try clear hK34)
          refine at_region [It.mk (some 144) none (IK.p (PK.bin BinOp.add (Operand.tmp 64) (Operand.const (Value.int IntKind.i64 1)))), It.mk (some 64) none (IK.p (PK.mov (Operand.tmp 144)))] (by kernel_rfl) ?_
          simp (maxSteps:=999999) (disch:=omega) only [av1, av2, av3, av4, av5, av6, eq_self, exists_const, forall_const, implies_true, storeOk, thenQ, PK.cond, PK.val, Nat.reduceAdd, Nat.reduceLT, Nat.reduceMul, reduceCtorEq, ↓reduceIte, Nat.reduceEqDiff, Nat.reduceLeDiff, Nat.reduceSub, Nat.reduceBEq, Nat.reduceBNe, Int.reduceLT, Int.reduceEq, Int.reduceAdd, Int.reduceToNat, Int.reduceLE, Int.reduceBEq, Int.reduceBNe, enc1, cChan, cCSt, eqTy_Sum, eqTy_Ref, hx, hx2, ho, hi]
          (repeat ((with_reducible refine And.intro ?_ ?_); (first | trivial | assumption | omega | (simp; done))))
          refine ⟨⟨k + 1, by omega⟩, by (dsimp only; omega), ?_⟩
          refine Le.same rfl ?_
          (try simp (maxSteps:=999999) (disch:=omega) only [av1, av2, av3, av4, av5, av6, eq_self, exists_const, forall_const, implies_true, storeOk, thenQ, PK.cond, PK.val, Nat.reduceAdd, Nat.reduceLT, Nat.reduceMul, reduceCtorEq, ↓reduceIte, Nat.reduceEqDiff, Nat.reduceLeDiff, Nat.reduceSub, Nat.reduceBEq, Nat.reduceBNe, Int.reduceLT, Int.reduceEq, Int.reduceAdd, Int.reduceToNat, Int.reduceLE, Int.reduceBEq, Int.reduceBNe, enc1, cChan, cCSt, eqTy_Sum, eqTy_Ref, hx, hx2, ho, hi])
          repeat' (first | exact SubT.nil | refine SubT.cons ?_ ?_)
          all_goals (first | rfl | (simp only [look, Nat.reduceEqDiff, ↓reduceIte]; first | rfl | ((rw [wrap64 (by omega) (by omega)]; rfl))))
      · have r33 := h33
        (try simp only [dB2] at h33)
        refine at_exit ?_
        simp only [thenQ, blockQ, if_true]
        refine hK29 _ ?_
        (try clear hK29)
        refine at_seq fun K41 hK41 => ?_
        refine at_region [It.mk (some 4) none (IK.p (PK.mov (Operand.const (Value.int IntKind.i64 (-1)))))] (by kernel_rfl) ?_
        simp (maxSteps:=999999) (disch:=omega) only [av1, av2, av3, av4, av5, av6, eq_self, exists_const, forall_const, implies_true, storeOk, thenQ, PK.cond, PK.val, Nat.reduceAdd, Nat.reduceLT, Nat.reduceMul, reduceCtorEq, ↓reduceIte, Nat.reduceEqDiff, Nat.reduceLeDiff, Nat.reduceSub, Nat.reduceBEq, Nat.reduceBNe, Int.reduceLT, Int.reduceEq, Int.reduceAdd, Int.reduceToNat, Int.reduceLE, Int.reduceBEq, Int.reduceBNe, enc1, cChan, cCSt, eqTy_Sum, eqTy_Ref, hx, hx2, ho, hi]
        (repeat ((with_reducible refine And.intro ?_ ?_); (first | trivial | assumption | omega | (simp; done))))
        refine hK41 _ ?_
        (try clear hK41)
        refine at_ret ?_
        simp (maxSteps:=999999) (disch:=omega) only [av1, av2, av3, av4, av5, av6, eq_self, exists_const, forall_const, implies_true, storeOk, thenQ, PK.cond, PK.val, Nat.reduceAdd, Nat.reduceLT, Nat.reduceMul, reduceCtorEq, ↓reduceIte, Nat.reduceEqDiff, Nat.reduceLeDiff, Nat.reduceSub, Nat.reduceBEq, Nat.reduceBNe, Int.reduceLT, Int.reduceEq, Int.reduceAdd, Int.reduceToNat, Int.reduceLE, Int.reduceBEq, Int.reduceBNe, enc1, cChan, cCSt, eqTy_Sum, eqTy_Ref, hx, hx2, ho, hi, blockQ, retQ, RetOk, ResOk, AV.fin, AV.fins, CV.le, CV.les]
        (first | rfl | trace_state)
set_option maxRecDepth 100000 in
set_option maxHeartbeats 4000000 in
theorem ownerTake_ap (c : Chan) (x : Inp) (a i : Int) (p q : Way) (b : Out) (o : Opx) (g : List Sgn) (hi : p.keys = [i]) (hj : ((q.keys.length : Int) == 1) = false) (hx : x.tx = c.ft) (hx2 : x.at_ = c.fa) (ho : o.kind = 0) : AP Try.prog 56 [cChan c, cTxx ⟨[x], [⟨a, [p, q]⟩, b], o, g⟩] [ic .i64 (-1)] := by
  refine ap_of (fun _ _ => Try.call56 _ _) Try.func56 rfl Try.ntmps56 (by simp) (zs := [RZ.mk 4 none]) (by kernel_rfl) (fun w F => ?_)
  simp only [List.map_cons, List.map_nil, argT, Nat.reduceAdd]
  refine at_seq fun K1 hK1 => ?_
  refine at_region [It.mk (some 2) none (IK.box (Operand.tmp 0)), It.mk (some 3) none (IK.box (Operand.tmp 1)), It.mk (some 4) none (IK.p (PK.mov (Operand.const (Value.int IntKind.i64 0))))] (by kernel_rfl) ?_
  simp (maxSteps:=999999) (disch:=omega) only [av1, av2, av3, av4, av5, av6, eq_self, exists_const, forall_const, implies_true, storeOk, thenQ, PK.cond, PK.val, Nat.reduceAdd, Nat.reduceLT, Nat.reduceMul, reduceCtorEq, ↓reduceIte, Nat.reduceEqDiff, Nat.reduceLeDiff, Nat.reduceSub, Nat.reduceBEq, Nat.reduceBNe, Int.reduceLT, Int.reduceEq, Int.reduceAdd, Int.reduceToNat, Int.reduceLE, Int.reduceBEq, Int.reduceBNe, enc1, cChan, cCSt, eqTy_Sum, eqTy_Ref, hx, hx2, ho, hi, hj]
  (repeat ((with_reducible refine And.intro ?_ ?_); (first | trivial | assumption | omega | (simp; done))))
  refine hK1 _ ?_
  (try clear hK1)
  refine at_seq fun K2 hK2 => ?_
  refine at_seq fun K3 hK3 => ?_
  refine at_draws [] (by kernel_rfl) ?_
  refine ag_pures (fuel := 0) [0, 1, 2, 3, 4, 5, 6, 7, 8, 9, 10, 11, 12, 13, 14, 15, 16, 17, 18, 19, 20, 21, 22, 23, 24, 25, 26, 27, 28, 29, 30, 31, 32, 33, 34] [It.mk (some 10) none (IK.p (PK.fAddr (Operand.tmp 3) 0 0)), It.mk (some 11) none (IK.p (PK.load (Operand.tmp 10) 1 false)), It.mk (some 12) none (IK.p (PK.len false (Operand.tmp 11))), It.mk (some 13) none (IK.p (PK.bin BinOp.neq (Operand.tmp 12) (Operand.const (Value.int IntKind.i64 1)))), It.mk (some 14) none (IK.p (PK.mov (Operand.tmp 13))), It.mk (some 15) (some (14, false)) (IK.p (PK.fAddr (Operand.tmp 3) 0 0)), It.mk (some 16) (some (14, false)) (IK.p (PK.load (Operand.tmp 15) 1 false)), It.mk (some 17) (some (14, false)) (IK.p (PK.iAddrS (Operand.tmp 16) (Operand.const (Value.int IntKind.i64 0)) 35)), It.mk (some 18) (some (14, false)) (IK.p (PK.fAddr (Operand.tmp 17) 0 0)), It.mk (some 19) (some (14, false)) (IK.p (PK.load (Operand.tmp 18) 33 true)), It.mk (some 20) (some (14, false)) (IK.p (PK.fAddr (Operand.tmp 2) 3 3)), It.mk (some 21) (some (14, false)) (IK.p (PK.load (Operand.tmp 20) 33 true)), It.mk (some 22) (some (14, false)) (IK.p (PK.eqA true 62 (Sh.st [Sh.a IntKind.u8 32, Sh.i]) (Operand.tmp 19) (Operand.tmp 21))), It.mk (some 23) none (IK.p (PK.pick (Operand.tmp 14) (Operand.const (Value.bool true)) (Operand.tmp 22))), It.mk (some 24) none (IK.p (PK.mov (Operand.tmp 23))), It.mk (some 25) (some (24, false)) (IK.p (PK.fAddr (Operand.tmp 3) 1 1)), It.mk (some 26) (some (24, false)) (IK.p (PK.load (Operand.tmp 25) 1 false)), It.mk (some 27) (some (24, false)) (IK.p (PK.len false (Operand.tmp 26))), It.mk (some 28) (some (24, false)) (IK.p (PK.bin BinOp.neq (Operand.tmp 27) (Operand.const (Value.int IntKind.i64 2)))), It.mk (some 29) none (IK.p (PK.pick (Operand.tmp 24) (Operand.const (Value.bool true)) (Operand.tmp 28))), It.mk (some 30) none (IK.p (PK.mov (Operand.tmp 29))), It.mk (some 31) (some (30, false)) (IK.p (PK.fAddr (Operand.tmp 3) 1 1)), It.mk (some 32) (some (30, false)) (IK.p (PK.load (Operand.tmp 31) 1 false)), It.mk (some 33) (some (30, false)) (IK.p (PK.iAddrS (Operand.tmp 32) (Operand.const (Value.int IntKind.i64 0)) 2)), It.mk (some 34) (some (30, false)) (IK.p (PK.fAddr (Operand.tmp 33) 1 1)), It.mk (some 35) (some (30, false)) (IK.p (PK.load (Operand.tmp 34) 1 false)), It.mk (some 36) (some (30, false)) (IK.p (PK.len false (Operand.tmp 35))), It.mk (some 37) (some (30, false)) (IK.p (PK.bin BinOp.neq (Operand.tmp 36) (Operand.const (Value.int IntKind.i64 2)))), It.mk (some 38) none (IK.p (PK.pick (Operand.tmp 30) (Operand.const (Value.bool true)) (Operand.tmp 37))), It.mk (some 39) none (IK.p (PK.mov (Operand.tmp 38))), It.mk (some 40) (some (39, false)) (IK.p (PK.fAddr (Operand.tmp 3) 2 2)), It.mk (some 41) (some (39, false)) (IK.p (PK.fAddr (Operand.tmp 40) 0 0)), It.mk (some 42) (some (39, false)) (IK.p (PK.load (Operand.tmp 41) 1 false)), It.mk (some 43) (some (39, false)) (IK.p (PK.bin BinOp.neq (Operand.tmp 42) (Operand.const (Value.int IntKind.i64 0)))), It.mk (some 44) none (IK.p (PK.pick (Operand.tmp 39) (Operand.const (Value.bool true)) (Operand.tmp 43)))] (by kernel_rfl) (by kernel_rfl) (by kernel_rfl) (by kernel_rfl) (hideZ_nil _ 0) (fun K4 hK4 => ?_)
  simp (maxSteps:=999999) (disch:=omega) only [av1, av2, av3, av4, av5, av6, eq_self, exists_const, forall_const, implies_true, storeOk, thenQ, PK.cond, PK.val, Nat.reduceAdd, Nat.reduceLT, Nat.reduceMul, reduceCtorEq, ↓reduceIte, Nat.reduceEqDiff, Nat.reduceLeDiff, Nat.reduceSub, Nat.reduceBEq, Nat.reduceBNe, Int.reduceLT, Int.reduceEq, Int.reduceAdd, Int.reduceToNat, Int.reduceLE, Int.reduceBEq, Int.reduceBNe, enc1, cChan, cCSt, eqTy_Sum, eqTy_Ref, hx, hx2, ho, hi, hj]
  (repeat ((with_reducible refine And.intro ?_ ?_); (first | trivial | assumption | omega | (simp; done))))
  refine hK4 _ ?_
  (try clear hK4)
  refine ag_done (by kernel_rfl) ?_
  (try simp only [thenQ])
  refine hK3 _ ?_
  (try clear hK3)
  refine at_cond _ rfl rfl (fun h5 => ?_) (fun h5 => ?_)
  · have r5 := h5
    (try simp only [dB2] at h5)
    simp at h5
  · have r5 := h5
    (try simp only [dB2] at h5)
    refine at_skip ?_
    (try simp only [thenQ, blockQ])
    refine hK2 _ ?_
    (try clear hK2)
    refine at_seq fun K6 hK6 => ?_
    refine at_draws [2, 3] (by kernel_rfl) ?_
    refine ag_pures (fuel := 4) [0, 1, 2, 3, 4, 5, 6, 7, 8, 9, 10, 11, 12, 13] [It.mk (some 45) none (IK.p (PK.fAddr (Operand.tmp 3) 1 1)), It.mk (some 46) none (IK.p (PK.load (Operand.tmp 45) 1 false)), It.mk (some 47) none (IK.p (PK.iAddrS (Operand.tmp 46) (Operand.const (Value.int IntKind.i64 0)) 2)), It.mk (some 48) none (IK.p (PK.fAddr (Operand.tmp 47) 1 1)), It.mk (some 49) none (IK.p (PK.load (Operand.tmp 48) 1 false)), It.mk (some 50) none (IK.p (PK.iAddrS (Operand.tmp 49) (Operand.const (Value.int IntKind.i64 0)) 35)), It.mk (some 51) none (IK.p (PK.load (Operand.tmp 50) 35 true)), It.mk (some 52) none (IK.p (PK.fAddr (Operand.tmp 3) 1 1)), It.mk (some 53) none (IK.p (PK.load (Operand.tmp 52) 1 false)), It.mk (some 54) none (IK.p (PK.iAddrS (Operand.tmp 53) (Operand.const (Value.int IntKind.i64 0)) 2)), It.mk (some 55) none (IK.p (PK.fAddr (Operand.tmp 54) 1 1)), It.mk (some 56) none (IK.p (PK.load (Operand.tmp 55) 1 false)), It.mk (some 57) none (IK.p (PK.iAddrS (Operand.tmp 56) (Operand.const (Value.int IntKind.i64 1)) 35)), It.mk (some 58) none (IK.p (PK.load (Operand.tmp 57) 35 true))] (by kernel_rfl) (by kernel_rfl) (by kernel_rfl) (by kernel_rfl) (by simp only [hideZ, List.contains_cons, List.contains_nil, Nat.reduceAdd, Nat.reduceBEq, Bool.or_false, Bool.false_or, Bool.or_true, Bool.true_or, Bool.false_eq_true, if_true, if_false, ↓reduceIte]; rfl) (fun K7 hK7 => ?_)
    simp (maxSteps:=999999) (disch:=omega) only [av1, av2, av3, av4, av5, av6, eq_self, exists_const, forall_const, implies_true, storeOk, thenQ, PK.cond, PK.val, Nat.reduceAdd, Nat.reduceLT, Nat.reduceMul, reduceCtorEq, ↓reduceIte, Nat.reduceEqDiff, Nat.reduceLeDiff, Nat.reduceSub, Nat.reduceBEq, Nat.reduceBNe, Int.reduceLT, Int.reduceEq, Int.reduceAdd, Int.reduceToNat, Int.reduceLE, Int.reduceBEq, Int.reduceBNe, enc1, cChan, cCSt, eqTy_Sum, eqTy_Ref, hx, hx2, ho, hi, hj]
    (repeat ((with_reducible refine And.intro ?_ ?_); (first | trivial | assumption | omega | (simp; done))))
    refine hK7 _ ?_
    (try clear hK7)
    refine ag_two (i := 14) (j := 15) (by kernel_rfl) ?_ ?_
    · refine agi (it := It.mk (some 5) none (IK.alloc (CV.st [CV.pv (Value.slice none 0 0), CV.ar IntKind.u8 32 (List.replicate 32 0), CV.pv (Value.int IntKind.i64 0), CV.pv (Value.int IntKind.i64 0)]))) (R' := [13, 12, 11, 10, 9, 8, 7, 6, 5, 4, 3, 2, 1, 0]) (by kernel_rfl) (.inl rfl) (by kernel_rfl) (fun K8 hK8 => ?_)
      simp (maxSteps:=999999) (disch:=omega) only [av1, av2, av3, av4, av5, av6, eq_self, exists_const, forall_const, implies_true, storeOk, thenQ, PK.cond, PK.val, Nat.reduceAdd, Nat.reduceLT, Nat.reduceMul, reduceCtorEq, ↓reduceIte, Nat.reduceEqDiff, Nat.reduceLeDiff, Nat.reduceSub, Nat.reduceBEq, Nat.reduceBNe, Int.reduceLT, Int.reduceEq, Int.reduceAdd, Int.reduceToNat, Int.reduceLE, Int.reduceBEq, Int.reduceBNe, enc1, cChan, cCSt, eqTy_Sum, eqTy_Ref, hx, hx2, ho, hi, hj]
      (repeat ((with_reducible refine And.intro ?_ ?_); (first | trivial | assumption | omega | (simp; done))))
      refine hK8 _ ?_
      (try clear hK8)
      refine ag_one (i:=15) (by kernel_rfl) ?_
      refine agi (it := It.mk (some 6) none (IK.alloc (CV.st [CV.pv (Value.slice none 0 0), CV.ar IntKind.u8 32 (List.replicate 32 0), CV.pv (Value.int IntKind.i64 0), CV.pv (Value.int IntKind.i64 0)]))) (R' := [13, 12, 11, 10, 9, 8, 7, 6, 5, 4, 3, 2, 1, 0]) (by kernel_rfl) (.inl rfl) (by kernel_rfl) (fun K9 hK9 => ?_)
      simp (maxSteps:=999999) (disch:=omega) only [av1, av2, av3, av4, av5, av6, eq_self, exists_const, forall_const, implies_true, storeOk, thenQ, PK.cond, PK.val, Nat.reduceAdd, Nat.reduceLT, Nat.reduceMul, reduceCtorEq, ↓reduceIte, Nat.reduceEqDiff, Nat.reduceLeDiff, Nat.reduceSub, Nat.reduceBEq, Nat.reduceBNe, Int.reduceLT, Int.reduceEq, Int.reduceAdd, Int.reduceToNat, Int.reduceLE, Int.reduceBEq, Int.reduceBNe, enc1, cChan, cCSt, eqTy_Sum, eqTy_Ref, hx, hx2, ho, hi, hj]
      (repeat ((with_reducible refine And.intro ?_ ?_); (first | trivial | assumption | omega | (simp; done))))
      refine hK9 _ ?_
      (try clear hK9)
      refine ag_one (i:=16) (by kernel_rfl) ?_
      refine agi (it := It.mk none none (IK.store (Operand.tmp 5) (Operand.tmp 51) 35)) (R' := [13, 12, 11, 10, 9, 8, 7]) (by kernel_rfl) (.inl rfl) (by kernel_rfl) (fun K10 hK10 => ?_)
      simp (maxSteps:=999999) (disch:=omega) only [av1, av2, av3, av4, av5, av6, eq_self, exists_const, forall_const, implies_true, storeOk, thenQ, PK.cond, PK.val, Nat.reduceAdd, Nat.reduceLT, Nat.reduceMul, reduceCtorEq, ↓reduceIte, Nat.reduceEqDiff, Nat.reduceLeDiff, Nat.reduceSub, Nat.reduceBEq, Nat.reduceBNe, Int.reduceLT, Int.reduceEq, Int.reduceAdd, Int.reduceToNat, Int.reduceLE, Int.reduceBEq, Int.reduceBNe, enc1, cChan, cCSt, eqTy_Sum, eqTy_Ref, hx, hx2, ho, hi, hj]
      (repeat ((with_reducible refine And.intro ?_ ?_); (first | trivial | assumption | omega | (simp; done))))
      refine hK10 _ ?_
      (try clear hK10)
      refine ag_one (i:=17) (by kernel_rfl) ?_
      refine agi (it := It.mk none none (IK.store (Operand.tmp 6) (Operand.tmp 58) 35)) (R' := []) (by kernel_rfl) (.inr (by kernel_rfl)) (by kernel_rfl) (fun K11 hK11 => ?_)
      simp (maxSteps:=999999) (disch:=omega) only [av1, av2, av3, av4, av5, av6, eq_self, exists_const, forall_const, implies_true, storeOk, thenQ, PK.cond, PK.val, Nat.reduceAdd, Nat.reduceLT, Nat.reduceMul, reduceCtorEq, ↓reduceIte, Nat.reduceEqDiff, Nat.reduceLeDiff, Nat.reduceSub, Nat.reduceBEq, Nat.reduceBNe, Int.reduceLT, Int.reduceEq, Int.reduceAdd, Int.reduceToNat, Int.reduceLE, Int.reduceBEq, Int.reduceBNe, enc1, cChan, cCSt, eqTy_Sum, eqTy_Ref, hx, hx2, ho, hi, hj]
      (repeat ((with_reducible refine And.intro ?_ ?_); (first | trivial | assumption | omega | (simp; done))))
      refine hK11 _ ?_
      (try clear hK11)
      refine ag_done (by kernel_rfl) ?_
      (try simp only [thenQ])
      refine hK6 _ ?_
      (try clear hK6)
      refine at_seq fun K12 hK12 => ?_
      refine at_seq fun K13 hK13 => ?_
      refine at_region [It.mk (some 59) none (IK.p (PK.fAddr (Operand.tmp 2) 1 1)), It.mk (some 60) none (IK.p (PK.load (Operand.tmp 59) 1 false)), It.mk (some 61) none (IK.p (PK.fAddr (Operand.tmp 2) 2 2)), It.mk (some 62) none (IK.p (PK.load (Operand.tmp 61) 1 false)), It.mk (some 63) none (IK.p (PK.bld (CV.ar IntKind.i64 2 [0, 0]) [(0, 1), (1, 1)] [(0, Operand.tmp 60), (1, Operand.tmp 62)])), It.mk (some 64) none (IK.p (PK.mov (Operand.const (Value.int IntKind.i64 0))))] (by kernel_rfl) ?_
      simp (maxSteps:=999999) (disch:=omega) only [av1, av2, av3, av4, av5, av6, eq_self, exists_const, forall_const, implies_true, storeOk, thenQ, PK.cond, PK.val, Nat.reduceAdd, Nat.reduceLT, Nat.reduceMul, reduceCtorEq, ↓reduceIte, Nat.reduceEqDiff, Nat.reduceLeDiff, Nat.reduceSub, Nat.reduceBEq, Nat.reduceBNe, Int.reduceLT, Int.reduceEq, Int.reduceAdd, Int.reduceToNat, Int.reduceLE, Int.reduceBEq, Int.reduceBNe, enc1, cChan, cCSt, eqTy_Sum, eqTy_Ref, hx, hx2, ho, hi, hj]
      (repeat ((with_reducible refine And.intro ?_ ?_); (first | trivial | assumption | omega | (simp; done))))
      refine hK13 _ ?_
      (try clear hK13)
      refine at_block ?_
      refine at_loopK [2, 3, 5, 6, 63] (fun k : { k : Nat // k ≤ 2 } => [(64, true, bi .i64 k.1)]) (fun k => 2 - k.1) ⟨0, by omega⟩ ?_ ?_
      · simp (maxSteps:=999999) (disch:=omega) only [av1, av2, av3, av4, av5, av6, eq_self, exists_const, forall_const, implies_true, storeOk, thenQ, PK.cond, PK.val, Nat.reduceAdd, Nat.reduceLT, Nat.reduceMul, reduceCtorEq, ↓reduceIte, Nat.reduceEqDiff, Nat.reduceLeDiff, Nat.reduceSub, Nat.reduceBEq, Nat.reduceBNe, Int.reduceLT, Int.reduceEq, Int.reduceAdd, Int.reduceToNat, Int.reduceLE, Int.reduceBEq, Int.reduceBNe, enc1, cChan, cCSt, eqTy_Sum, eqTy_Ref, hx, hx2, ho, hi, hj]
        repeat' (first | exact SubT.nil | refine SubT.cons (by first | rfl | (simp [look]; done) | (fail)) ?_)
      rintro ⟨k, hk⟩
      simp (maxSteps:=999999) (disch:=omega) only [av1, av2, av3, av4, av5, av6, eq_self, exists_const, forall_const, implies_true, storeOk, thenQ, PK.cond, PK.val, Nat.reduceAdd, Nat.reduceLT, Nat.reduceMul, reduceCtorEq, ↓reduceIte, Nat.reduceEqDiff, Nat.reduceLeDiff, Nat.reduceSub, Nat.reduceBEq, Nat.reduceBNe, Int.reduceLT, Int.reduceEq, Int.reduceAdd, Int.reduceToNat, Int.reduceLE, Int.reduceBEq, Int.reduceBNe, enc1, cChan, cCSt, eqTy_Sum, eqTy_Ref, hx, hx2, ho, hi, hj]
      refine at_seq fun K14 hK14 => ?_
      refine at_region [It.mk (some 65) none (IK.p (PK.bin BinOp.lss (Operand.tmp 64) (Operand.const (Value.int IntKind.i64 2))))] (by kernel_rfl) ?_
      simp (maxSteps:=999999) (disch:=omega) only [av1, av2, av3, av4, av5, av6, eq_self, exists_const, forall_const, implies_true, storeOk, thenQ, PK.cond, PK.val, Nat.reduceAdd, Nat.reduceLT, Nat.reduceMul, reduceCtorEq, ↓reduceIte, Nat.reduceEqDiff, Nat.reduceLeDiff, Nat.reduceSub, Nat.reduceBEq, Nat.reduceBNe, Int.reduceLT, Int.reduceEq, Int.reduceAdd, Int.reduceToNat, Int.reduceLE, Int.reduceBEq, Int.reduceBNe, enc1, cChan, cCSt, eqTy_Sum, eqTy_Ref, hx, hx2, ho, hi, hj]
      (repeat ((with_reducible refine And.intro ?_ ?_); (first | trivial | assumption | omega | (simp; done))))
      refine hK14 _ ?_
      (try clear hK14)
      refine at_seq fun K15 hK15 => ?_
      refine at_cond _ rfl rfl (fun h16 => ?_) (fun h16 => ?_)
      · have r16 := h16
        (try simp only [dB2] at h16)
        refine at_skip ?_
        (try simp only [thenQ, blockQ])
        refine hK15 _ ?_
        (try clear hK15)
        refine at_seq fun K17 hK17 => ?_
        refine at_block ?_
        refine at_seq fun K18 hK18 => ?_
        refine at_region [It.mk (some 66) none (IK.p (PK.mov (Operand.tmp 64))), It.mk (some 67) none (IK.p (PK.idxA (Operand.tmp 63) (Operand.tmp 64) 2 1 false)), It.mk (some 7) none (IK.p (PK.mov (Operand.tmp 66))), It.mk (some 8) none (IK.p (PK.mov (Operand.tmp 67)))] (by kernel_rfl) ?_
        simp (maxSteps:=999999) (disch:=omega) only [av1, av2, av3, av4, av5, av6, eq_self, exists_const, forall_const, implies_true, storeOk, thenQ, PK.cond, PK.val, Nat.reduceAdd, Nat.reduceLT, Nat.reduceMul, reduceCtorEq, ↓reduceIte, Nat.reduceEqDiff, Nat.reduceLeDiff, Nat.reduceSub, Nat.reduceBEq, Nat.reduceBNe, Int.reduceLT, Int.reduceEq, Int.reduceAdd, Int.reduceToNat, Int.reduceLE, Int.reduceBEq, Int.reduceBNe, enc1, cChan, cCSt, eqTy_Sum, eqTy_Ref, hx, hx2, ho, hi, hj]
        (repeat ((with_reducible refine And.intro ?_ ?_); (first | trivial | assumption | omega | (simp; done))))
        refine hK18 _ ?_
        (try clear hK18)
        refine at_seq fun K19 hK19 => ?_
        refine at_region [It.mk (some 68) none (IK.p (PK.fAddr (Operand.tmp 2) 1 1)), It.mk (some 69) none (IK.p (PK.load (Operand.tmp 68) 1 false)), It.mk (some 70) none (IK.p (PK.fAddr (Operand.tmp 2) 2 2)), It.mk (some 71) none (IK.p (PK.load (Operand.tmp 70) 1 false)), It.mk (some 72) none (IK.p (PK.bin BinOp.add (Operand.tmp 69) (Operand.tmp 71))), It.mk (some 73) none (IK.p (PK.mov (Operand.tmp 8))), It.mk (some 74) none (IK.p (PK.bin BinOp.sub (Operand.tmp 72) (Operand.tmp 73))), It.mk (some 9) none (IK.p (PK.mov (Operand.tmp 74)))] (by kernel_rfl) ?_
        simp (maxSteps:=999999) (disch:=omega) only [av1, av2, av3, av4, av5, av6, eq_self, exists_const, forall_const, implies_true, storeOk, thenQ, PK.cond, PK.val, Nat.reduceAdd, Nat.reduceLT, Nat.reduceMul, reduceCtorEq, ↓reduceIte, Nat.reduceEqDiff, Nat.reduceLeDiff, Nat.reduceSub, Nat.reduceBEq, Nat.reduceBNe, Int.reduceLT, Int.reduceEq, Int.reduceAdd, Int.reduceToNat, Int.reduceLE, Int.reduceBEq, Int.reduceBNe, enc1, cChan, cCSt, eqTy_Sum, eqTy_Ref, hx, hx2, ho, hi, hj]
        (repeat ((with_reducible refine And.intro ?_ ?_); (first | trivial | assumption | omega | (simp; done))))
        refine hK19 _ ?_
        (try clear hK19)
        refine at_seq fun K20 hK20 => ?_
        refine at_region [It.mk (some 75) none (IK.p (PK.fAddr (Operand.tmp 5) 0 0)), It.mk (some 76) none (IK.p (PK.load (Operand.tmp 75) 1 false)), It.mk (some 77) none (IK.p (PK.len false (Operand.tmp 76))), It.mk (some 78) none (IK.p (PK.bin BinOp.eql (Operand.tmp 77) (Operand.const (Value.int IntKind.i64 1)))), It.mk (some 79) none (IK.p (PK.mov (Operand.tmp 78))), It.mk (some 80) (some (79, true)) (IK.p (PK.fAddr (Operand.tmp 5) 0 0)), It.mk (some 81) (some (79, true)) (IK.p (PK.load (Operand.tmp 80) 1 false)), It.mk (some 82) (some (79, true)) (IK.p (PK.iAddrS (Operand.tmp 81) (Operand.const (Value.int IntKind.i64 0)) 1)), It.mk (some 83) (some (79, true)) (IK.p (PK.load (Operand.tmp 82) 1 false)), It.mk (some 84) (some (79, true)) (IK.p (PK.mov (Operand.tmp 8))), It.mk (some 85) (some (79, true)) (IK.p (PK.bin BinOp.eql (Operand.tmp 83) (Operand.tmp 84))), It.mk (some 86) none (IK.p (PK.pick (Operand.tmp 79) (Operand.tmp 85) (Operand.const (Value.bool false)))), It.mk (some 87) none (IK.p (PK.mov (Operand.tmp 86))), It.mk (some 88) (some (87, true)) (IK.p (PK.fAddr (Operand.tmp 5) 3 34)), It.mk (some 89) (some (87, true)) (IK.p (PK.load (Operand.tmp 88) 1 false)), It.mk (some 90) (some (87, true)) (IK.p (PK.fAddr (Operand.tmp 2) 5 37)), It.mk (some 91) (some (87, true)) (IK.p (PK.load (Operand.tmp 90) 1 false)), It.mk (some 92) (some (87, true)) (IK.p (PK.bin BinOp.eql (Operand.tmp 89) (Operand.tmp 91))), It.mk (some 93) none (IK.p (PK.pick (Operand.tmp 87) (Operand.tmp 92) (Operand.const (Value.bool false)))), It.mk (some 94) none (IK.p (PK.mov (Operand.tmp 93))), It.mk (some 95) (some (94, true)) (IK.p (PK.fAddr (Operand.tmp 5) 2 33)), It.mk (some 96) (some (94, true)) (IK.p (PK.load (Operand.tmp 95) 1 false)), It.mk (some 97) (some (94, true)) (IK.p (PK.bin BinOp.eql (Operand.tmp 96) (Operand.const (Value.int IntKind.i64 0)))), It.mk (some 98) none (IK.p (PK.pick (Operand.tmp 94) (Operand.tmp 97) (Operand.const (Value.bool false)))), It.mk (some 99) none (IK.p (PK.mov (Operand.tmp 98))), It.mk (some 100) (some (99, true)) (IK.p (PK.fAddr (Operand.tmp 5) 1 1)), It.mk (some 101) (some (99, true)) (IK.p (PK.load (Operand.tmp 100) 32 true)), It.mk (some 102) (some (99, true)) (IK.p (PK.bld (CV.ar IntKind.u8 32 (List.replicate 32 0)) [(0, 1), (1, 1), (2, 1), (3, 1), (4, 1), (5, 1), (6, 1), (7, 1), (8, 1), (9, 1), (10, 1), (11, 1), (12, 1), (13, 1), (14, 1), (15, 1), (16, 1), (17, 1), (18, 1), (19, 1), (20, 1), (21, 1), (22, 1), (23, 1), (24, 1), (25, 1), (26, 1), (27, 1), (28, 1), (29, 1), (30, 1), (31, 1)] [])), It.mk (some 103) (some (99, true)) (IK.p (PK.eqA false 24 (Sh.a IntKind.u8 32) (Operand.tmp 101) (Operand.tmp 102))), It.mk (some 104) none (IK.p (PK.pick (Operand.tmp 99) (Operand.tmp 103) (Operand.const (Value.bool false)))), It.mk (some 105) none (IK.p (PK.mov (Operand.tmp 104))), It.mk (some 106) (some (105, true)) (IK.p (PK.fAddr (Operand.tmp 6) 0 0)), It.mk (some 107) (some (105, true)) (IK.p (PK.load (Operand.tmp 106) 1 false)), It.mk (some 108) (some (105, true)) (IK.p (PK.len false (Operand.tmp 107))), It.mk (some 109) (some (105, true)) (IK.p (PK.bin BinOp.eql (Operand.tmp 108) (Operand.const (Value.int IntKind.i64 1)))), It.mk (some 110) none (IK.p (PK.pick (Operand.tmp 105) (Operand.tmp 109) (Operand.const (Value.bool false)))), It.mk (some 111) none (IK.p (PK.mov (Operand.tmp 110))), It.mk (some 112) (some (111, true)) (IK.p (PK.fAddr (Operand.tmp 6) 0 0)), It.mk (some 113) (some (111, true)) (IK.p (PK.load (Operand.tmp 112) 1 false)), It.mk (some 114) (some (111, true)) (IK.p (PK.iAddrS (Operand.tmp 113) (Operand.const (Value.int IntKind.i64 0)) 1)), It.mk (some 115) (some (111, true)) (IK.p (PK.load (Operand.tmp 114) 1 false)), It.mk (some 116) (some (111, true)) (IK.p (PK.mov (Operand.tmp 9))), It.mk (some 117) (some (111, true)) (IK.p (PK.bin BinOp.eql (Operand.tmp 115) (Operand.tmp 116))), It.mk (some 118) none (IK.p (PK.pick (Operand.tmp 111) (Operand.tmp 117) (Operand.const (Value.bool false)))), It.mk (some 119) none (IK.p (PK.mov (Operand.tmp 118))), It.mk (some 120) (some (119, true)) (IK.p (PK.fAddr (Operand.tmp 6) 3 34)), It.mk (some 121) (some (119, true)) (IK.p (PK.load (Operand.tmp 120) 1 false)), It.mk (some 122) (some (119, true)) (IK.p (PK.bin BinOp.eql (Operand.tmp 121) (Operand.const (Value.int IntKind.i64 0)))), It.mk (some 123) none (IK.p (PK.pick (Operand.tmp 119) (Operand.tmp 122) (Operand.const (Value.bool false)))), It.mk (some 124) none (IK.p (PK.mov (Operand.tmp 123))), It.mk (some 125) (some (124, true)) (IK.p (PK.fAddr (Operand.tmp 6) 2 33)), It.mk (some 126) (some (124, true)) (IK.p (PK.load (Operand.tmp 125) 1 false)), It.mk (some 127) (some (124, true)) (IK.p (PK.bin BinOp.eql (Operand.tmp 126) (Operand.const (Value.int IntKind.i64 0)))), It.mk (some 128) none (IK.p (PK.pick (Operand.tmp 124) (Operand.tmp 127) (Operand.const (Value.bool false)))), It.mk (some 129) none (IK.p (PK.mov (Operand.tmp 128))), It.mk (some 130) (some (129, true)) (IK.p (PK.fAddr (Operand.tmp 6) 1 1)), It.mk (some 131) (some (129, true)) (IK.p (PK.load (Operand.tmp 130) 32 true)), It.mk (some 132) (some (129, true)) (IK.p (PK.bld (CV.ar IntKind.u8 32 (List.replicate 32 0)) [(0, 1), (1, 1), (2, 1), (3, 1), (4, 1), (5, 1), (6, 1), (7, 1), (8, 1), (9, 1), (10, 1), (11, 1), (12, 1), (13, 1), (14, 1), (15, 1), (16, 1), (17, 1), (18, 1), (19, 1), (20, 1), (21, 1), (22, 1), (23, 1), (24, 1), (25, 1), (26, 1), (27, 1), (28, 1), (29, 1), (30, 1), (31, 1)] [])), It.mk (some 133) (some (129, true)) (IK.p (PK.eqA true 24 (Sh.a IntKind.u8 32) (Operand.tmp 131) (Operand.tmp 132))), It.mk (some 134) none (IK.p (PK.pick (Operand.tmp 129) (Operand.tmp 133) (Operand.const (Value.bool false)))), It.mk (some 135) none (IK.p (PK.mov (Operand.tmp 134))), It.mk (some 136) (some (135, true)) (IK.p (PK.fAddr (Operand.tmp 3) 1 1)), It.mk (some 137) (some (135, true)) (IK.p (PK.load (Operand.tmp 136) 1 false)), It.mk (some 138) (some (135, true)) (IK.p (PK.iAddrS (Operand.tmp 137) (Operand.const (Value.int IntKind.i64 1)) 2)), It.mk (some 139) (some (135, true)) (IK.p (PK.load (Operand.tmp 138) 2 true)), It.mk (some 140) (some (135, true)) (IK.p (PK.mov (Operand.tmp 9))), It.mk (some 141) (some (135, true)) (IK.call 24 [Operand.tmp 139, Operand.tmp 140]), It.mk (some 142) none (IK.p (PK.pick (Operand.tmp 135) (Operand.tmp 141) (Operand.const (Value.bool false))))] (by kernel_rfl) ?_
        refine apl_cut [_, _, _, _, _, _, _, _, _, _, _, _, _, _, _, _, _, _, _, _, _, _, _, _, _, _, _, _, _, _, _, _, _, _, _, _, _, _, _, _, _, _, _, _, _, _, _, _, _, _, _, _, _, _, _, _, _, _, _, _, _, _, _, _, _, _] _ (fun K21 hK21 => ?_)
        simp (maxSteps:=999999) (disch:=omega) only [av1, av2, av3, av4, av5, av6, eq_self, exists_const, forall_const, implies_true, storeOk, thenQ, PK.cond, PK.val, Nat.reduceAdd, Nat.reduceLT, Nat.reduceMul, reduceCtorEq, ↓reduceIte, Nat.reduceEqDiff, Nat.reduceLeDiff, Nat.reduceSub, Nat.reduceBEq, Nat.reduceBNe, Int.reduceLT, Int.reduceEq, Int.reduceAdd, Int.reduceToNat, Int.reduceLE, Int.reduceBEq, Int.reduceBNe, enc1, cChan, cCSt, eqTy_Sum, eqTy_Ref, hx, hx2, ho, hi, hj]
        (repeat ((with_reducible refine And.intro ?_ ?_); (first | trivial | assumption | omega | (simp; done))))
        refine hK21 _ ?_
        (try clear hK21)
        refine apl_cut [_] _ (fun K22 hK22 => ?_)
        simp (maxSteps:=999999) (disch:=omega) only [av1, av2, av3, av4, av5, av6, eq_self, exists_const, forall_const, implies_true, storeOk, thenQ, PK.cond, PK.val, Nat.reduceAdd, Nat.reduceLT, Nat.reduceMul, reduceCtorEq, ↓reduceIte, Nat.reduceEqDiff, Nat.reduceLeDiff, Nat.reduceSub, Nat.reduceBEq, Nat.reduceBNe, Int.reduceLT, Int.reduceEq, Int.reduceAdd, Int.reduceToNat, Int.reduceLE, Int.reduceBEq, Int.reduceBNe, enc1, cChan, cCSt, eqTy_Sum, eqTy_Ref, hx, hx2, ho, hi, hj]
        apply Or.inl
        first | refine ⟨[], trivial, ?_⟩ | refine ⟨_, (lockSole_ap b _ (by assumption)), ?_⟩ | refine ⟨_, fun _ => (lockSole_ap b _ (by assumption)), ?_⟩ | refine ⟨_, fun h => ⟨h, (lockSole_ap b _ (by assumption))⟩, ?_⟩ | refine ⟨_, fun h => ⟨by simp_all, (lockSole_ap b _ (by assumption))⟩, ?_⟩ | refine ⟨[], ?_⟩
        (try simp only [rsAV, List.map_cons, List.map_nil, thenQ])
        refine hK22 _ ?_
        (try clear hK22)
        simp (maxSteps:=999999) (disch:=omega) only [av1, av2, av3, av4, av5, av6, eq_self, exists_const, forall_const, implies_true, storeOk, thenQ, PK.cond, PK.val, Nat.reduceAdd, Nat.reduceLT, Nat.reduceMul, reduceCtorEq, ↓reduceIte, Nat.reduceEqDiff, Nat.reduceLeDiff, Nat.reduceSub, Nat.reduceBEq, Nat.reduceBNe, Int.reduceLT, Int.reduceEq, Int.reduceAdd, Int.reduceToNat, Int.reduceLE, Int.reduceBEq, Int.reduceBNe, enc1, cChan, cCSt, eqTy_Sum, eqTy_Ref, hx, hx2, ho, hi, hj]
        (repeat ((with_reducible refine And.intro ?_ ?_); (first | trivial | assumption | omega | (simp; done))))
        refine hK20 _ ?_
        (try clear hK20)
        refine at_cond _ rfl rfl (fun h23 => ?_) (fun h23 => ?_)
        · have r23 := h23
          (try simp only [dB2] at h23)
          simp at h23
        · have r23 := h23
          (try simp only [dB2] at h23)
          refine at_skip ?_
          (try simp only [thenQ, blockQ])
          (try simp only [blockQ])
          refine hK17 _ ?_
          (try clear hK17)
          refine at_region [It.mk (some 144) none (IK.p (PK.bin BinOp.add (Operand.tmp 64) (Operand.const (Value.int IntKind.i64 1)))), It.mk (some 64) none (IK.p (PK.mov (Operand.tmp 144)))] (by kernel_rfl) ?_
          simp (maxSteps:=999999) (disch:=omega) only [av1, av2, av3, av4, av5, av6, eq_self, exists_const, forall_const, implies_true, storeOk, thenQ, PK.cond, PK.val, Nat.reduceAdd, Nat.reduceLT, Nat.reduceMul, reduceCtorEq, ↓reduceIte, Nat.reduceEqDiff, Nat.reduceLeDiff, Nat.reduceSub, Nat.reduceBEq, Nat.reduceBNe, Int.reduceLT, Int.reduceEq, Int.reduceAdd, Int.reduceToNat, Int.reduceLE, Int.reduceBEq, Int.reduceBNe, enc1, cChan, cCSt, eqTy_Sum, eqTy_Ref, hx, hx2, ho, hi, hj]
          (repeat ((with_reducible refine And.intro ?_ ?_); (first | trivial | assumption | omega | (simp; done))))
          refine ⟨⟨k + 1, by omega⟩, by (dsimp only; omega), ?_⟩
          refine Le.same rfl ?_
          (try simp (maxSteps:=999999) (disch:=omega) only [av1, av2, av3, av4, av5, av6, eq_self, exists_const, forall_const, implies_true, storeOk, thenQ, PK.cond, PK.val, Nat.reduceAdd, Nat.reduceLT, Nat.reduceMul, reduceCtorEq, ↓reduceIte, Nat.reduceEqDiff, Nat.reduceLeDiff, Nat.reduceSub, Nat.reduceBEq, Nat.reduceBNe, Int.reduceLT, Int.reduceEq, Int.reduceAdd, Int.reduceToNat, Int.reduceLE, Int.reduceBEq, Int.reduceBNe, enc1, cChan, cCSt, eqTy_Sum, eqTy_Ref, hx, hx2, ho, hi, hj])
          repeat' (first | exact SubT.nil | refine SubT.cons ?_ ?_)
          all_goals (first | rfl | (simp only [look, Nat.reduceEqDiff, ↓reduceIte]; first | rfl | ((rw [wrap64 (by omega) (by omega)]; rfl))))
      · have r16 := h16
        (try simp only [dB2] at h16)
        refine at_exit ?_
        simp only [thenQ, blockQ, if_true]
        refine hK12 _ ?_
        (try clear hK12)
        refine at_seq fun K24 hK24 => ?_
        refine at_region [It.mk (some 4) none (IK.p (PK.mov (Operand.const (Value.int IntKind.i64 (-1)))))] (by kernel_rfl) ?_
        simp (maxSteps:=999999) (disch:=omega) only [av1, av2, av3, av4, av5, av6, eq_self, exists_const, forall_const, implies_true, storeOk, thenQ, PK.cond, PK.val, Nat.reduceAdd, Nat.reduceLT, Nat.reduceMul, reduceCtorEq, ↓reduceIte, Nat.reduceEqDiff, Nat.reduceLeDiff, Nat.reduceSub, Nat.reduceBEq, Nat.reduceBNe, Int.reduceLT, Int.reduceEq, Int.reduceAdd, Int.reduceToNat, Int.reduceLE, Int.reduceBEq, Int.reduceBNe, enc1, cChan, cCSt, eqTy_Sum, eqTy_Ref, hx, hx2, ho, hi, hj]
        (repeat ((with_reducible refine And.intro ?_ ?_); (first | trivial | assumption | omega | (simp; done))))
        refine hK24 _ ?_
        (try clear hK24)
        refine at_ret ?_
        simp (maxSteps:=999999) (disch:=omega) only [av1, av2, av3, av4, av5, av6, eq_self, exists_const, forall_const, implies_true, storeOk, thenQ, PK.cond, PK.val, Nat.reduceAdd, Nat.reduceLT, Nat.reduceMul, reduceCtorEq, ↓reduceIte, Nat.reduceEqDiff, Nat.reduceLeDiff, Nat.reduceSub, Nat.reduceBEq, Nat.reduceBNe, Int.reduceLT, Int.reduceEq, Int.reduceAdd, Int.reduceToNat, Int.reduceLE, Int.reduceBEq, Int.reduceBNe, enc1, cChan, cCSt, eqTy_Sum, eqTy_Ref, hx, hx2, ho, hi, hj, blockQ, retQ, RetOk, ResOk, AV.fin, AV.fins, CV.le, CV.les]
        (first | rfl | trace_state)
    · refine agi (it := It.mk (some 6) none (IK.alloc (CV.st [CV.pv (Value.slice none 0 0), CV.ar IntKind.u8 32 (List.replicate 32 0), CV.pv (Value.int IntKind.i64 0), CV.pv (Value.int IntKind.i64 0)]))) (R' := [13, 12, 11, 10, 9, 8, 7, 6, 5, 4, 3, 2, 1, 0]) (by kernel_rfl) (.inl rfl) (by kernel_rfl) (fun K25 hK25 => ?_)
      simp (maxSteps:=999999) (disch:=omega) only [av1, av2, av3, av4, av5, av6, eq_self, exists_const, forall_const, implies_true, storeOk, thenQ, PK.cond, PK.val, Nat.reduceAdd, Nat.reduceLT, Nat.reduceMul, reduceCtorEq, ↓reduceIte, Nat.reduceEqDiff, Nat.reduceLeDiff, Nat.reduceSub, Nat.reduceBEq, Nat.reduceBNe, Int.reduceLT, Int.reduceEq, Int.reduceAdd, Int.reduceToNat, Int.reduceLE, Int.reduceBEq, Int.reduceBNe, enc1, cChan, cCSt, eqTy_Sum, eqTy_Ref, hx, hx2, ho, hi, hj]
      (repeat ((with_reducible refine And.intro ?_ ?_); (first | trivial | assumption | omega | (simp; done))))
      refine hK25 _ ?_
      (try clear hK25)
      refine ag_one (i:=14) (by kernel_rfl) ?_
      refine agi (it := It.mk (some 5) none (IK.alloc (CV.st [CV.pv (Value.slice none 0 0), CV.ar IntKind.u8 32 (List.replicate 32 0), CV.pv (Value.int IntKind.i64 0), CV.pv (Value.int IntKind.i64 0)]))) (R' := [13, 12, 11, 10, 9, 8, 7, 6, 5, 4, 3, 2, 1, 0]) (by kernel_rfl) (.inl rfl) (by kernel_rfl) (fun K26 hK26 => ?_)
      simp (maxSteps:=999999) (disch:=omega) only [av1, av2, av3, av4, av5, av6, eq_self, exists_const, forall_const, implies_true, storeOk, thenQ, PK.cond, PK.val, Nat.reduceAdd, Nat.reduceLT, Nat.reduceMul, reduceCtorEq, ↓reduceIte, Nat.reduceEqDiff, Nat.reduceLeDiff, Nat.reduceSub, Nat.reduceBEq, Nat.reduceBNe, Int.reduceLT, Int.reduceEq, Int.reduceAdd, Int.reduceToNat, Int.reduceLE, Int.reduceBEq, Int.reduceBNe, enc1, cChan, cCSt, eqTy_Sum, eqTy_Ref, hx, hx2, ho, hi, hj]
      (repeat ((with_reducible refine And.intro ?_ ?_); (first | trivial | assumption | omega | (simp; done))))
      refine hK26 _ ?_
      (try clear hK26)
      refine ag_one (i:=16) (by kernel_rfl) ?_
      refine agi (it := It.mk none none (IK.store (Operand.tmp 5) (Operand.tmp 51) 35)) (R' := [13, 12, 11, 10, 9, 8, 7]) (by kernel_rfl) (.inl rfl) (by kernel_rfl) (fun K27 hK27 => ?_)
      simp (maxSteps:=999999) (disch:=omega) only [av1, av2, av3, av4, av5, av6, eq_self, exists_const, forall_const, implies_true, storeOk, thenQ, PK.cond, PK.val, Nat.reduceAdd, Nat.reduceLT, Nat.reduceMul, reduceCtorEq, ↓reduceIte, Nat.reduceEqDiff, Nat.reduceLeDiff, Nat.reduceSub, Nat.reduceBEq, Nat.reduceBNe, Int.reduceLT, Int.reduceEq, Int.reduceAdd, Int.reduceToNat, Int.reduceLE, Int.reduceBEq, Int.reduceBNe, enc1, cChan, cCSt, eqTy_Sum, eqTy_Ref, hx, hx2, ho, hi, hj]
      (repeat ((with_reducible refine And.intro ?_ ?_); (first | trivial | assumption | omega | (simp; done))))
      refine hK27 _ ?_
      (try clear hK27)
      refine ag_one (i:=17) (by kernel_rfl) ?_
      refine agi (it := It.mk none none (IK.store (Operand.tmp 6) (Operand.tmp 58) 35)) (R' := []) (by kernel_rfl) (.inr (by kernel_rfl)) (by kernel_rfl) (fun K28 hK28 => ?_)
      simp (maxSteps:=999999) (disch:=omega) only [av1, av2, av3, av4, av5, av6, eq_self, exists_const, forall_const, implies_true, storeOk, thenQ, PK.cond, PK.val, Nat.reduceAdd, Nat.reduceLT, Nat.reduceMul, reduceCtorEq, ↓reduceIte, Nat.reduceEqDiff, Nat.reduceLeDiff, Nat.reduceSub, Nat.reduceBEq, Nat.reduceBNe, Int.reduceLT, Int.reduceEq, Int.reduceAdd, Int.reduceToNat, Int.reduceLE, Int.reduceBEq, Int.reduceBNe, enc1, cChan, cCSt, eqTy_Sum, eqTy_Ref, hx, hx2, ho, hi, hj]
      (repeat ((with_reducible refine And.intro ?_ ?_); (first | trivial | assumption | omega | (simp; done))))
      refine hK28 _ ?_
      (try clear hK28)
      refine ag_done (by kernel_rfl) ?_
      (try simp only [thenQ])
      refine hK6 _ ?_
      (try clear hK6)
      refine at_seq fun K29 hK29 => ?_
      refine at_seq fun K30 hK30 => ?_
      refine at_region [It.mk (some 59) none (IK.p (PK.fAddr (Operand.tmp 2) 1 1)), It.mk (some 60) none (IK.p (PK.load (Operand.tmp 59) 1 false)), It.mk (some 61) none (IK.p (PK.fAddr (Operand.tmp 2) 2 2)), It.mk (some 62) none (IK.p (PK.load (Operand.tmp 61) 1 false)), It.mk (some 63) none (IK.p (PK.bld (CV.ar IntKind.i64 2 [0, 0]) [(0, 1), (1, 1)] [(0, Operand.tmp 60), (1, Operand.tmp 62)])), It.mk (some 64) none (IK.p (PK.mov (Operand.const (Value.int IntKind.i64 0))))] (by kernel_rfl) ?_
      simp (maxSteps:=999999) (disch:=omega) only [av1, av2, av3, av4, av5, av6, eq_self, exists_const, forall_const, implies_true, storeOk, thenQ, PK.cond, PK.val, Nat.reduceAdd, Nat.reduceLT, Nat.reduceMul, reduceCtorEq, ↓reduceIte, Nat.reduceEqDiff, Nat.reduceLeDiff, Nat.reduceSub, Nat.reduceBEq, Nat.reduceBNe, Int.reduceLT, Int.reduceEq, Int.reduceAdd, Int.reduceToNat, Int.reduceLE, Int.reduceBEq, Int.reduceBNe, enc1, cChan, cCSt, eqTy_Sum, eqTy_Ref, hx, hx2, ho, hi, hj]
      (repeat ((with_reducible refine And.intro ?_ ?_); (first | trivial | assumption | omega | (simp; done))))
      refine hK30 _ ?_
      (try clear hK30)
      refine at_block ?_
      refine at_loopK [2, 3, 5, 6, 63] (fun k : { k : Nat // k ≤ 2 } => [(64, true, bi .i64 k.1)]) (fun k => 2 - k.1) ⟨0, by omega⟩ ?_ ?_
      · simp (maxSteps:=999999) (disch:=omega) only [av1, av2, av3, av4, av5, av6, eq_self, exists_const, forall_const, implies_true, storeOk, thenQ, PK.cond, PK.val, Nat.reduceAdd, Nat.reduceLT, Nat.reduceMul, reduceCtorEq, ↓reduceIte, Nat.reduceEqDiff, Nat.reduceLeDiff, Nat.reduceSub, Nat.reduceBEq, Nat.reduceBNe, Int.reduceLT, Int.reduceEq, Int.reduceAdd, Int.reduceToNat, Int.reduceLE, Int.reduceBEq, Int.reduceBNe, enc1, cChan, cCSt, eqTy_Sum, eqTy_Ref, hx, hx2, ho, hi, hj]
        repeat' (first | exact SubT.nil | refine SubT.cons (by first | rfl | (simp [look]; done) | (fail)) ?_)
      rintro ⟨k, hk⟩
      simp (maxSteps:=999999) (disch:=omega) only [av1, av2, av3, av4, av5, av6, eq_self, exists_const, forall_const, implies_true, storeOk, thenQ, PK.cond, PK.val, Nat.reduceAdd, Nat.reduceLT, Nat.reduceMul, reduceCtorEq, ↓reduceIte, Nat.reduceEqDiff, Nat.reduceLeDiff, Nat.reduceSub, Nat.reduceBEq, Nat.reduceBNe, Int.reduceLT, Int.reduceEq, Int.reduceAdd, Int.reduceToNat, Int.reduceLE, Int.reduceBEq, Int.reduceBNe, enc1, cChan, cCSt, eqTy_Sum, eqTy_Ref, hx, hx2, ho, hi, hj]
      refine at_seq fun K31 hK31 => ?_
      refine at_region [It.mk (some 65) none (IK.p (PK.bin BinOp.lss (Operand.tmp 64) (Operand.const (Value.int IntKind.i64 2))))] (by kernel_rfl) ?_
      simp (maxSteps:=999999) (disch:=omega) only [av1, av2, av3, av4, av5, av6, eq_self, exists_const, forall_const, implies_true, storeOk, thenQ, PK.cond, PK.val, Nat.reduceAdd, Nat.reduceLT, Nat.reduceMul, reduceCtorEq, ↓reduceIte, Nat.reduceEqDiff, Nat.reduceLeDiff, Nat.reduceSub, Nat.reduceBEq, Nat.reduceBNe, Int.reduceLT, Int.reduceEq, Int.reduceAdd, Int.reduceToNat, Int.reduceLE, Int.reduceBEq, Int.reduceBNe, enc1, cChan, cCSt, eqTy_Sum, eqTy_Ref, hx, hx2, ho, hi, hj]
      (repeat ((with_reducible refine And.intro ?_ ?_); (first | trivial | assumption | omega | (simp; done))))
      refine hK31 _ ?_
      (try clear hK31)
      refine at_seq fun K32 hK32 => ?_
      refine at_cond _ rfl rfl (fun h33 => ?_) (fun h33 => ?_)
      · have r33 := h33
        (try simp only [dB2] at h33)
        refine at_skip ?_
        (try simp only [thenQ, blockQ])
        refine hK32 _ ?_
        (try clear hK32)
        refine at_seq fun K34 hK34 => ?_
        refine at_block ?_
        refine at_seq fun K35 hK35 => ?_
        refine at_region [It.mk (some 66) none (IK.p (PK.mov (Operand.tmp 64))), It.mk (some 67) none (IK.p (PK.idxA (Operand.tmp 63) (Operand.tmp 64) 2 1 false)), It.mk (some 7) none (IK.p (PK.mov (Operand.tmp 66))), It.mk (some 8) none (IK.p (PK.mov (Operand.tmp 67)))] (by kernel_rfl) ?_
        simp (maxSteps:=999999) (disch:=omega) only [av1, av2, av3, av4, av5, av6, eq_self, exists_const, forall_const, implies_true, storeOk, thenQ, PK.cond, PK.val, Nat.reduceAdd, Nat.reduceLT, Nat.reduceMul, reduceCtorEq, ↓reduceIte, Nat.reduceEqDiff, Nat.reduceLeDiff, Nat.reduceSub, Nat.reduceBEq, Nat.reduceBNe, Int.reduceLT, Int.reduceEq, Int.reduceAdd, Int.reduceToNat, Int.reduceLE, Int.reduceBEq, Int.reduceBNe, enc1, cChan, cCSt, eqTy_Sum, eqTy_Ref, hx, hx2, ho, hi, hj]
        (repeat ((with_reducible refine And.intro ?_ ?_); (first | trivial | assumption | omega | (simp; done))))
        refine hK35 _ ?_
        (try clear hK35)
        refine at_seq fun K36 hK36 => ?_
        refine at_region [It.mk (some 68) none (IK.p (PK.fAddr (Operand.tmp 2) 1 1)), It.mk (some 69) none (IK.p (PK.load (Operand.tmp 68) 1 false)), It.mk (some 70) none (IK.p (PK.fAddr (Operand.tmp 2) 2 2)), It.mk (some 71) none (IK.p (PK.load (Operand.tmp 70) 1 false)), It.mk (some 72) none (IK.p (PK.bin BinOp.add (Operand.tmp 69) (Operand.tmp 71))), It.mk (some 73) none (IK.p (PK.mov (Operand.tmp 8))), It.mk (some 74) none (IK.p (PK.bin BinOp.sub (Operand.tmp 72) (Operand.tmp 73))), It.mk (some 9) none (IK.p (PK.mov (Operand.tmp 74)))] (by kernel_rfl) ?_
        simp (maxSteps:=999999) (disch:=omega) only [av1, av2, av3, av4, av5, av6, eq_self, exists_const, forall_const, implies_true, storeOk, thenQ, PK.cond, PK.val, Nat.reduceAdd, Nat.reduceLT, Nat.reduceMul, reduceCtorEq, ↓reduceIte, Nat.reduceEqDiff, Nat.reduceLeDiff, Nat.reduceSub, Nat.reduceBEq, Nat.reduceBNe, Int.reduceLT, Int.reduceEq, Int.reduceAdd, Int.reduceToNat, Int.reduceLE, Int.reduceBEq, Int.reduceBNe, enc1, cChan, cCSt, eqTy_Sum, eqTy_Ref, hx, hx2, ho, hi, hj]
        (repeat ((with_reducible refine And.intro ?_ ?_); (first | trivial | assumption | omega | (simp; done))))
        refine hK36 _ ?_
        (try clear hK36)
        refine at_seq fun K37 hK37 => ?_
        refine at_region [It.mk (some 75) none (IK.p (PK.fAddr (Operand.tmp 5) 0 0)), It.mk (some 76) none (IK.p (PK.load (Operand.tmp 75) 1 false)), It.mk (some 77) none (IK.p (PK.len false (Operand.tmp 76))), It.mk (some 78) none (IK.p (PK.bin BinOp.eql (Operand.tmp 77) (Operand.const (Value.int IntKind.i64 1)))), It.mk (some 79) none (IK.p (PK.mov (Operand.tmp 78))), It.mk (some 80) (some (79, true)) (IK.p (PK.fAddr (Operand.tmp 5) 0 0)), It.mk (some 81) (some (79, true)) (IK.p (PK.load (Operand.tmp 80) 1 false)), It.mk (some 82) (some (79, true)) (IK.p (PK.iAddrS (Operand.tmp 81) (Operand.const (Value.int IntKind.i64 0)) 1)), It.mk (some 83) (some (79, true)) (IK.p (PK.load (Operand.tmp 82) 1 false)), It.mk (some 84) (some (79, true)) (IK.p (PK.mov (Operand.tmp 8))), It.mk (some 85) (some (79, true)) (IK.p (PK.bin BinOp.eql (Operand.tmp 83) (Operand.tmp 84))), It.mk (some 86) none (IK.p (PK.pick (Operand.tmp 79) (Operand.tmp 85) (Operand.const (Value.bool false)))), It.mk (some 87) none (IK.p (PK.mov (Operand.tmp 86))), It.mk (some 88) (some (87, true)) (IK.p (PK.fAddr (Operand.tmp 5) 3 34)), It.mk (some 89) (some (87, true)) (IK.p (PK.load (Operand.tmp 88) 1 false)), It.mk (some 90) (some (87, true)) (IK.p (PK.fAddr (Operand.tmp 2) 5 37)), It.mk (some 91) (some (87, true)) (IK.p (PK.load (Operand.tmp 90) 1 false)), It.mk (some 92) (some (87, true)) (IK.p (PK.bin BinOp.eql (Operand.tmp 89) (Operand.tmp 91))), It.mk (some 93) none (IK.p (PK.pick (Operand.tmp 87) (Operand.tmp 92) (Operand.const (Value.bool false)))), It.mk (some 94) none (IK.p (PK.mov (Operand.tmp 93))), It.mk (some 95) (some (94, true)) (IK.p (PK.fAddr (Operand.tmp 5) 2 33)), It.mk (some 96) (some (94, true)) (IK.p (PK.load (Operand.tmp 95) 1 false)), It.mk (some 97) (some (94, true)) (IK.p (PK.bin BinOp.eql (Operand.tmp 96) (Operand.const (Value.int IntKind.i64 0)))), It.mk (some 98) none (IK.p (PK.pick (Operand.tmp 94) (Operand.tmp 97) (Operand.const (Value.bool false)))), It.mk (some 99) none (IK.p (PK.mov (Operand.tmp 98))), It.mk (some 100) (some (99, true)) (IK.p (PK.fAddr (Operand.tmp 5) 1 1)), It.mk (some 101) (some (99, true)) (IK.p (PK.load (Operand.tmp 100) 32 true)), It.mk (some 102) (some (99, true)) (IK.p (PK.bld (CV.ar IntKind.u8 32 (List.replicate 32 0)) [(0, 1), (1, 1), (2, 1), (3, 1), (4, 1), (5, 1), (6, 1), (7, 1), (8, 1), (9, 1), (10, 1), (11, 1), (12, 1), (13, 1), (14, 1), (15, 1), (16, 1), (17, 1), (18, 1), (19, 1), (20, 1), (21, 1), (22, 1), (23, 1), (24, 1), (25, 1), (26, 1), (27, 1), (28, 1), (29, 1), (30, 1), (31, 1)] [])), It.mk (some 103) (some (99, true)) (IK.p (PK.eqA false 24 (Sh.a IntKind.u8 32) (Operand.tmp 101) (Operand.tmp 102))), It.mk (some 104) none (IK.p (PK.pick (Operand.tmp 99) (Operand.tmp 103) (Operand.const (Value.bool false)))), It.mk (some 105) none (IK.p (PK.mov (Operand.tmp 104))), It.mk (some 106) (some (105, true)) (IK.p (PK.fAddr (Operand.tmp 6) 0 0)), It.mk (some 107) (some (105, true)) (IK.p (PK.load (Operand.tmp 106) 1 false)), It.mk (some 108) (some (105, true)) (IK.p (PK.len false (Operand.tmp 107))), It.mk (some 109) (some (105, true)) (IK.p (PK.bin BinOp.eql (Operand.tmp 108) (Operand.const (Value.int IntKind.i64 1)))), It.mk (some 110) none (IK.p (PK.pick (Operand.tmp 105) (Operand.tmp 109) (Operand.const (Value.bool false)))), It.mk (some 111) none (IK.p (PK.mov (Operand.tmp 110))), It.mk (some 112) (some (111, true)) (IK.p (PK.fAddr (Operand.tmp 6) 0 0)), It.mk (some 113) (some (111, true)) (IK.p (PK.load (Operand.tmp 112) 1 false)), It.mk (some 114) (some (111, true)) (IK.p (PK.iAddrS (Operand.tmp 113) (Operand.const (Value.int IntKind.i64 0)) 1)), It.mk (some 115) (some (111, true)) (IK.p (PK.load (Operand.tmp 114) 1 false)), It.mk (some 116) (some (111, true)) (IK.p (PK.mov (Operand.tmp 9))), It.mk (some 117) (some (111, true)) (IK.p (PK.bin BinOp.eql (Operand.tmp 115) (Operand.tmp 116))), It.mk (some 118) none (IK.p (PK.pick (Operand.tmp 111) (Operand.tmp 117) (Operand.const (Value.bool false)))), It.mk (some 119) none (IK.p (PK.mov (Operand.tmp 118))), It.mk (some 120) (some (119, true)) (IK.p (PK.fAddr (Operand.tmp 6) 3 34)), It.mk (some 121) (some (119, true)) (IK.p (PK.load (Operand.tmp 120) 1 false)), It.mk (some 122) (some (119, true)) (IK.p (PK.bin BinOp.eql (Operand.tmp 121) (Operand.const (Value.int IntKind.i64 0)))), It.mk (some 123) none (IK.p (PK.pick (Operand.tmp 119) (Operand.tmp 122) (Operand.const (Value.bool false)))), It.mk (some 124) none (IK.p (PK.mov (Operand.tmp 123))), It.mk (some 125) (some (124, true)) (IK.p (PK.fAddr (Operand.tmp 6) 2 33)), It.mk (some 126) (some (124, true)) (IK.p (PK.load (Operand.tmp 125) 1 false)), It.mk (some 127) (some (124, true)) (IK.p (PK.bin BinOp.eql (Operand.tmp 126) (Operand.const (Value.int IntKind.i64 0)))), It.mk (some 128) none (IK.p (PK.pick (Operand.tmp 124) (Operand.tmp 127) (Operand.const (Value.bool false)))), It.mk (some 129) none (IK.p (PK.mov (Operand.tmp 128))), It.mk (some 130) (some (129, true)) (IK.p (PK.fAddr (Operand.tmp 6) 1 1)), It.mk (some 131) (some (129, true)) (IK.p (PK.load (Operand.tmp 130) 32 true)), It.mk (some 132) (some (129, true)) (IK.p (PK.bld (CV.ar IntKind.u8 32 (List.replicate 32 0)) [(0, 1), (1, 1), (2, 1), (3, 1), (4, 1), (5, 1), (6, 1), (7, 1), (8, 1), (9, 1), (10, 1), (11, 1), (12, 1), (13, 1), (14, 1), (15, 1), (16, 1), (17, 1), (18, 1), (19, 1), (20, 1), (21, 1), (22, 1), (23, 1), (24, 1), (25, 1), (26, 1), (27, 1), (28, 1), (29, 1), (30, 1), (31, 1)] [])), It.mk (some 133) (some (129, true)) (IK.p (PK.eqA true 24 (Sh.a IntKind.u8 32) (Operand.tmp 131) (Operand.tmp 132))), It.mk (some 134) none (IK.p (PK.pick (Operand.tmp 129) (Operand.tmp 133) (Operand.const (Value.bool false)))), It.mk (some 135) none (IK.p (PK.mov (Operand.tmp 134))), It.mk (some 136) (some (135, true)) (IK.p (PK.fAddr (Operand.tmp 3) 1 1)), It.mk (some 137) (some (135, true)) (IK.p (PK.load (Operand.tmp 136) 1 false)), It.mk (some 138) (some (135, true)) (IK.p (PK.iAddrS (Operand.tmp 137) (Operand.const (Value.int IntKind.i64 1)) 2)), It.mk (some 139) (some (135, true)) (IK.p (PK.load (Operand.tmp 138) 2 true)), It.mk (some 140) (some (135, true)) (IK.p (PK.mov (Operand.tmp 9))), It.mk (some 141) (some (135, true)) (IK.call 24 [Operand.tmp 139, Operand.tmp 140]), It.mk (some 142) none (IK.p (PK.pick (Operand.tmp 135) (Operand.tmp 141) (Operand.const (Value.bool false))))] (by kernel_rfl) ?_
        refine apl_cut [_, _, _, _, _, _, _, _, _, _, _, _, _, _, _, _, _, _, _, _, _, _, _, _, _, _, _, _, _, _, _, _, _, _, _, _, _, _, _, _, _, _, _, _, _, _, _, _, _, _, _, _, _, _, _, _, _, _, _, _, _, _, _, _, _, _] _ (fun K38 hK38 => ?_)
        simp (maxSteps:=999999) (disch:=omega) only [av1, av2, av3, av4, av5, av6, eq_self, exists_const, forall_const, implies_true, storeOk, thenQ, PK.cond, PK.val, Nat.reduceAdd, Nat.reduceLT, Nat.reduceMul, reduceCtorEq, ↓reduceIte, Nat.reduceEqDiff, Nat.reduceLeDiff, Nat.reduceSub, Nat.reduceBEq, Nat.reduceBNe, Int.reduceLT, Int.reduceEq, Int.reduceAdd, Int.reduceToNat, Int.reduceLE, Int.reduceBEq, Int.reduceBNe, enc1, cChan, cCSt, eqTy_Sum, eqTy_Ref, hx, hx2, ho, hi, hj]
        (repeat ((with_reducible refine And.intro ?_ ?_); (first | trivial | assumption | omega | (simp; done))))
        refine hK38 _ ?_
        (try clear hK38)
        refine apl_cut [_] _ (fun K39 hK39 => ?_)
        simp (maxSteps:=999999) (disch:=omega) only [av1, av2, av3, av4, av5, av6, eq_self, exists_const, forall_const, implies_true, storeOk, thenQ, PK.cond, PK.val, Nat.reduceAdd, Nat.reduceLT, Nat.reduceMul, reduceCtorEq, ↓reduceIte, Nat.reduceEqDiff, Nat.reduceLeDiff, Nat.reduceSub, Nat.reduceBEq, Nat.reduceBNe, Int.reduceLT, Int.reduceEq, Int.reduceAdd, Int.reduceToNat, Int.reduceLE, Int.reduceBEq, Int.reduceBNe, enc1, cChan, cCSt, eqTy_Sum, eqTy_Ref, hx, hx2, ho, hi, hj]
        apply Or.inl
        first | refine ⟨[], trivial, ?_⟩ | refine ⟨_, (lockSole_ap b _ (by assumption)), ?_⟩ | refine ⟨_, fun _ => (lockSole_ap b _ (by assumption)), ?_⟩ | refine ⟨_, fun h => ⟨h, (lockSole_ap b _ (by assumption))⟩, ?_⟩ | refine ⟨_, fun h => ⟨by simp_all, (lockSole_ap b _ (by assumption))⟩, ?_⟩ | refine ⟨[], ?_⟩
        (try simp only [rsAV, List.map_cons, List.map_nil, thenQ])
        refine hK39 _ ?_
        (try clear hK39)
        simp (maxSteps:=999999) (disch:=omega) only [av1, av2, av3, av4, av5, av6, eq_self, exists_const, forall_const, implies_true, storeOk, thenQ, PK.cond, PK.val, Nat.reduceAdd, Nat.reduceLT, Nat.reduceMul, reduceCtorEq, ↓reduceIte, Nat.reduceEqDiff, Nat.reduceLeDiff, Nat.reduceSub, Nat.reduceBEq, Nat.reduceBNe, Int.reduceLT, Int.reduceEq, Int.reduceAdd, Int.reduceToNat, Int.reduceLE, Int.reduceBEq, Int.reduceBNe, enc1, cChan, cCSt, eqTy_Sum, eqTy_Ref, hx, hx2, ho, hi, hj]
        (repeat ((with_reducible refine And.intro ?_ ?_); (first | trivial | assumption | omega | (simp; done))))
        refine hK37 _ ?_
        (try clear hK37)
        refine at_cond _ rfl rfl (fun h40 => ?_) (fun h40 => ?_)
        · have r40 := h40
          (try simp only [dB2] at h40)
          simp at h40
        · have r40 := h40
          (try simp only [dB2] at h40)
          refine at_skip ?_
          (try simp only [thenQ, blockQ])
          (try simp only [blockQ])
          refine hK34 _ ?_
          (try clear hK34)
          refine at_region [It.mk (some 144) none (IK.p (PK.bin BinOp.add (Operand.tmp 64) (Operand.const (Value.int IntKind.i64 1)))), It.mk (some 64) none (IK.p (PK.mov (Operand.tmp 144)))] (by kernel_rfl) ?_
          simp (maxSteps:=999999) (disch:=omega) only [av1, av2, av3, av4, av5, av6, eq_self, exists_const, forall_const, implies_true, storeOk, thenQ, PK.cond, PK.val, Nat.reduceAdd, Nat.reduceLT, Nat.reduceMul, reduceCtorEq, ↓reduceIte, Nat.reduceEqDiff, Nat.reduceLeDiff, Nat.reduceSub, Nat.reduceBEq, Nat.reduceBNe, Int.reduceLT, Int.reduceEq, Int.reduceAdd, Int.reduceToNat, Int.reduceLE, Int.reduceBEq, Int.reduceBNe, enc1, cChan, cCSt, eqTy_Sum, eqTy_Ref, hx, hx2, ho, hi, hj]
          (repeat ((with_reducible refine And.intro ?_ ?_); (first | trivial | assumption | omega | (simp; done))))
          refine ⟨⟨k + 1, by omega⟩, by (dsimp only; omega), ?_⟩
          refine Le.same rfl ?_
          (try simp (maxSteps:=999999) (disch:=omega) only [av1, av2, av3, av4, av5, av6, eq_self, exists_const, forall_const, implies_true, storeOk, thenQ, PK.cond, PK.val, Nat.reduceAdd, Nat.reduceLT, Nat.reduceMul, reduceCtorEq, ↓reduceIte, Nat.reduceEqDiff, Nat.reduceLeDiff, Nat.reduceSub, Nat.reduceBEq, Nat.reduceBNe, Int.reduceLT, Int.reduceEq, Int.reduceAdd, Int.reduceToNat, Int.reduceLE, Int.reduceBEq, Int.reduceBNe, enc1, cChan, cCSt, eqTy_Sum, eqTy_Ref, hx, hx2, ho, hi, hj])
          repeat' (first | exact SubT.nil | refine SubT.cons ?_ ?_)
          all_goals (first | rfl | (simp only [look, Nat.reduceEqDiff, ↓reduceIte]; first | rfl | ((rw [wrap64 (by omega) (by omega)]; rfl))))
      · have r33 := h33
        (try simp only [dB2] at h33)
        refine at_exit ?_
        simp only [thenQ, blockQ, if_true]
        refine hK29 _ ?_
        (try clear hK29)
        refine at_seq fun K41 hK41 => ?_
        refine at_region [It.mk (some 4) none (IK.p (PK.mov (Operand.const (Value.int IntKind.i64 (-1)))))] (by kernel_rfl) ?_
        simp (maxSteps:=999999) (disch:=omega) only [av1, av2, av3, av4, av5, av6, eq_self, exists_const, forall_const, implies_true, storeOk, thenQ, PK.cond, PK.val, Nat.reduceAdd, Nat.reduceLT, Nat.reduceMul, reduceCtorEq, ↓reduceIte, Nat.reduceEqDiff, Nat.reduceLeDiff, Nat.reduceSub, Nat.reduceBEq, Nat.reduceBNe, Int.reduceLT, Int.reduceEq, Int.reduceAdd, Int.reduceToNat, Int.reduceLE, Int.reduceBEq, Int.reduceBNe, enc1, cChan, cCSt, eqTy_Sum, eqTy_Ref, hx, hx2, ho, hi, hj]
        (repeat ((with_reducible refine And.intro ?_ ?_); (first | trivial | assumption | omega | (simp; done))))
        refine hK41 _ ?_
        (try clear hK41)
        refine at_ret ?_
        simp (maxSteps:=999999) (disch:=omega) only [av1, av2, av3, av4, av5, av6, eq_self, exists_const, forall_const, implies_true, storeOk, thenQ, PK.cond, PK.val, Nat.reduceAdd, Nat.reduceLT, Nat.reduceMul, reduceCtorEq, ↓reduceIte, Nat.reduceEqDiff, Nat.reduceLeDiff, Nat.reduceSub, Nat.reduceBEq, Nat.reduceBNe, Int.reduceLT, Int.reduceEq, Int.reduceAdd, Int.reduceToNat, Int.reduceLE, Int.reduceBEq, Int.reduceBNe, enc1, cChan, cCSt, eqTy_Sum, eqTy_Ref, hx, hx2, ho, hi, hj, blockQ, retQ, RetOk, ResOk, AV.fin, AV.fins, CV.le, CV.les]
        (first | rfl | trace_state)
end Go.Proofs.Ytcghjnegaiiieaa
namespace Go.Proofs.Ytcghjnegaiiieaa
open Go.RowKit
set_option maxRecDepth 100000 in
set_option maxHeartbeats 4000000 in
theorem commitRef_ap (t : Txx) (ht : OkTxx t) (lt : (bodyBy false t).length ≤ 7000000) (hl : (sumF t).length = 32) : AP Try.prog 57 [cTxx t] [cRef (sumF t) 0] := by
  refine ap_of (fun _ _ => Try.call57 _ _) Try.func57 rfl Try.ntmps57 (by simp) (zs := [RZ.mk 2 (some (33, true))]) (by kernel_rfl) (fun w F => ?_)
  simp only [List.map_cons, List.map_nil, argT, Nat.reduceAdd]
  refine at_seq fun K1 hK1 => ?_
  refine at_region [It.mk (some 1) none (IK.box (Operand.tmp 0)), It.mk (some 2) none (IK.alloc (CV.st [CV.ar IntKind.u8 32 (List.replicate 32 0), CV.pv (Value.int IntKind.i64 0)]))] (by kernel_rfl) ?_
  simp (maxSteps:=999999) (disch:=omega) only [av1, av2, av3, av4, av5, av6, eq_self, exists_const, forall_const, implies_true, storeOk, thenQ, PK.cond, PK.val, Nat.reduceAdd, Nat.reduceLT, Nat.reduceMul, reduceCtorEq, ↓reduceIte, Nat.reduceEqDiff, Nat.reduceLeDiff, Nat.reduceSub, Nat.reduceBEq, Nat.reduceBNe, Int.reduceLT, Int.reduceEq, Int.reduceAdd, Int.reduceToNat, Int.reduceLE, Int.reduceBEq, Int.reduceBNe, enc1]
  (repeat ((with_reducible refine And.intro ?_ ?_); (first | trivial | assumption | omega | (exact nf_imp _) | (exact fn_imp _) | (intro hq; exact ⟨hq, by omega⟩) | (simp; done) | (intro hq; simp [hq]; done) | (intro hq; refine ⟨hq, fun hq2 => ?_⟩; rw [hq, hq2]; rfl))))
  refine hK1 _ ?_
  (try clear hK1)
  refine at_seq fun K2 hK2 => ?_
  refine at_region [It.mk (some 3) none (IK.p (PK.load (Operand.tmp 1) 40 true)), It.mk (some 4) none (IK.call 58 [Operand.tmp 3]), It.mk (some 5) none (IK.p (PK.bld (CV.st [CV.ar IntKind.u8 32 (List.replicate 32 0), CV.pv (Value.int IntKind.i64 0)]) [(0, 32), (32, 1)] [(0, Operand.tmp 4)])), It.mk none none (IK.store (Operand.tmp 2) (Operand.tmp 5) 33)] (by kernel_rfl) ?_
  refine apl_cut [_] _ (fun K3 hK3 => ?_)
  simp (maxSteps:=999999) (disch:=omega) only [av1, av2, av3, av4, av5, av6, eq_self, exists_const, forall_const, implies_true, storeOk, thenQ, PK.cond, PK.val, Nat.reduceAdd, Nat.reduceLT, Nat.reduceMul, reduceCtorEq, ↓reduceIte, Nat.reduceEqDiff, Nat.reduceLeDiff, Nat.reduceSub, Nat.reduceBEq, Nat.reduceBNe, Int.reduceLT, Int.reduceEq, Int.reduceAdd, Int.reduceToNat, Int.reduceLE, Int.reduceBEq, Int.reduceBNe, enc1]
  (repeat ((with_reducible refine And.intro ?_ ?_); (first | trivial | assumption | omega | (exact nf_imp _) | (exact fn_imp _) | (intro hq; exact ⟨hq, by omega⟩) | (simp; done) | (intro hq; simp [hq]; done) | (intro hq; refine ⟨hq, fun hq2 => ?_⟩; rw [hq, hq2]; rfl))))
  refine hK3 _ ?_
  (try clear hK3)
  refine apl_cut [_] _ (fun K4 hK4 => ?_)
  simp (maxSteps:=999999) (disch:=omega) only [av1, av2, av3, av4, av5, av6, eq_self, exists_const, forall_const, implies_true, storeOk, thenQ, PK.cond, PK.val, Nat.reduceAdd, Nat.reduceLT, Nat.reduceMul, reduceCtorEq, ↓reduceIte, Nat.reduceEqDiff, Nat.reduceLeDiff, Nat.reduceSub, Nat.reduceBEq, Nat.reduceBNe, Int.reduceLT, Int.reduceEq, Int.reduceAdd, Int.reduceToNat, Int.reduceLE, Int.reduceBEq, Int.reduceBNe, enc1]
  apply Or.inl
  first | refine ⟨[], trivial, ?_⟩ | refine ⟨_, (txSum_ap t ht lt hl), ?_⟩ | refine ⟨_, fun _ => (txSum_ap t ht lt hl), ?_⟩ | refine ⟨_, fun h => ⟨h, (txSum_ap t ht lt hl)⟩, ?_⟩ | refine ⟨_, fun h => ⟨by simp_all, (txSum_ap t ht lt hl)⟩, ?_⟩ | refine ⟨[], ?_⟩
  (try simp only [rsAV, List.map_cons, List.map_nil, thenQ])
  refine hK4 _ ?_
  (try clear hK4)
  simp (maxSteps:=999999) (disch:=omega) only [av1, av2, av3, av4, av5, av6, eq_self, exists_const, forall_const, implies_true, storeOk, thenQ, PK.cond, PK.val, Nat.reduceAdd, Nat.reduceLT, Nat.reduceMul, reduceCtorEq, ↓reduceIte, Nat.reduceEqDiff, Nat.reduceLeDiff, Nat.reduceSub, Nat.reduceBEq, Nat.reduceBNe, Int.reduceLT, Int.reduceEq, Int.reduceAdd, Int.reduceToNat, Int.reduceLE, Int.reduceBEq, Int.reduceBNe, enc1]
  (repeat ((with_reducible refine And.intro ?_ ?_); (first | trivial | assumption | omega | (exact nf_imp _) | (exact fn_imp _) | (intro hq; exact ⟨hq, by omega⟩) | (simp; done) | (intro hq; simp [hq]; done) | (intro hq; refine ⟨hq, fun hq2 => ?_⟩; rw [hq, hq2]; rfl))))
  refine hK2 _ ?_
  (try clear hK2)
  refine at_ret ?_
  simp (maxSteps:=999999) (disch:=omega) only [av1, av2, av3, av4, av5, av6, eq_self, exists_const, forall_const, implies_true, storeOk, thenQ, PK.cond, PK.val, Nat.reduceAdd, Nat.reduceLT, Nat.reduceMul, reduceCtorEq, ↓reduceIte, Nat.reduceEqDiff, Nat.reduceLeDiff, Nat.reduceSub, Nat.reduceBEq, Nat.reduceBNe, Int.reduceLT, Int.reduceEq, Int.reduceAdd, Int.reduceToNat, Int.reduceLE, Int.reduceBEq, Int.reduceBNe, enc1, blockQ, retQ, RetOk, ResOk, AV.fin, AV.fins, CV.le, CV.les]
  skip
end Go.Proofs.Ytcghjnegaiiieaa
namespace Go.Proofs.Ytcghjnegaiiieaa
open Go.RowKit
theorem OkTxx.well {t : Txx} (h : OkTxx t) : TxWell t := by
  refine ⟨fun x hx => ?_, fun o ho => ?_, ⟨h.op.root.1, h.op.root.2, h.op.kind, h.op.tower, h.op.channel, h.op.amount⟩, h.op.data.all, fun x hx => ?_⟩
  · have hx := h.ins.all x hx
    exact ⟨⟨hx.tx.1, hx.tx.2, hx.at_, hx.way⟩, hx.pre.all⟩
  · have ho := h.outs.all o ho
    exact ⟨ho.amount, fun x hx => have hx := ho.ways.all x hx; ⟨⟨hx.hash.1, hx.hash.2, hx.after, hx.wait⟩, hx.keys.all⟩⟩
  · have hx := h.sgns.all x hx
    exact ⟨hx.of_.1, hx.of_.2, hx.key⟩
end Go.Proofs.Ytcghjnegaiiieaa
namespace Go.Proofs.Ytcghjnegaiiieaa
open Go.RowKit
def ownerTx (c : Chan) (t : Txx) : Int := match t.ins, t.outs with
  | [x], [a, b] => match a.ways with
    | [p, q] => if x.tx = c.ft ∧ x.at_ = c.fa ∧ t.op.kind = 0 then ownerOf c p q b else -1
    | _ => -1
  | _, _ => -1
theorem ownerOf_keys {c : Chan} {p q : Way} {b : Out} (h : ¬ (p.keys.length = 1 ∧ q.keys.length = 1)) : ownerOf c p q b = -1 := by
  have e : ∀ k, ownAt c p q b k = false := fun k => by
    unfold ownAt
    cases h1 : p.keys.length == 1 with
    | false => simp
    | true =>
      have h1 := beq_iff_eq.1 h1
      have h2 : (q.keys.length == 1) = false := by
        rw [beq_eq_false_iff_ne]
        exact fun h2 => h ⟨h1, h2⟩
      simp [h2]
  exact ownerOf_none (e 0) (e 1)
theorem len_one {α : Type} {l : List α} (h : l.length = 1) : ∃ x, l = [x] := by
  match l, h with
  | [x], _ => exact ⟨x, rfl⟩
theorem len_two {α : Type} {l : List α} (h : l.length = 2) : ∃ x y, l = [x, y] := by
  match l, h with
  | [x, y], _ => exact ⟨x, y, rfl⟩
theorem owner_ap (c : Chan) (t : Txx) (ht : OkTxx t) : AP Try.prog 56 [cChan c, cTxx t] [ic .i64 (ownerTx c t)] := by
  obtain ⟨I, O, o, g⟩ := t
  by_cases hI : I.length = 1
  · obtain ⟨x, rfl⟩ := len_one hI
    by_cases hO : O.length = 2
    · obtain ⟨⟨a, W⟩, b, rfl⟩ := len_two hO
      have hb : OkOut b := ht.outs.all b (by simp)
      by_cases hh : x.tx = c.ft ∧ x.at_ = c.fa ∧ W.length = 2 ∧ o.kind = 0
      · obtain ⟨h1, h2, h3, h4⟩ := hh
        obtain ⟨p, q, rfl⟩ := len_two h3
        have e : ownerTx c ⟨[x], [⟨a, [p, q]⟩, b], o, g⟩ = ownerOf c p q b := by simp [ownerTx, h1, h2, h4]
        rw [e]
        by_cases hp : p.keys.length = 1
        · obtain ⟨i, hi⟩ := len_one hp
          by_cases hq : q.keys.length = 1
          · obtain ⟨j, hj⟩ := len_one hq
            exact ownerFull_ap c x a i j p q b o g hi hj hb h1 h2 h4
          · rw [ownerOf_keys (fun h => hq h.2)]
            exact ownerTake_ap c x a i p q b o g hi (by rw [beq_eq_false_iff_ne]; omega) h1 h2 h4
        · rw [ownerOf_keys (fun h => hp h.1)]
          exact ownerOwn_ap c x a p q b o g (by rw [beq_eq_false_iff_ne]; omega) h1 h2 h4
      · have e : ownerTx c ⟨[x], [⟨a, W⟩, b], o, g⟩ = -1 := by
          by_cases hW : W.length = 2
          · obtain ⟨p, q, rfl⟩ := len_two hW
            exact if_neg fun h => hh ⟨h.1, h.2.1, rfl, h.2.2⟩
          · unfold ownerTx
            simp only
            split
            · exact absurd rfl hW
            · rfl
        rw [e]
        exact ownerHead_ap c x a W b o g hh
    · have e : ownerTx c ⟨[x], O, o, g⟩ = -1 := by
        unfold ownerTx
        dsimp only
        split
        · exact absurd rfl hO
        · rfl
      rw [e]
      exact ownerOuts_ap c x O o g (by rw [bne_iff_ne]; omega)
  · have e : ownerTx c ⟨I, O, o, g⟩ = -1 := by
      unfold ownerTx
      dsimp only
      split
      · exact absurd rfl hI
      · rfl
    rw [e]
    exact ownerIns_ap c I O o g (by rw [bne_iff_ne]; omega)
theorem ownerTx_full {c : Chan} {t : Txx} (h : 0 ≤ ownerTx c t) : ∃ x a p q b, t.ins = [x] ∧ t.outs = [⟨a, [p, q]⟩, b] ∧ p.keys.length = 1 ∧ q.keys.length = 1 := by
  unfold ownerTx at h
  split at h
  · rename_i x a b e1 e2
    split at h
    · rename_i p q e3
      split at h
      · obtain ⟨am, w⟩ := a
        dsimp only at e3
        subst e3
        refine ⟨x, am, p, q, b, e1, e2, ?_⟩
        by_cases hk : p.keys.length = 1 ∧ q.keys.length = 1
        · exact hk
        · rw [ownerOf_keys hk] at h
          omega
      · omega
    · omega
  · omega
theorem txRight_ap (t : Txx) (ht : OkTxx t) : AP Try.prog 69 [cTxx t] [.pv (.bool (txB t))] :=
  ap_flat (fun _ _ => Try.call69 _ _) fun w F vs hF hvs => by
    obtain ⟨u, rfl, h1⟩ := reps_one hvs
    obtain ⟨cs, rfl, r1⟩ := repV_brg brgTxx h1 ht rfl
    obtain ⟨p, rfl, w1⟩ := r1.open_
    exact (txRight_any t p F w w1).mono fun e w' ⟨h1, h2⟩ => ⟨⟨_, h1, pv_repV rfl⟩, h2⟩
theorem smallTx_ap (t : Txx) (ht : OkTxx t) : AP Try.prog 59 [cTxx t] [ic .i64 (if smallTx t then 0 else 1)] :=
  ap_flat (fun _ _ => Try.call59 _ _) fun w F vs hF hvs => by
    obtain ⟨u, rfl, h1⟩ := reps_one hvs
    obtain ⟨cs, rfl, r1⟩ := repV_brg brgTxx h1 ht rfl
    obtain ⟨p, rfl, w1⟩ := r1.open_
    exact (smallTx_any t p F w w1).mono fun e w' ⟨h1, h2⟩ => ⟨⟨_, h1, pv_repV rfl⟩, h2⟩
def cTr (t : Tr) : CV := .st [ints .i64 t.keys, ints .u8 t.pre, ic .i64 t.height, ic .i64 t.age]
structure OkTr (t : Tr) : Prop where
  keys : SlOk (fun n => (Lit.int .i64 n).wf = true) t.keys
  pre : SlOk (fun n => (Lit.int .u8 n).wf = true) t.pre
  height : (Lit.int .i64 t.height).wf = true
  age : (Lit.int .i64 t.age).wf = true
theorem brgTr : Brg RTry 4 cTr OkTr :=
  (Brgs.cons (Brg.sl (Brg.int .i64) (RInt.good .i64)) (Brgs.cons (Brg.sl (Brg.int .u8) (RInt.good .u8)) (Brgs.cons (Brg.int .i64) (Brgs.cons (Brg.int .i64) Brgs.nil)))).st _ cTr OkTr 4 (fun x => rfl) (fun x => ⟨fun h => ⟨h.keys, h.pre, h.height, h.age, trivial⟩, fun h => ⟨h.1, h.2.1, h.2.2.1, h.2.2.2.1⟩⟩) (fun x => rfl)
noncomputable def opB (x : Way) (t : Tr) : Bool := allIn x.keys t.keys && hashB x t && lateB x t
theorem opens_ap (x : Way) (t : Tr) (hx : OkWay x) (ht : OkTr t) (hp : t.pre.length ≤ 10000000) : AP Try.prog 20 [cWay x, cTr t] [.pv (.bool (opB x t))] :=
  ap_flat (fun _ _ => Try.call20 _ _) fun w F vs hF hvs => by
    obtain ⟨u, v, rfl, h1, h2⟩ := reps_two hvs
    obtain ⟨cs, rfl, r1⟩ := repV_brg brgWay h1 hx rfl
    obtain ⟨ds, rfl, r2⟩ := repV_brg brgTr h2 ht rfl
    obtain ⟨KA, kc, PA, pc, rfl, hk, hpre, _, _⟩ := r2.open_
    exact (opens_any x t KA PA kc pc cs F w r1 hF hk hpre hp).mono fun e w' ⟨h1, h2⟩ => ⟨⟨_, h1, pv_repV rfl⟩, h2⟩
theorem keys_yes {S : List Int} {l : List Sgn} {k : Nat} (hk : k < l.length) (h : (l.getD k default).of_ = S) : (keysOf S (l.take (k + 1))).map (ic .i64) = (keysOf S (l.take k)).map (ic .i64) ++ [.pv (.int .i64 (l.getD k default).key)] := by
  have e : l.getD k default = l[k] := by simp [hk]
  rw [e] at h ⊢
  rw [keysOf_take S l k hk, if_pos (by simp [h]), List.map_append]
  rfl
theorem keys_no {S : List Int} {l : List Sgn} {k : Nat} (hk : k < l.length) (h : ¬ (l.getD k default).of_ = S) : (keysOf S (l.take (k + 1))).map (ic .i64) = (keysOf S (l.take k)).map (ic .i64) := by
  have e : l.getD k default = l[k] := by simp [hk]
  rw [e] at h
  rw [keysOf_take S l k hk, if_neg (by simpa using h), List.append_nil]
set_option maxRecDepth 100000 in
set_option maxHeartbeats 4000000 in
theorem txKeys_ap (t : Txx) (ht : OkTxx t) (lt : (bodyBy false t).length ≤ 7000000) (hl : (sumF t).length = 32) (hn : t.sgns.length ≤ 1000000) : AP Try.prog 70 [cTxx t] [ints .i64 (keysOf (sumF t) t.sgns)] := by
  refine ap_of (fun _ _ => Try.call70 _ _) Try.func70 rfl Try.ntmps70 (by simp) (zs := [RZ.mk 2 none]) (by kernel_rfl) (fun w F => ?_)
  simp only [List.map_cons, List.map_nil, argT, Nat.reduceAdd]
  refine at_seq fun K1 hK1 => ?_
  refine at_region [It.mk (some 1) none (IK.box (Operand.tmp 0)), It.mk (some 2) none (IK.p (PK.mov (Operand.const (Value.slice none 0 0))))] (by kernel_rfl) ?_
  simp (maxSteps:=999999) (disch:=omega) only [av1, av2, av3, av4, av5, av6, eq_self, exists_const, forall_const, implies_true, storeOk, thenQ, PK.cond, PK.val, Nat.reduceAdd, Nat.reduceLT, Nat.reduceMul, reduceCtorEq, ↓reduceIte, Nat.reduceEqDiff, Nat.reduceLeDiff, Nat.reduceSub, Nat.reduceBEq, Nat.reduceBNe, Int.reduceLT, Int.reduceEq, Int.reduceAdd, Int.reduceToNat, Int.reduceLE, Int.reduceBEq, Int.reduceBNe, enc1, eqTy_Sum, getD_map]
  (repeat ((with_reducible refine And.intro ?_ ?_); (first | trivial | assumption | omega | (exact nf_imp _) | (exact fn_imp _) | (intro hq; exact ⟨hq, by omega⟩) | (simp; done) | (intro hq; simp [hq]; done) | (intro hq; refine ⟨hq, fun hq2 => ?_⟩; rw [hq, hq2]; rfl))))
  refine hK1 _ ?_
  (try clear hK1)
  refine at_seq fun K2 hK2 => ?_
  refine at_region [It.mk (some 7) none (IK.p (PK.load (Operand.tmp 1) 40 true)), It.mk (some 8) none (IK.call 58 [Operand.tmp 7]), It.mk (some 3) none (IK.alloc (CV.ar IntKind.u8 32 (List.replicate 32 0))), It.mk none none (IK.store (Operand.tmp 3) (Operand.tmp 8) 32)] (by kernel_rfl) ?_
  refine apl_cut [_] _ (fun K3 hK3 => ?_)
  simp (maxSteps:=999999) (disch:=omega) only [av1, av2, av3, av4, av5, av6, eq_self, exists_const, forall_const, implies_true, storeOk, thenQ, PK.cond, PK.val, Nat.reduceAdd, Nat.reduceLT, Nat.reduceMul, reduceCtorEq, ↓reduceIte, Nat.reduceEqDiff, Nat.reduceLeDiff, Nat.reduceSub, Nat.reduceBEq, Nat.reduceBNe, Int.reduceLT, Int.reduceEq, Int.reduceAdd, Int.reduceToNat, Int.reduceLE, Int.reduceBEq, Int.reduceBNe, enc1, eqTy_Sum, getD_map]
  (repeat ((with_reducible refine And.intro ?_ ?_); (first | trivial | assumption | omega | (exact nf_imp _) | (exact fn_imp _) | (intro hq; exact ⟨hq, by omega⟩) | (simp; done) | (intro hq; simp [hq]; done) | (intro hq; refine ⟨hq, fun hq2 => ?_⟩; rw [hq, hq2]; rfl))))
  refine hK3 _ ?_
  (try clear hK3)
  refine apl_cut [_] _ (fun K4 hK4 => ?_)
  simp (maxSteps:=999999) (disch:=omega) only [av1, av2, av3, av4, av5, av6, eq_self, exists_const, forall_const, implies_true, storeOk, thenQ, PK.cond, PK.val, Nat.reduceAdd, Nat.reduceLT, Nat.reduceMul, reduceCtorEq, ↓reduceIte, Nat.reduceEqDiff, Nat.reduceLeDiff, Nat.reduceSub, Nat.reduceBEq, Nat.reduceBNe, Int.reduceLT, Int.reduceEq, Int.reduceAdd, Int.reduceToNat, Int.reduceLE, Int.reduceBEq, Int.reduceBNe, enc1, eqTy_Sum, getD_map]
  apply Or.inl
  first | refine ⟨[], trivial, ?_⟩ | refine ⟨_, (txSum_ap t ht lt hl), ?_⟩ | refine ⟨_, fun _ => (txSum_ap t ht lt hl), ?_⟩ | refine ⟨_, fun h => ⟨h, (txSum_ap t ht lt hl)⟩, ?_⟩ | refine ⟨_, fun h => ⟨by simp_all, (txSum_ap t ht lt hl)⟩, ?_⟩ | refine ⟨[], ?_⟩
  (try simp only [rsAV, List.map_cons, List.map_nil, thenQ])
  refine hK4 _ ?_
  (try clear hK4)
  simp (maxSteps:=999999) (disch:=omega) only [av1, av2, av3, av4, av5, av6, eq_self, exists_const, forall_const, implies_true, storeOk, thenQ, PK.cond, PK.val, Nat.reduceAdd, Nat.reduceLT, Nat.reduceMul, reduceCtorEq, ↓reduceIte, Nat.reduceEqDiff, Nat.reduceLeDiff, Nat.reduceSub, Nat.reduceBEq, Nat.reduceBNe, Int.reduceLT, Int.reduceEq, Int.reduceAdd, Int.reduceToNat, Int.reduceLE, Int.reduceBEq, Int.reduceBNe, enc1, eqTy_Sum, getD_map]
  (repeat ((with_reducible refine And.intro ?_ ?_); (first | trivial | assumption | omega | (exact nf_imp _) | (exact fn_imp _) | (intro hq; exact ⟨hq, by omega⟩) | (simp; done) | (intro hq; simp [hq]; done) | (intro hq; refine ⟨hq, fun hq2 => ?_⟩; rw [hq, hq2]; rfl))))
  refine hK2 _ ?_
  (try clear hK2)
  refine at_seq fun K5 hK5 => ?_
  refine at_region [It.mk (some 4) none (IK.p (PK.mov (Operand.const (Value.slice none 0 0))))] (by kernel_rfl) ?_
  simp (maxSteps:=999999) (disch:=omega) only [av1, av2, av3, av4, av5, av6, eq_self, exists_const, forall_const, implies_true, storeOk, thenQ, PK.cond, PK.val, Nat.reduceAdd, Nat.reduceLT, Nat.reduceMul, reduceCtorEq, ↓reduceIte, Nat.reduceEqDiff, Nat.reduceLeDiff, Nat.reduceSub, Nat.reduceBEq, Nat.reduceBNe, Int.reduceLT, Int.reduceEq, Int.reduceAdd, Int.reduceToNat, Int.reduceLE, Int.reduceBEq, Int.reduceBNe, enc1, eqTy_Sum, getD_map]
  (repeat ((with_reducible refine And.intro ?_ ?_); (first | trivial | assumption | omega | (exact nf_imp _) | (exact fn_imp _) | (intro hq; exact ⟨hq, by omega⟩) | (simp; done) | (intro hq; simp [hq]; done) | (intro hq; refine ⟨hq, fun hq2 => ?_⟩; rw [hq, hq2]; rfl))))
  refine hK5 _ ?_
  (try clear hK5)
  refine at_seq fun K6 hK6 => ?_
  refine at_seq fun K7 hK7 => ?_
  refine at_region [It.mk (some 9) none (IK.p (PK.fAddr (Operand.tmp 1) 3 39)), It.mk (some 10) none (IK.p (PK.load (Operand.tmp 9) 1 false)), It.mk (some 11) none (IK.p (PK.len false (Operand.tmp 10))), It.mk (some 12) none (IK.p (PK.mov (Operand.const (Value.int IntKind.i64 0))))] (by kernel_rfl) ?_
  simp (maxSteps:=999999) (disch:=omega) only [av1, av2, av3, av4, av5, av6, eq_self, exists_const, forall_const, implies_true, storeOk, thenQ, PK.cond, PK.val, Nat.reduceAdd, Nat.reduceLT, Nat.reduceMul, reduceCtorEq, ↓reduceIte, Nat.reduceEqDiff, Nat.reduceLeDiff, Nat.reduceSub, Nat.reduceBEq, Nat.reduceBNe, Int.reduceLT, Int.reduceEq, Int.reduceAdd, Int.reduceToNat, Int.reduceLE, Int.reduceBEq, Int.reduceBNe, enc1, eqTy_Sum, getD_map]
  (repeat ((with_reducible refine And.intro ?_ ?_); (first | trivial | assumption | omega | (exact nf_imp _) | (exact fn_imp _) | (intro hq; exact ⟨hq, by omega⟩) | (simp; done) | (intro hq; simp [hq]; done) | (intro hq; refine ⟨hq, fun hq2 => ?_⟩; rw [hq, hq2]; rfl))))
  refine hK7 _ ?_
  (try clear hK7)
  refine at_block ?_
  refine AT.le (Le.birth 4 3 1 rfl (by simp [B0])) ?_
  refine at_loopH [1, 2, 3, 10, 11] (fun k : { k : Nat // k ≤ t.sgns.length } => [(12, true, bi .i64 k.1), (4, true, .os 2)]) (fun k => [.cell (.c (cTxx t)), .cell (.c (cSum (sumF t))), .row 3 1 ((keysOf (sumF t) (t.sgns.take k.1)).map (ic .i64))]) (fun k => t.sgns.length - k.1) ⟨0, by omega⟩ ?_ ?_
  · refine Le.same (by rfl) ?_
    simp (maxSteps:=999999) (disch:=omega) only [av1, av2, av3, av4, av5, av6, eq_self, exists_const, forall_const, implies_true, storeOk, thenQ, PK.cond, PK.val, Nat.reduceAdd, Nat.reduceLT, Nat.reduceMul, reduceCtorEq, ↓reduceIte, Nat.reduceEqDiff, Nat.reduceLeDiff, Nat.reduceSub, Nat.reduceBEq, Nat.reduceBNe, Int.reduceLT, Int.reduceEq, Int.reduceAdd, Int.reduceToNat, Int.reduceLE, Int.reduceBEq, Int.reduceBNe, enc1, eqTy_Sum, getD_map]
    repeat' (first | exact SubT.nil | refine SubT.cons (by first | rfl | (simp [look]; done) | (fail)) ?_)
  rintro ⟨k, hk⟩; have hb := keysOf_len (sumF t) (t.sgns.take k); have hb2 := List.length_take_le k t.sgns
  simp (maxSteps:=999999) (disch:=omega) only [av1, av2, av3, av4, av5, av6, eq_self, exists_const, forall_const, implies_true, storeOk, thenQ, PK.cond, PK.val, Nat.reduceAdd, Nat.reduceLT, Nat.reduceMul, reduceCtorEq, ↓reduceIte, Nat.reduceEqDiff, Nat.reduceLeDiff, Nat.reduceSub, Nat.reduceBEq, Nat.reduceBNe, Int.reduceLT, Int.reduceEq, Int.reduceAdd, Int.reduceToNat, Int.reduceLE, Int.reduceBEq, Int.reduceBNe, enc1, eqTy_Sum, getD_map]
  refine at_seq fun K8 hK8 => ?_
  refine at_region [It.mk (some 13) none (IK.p (PK.bin BinOp.lss (Operand.tmp 12) (Operand.tmp 11)))] (by kernel_rfl) ?_
  simp (maxSteps:=999999) (disch:=omega) only [av1, av2, av3, av4, av5, av6, eq_self, exists_const, forall_const, implies_true, storeOk, thenQ, PK.cond, PK.val, Nat.reduceAdd, Nat.reduceLT, Nat.reduceMul, reduceCtorEq, ↓reduceIte, Nat.reduceEqDiff, Nat.reduceLeDiff, Nat.reduceSub, Nat.reduceBEq, Nat.reduceBNe, Int.reduceLT, Int.reduceEq, Int.reduceAdd, Int.reduceToNat, Int.reduceLE, Int.reduceBEq, Int.reduceBNe, enc1, eqTy_Sum, getD_map]
  (repeat ((with_reducible refine And.intro ?_ ?_); (first | trivial | assumption | omega | (exact nf_imp _) | (exact fn_imp _) | (intro hq; exact ⟨hq, by omega⟩) | (simp; done) | (intro hq; simp [hq]; done) | (intro hq; refine ⟨hq, fun hq2 => ?_⟩; rw [hq, hq2]; rfl))))
  refine hK8 _ ?_
  (try clear hK8)
  refine at_seq fun K9 hK9 => ?_
  refine at_cond _ rfl rfl (fun h10 => ?_) (fun h10 => ?_)
  · have r10 := h10
    (try simp only [dB2] at h10)
    refine at_skip ?_
    (try simp only [thenQ, blockQ])
    refine hK9 _ ?_
    (try clear hK9)
    refine at_seq fun K11 hK11 => ?_
    refine at_block ?_
    refine at_seq fun K12 hK12 => ?_
    refine at_region [It.mk (some 14) none (IK.p (PK.iAddrS (Operand.tmp 10) (Operand.tmp 12) 33)), It.mk (some 15) none (IK.p (PK.load (Operand.tmp 14) 33 true)), It.mk (some 6) none (IK.alloc (CV.st [CV.pv (Value.int IntKind.i64 0), CV.ar IntKind.u8 32 (List.replicate 32 0)])), It.mk none none (IK.store (Operand.tmp 6) (Operand.tmp 15) 33)] (by kernel_rfl) ?_
    simp (maxSteps:=999999) (disch:=omega) only [av1, av2, av3, av4, av5, av6, eq_self, exists_const, forall_const, implies_true, storeOk, thenQ, PK.cond, PK.val, Nat.reduceAdd, Nat.reduceLT, Nat.reduceMul, reduceCtorEq, ↓reduceIte, Nat.reduceEqDiff, Nat.reduceLeDiff, Nat.reduceSub, Nat.reduceBEq, Nat.reduceBNe, Int.reduceLT, Int.reduceEq, Int.reduceAdd, Int.reduceToNat, Int.reduceLE, Int.reduceBEq, Int.reduceBNe, enc1, eqTy_Sum, getD_map]
    (repeat ((with_reducible refine And.intro ?_ ?_); (first | trivial | assumption | omega | (exact nf_imp _) | (exact fn_imp _) | (intro hq; exact ⟨hq, by omega⟩) | (simp; done) | (intro hq; simp [hq]; done) | (intro hq; refine ⟨hq, fun hq2 => ?_⟩; rw [hq, hq2]; rfl))))
    refine hK12 _ ?_
    (try clear hK12)
    refine at_seq fun K13 hK13 => ?_
    refine at_region [It.mk (some 16) none (IK.p (PK.fAddr (Operand.tmp 6) 1 1)), It.mk (some 17) none (IK.p (PK.load (Operand.tmp 16) 32 true)), It.mk (some 18) none (IK.p (PK.load (Operand.tmp 3) 32 true)), It.mk (some 19) none (IK.p (PK.eqA false 24 (Sh.a IntKind.u8 32) (Operand.tmp 17) (Operand.tmp 18)))] (by kernel_rfl) ?_
    simp (maxSteps:=999999) (disch:=omega) only [av1, av2, av3, av4, av5, av6, eq_self, exists_const, forall_const, implies_true, storeOk, thenQ, PK.cond, PK.val, Nat.reduceAdd, Nat.reduceLT, Nat.reduceMul, reduceCtorEq, ↓reduceIte, Nat.reduceEqDiff, Nat.reduceLeDiff, Nat.reduceSub, Nat.reduceBEq, Nat.reduceBNe, Int.reduceLT, Int.reduceEq, Int.reduceAdd, Int.reduceToNat, Int.reduceLE, Int.reduceBEq, Int.reduceBNe, enc1, eqTy_Sum, getD_map]
    (repeat ((with_reducible refine And.intro ?_ ?_); (first | trivial | assumption | omega | (exact nf_imp _) | (exact fn_imp _) | (intro hq; exact ⟨hq, by omega⟩) | (simp; done) | (intro hq; simp [hq]; done) | (intro hq; refine ⟨hq, fun hq2 => ?_⟩; rw [hq, hq2]; rfl))))
    refine hK13 _ ?_
    (try clear hK13)
    refine at_cond _ rfl rfl (fun h14 => ?_) (fun h14 => ?_)
    · have r14 := h14
      (try simp only [dB2] at h14)
      refine at_region [It.mk (some 20) none (IK.p (PK.mov (Operand.tmp 4))), It.mk (some 21) none (IK.p (PK.fAddr (Operand.tmp 6) 0 0)), It.mk (some 22) none (IK.p (PK.load (Operand.tmp 21) 1 false)), It.mk (some 23) none (IK.lit 1 [Operand.tmp 22]), It.mk (some 24) none (IK.app (Operand.tmp 20) (Operand.tmp 23) 3 1), It.mk (some 4) none (IK.p (PK.mov (Operand.tmp 24)))] (by kernel_rfl) ?_
      simp (maxSteps:=999999) (disch:=omega) only [av1, av2, av3, av4, av5, av6, eq_self, exists_const, forall_const, implies_true, storeOk, thenQ, PK.cond, PK.val, Nat.reduceAdd, Nat.reduceLT, Nat.reduceMul, reduceCtorEq, ↓reduceIte, Nat.reduceEqDiff, Nat.reduceLeDiff, Nat.reduceSub, Nat.reduceBEq, Nat.reduceBNe, Int.reduceLT, Int.reduceEq, Int.reduceAdd, Int.reduceToNat, Int.reduceLE, Int.reduceBEq, Int.reduceBNe, enc1, eqTy_Sum, getD_map]
      (repeat ((with_reducible refine And.intro ?_ ?_); (first | trivial | assumption | omega | (exact nf_imp _) | (exact fn_imp _) | (intro hq; exact ⟨hq, by omega⟩) | (simp; done) | (intro hq; simp [hq]; done) | (intro hq; refine ⟨hq, fun hq2 => ?_⟩; rw [hq, hq2]; rfl))))
      (try simp only [blockQ])
      refine hK11 _ ?_
      (try clear hK11)
      refine at_region [It.mk (some 25) none (IK.p (PK.bin BinOp.add (Operand.tmp 12) (Operand.const (Value.int IntKind.i64 1)))), It.mk (some 12) none (IK.p (PK.mov (Operand.tmp 25)))] (by kernel_rfl) ?_
      simp (maxSteps:=999999) (disch:=omega) only [av1, av2, av3, av4, av5, av6, eq_self, exists_const, forall_const, implies_true, storeOk, thenQ, PK.cond, PK.val, Nat.reduceAdd, Nat.reduceLT, Nat.reduceMul, reduceCtorEq, ↓reduceIte, Nat.reduceEqDiff, Nat.reduceLeDiff, Nat.reduceSub, Nat.reduceBEq, Nat.reduceBNe, Int.reduceLT, Int.reduceEq, Int.reduceAdd, Int.reduceToNat, Int.reduceLE, Int.reduceBEq, Int.reduceBNe, enc1, eqTy_Sum, getD_map]
      (repeat ((with_reducible refine And.intro ?_ ?_); (first | trivial | assumption | omega | (exact nf_imp _) | (exact fn_imp _) | (intro hq; exact ⟨hq, by omega⟩) | (simp; done) | (intro hq; simp [hq]; done) | (intro hq; refine ⟨hq, fun hq2 => ?_⟩; rw [hq, hq2]; rfl))))
      refine ⟨⟨k + 1, by omega⟩, by (dsimp only; omega), ?_⟩
      refine Le.drop 3 (by simp) (by (dsimp only; first | (rw [keys_yes (by omega) (by assumption)]; rfl) | (rw [keys_no (by omega) (by assumption)]; rfl))) (by simp [AObj.lt, AV.lt, AV.lts]) ?_ (by simp [AObj.lt, AV.lt, AV.lts]) (by simp [B0, BO, stays])
      (try simp (maxSteps:=999999) (disch:=omega) only [av1, av2, av3, av4, av5, av6, eq_self, exists_const, forall_const, implies_true, storeOk, thenQ, PK.cond, PK.val, Nat.reduceAdd, Nat.reduceLT, Nat.reduceMul, reduceCtorEq, ↓reduceIte, Nat.reduceEqDiff, Nat.reduceLeDiff, Nat.reduceSub, Nat.reduceBEq, Nat.reduceBNe, Int.reduceLT, Int.reduceEq, Int.reduceAdd, Int.reduceToNat, Int.reduceLE, Int.reduceBEq, Int.reduceBNe, enc1, eqTy_Sum, getD_map])
      repeat' (first | exact SubT.nil | refine SubT.cons ?_ ?_)
      all_goals (first | rfl | (simp only [look, Nat.reduceEqDiff, ↓reduceIte]; first | rfl | ((rw [wrap64 (by omega) (by omega)]; rfl))))
    · have r14 := h14
      (try simp only [dB2] at h14)
      refine at_skip ?_
      (try simp only [thenQ, blockQ])
      (try simp only [blockQ])
      refine hK11 _ ?_
      (try clear hK11)
      refine at_region [It.mk (some 25) none (IK.p (PK.bin BinOp.add (Operand.tmp 12) (Operand.const (Value.int IntKind.i64 1)))), It.mk (some 12) none (IK.p (PK.mov (Operand.tmp 25)))] (by kernel_rfl) ?_
      simp (maxSteps:=999999) (disch:=omega) only [av1, av2, av3, av4, av5, av6, eq_self, exists_const, forall_const, implies_true, storeOk, thenQ, PK.cond, PK.val, Nat.reduceAdd, Nat.reduceLT, Nat.reduceMul, reduceCtorEq, ↓reduceIte, Nat.reduceEqDiff, Nat.reduceLeDiff, Nat.reduceSub, Nat.reduceBEq, Nat.reduceBNe, Int.reduceLT, Int.reduceEq, Int.reduceAdd, Int.reduceToNat, Int.reduceLE, Int.reduceBEq, Int.reduceBNe, enc1, eqTy_Sum, getD_map]
      (repeat ((with_reducible refine And.intro ?_ ?_); (first | trivial | assumption | omega | (exact nf_imp _) | (exact fn_imp _) | (intro hq; exact ⟨hq, by omega⟩) | (simp; done) | (intro hq; simp [hq]; done) | (intro hq; refine ⟨hq, fun hq2 => ?_⟩; rw [hq, hq2]; rfl))))
      refine ⟨⟨k + 1, by omega⟩, by (dsimp only; omega), ?_⟩
      refine Le.drop 3 (by simp) (by (dsimp only; first | (rw [keys_yes (by omega) (by assumption)]; rfl) | (rw [keys_no (by omega) (by assumption)]; rfl))) (by simp [AObj.lt, AV.lt, AV.lts]) ?_ (by simp [AObj.lt, AV.lt, AV.lts]) (by simp [B0, BO, stays])
      (try simp (maxSteps:=999999) (disch:=omega) only [av1, av2, av3, av4, av5, av6, eq_self, exists_const, forall_const, implies_true, storeOk, thenQ, PK.cond, PK.val, Nat.reduceAdd, Nat.reduceLT, Nat.reduceMul, reduceCtorEq, ↓reduceIte, Nat.reduceEqDiff, Nat.reduceLeDiff, Nat.reduceSub, Nat.reduceBEq, Nat.reduceBNe, Int.reduceLT, Int.reduceEq, Int.reduceAdd, Int.reduceToNat, Int.reduceLE, Int.reduceBEq, Int.reduceBNe, enc1, eqTy_Sum, getD_map])
      repeat' (first | exact SubT.nil | refine SubT.cons ?_ ?_)
      all_goals (first | rfl | (simp only [look, Nat.reduceEqDiff, ↓reduceIte]; first | rfl | ((rw [wrap64 (by omega) (by omega)]; rfl))))
  · have r10 := h10
    (try simp only [dB2] at h10)
    refine at_exit ?_
    simp only [thenQ, blockQ, if_true]
    refine hK6 _ ?_
    (try clear hK6)
    refine at_seq fun K15 hK15 => ?_
    refine at_region [It.mk (some 26) none (IK.p (PK.mov (Operand.tmp 4))), It.mk (some 2) none (IK.p (PK.mov (Operand.tmp 26)))] (by kernel_rfl) ?_
    simp (maxSteps:=999999) (disch:=omega) only [av1, av2, av3, av4, av5, av6, eq_self, exists_const, forall_const, implies_true, storeOk, thenQ, PK.cond, PK.val, Nat.reduceAdd, Nat.reduceLT, Nat.reduceMul, reduceCtorEq, ↓reduceIte, Nat.reduceEqDiff, Nat.reduceLeDiff, Nat.reduceSub, Nat.reduceBEq, Nat.reduceBNe, Int.reduceLT, Int.reduceEq, Int.reduceAdd, Int.reduceToNat, Int.reduceLE, Int.reduceBEq, Int.reduceBNe, enc1, eqTy_Sum, getD_map]
    (repeat ((with_reducible refine And.intro ?_ ?_); (first | trivial | assumption | omega | (exact nf_imp _) | (exact fn_imp _) | (intro hq; exact ⟨hq, by omega⟩) | (simp; done) | (intro hq; simp [hq]; done) | (intro hq; refine ⟨hq, fun hq2 => ?_⟩; rw [hq, hq2]; rfl))))
    refine hK15 _ ?_
    (try clear hK15)
    refine at_ret ?_
    simp (maxSteps:=999999) (disch:=omega) only [av1, av2, av3, av4, av5, av6, eq_self, exists_const, forall_const, implies_true, storeOk, thenQ, PK.cond, PK.val, Nat.reduceAdd, Nat.reduceLT, Nat.reduceMul, reduceCtorEq, ↓reduceIte, Nat.reduceEqDiff, Nat.reduceLeDiff, Nat.reduceSub, Nat.reduceBEq, Nat.reduceBNe, Int.reduceLT, Int.reduceEq, Int.reduceAdd, Int.reduceToNat, Int.reduceLE, Int.reduceBEq, Int.reduceBNe, enc1, eqTy_Sum, getD_map, blockQ, retQ, RetOk, ResOk, AV.fin, AV.fins, CV.le, CV.les]
    obtain rfl : k = t.sgns.length := by omega
    rw [List.take_length]
    exact ⟨_, rfl⟩
end Go.Proofs.Ytcghjnegaiiieaa
namespace Go.Proofs.Ytcghjnegaiiieaa
open Go.RowKit
instance : Inhabited Out := ⟨⟨0, []⟩⟩
def jBad (c : Chan) (t j : Txx) : Bool := decide (ownerTx c t < 0) || !txB j || ((j.ins.length : Int) != 1) || (j.op.kind != 0)
noncomputable def chkE (a : Int) (q : Way) (y : Inp) (S K A : List Int) : Int :=
  if (!(y.tx == S && y.at_ == 0) || y.way != 1) = true then 13
  else if opB q ⟨K, y.pre, 0, 0⟩ = false then 12
  else if (coinAdd 0 A).2 ≠ 0 then (coinAdd 0 A).2
  else if (coinAdd 0 A).1 > a then 14 else 0
theorem coin_pair {A : List Int} {k : Nat} {s n : Int} (h : CoinAt A k s) (hk : k < A.length) (hn : A.getD k 0 = n) : coinAdd 0 [s, n] = if coinRight n = false then (0, 5) else if s + n > 1125899906842624 then (0, 10) else (s + n, 0) := by
  have h1 : coinRight s = true := coinRight_iff.2 ⟨h.lo, h.hi⟩
  have h2 := h.hi
  simp only [coinAdd, h1]
  rw [if_neg (by simp), if_neg (by omega), Int.zero_add]
theorem coin_bad {A : List Int} {k : Nat} {s n : Int} (h : CoinAt A k s) (hk : k < A.length) (hn : A.getD k 0 = n) (hb : (coinAdd 0 [s, n]).2 ≠ 0) : (coinAdd 0 A).2 = (coinAdd 0 [s, n]).2 := by
  rw [coin_pair h hk hn] at hb ⊢
  rw [h.step hk, hn]
  by_cases c1 : coinRight n = false
  · rw [if_pos c1, if_pos c1]
  · rw [if_neg c1] at hb ⊢
    by_cases c2 : s + n > 1125899906842624
    · rw [if_pos c2, if_neg c1, if_pos c2]
    · rw [if_neg c2] at hb
      exact absurd rfl hb
theorem coin_next {A : List Int} {k : Nat} {s n : Int} (h : CoinAt A k s) (hk : k < A.length) (hn : A.getD k 0 = n) (hb : (coinAdd 0 [s, n]).2 = 0) : CoinAt A (k + 1) (coinAdd 0 [s, n]).1 := by
  rw [coin_pair h hk hn] at hb ⊢
  by_cases c1 : coinRight n = false
  · rw [if_pos c1] at hb; cases hb
  · rw [if_neg c1] at hb ⊢
    by_cases c2 : s + n > 1125899906842624
    · rw [if_pos c2] at hb; cases hb
    · rw [if_neg c2]
      subst hn
      exact h.next hk (by simpa using c1) (by omega)
theorem amount_at {O : List Out} {k : Nat} (hk : k < O.length) : (O.map Out.amount).getD k 0 = (O.getD k default).amount := by simp [hk]
set_option maxRecDepth 100000 in
set_option maxHeartbeats 4000000 in
theorem checkBad_ap (c : Chan) (t j : Txx) (ht : OkTxx t) (hj : OkTxx j) (h : jBad c t j = true) : AP Try.prog 68 [cChan c, cTxx t, cTxx j] [ic .i64 1] := by
  refine ap_of (fun _ _ => Try.call68 _ _) Try.func68 rfl Try.ntmps68 (by simp) (zs := [RZ.mk 6 none]) (by kernel_rfl) (fun w F => ?_)
  simp only [List.map_cons, List.map_nil, argT, Nat.reduceAdd]
  refine at_seq fun K1 hK1 => ?_
  refine at_region [It.mk (some 3) none (IK.box (Operand.tmp 0)), It.mk (some 4) none (IK.box (Operand.tmp 1)), It.mk (some 5) none (IK.box (Operand.tmp 2)), It.mk (some 6) none (IK.p (PK.mov (Operand.const (Value.int IntKind.i64 0))))] (by kernel_rfl) ?_
  simp (maxSteps:=999999) (disch:=omega) only [av1, av2, av3, av4, av5, av6, eq_self, exists_const, forall_const, implies_true, storeOk, thenQ, PK.cond, PK.val, Nat.reduceAdd, Nat.reduceLT, Nat.reduceMul, reduceCtorEq, ↓reduceIte, Nat.reduceEqDiff, Nat.reduceLeDiff, Nat.reduceSub, Nat.reduceBEq, Nat.reduceBNe, Int.reduceLT, Int.reduceEq, Int.reduceAdd, Int.reduceToNat, Int.reduceLE, Int.reduceBEq, Int.reduceBNe, enc1, cChan, cCSt, eqTy_Sum, eqTy_Ref]
  (repeat ((with_reducible refine And.intro ?_ ?_); (first | trivial | assumption | omega | (simp; done))))
  refine hK1 _ ?_
  (try clear hK1)
  refine at_seq fun K2 hK2 => ?_
  refine at_seq fun K3 hK3 => ?_
  refine at_region [It.mk (some 13) none (IK.p (PK.load (Operand.tmp 3) 39 true)), It.mk (some 14) none (IK.p (PK.load (Operand.tmp 4) 40 true)), It.mk (some 15) none (IK.call 56 [Operand.tmp 13, Operand.tmp 14]), It.mk (some 16) none (IK.p (PK.bin BinOp.lss (Operand.tmp 15) (Operand.const (Value.int IntKind.i64 0)))), It.mk (some 17) none (IK.p (PK.mov (Operand.tmp 16))), It.mk (some 18) (some (17, false)) (IK.p (PK.load (Operand.tmp 5) 40 true)), It.mk (some 19) (some (17, false)) (IK.call 69 [Operand.tmp 18]), It.mk (some 20) (some (17, false)) (IK.p (PK.not (Operand.tmp 19))), It.mk (some 21) none (IK.p (PK.pick (Operand.tmp 17) (Operand.const (Value.bool true)) (Operand.tmp 20))), It.mk (some 22) none (IK.p (PK.mov (Operand.tmp 21))), It.mk (some 23) (some (22, false)) (IK.p (PK.fAddr (Operand.tmp 5) 0 0)), It.mk (some 24) (some (22, false)) (IK.p (PK.load (Operand.tmp 23) 1 false)), It.mk (some 25) (some (22, false)) (IK.p (PK.len false (Operand.tmp 24))), It.mk (some 26) (some (22, false)) (IK.p (PK.bin BinOp.neq (Operand.tmp 25) (Operand.const (Value.int IntKind.i64 1)))), It.mk (some 27) none (IK.p (PK.pick (Operand.tmp 22) (Operand.const (Value.bool true)) (Operand.tmp 26))), It.mk (some 28) none (IK.p (PK.mov (Operand.tmp 27))), It.mk (some 29) (some (28, false)) (IK.p (PK.fAddr (Operand.tmp 5) 2 2)), It.mk (some 30) (some (28, false)) (IK.p (PK.fAddr (Operand.tmp 29) 0 0)), It.mk (some 31) (some (28, false)) (IK.p (PK.load (Operand.tmp 30) 1 false)), It.mk (some 32) (some (28, false)) (IK.p (PK.bin BinOp.neq (Operand.tmp 31) (Operand.const (Value.int IntKind.i64 0)))), It.mk (some 33) none (IK.p (PK.pick (Operand.tmp 28) (Operand.const (Value.bool true)) (Operand.tmp 32)))] (by kernel_rfl) ?_
  refine apl_cut [_, _] _ (fun K4 hK4 => ?_)
  simp (maxSteps:=999999) (disch:=omega) only [av1, av2, av3, av4, av5, av6, eq_self, exists_const, forall_const, implies_true, storeOk, thenQ, PK.cond, PK.val, Nat.reduceAdd, Nat.reduceLT, Nat.reduceMul, reduceCtorEq, ↓reduceIte, Nat.reduceEqDiff, Nat.reduceLeDiff, Nat.reduceSub, Nat.reduceBEq, Nat.reduceBNe, Int.reduceLT, Int.reduceEq, Int.reduceAdd, Int.reduceToNat, Int.reduceLE, Int.reduceBEq, Int.reduceBNe, enc1, cChan, cCSt, eqTy_Sum, eqTy_Ref]
  (repeat ((with_reducible refine And.intro ?_ ?_); (first | trivial | assumption | omega | (simp; done))))
  refine hK4 _ ?_
  (try clear hK4)
  refine apl_cut [_] _ (fun K5 hK5 => ?_)
  simp (maxSteps:=999999) (disch:=omega) only [av1, av2, av3, av4, av5, av6, eq_self, exists_const, forall_const, implies_true, storeOk, thenQ, PK.cond, PK.val, Nat.reduceAdd, Nat.reduceLT, Nat.reduceMul, reduceCtorEq, ↓reduceIte, Nat.reduceEqDiff, Nat.reduceLeDiff, Nat.reduceSub, Nat.reduceBEq, Nat.reduceBNe, Int.reduceLT, Int.reduceEq, Int.reduceAdd, Int.reduceToNat, Int.reduceLE, Int.reduceBEq, Int.reduceBNe, enc1, cChan, cCSt, eqTy_Sum, eqTy_Ref]
  apply Or.inl
  first | refine ⟨[], trivial, ?_⟩ | refine ⟨_, (owner_ap c t ht), ?_⟩ | refine ⟨_, fun _ => (owner_ap c t ht), ?_⟩ | refine ⟨_, fun h => ⟨h, (owner_ap c t ht)⟩, ?_⟩ | refine ⟨_, fun h => ⟨by simp_all, (owner_ap c t ht)⟩, ?_⟩ | refine ⟨[], ?_⟩
  (try simp only [rsAV, List.map_cons, List.map_nil, thenQ])
  refine hK5 _ ?_
  (try clear hK5)
  refine apl_cut [_, _, _] _ (fun K6 hK6 => ?_)
  simp (maxSteps:=999999) (disch:=omega) only [av1, av2, av3, av4, av5, av6, eq_self, exists_const, forall_const, implies_true, storeOk, thenQ, PK.cond, PK.val, Nat.reduceAdd, Nat.reduceLT, Nat.reduceMul, reduceCtorEq, ↓reduceIte, Nat.reduceEqDiff, Nat.reduceLeDiff, Nat.reduceSub, Nat.reduceBEq, Nat.reduceBNe, Int.reduceLT, Int.reduceEq, Int.reduceAdd, Int.reduceToNat, Int.reduceLE, Int.reduceBEq, Int.reduceBNe, enc1, cChan, cCSt, eqTy_Sum, eqTy_Ref]
  (repeat ((with_reducible refine And.intro ?_ ?_); (first | trivial | assumption | omega | (simp; done))))
  refine hK6 _ ?_
  (try clear hK6)
  refine apl_cut [_] _ (fun K7 hK7 => ?_)
  simp (maxSteps:=999999) (disch:=omega) only [av1, av2, av3, av4, av5, av6, eq_self, exists_const, forall_const, implies_true, storeOk, thenQ, PK.cond, PK.val, Nat.reduceAdd, Nat.reduceLT, Nat.reduceMul, reduceCtorEq, ↓reduceIte, Nat.reduceEqDiff, Nat.reduceLeDiff, Nat.reduceSub, Nat.reduceBEq, Nat.reduceBNe, Int.reduceLT, Int.reduceEq, Int.reduceAdd, Int.reduceToNat, Int.reduceLE, Int.reduceBEq, Int.reduceBNe, enc1, cChan, cCSt, eqTy_Sum, eqTy_Ref]
  apply Or.inl
  first | refine ⟨[], trivial, ?_⟩ | refine ⟨_, (txRight_ap j hj), ?_⟩ | refine ⟨_, fun _ => (txRight_ap j hj), ?_⟩ | refine ⟨_, fun h => ⟨h, (txRight_ap j hj)⟩, ?_⟩ | refine ⟨_, fun h => ⟨by simp_all, (txRight_ap j hj)⟩, ?_⟩ | refine ⟨[], ?_⟩
  (try simp only [rsAV, List.map_cons, List.map_nil, thenQ])
  refine hK7 _ ?_
  (try clear hK7)
  simp (maxSteps:=999999) (disch:=omega) only [av1, av2, av3, av4, av5, av6, eq_self, exists_const, forall_const, implies_true, storeOk, thenQ, PK.cond, PK.val, Nat.reduceAdd, Nat.reduceLT, Nat.reduceMul, reduceCtorEq, ↓reduceIte, Nat.reduceEqDiff, Nat.reduceLeDiff, Nat.reduceSub, Nat.reduceBEq, Nat.reduceBNe, Int.reduceLT, Int.reduceEq, Int.reduceAdd, Int.reduceToNat, Int.reduceLE, Int.reduceBEq, Int.reduceBNe, enc1, cChan, cCSt, eqTy_Sum, eqTy_Ref]
  (repeat ((with_reducible refine And.intro ?_ ?_); (first | trivial | assumption | omega | (simp; done))))
  refine hK3 _ ?_
  (try clear hK3)
  refine at_cond _ rfl rfl (fun h8 => ?_) (fun h8 => ?_)
  · have r8 := h8
    (try simp only [dB2] at h8)
    refine at_seq fun K9 hK9 => ?_
    refine at_region [It.mk (some 6) none (IK.p (PK.mov (Operand.const (Value.int IntKind.i64 1))))] (by kernel_rfl) ?_
    simp (maxSteps:=999999) (disch:=omega) only [av1, av2, av3, av4, av5, av6, eq_self, exists_const, forall_const, implies_true, storeOk, thenQ, PK.cond, PK.val, Nat.reduceAdd, Nat.reduceLT, Nat.reduceMul, reduceCtorEq, ↓reduceIte, Nat.reduceEqDiff, Nat.reduceLeDiff, Nat.reduceSub, Nat.reduceBEq, Nat.reduceBNe, Int.reduceLT, Int.reduceEq, Int.reduceAdd, Int.reduceToNat, Int.reduceLE, Int.reduceBEq, Int.reduceBNe, enc1, cChan, cCSt, eqTy_Sum, eqTy_Ref]
    (repeat ((with_reducible refine And.intro ?_ ?_); (first | trivial | assumption | omega | (simp; done))))
    refine hK9 _ ?_
    (try clear hK9)
    refine at_ret ?_
    simp (maxSteps:=999999) (disch:=omega) only [av1, av2, av3, av4, av5, av6, eq_self, exists_const, forall_const, implies_true, storeOk, thenQ, PK.cond, PK.val, Nat.reduceAdd, Nat.reduceLT, Nat.reduceMul, reduceCtorEq, ↓reduceIte, Nat.reduceEqDiff, Nat.reduceLeDiff, Nat.reduceSub, Nat.reduceBEq, Nat.reduceBNe, Int.reduceLT, Int.reduceEq, Int.reduceAdd, Int.reduceToNat, Int.reduceLE, Int.reduceBEq, Int.reduceBNe, enc1, cChan, cCSt, eqTy_Sum, eqTy_Ref, blockQ, retQ, RetOk, ResOk, AV.fin, AV.fins, CV.le, CV.les]
    (first | rfl | trace_state)
  · have r8 := h8
    (try simp only [dB2] at h8)
    (rw [jBad, r8] at h; cases h)
set_option maxRecDepth 100000 in
set_option maxRecDepth 100000 in
set_option maxHeartbeats 4000000 in
theorem checkFull_ap (c : Chan) (x : Inp) (a : Int) (p q : Way) (b : Out) (o : Opx) (g : List Sgn) (y : Inp) (O : List Out) (o2 : Opx) (g2 : List Sgn) (v : Int) (S : List Int) (K : List Int) (hv : ¬ v < 0) (hk2 : o2.kind = 0) (hO : AP Try.prog 56 [cChan c, cTxx ⟨[x], [⟨a, [p, q]⟩, b], o, g⟩] [ic .i64 v]) (hR : AP Try.prog 69 [cTxx ⟨[y], O, o2, g2⟩] [.pv (.bool true)]) (hS : AP Try.prog 57 [cTxx ⟨[x], [⟨a, [p, q]⟩, b], o, g⟩] [cRef S 0]) (hK : AP Try.prog 70 [cTxx ⟨[y], O, o2, g2⟩] [ints .i64 K]) (hP : AP Try.prog 20 [cWay q, cTr ⟨K, y.pre, 0, 0⟩] [.pv (.bool (opB q ⟨K, y.pre, 0, 0⟩))]) (hn : O.length ≤ 1000000) : AP Try.prog 68 [cChan c, cTxx ⟨[x], [⟨a, [p, q]⟩, b], o, g⟩, cTxx ⟨[y], O, o2, g2⟩] [ic .i64 (chkE a q y S K (O.map Out.amount))] := by
  refine ap_of (fun _ _ => Try.call68 _ _) Try.func68 rfl Try.ntmps68 (by simp) (zs := [RZ.mk 6 none]) (by kernel_rfl) (fun w F => ?_)
  simp only [List.map_cons, List.map_nil, argT, Nat.reduceAdd]
  refine at_seq fun K1 hK1 => ?_
  refine at_region [It.mk (some 3) none (IK.box (Operand.tmp 0)), It.mk (some 4) none (IK.box (Operand.tmp 1)), It.mk (some 5) none (IK.box (Operand.tmp 2)), It.mk (some 6) none (IK.p (PK.mov (Operand.const (Value.int IntKind.i64 0))))] (by kernel_rfl) ?_
  simp (maxSteps:=999999) (disch:=omega) only [av1, av2, av3, av4, av5, av6, eq_self, exists_const, forall_const, implies_true, storeOk, thenQ, PK.cond, PK.val, Nat.reduceAdd, Nat.reduceLT, Nat.reduceMul, reduceCtorEq, ↓reduceIte, Nat.reduceEqDiff, Nat.reduceLeDiff, Nat.reduceSub, Nat.reduceBEq, Nat.reduceBNe, Int.reduceLT, Int.reduceEq, Int.reduceAdd, Int.reduceToNat, Int.reduceLE, Int.reduceBEq, Int.reduceBNe, enc1, cChan, cCSt, eqTy_Sum, eqTy_Ref, getD_map]
  (repeat ((with_reducible refine And.intro ?_ ?_); (first | trivial | assumption | omega | (simp; done))))
  refine hK1 _ ?_
  (try clear hK1)
  refine at_seq fun K2 hK2 => ?_
  refine at_seq fun K3 hK3 => ?_
  refine at_region [It.mk (some 13) none (IK.p (PK.load (Operand.tmp 3) 39 true)), It.mk (some 14) none (IK.p (PK.load (Operand.tmp 4) 40 true)), It.mk (some 15) none (IK.call 56 [Operand.tmp 13, Operand.tmp 14]), It.mk (some 16) none (IK.p (PK.bin BinOp.lss (Operand.tmp 15) (Operand.const (Value.int IntKind.i64 0)))), It.mk (some 17) none (IK.p (PK.mov (Operand.tmp 16))), It.mk (some 18) (some (17, false)) (IK.p (PK.load (Operand.tmp 5) 40 true)), It.mk (some 19) (some (17, false)) (IK.call 69 [Operand.tmp 18]), It.mk (some 20) (some (17, false)) (IK.p (PK.not (Operand.tmp 19))), It.mk (some 21) none (IK.p (PK.pick (Operand.tmp 17) (Operand.const (Value.bool true)) (Operand.tmp 20))), It.mk (some 22) none (IK.p (PK.mov (Operand.tmp 21))), It.mk (some 23) (some (22, false)) (IK.p (PK.fAddr (Operand.tmp 5) 0 0)), It.mk (some 24) (some (22, false)) (IK.p (PK.load (Operand.tmp 23) 1 false)), It.mk (some 25) (some (22, false)) (IK.p (PK.len false (Operand.tmp 24))), It.mk (some 26) (some (22, false)) (IK.p (PK.bin BinOp.neq (Operand.tmp 25) (Operand.const (Value.int IntKind.i64 1)))), It.mk (some 27) none (IK.p (PK.pick (Operand.tmp 22) (Operand.const (Value.bool true)) (Operand.tmp 26))), It.mk (some 28) none (IK.p (PK.mov (Operand.tmp 27))), It.mk (some 29) (some (28, false)) (IK.p (PK.fAddr (Operand.tmp 5) 2 2)), It.mk (some 30) (some (28, false)) (IK.p (PK.fAddr (Operand.tmp 29) 0 0)), It.mk (some 31) (some (28, false)) (IK.p (PK.load (Operand.tmp 30) 1 false)), It.mk (some 32) (some (28, false)) (IK.p (PK.bin BinOp.neq (Operand.tmp 31) (Operand.const (Value.int IntKind.i64 0)))), It.mk (some 33) none (IK.p (PK.pick (Operand.tmp 28) (Operand.const (Value.bool true)) (Operand.tmp 32)))] (by kernel_rfl) ?_
  refine apl_cut [_, _] _ (fun K4 hK4 => ?_)
  simp (maxSteps:=999999) (disch:=omega) only [av1, av2, av3, av4, av5, av6, eq_self, exists_const, forall_const, implies_true, storeOk, thenQ, PK.cond, PK.val, Nat.reduceAdd, Nat.reduceLT, Nat.reduceMul, reduceCtorEq, ↓reduceIte, Nat.reduceEqDiff, Nat.reduceLeDiff, Nat.reduceSub, Nat.reduceBEq, Nat.reduceBNe, Int.reduceLT, Int.reduceEq, Int.reduceAdd, Int.reduceToNat, Int.reduceLE, Int.reduceBEq, Int.reduceBNe, enc1, cChan, cCSt, eqTy_Sum, eqTy_Ref, getD_map]
  (repeat ((with_reducible refine And.intro ?_ ?_); (first | trivial | assumption | omega | (simp; done))))
  refine hK4 _ ?_
  (try clear hK4)
  refine apl_cut [_] _ (fun K5 hK5 => ?_)
  simp (maxSteps:=999999) (disch:=omega) only [av1, av2, av3, av4, av5, av6, eq_self, exists_const, forall_const, implies_true, storeOk, thenQ, PK.cond, PK.val, Nat.reduceAdd, Nat.reduceLT, Nat.reduceMul, reduceCtorEq, ↓reduceIte, Nat.reduceEqDiff, Nat.reduceLeDiff, Nat.reduceSub, Nat.reduceBEq, Nat.reduceBNe, Int.reduceLT, Int.reduceEq, Int.reduceAdd, Int.reduceToNat, Int.reduceLE, Int.reduceBEq, Int.reduceBNe, enc1, cChan, cCSt, eqTy_Sum, eqTy_Ref, getD_map]
  apply Or.inl
  first | refine ⟨[], trivial, ?_⟩ | refine ⟨_, (hO), ?_⟩ | refine ⟨_, fun _ => (hO), ?_⟩ | refine ⟨_, fun h => ⟨h, (hO)⟩, ?_⟩ | refine ⟨_, fun h => ⟨by simp_all, (hO)⟩, ?_⟩ | refine ⟨[], ?_⟩
  (try simp only [rsAV, List.map_cons, List.map_nil, thenQ])
  refine hK5 _ ?_
  (try clear hK5)
  refine apl_cut [_, _, _] _ (fun K6 hK6 => ?_)
  simp (maxSteps:=999999) (disch:=omega) only [av1, av2, av3, av4, av5, av6, eq_self, exists_const, forall_const, implies_true, storeOk, thenQ, PK.cond, PK.val, Nat.reduceAdd, Nat.reduceLT, Nat.reduceMul, reduceCtorEq, ↓reduceIte, Nat.reduceEqDiff, Nat.reduceLeDiff, Nat.reduceSub, Nat.reduceBEq, Nat.reduceBNe, Int.reduceLT, Int.reduceEq, Int.reduceAdd, Int.reduceToNat, Int.reduceLE, Int.reduceBEq, Int.reduceBNe, enc1, cChan, cCSt, eqTy_Sum, eqTy_Ref, getD_map]
  (repeat ((with_reducible refine And.intro ?_ ?_); (first | trivial | assumption | omega | (simp; done))))
  refine hK6 _ ?_
  (try clear hK6)
  refine apl_cut [_] _ (fun K7 hK7 => ?_)
  simp (maxSteps:=999999) (disch:=omega) only [av1, av2, av3, av4, av5, av6, eq_self, exists_const, forall_const, implies_true, storeOk, thenQ, PK.cond, PK.val, Nat.reduceAdd, Nat.reduceLT, Nat.reduceMul, reduceCtorEq, ↓reduceIte, Nat.reduceEqDiff, Nat.reduceLeDiff, Nat.reduceSub, Nat.reduceBEq, Nat.reduceBNe, Int.reduceLT, Int.reduceEq, Int.reduceAdd, Int.reduceToNat, Int.reduceLE, Int.reduceBEq, Int.reduceBNe, enc1, cChan, cCSt, eqTy_Sum, eqTy_Ref, getD_map]
  apply Or.inl
  first | refine ⟨[], trivial, ?_⟩ | refine ⟨_, (hR), ?_⟩ | refine ⟨_, fun _ => (hR), ?_⟩ | refine ⟨_, fun h => ⟨h, (hR)⟩, ?_⟩ | refine ⟨_, fun h => ⟨by simp_all, (hR)⟩, ?_⟩ | refine ⟨[], ?_⟩
  (try simp only [rsAV, List.map_cons, List.map_nil, thenQ])
  refine hK7 _ ?_
  (try clear hK7)
  simp (maxSteps:=999999) (disch:=omega) only [av1, av2, av3, av4, av5, av6, eq_self, exists_const, forall_const, implies_true, storeOk, thenQ, PK.cond, PK.val, Nat.reduceAdd, Nat.reduceLT, Nat.reduceMul, reduceCtorEq, ↓reduceIte, Nat.reduceEqDiff, Nat.reduceLeDiff, Nat.reduceSub, Nat.reduceBEq, Nat.reduceBNe, Int.reduceLT, Int.reduceEq, Int.reduceAdd, Int.reduceToNat, Int.reduceLE, Int.reduceBEq, Int.reduceBNe, enc1, cChan, cCSt, eqTy_Sum, eqTy_Ref, getD_map]
  (repeat ((with_reducible refine And.intro ?_ ?_); (first | trivial | assumption | omega | (simp; done))))
  refine hK3 _ ?_
  (try clear hK3)
  refine at_cond _ rfl rfl (fun h8 => ?_) (fun h8 => ?_)
  · have r8 := h8
    (try simp only [dB2] at h8)
    (rcases h8 with h | h; exact absurd h hv; exact absurd hk2 h)
  · have r8 := h8
    (try simp only [dB2] at h8)
    refine at_skip ?_
    (try simp only [thenQ, blockQ])
    refine hK2 _ ?_
    (try clear hK2)
    refine at_seq fun K9 hK9 => ?_
    refine at_region [It.mk (some 34) none (IK.p (PK.fAddr (Operand.tmp 5) 0 0)), It.mk (some 35) none (IK.p (PK.load (Operand.tmp 34) 1 false)), It.mk (some 36) none (IK.p (PK.iAddrS (Operand.tmp 35) (Operand.const (Value.int IntKind.i64 0)) 35)), It.mk (some 37) none (IK.p (PK.load (Operand.tmp 36) 35 true)), It.mk (some 7) none (IK.alloc (CV.st [CV.st [CV.ar IntKind.u8 32 (List.replicate 32 0), CV.pv (Value.int IntKind.i64 0)], CV.pv (Value.int IntKind.i64 0), CV.pv (Value.slice none 0 0)])), It.mk none none (IK.store (Operand.tmp 7) (Operand.tmp 37) 35)] (by kernel_rfl) ?_
    simp (maxSteps:=999999) (disch:=omega) only [av1, av2, av3, av4, av5, av6, eq_self, exists_const, forall_const, implies_true, storeOk, thenQ, PK.cond, PK.val, Nat.reduceAdd, Nat.reduceLT, Nat.reduceMul, reduceCtorEq, ↓reduceIte, Nat.reduceEqDiff, Nat.reduceLeDiff, Nat.reduceSub, Nat.reduceBEq, Nat.reduceBNe, Int.reduceLT, Int.reduceEq, Int.reduceAdd, Int.reduceToNat, Int.reduceLE, Int.reduceBEq, Int.reduceBNe, enc1, cChan, cCSt, eqTy_Sum, eqTy_Ref, getD_map]
    (repeat ((with_reducible refine And.intro ?_ ?_); (first | trivial | assumption | omega | (simp; done))))
    refine hK9 _ ?_
    (try clear hK9)
    refine at_seq fun K10 hK10 => ?_
    refine at_seq fun K11 hK11 => ?_
    refine at_draws [] (by kernel_rfl) ?_
    refine ag_pures (fuel := 7) [0, 1, 2] [It.mk (some 38) none (IK.p (PK.fAddr (Operand.tmp 7) 0 0)), It.mk (some 39) none (IK.p (PK.load (Operand.tmp 38) 33 true)), It.mk (some 40) none (IK.p (PK.load (Operand.tmp 4) 40 true))] (by kernel_rfl) (by kernel_rfl) (by kernel_rfl) (by kernel_rfl) (hideZ_nil _ 0) (fun K12 hK12 => ?_)
    simp (maxSteps:=999999) (disch:=omega) only [av1, av2, av3, av4, av5, av6, eq_self, exists_const, forall_const, implies_true, storeOk, thenQ, PK.cond, PK.val, Nat.reduceAdd, Nat.reduceLT, Nat.reduceMul, reduceCtorEq, ↓reduceIte, Nat.reduceEqDiff, Nat.reduceLeDiff, Nat.reduceSub, Nat.reduceBEq, Nat.reduceBNe, Int.reduceLT, Int.reduceEq, Int.reduceAdd, Int.reduceToNat, Int.reduceLE, Int.reduceBEq, Int.reduceBNe, enc1, cChan, cCSt, eqTy_Sum, eqTy_Ref, getD_map]
    (repeat ((with_reducible refine And.intro ?_ ?_); (first | trivial | assumption | omega | (simp; done))))
    refine hK12 _ ?_
    (try clear hK12)
    refine ag_one (i:=3) (by kernel_rfl) ?_
    refine agi (it := It.mk (some 41) none (IK.call 57 [Operand.tmp 40])) (R' := [1, 0]) (by kernel_rfl) (.inl rfl) (by kernel_rfl) (fun K13 hK13 => ?_)
    simp (maxSteps:=999999) (disch:=omega) only [av1, av2, av3, av4, av5, av6, eq_self, exists_const, forall_const, implies_true, storeOk, thenQ, PK.cond, PK.val, Nat.reduceAdd, Nat.reduceLT, Nat.reduceMul, reduceCtorEq, ↓reduceIte, Nat.reduceEqDiff, Nat.reduceLeDiff, Nat.reduceSub, Nat.reduceBEq, Nat.reduceBNe, Int.reduceLT, Int.reduceEq, Int.reduceAdd, Int.reduceToNat, Int.reduceLE, Int.reduceBEq, Int.reduceBNe, enc1, cChan, cCSt, eqTy_Sum, eqTy_Ref, getD_map]
    apply Or.inl
    first | refine ⟨[], trivial, ?_⟩ | refine ⟨_, (hS), ?_⟩ | refine ⟨_, fun _ => (hS), ?_⟩ | refine ⟨_, fun h => ⟨h, (hS)⟩, ?_⟩ | refine ⟨_, fun h => ⟨by simp_all, (hS)⟩, ?_⟩ | refine ⟨[], ?_⟩
    (try simp only [rsAV, List.map_cons, List.map_nil, thenQ])
    refine hK13 _ ?_
    (try clear hK13)
    refine ag_pures (fuel := 0) [4, 5, 6, 7, 8, 9] [It.mk (some 42) none (IK.p (PK.eqA true 62 (Sh.st [Sh.a IntKind.u8 32, Sh.i]) (Operand.tmp 39) (Operand.tmp 41))), It.mk (some 43) none (IK.p (PK.mov (Operand.tmp 42))), It.mk (some 44) (some (43, false)) (IK.p (PK.fAddr (Operand.tmp 7) 1 33)), It.mk (some 45) (some (43, false)) (IK.p (PK.load (Operand.tmp 44) 1 false)), It.mk (some 46) (some (43, false)) (IK.p (PK.bin BinOp.neq (Operand.tmp 45) (Operand.const (Value.int IntKind.i64 1)))), It.mk (some 47) none (IK.p (PK.pick (Operand.tmp 43) (Operand.const (Value.bool true)) (Operand.tmp 46)))] (by kernel_rfl) (by kernel_rfl) (by kernel_rfl) (by kernel_rfl) (hideZ_nil _ 0) (fun K14 hK14 => ?_)
    simp (maxSteps:=999999) (disch:=omega) only [av1, av2, av3, av4, av5, av6, eq_self, exists_const, forall_const, implies_true, storeOk, thenQ, PK.cond, PK.val, Nat.reduceAdd, Nat.reduceLT, Nat.reduceMul, reduceCtorEq, ↓reduceIte, Nat.reduceEqDiff, Nat.reduceLeDiff, Nat.reduceSub, Nat.reduceBEq, Nat.reduceBNe, Int.reduceLT, Int.reduceEq, Int.reduceAdd, Int.reduceToNat, Int.reduceLE, Int.reduceBEq, Int.reduceBNe, enc1, cChan, cCSt, eqTy_Sum, eqTy_Ref, getD_map]
    (repeat ((with_reducible refine And.intro ?_ ?_); (first | trivial | assumption | omega | (simp; done))))
    refine hK14 _ ?_
    (try clear hK14)
    refine ag_done (by kernel_rfl) ?_
    (try simp only [thenQ])
    refine hK11 _ ?_
    (try clear hK11)
    refine at_cond _ rfl rfl (fun h15 => ?_) (fun h15 => ?_)
    · have r15 := h15
      (try simp only [dB2] at h15)
      refine at_seq fun K16 hK16 => ?_
      refine at_region [It.mk (some 6) none (IK.p (PK.mov (Operand.const (Value.int IntKind.i64 13))))] (by kernel_rfl) ?_
      simp (maxSteps:=999999) (disch:=omega) only [av1, av2, av3, av4, av5, av6, eq_self, exists_const, forall_const, implies_true, storeOk, thenQ, PK.cond, PK.val, Nat.reduceAdd, Nat.reduceLT, Nat.reduceMul, reduceCtorEq, ↓reduceIte, Nat.reduceEqDiff, Nat.reduceLeDiff, Nat.reduceSub, Nat.reduceBEq, Nat.reduceBNe, Int.reduceLT, Int.reduceEq, Int.reduceAdd, Int.reduceToNat, Int.reduceLE, Int.reduceBEq, Int.reduceBNe, enc1, cChan, cCSt, eqTy_Sum, eqTy_Ref, getD_map]
      (repeat ((with_reducible refine And.intro ?_ ?_); (first | trivial | assumption | omega | (simp; done))))
      refine hK16 _ ?_
      (try clear hK16)
      refine at_ret ?_
      simp (maxSteps:=999999) (disch:=omega) only [av1, av2, av3, av4, av5, av6, eq_self, exists_const, forall_const, implies_true, storeOk, thenQ, PK.cond, PK.val, Nat.reduceAdd, Nat.reduceLT, Nat.reduceMul, reduceCtorEq, ↓reduceIte, Nat.reduceEqDiff, Nat.reduceLeDiff, Nat.reduceSub, Nat.reduceBEq, Nat.reduceBNe, Int.reduceLT, Int.reduceEq, Int.reduceAdd, Int.reduceToNat, Int.reduceLE, Int.reduceBEq, Int.reduceBNe, enc1, cChan, cCSt, eqTy_Sum, eqTy_Ref, getD_map, blockQ, retQ, RetOk, ResOk, AV.fin, AV.fins, CV.le, CV.les]
      refine pv_int ?_
      unfold chkE
      first
        | (rw [if_pos (by assumption)]; done)
        | (rw [if_neg (by rw [Bool.not_eq_true]; assumption), if_pos (by assumption)]; done)
        | (have e := coin_bad hk (by simpa using (by omega : k < O.length)) (amount_at (by omega)) (by assumption)
           rw [if_neg (by rw [Bool.not_eq_true]; assumption), if_neg (by rw [Bool.not_eq_false]; assumption), if_pos (by rw [e]; assumption), e]; done)
        | (have e0 : coinAdd 0 (O.map Out.amount) = (s, 0) := by rw [hk.eq, List.drop_eq_nil_of_le (by simp; omega)]; rfl
           rw [if_neg (by rw [Bool.not_eq_true]; assumption), if_neg (by rw [Bool.not_eq_false]; assumption), e0, if_neg (by simp)]
           first
             | (rw [if_pos (by assumption)]; done)
             | (rw [if_neg (by simp only [Int.not_lt, gt_iff_lt]; assumption)]; done)
             | trace_state)
    · have r15 := h15
      (try simp only [dB2] at h15)
      refine at_skip ?_
      (try simp only [thenQ, blockQ])
      refine hK10 _ ?_
      (try clear hK10)
      refine at_seq fun K17 hK17 => ?_
      refine at_seq fun K18 hK18 => ?_
      refine at_draws [] (by kernel_rfl) ?_
      refine ag_pures (fuel := 4) [0, 1, 2, 3, 4, 5, 6, 7, 9, 10] [It.mk (some 48) none (IK.p (PK.fAddr (Operand.tmp 4) 1 1)), It.mk (some 49) none (IK.p (PK.load (Operand.tmp 48) 1 false)), It.mk (some 50) none (IK.p (PK.iAddrS (Operand.tmp 49) (Operand.const (Value.int IntKind.i64 0)) 2)), It.mk (some 51) none (IK.p (PK.fAddr (Operand.tmp 50) 1 1)), It.mk (some 52) none (IK.p (PK.load (Operand.tmp 51) 1 false)), It.mk (some 53) none (IK.p (PK.iAddrS (Operand.tmp 52) (Operand.const (Value.int IntKind.i64 1)) 35)), It.mk (some 54) none (IK.p (PK.load (Operand.tmp 53) 35 true)), It.mk (some 55) none (IK.p (PK.load (Operand.tmp 5) 40 true)), It.mk (some 57) none (IK.p (PK.fAddr (Operand.tmp 7) 2 34)), It.mk (some 58) none (IK.p (PK.load (Operand.tmp 57) 1 false))] (by kernel_rfl) (by kernel_rfl) (by kernel_rfl) (by kernel_rfl) (hideZ_nil _ 0) (fun K19 hK19 => ?_)
      simp (maxSteps:=999999) (disch:=omega) only [av1, av2, av3, av4, av5, av6, eq_self, exists_const, forall_const, implies_true, storeOk, thenQ, PK.cond, PK.val, Nat.reduceAdd, Nat.reduceLT, Nat.reduceMul, reduceCtorEq, ↓reduceIte, Nat.reduceEqDiff, Nat.reduceLeDiff, Nat.reduceSub, Nat.reduceBEq, Nat.reduceBNe, Int.reduceLT, Int.reduceEq, Int.reduceAdd, Int.reduceToNat, Int.reduceLE, Int.reduceBEq, Int.reduceBNe, enc1, cChan, cCSt, eqTy_Sum, eqTy_Ref, getD_map]
      (repeat ((with_reducible refine And.intro ?_ ?_); (first | trivial | assumption | omega | (simp; done))))
      refine hK19 _ ?_
      (try clear hK19)
      refine ag_one (i:=8) (by kernel_rfl) ?_
      refine agi (it := It.mk (some 56) none (IK.call 70 [Operand.tmp 55])) (R' := [10, 9, 6, 5, 4, 3, 2, 1, 0]) (by kernel_rfl) (.inl rfl) (by kernel_rfl) (fun K20 hK20 => ?_)
      simp (maxSteps:=999999) (disch:=omega) only [av1, av2, av3, av4, av5, av6, eq_self, exists_const, forall_const, implies_true, storeOk, thenQ, PK.cond, PK.val, Nat.reduceAdd, Nat.reduceLT, Nat.reduceMul, reduceCtorEq, ↓reduceIte, Nat.reduceEqDiff, Nat.reduceLeDiff, Nat.reduceSub, Nat.reduceBEq, Nat.reduceBNe, Int.reduceLT, Int.reduceEq, Int.reduceAdd, Int.reduceToNat, Int.reduceLE, Int.reduceBEq, Int.reduceBNe, enc1, cChan, cCSt, eqTy_Sum, eqTy_Ref, getD_map]
      apply Or.inl
      first | refine ⟨[], trivial, ?_⟩ | refine ⟨_, (hK), ?_⟩ | refine ⟨_, fun _ => (hK), ?_⟩ | refine ⟨_, fun h => ⟨h, (hK)⟩, ?_⟩ | refine ⟨_, fun h => ⟨by simp_all, (hK)⟩, ?_⟩ | refine ⟨[], ?_⟩
      (try simp only [rsAV, List.map_cons, List.map_nil, thenQ])
      refine hK20 _ ?_
      (try clear hK20)
      refine ag_pures (fuel := 2) [11] [It.mk (some 59) none (IK.p (PK.bld (CV.st [CV.pv (Value.slice none 0 0), CV.pv (Value.slice none 0 0), CV.pv (Value.int IntKind.i64 0), CV.pv (Value.int IntKind.i64 0)]) [(0, 1), (1, 1), (2, 1), (3, 1)] [(0, Operand.tmp 56), (1, Operand.tmp 58)]))] (by kernel_rfl) (by kernel_rfl) (by kernel_rfl) (by kernel_rfl) (hideZ_nil _ 0) (fun K21 hK21 => ?_)
      simp (maxSteps:=999999) (disch:=omega) only [av1, av2, av3, av4, av5, av6, eq_self, exists_const, forall_const, implies_true, storeOk, thenQ, PK.cond, PK.val, Nat.reduceAdd, Nat.reduceLT, Nat.reduceMul, reduceCtorEq, ↓reduceIte, Nat.reduceEqDiff, Nat.reduceLeDiff, Nat.reduceSub, Nat.reduceBEq, Nat.reduceBNe, Int.reduceLT, Int.reduceEq, Int.reduceAdd, Int.reduceToNat, Int.reduceLE, Int.reduceBEq, Int.reduceBNe, enc1, cChan, cCSt, eqTy_Sum, eqTy_Ref, getD_map]
      (repeat ((with_reducible refine And.intro ?_ ?_); (first | trivial | assumption | omega | (simp; done))))
      refine hK21 _ ?_
      (try clear hK21)
      refine ag_one (i:=12) (by kernel_rfl) ?_
      refine agi (it := It.mk (some 60) none (IK.call 20 [Operand.tmp 54, Operand.tmp 59])) (R' := []) (by kernel_rfl) (.inl rfl) (by kernel_rfl) (fun K22 hK22 => ?_)
      simp (maxSteps:=999999) (disch:=omega) only [av1, av2, av3, av4, av5, av6, eq_self, exists_const, forall_const, implies_true, storeOk, thenQ, PK.cond, PK.val, Nat.reduceAdd, Nat.reduceLT, Nat.reduceMul, reduceCtorEq, ↓reduceIte, Nat.reduceEqDiff, Nat.reduceLeDiff, Nat.reduceSub, Nat.reduceBEq, Nat.reduceBNe, Int.reduceLT, Int.reduceEq, Int.reduceAdd, Int.reduceToNat, Int.reduceLE, Int.reduceBEq, Int.reduceBNe, enc1, cChan, cCSt, eqTy_Sum, eqTy_Ref, getD_map]
      apply Or.inl
      first | refine ⟨[], trivial, ?_⟩ | refine ⟨_, (hP), ?_⟩ | refine ⟨_, fun _ => (hP), ?_⟩ | refine ⟨_, fun h => ⟨h, (hP)⟩, ?_⟩ | refine ⟨_, fun h => ⟨by simp_all, (hP)⟩, ?_⟩ | refine ⟨[], ?_⟩
      (try simp only [rsAV, List.map_cons, List.map_nil, thenQ])
      refine hK22 _ ?_
      (try clear hK22)
      refine ag_pures (fuel := 0) [13] [It.mk (some 61) none (IK.p (PK.not (Operand.tmp 60)))] (by kernel_rfl) (by kernel_rfl) (by kernel_rfl) (by kernel_rfl) (hideZ_nil _ 0) (fun K23 hK23 => ?_)
      simp (maxSteps:=999999) (disch:=omega) only [av1, av2, av3, av4, av5, av6, eq_self, exists_const, forall_const, implies_true, storeOk, thenQ, PK.cond, PK.val, Nat.reduceAdd, Nat.reduceLT, Nat.reduceMul, reduceCtorEq, ↓reduceIte, Nat.reduceEqDiff, Nat.reduceLeDiff, Nat.reduceSub, Nat.reduceBEq, Nat.reduceBNe, Int.reduceLT, Int.reduceEq, Int.reduceAdd, Int.reduceToNat, Int.reduceLE, Int.reduceBEq, Int.reduceBNe, enc1, cChan, cCSt, eqTy_Sum, eqTy_Ref, getD_map]
      (repeat ((with_reducible refine And.intro ?_ ?_); (first | trivial | assumption | omega | (simp; done))))
      refine hK23 _ ?_
      (try clear hK23)
      refine ag_done (by kernel_rfl) ?_
      (try simp only [thenQ])
      refine hK18 _ ?_
      (try clear hK18)
      refine at_cond _ rfl rfl (fun h24 => ?_) (fun h24 => ?_)
      · have r24 := h24
        (try simp only [dB2] at h24)
        refine at_seq fun K25 hK25 => ?_
        refine at_region [It.mk (some 6) none (IK.p (PK.mov (Operand.const (Value.int IntKind.i64 12))))] (by kernel_rfl) ?_
        simp (maxSteps:=999999) (disch:=omega) only [av1, av2, av3, av4, av5, av6, eq_self, exists_const, forall_const, implies_true, storeOk, thenQ, PK.cond, PK.val, Nat.reduceAdd, Nat.reduceLT, Nat.reduceMul, reduceCtorEq, ↓reduceIte, Nat.reduceEqDiff, Nat.reduceLeDiff, Nat.reduceSub, Nat.reduceBEq, Nat.reduceBNe, Int.reduceLT, Int.reduceEq, Int.reduceAdd, Int.reduceToNat, Int.reduceLE, Int.reduceBEq, Int.reduceBNe, enc1, cChan, cCSt, eqTy_Sum, eqTy_Ref, getD_map]
        (repeat ((with_reducible refine And.intro ?_ ?_); (first | trivial | assumption | omega | (simp; done))))
        refine hK25 _ ?_
        (try clear hK25)
        refine at_ret ?_
        simp (maxSteps:=999999) (disch:=omega) only [av1, av2, av3, av4, av5, av6, eq_self, exists_const, forall_const, implies_true, storeOk, thenQ, PK.cond, PK.val, Nat.reduceAdd, Nat.reduceLT, Nat.reduceMul, reduceCtorEq, ↓reduceIte, Nat.reduceEqDiff, Nat.reduceLeDiff, Nat.reduceSub, Nat.reduceBEq, Nat.reduceBNe, Int.reduceLT, Int.reduceEq, Int.reduceAdd, Int.reduceToNat, Int.reduceLE, Int.reduceBEq, Int.reduceBNe, enc1, cChan, cCSt, eqTy_Sum, eqTy_Ref, getD_map, blockQ, retQ, RetOk, ResOk, AV.fin, AV.fins, CV.le, CV.les]
        refine pv_int ?_
        unfold chkE
        first
          | (rw [if_pos (by assumption)]; done)
          | (rw [if_neg (by rw [Bool.not_eq_true]; assumption), if_pos (by assumption)]; done)
          | (have e := coin_bad hk (by simpa using (by omega : k < O.length)) (amount_at (by omega)) (by assumption)
             rw [if_neg (by rw [Bool.not_eq_true]; assumption), if_neg (by rw [Bool.not_eq_false]; assumption), if_pos (by rw [e]; assumption), e]; done)
          | (have e0 : coinAdd 0 (O.map Out.amount) = (s, 0) := by rw [hk.eq, List.drop_eq_nil_of_le (by simp; omega)]; rfl
             rw [if_neg (by rw [Bool.not_eq_true]; assumption), if_neg (by rw [Bool.not_eq_false]; assumption), e0, if_neg (by simp)]
             first
               | (rw [if_pos (by assumption)]; done)
               | (rw [if_neg (by simp only [Int.not_lt, gt_iff_lt]; assumption)]; done)
               | trace_state)
      · have r24 := h24
        (try simp only [dB2] at h24)
        refine at_skip ?_
        (try simp only [thenQ, blockQ])
        refine hK17 _ ?_
        (try clear hK17)
        refine at_seq fun K26 hK26 => ?_
        refine at_region [It.mk (some 8) none (IK.p (PK.mov (Operand.const (Value.int IntKind.i64 0))))] (by kernel_rfl) ?_
        simp (maxSteps:=999999) (disch:=omega) only [av1, av2, av3, av4, av5, av6, eq_self, exists_const, forall_const, implies_true, storeOk, thenQ, PK.cond, PK.val, Nat.reduceAdd, Nat.reduceLT, Nat.reduceMul, reduceCtorEq, ↓reduceIte, Nat.reduceEqDiff, Nat.reduceLeDiff, Nat.reduceSub, Nat.reduceBEq, Nat.reduceBNe, Int.reduceLT, Int.reduceEq, Int.reduceAdd, Int.reduceToNat, Int.reduceLE, Int.reduceBEq, Int.reduceBNe, enc1, cChan, cCSt, eqTy_Sum, eqTy_Ref, getD_map]
        (repeat ((with_reducible refine And.intro ?_ ?_); (first | trivial | assumption | omega | (simp; done))))
        refine hK26 _ ?_
        (try clear hK26)
        refine at_seq fun K27 hK27 => ?_
        refine at_seq fun K28 hK28 => ?_
        refine at_region [It.mk (some 62) none (IK.p (PK.fAddr (Operand.tmp 5) 1 1)), It.mk (some 63) none (IK.p (PK.load (Operand.tmp 62) 1 false)), It.mk (some 64) none (IK.p (PK.len false (Operand.tmp 63))), It.mk (some 65) none (IK.p (PK.mov (Operand.const (Value.int IntKind.i64 0))))] (by kernel_rfl) ?_
        simp (maxSteps:=999999) (disch:=omega) only [av1, av2, av3, av4, av5, av6, eq_self, exists_const, forall_const, implies_true, storeOk, thenQ, PK.cond, PK.val, Nat.reduceAdd, Nat.reduceLT, Nat.reduceMul, reduceCtorEq, ↓reduceIte, Nat.reduceEqDiff, Nat.reduceLeDiff, Nat.reduceSub, Nat.reduceBEq, Nat.reduceBNe, Int.reduceLT, Int.reduceEq, Int.reduceAdd, Int.reduceToNat, Int.reduceLE, Int.reduceBEq, Int.reduceBNe, enc1, cChan, cCSt, eqTy_Sum, eqTy_Ref, getD_map]
        (repeat ((with_reducible refine And.intro ?_ ?_); (first | trivial | assumption | omega | (simp; done))))
        refine hK28 _ ?_
        (try clear hK28)
        refine at_block ?_
        refine at_loopK [3, 4, 5, 6, 7, 63, 64] (fun k : { k : Nat × Int // CoinAt (O.map Out.amount) k.1 k.2 } => [(65, true, bi .i64 k.1.1), (8, true, bi .i64 k.1.2)]) (fun k => O.length - k.1.1) ⟨(0, 0), CoinAt.start _⟩ ?_ ?_
        · simp (maxSteps:=999999) (disch:=omega) only [av1, av2, av3, av4, av5, av6, eq_self, exists_const, forall_const, implies_true, storeOk, thenQ, PK.cond, PK.val, Nat.reduceAdd, Nat.reduceLT, Nat.reduceMul, reduceCtorEq, ↓reduceIte, Nat.reduceEqDiff, Nat.reduceLeDiff, Nat.reduceSub, Nat.reduceBEq, Nat.reduceBNe, Int.reduceLT, Int.reduceEq, Int.reduceAdd, Int.reduceToNat, Int.reduceLE, Int.reduceBEq, Int.reduceBNe, enc1, cChan, cCSt, eqTy_Sum, eqTy_Ref, getD_map]
          repeat' (first | exact SubT.nil | refine SubT.cons (by first | rfl | (simp [look]; done) | (fail)) ?_)
        rintro ⟨⟨k, s⟩, hk⟩; dsimp only at hk ⊢; have hk1 : k ≤ O.length := (by simpa using hk.le)
        simp (maxSteps:=999999) (disch:=omega) only [av1, av2, av3, av4, av5, av6, eq_self, exists_const, forall_const, implies_true, storeOk, thenQ, PK.cond, PK.val, Nat.reduceAdd, Nat.reduceLT, Nat.reduceMul, reduceCtorEq, ↓reduceIte, Nat.reduceEqDiff, Nat.reduceLeDiff, Nat.reduceSub, Nat.reduceBEq, Nat.reduceBNe, Int.reduceLT, Int.reduceEq, Int.reduceAdd, Int.reduceToNat, Int.reduceLE, Int.reduceBEq, Int.reduceBNe, enc1, cChan, cCSt, eqTy_Sum, eqTy_Ref, getD_map]
        refine at_seq fun K29 hK29 => ?_
        refine at_region [It.mk (some 66) none (IK.p (PK.bin BinOp.lss (Operand.tmp 65) (Operand.tmp 64)))] (by kernel_rfl) ?_
        simp (maxSteps:=999999) (disch:=omega) only [av1, av2, av3, av4, av5, av6, eq_self, exists_const, forall_const, implies_true, storeOk, thenQ, PK.cond, PK.val, Nat.reduceAdd, Nat.reduceLT, Nat.reduceMul, reduceCtorEq, ↓reduceIte, Nat.reduceEqDiff, Nat.reduceLeDiff, Nat.reduceSub, Nat.reduceBEq, Nat.reduceBNe, Int.reduceLT, Int.reduceEq, Int.reduceAdd, Int.reduceToNat, Int.reduceLE, Int.reduceBEq, Int.reduceBNe, enc1, cChan, cCSt, eqTy_Sum, eqTy_Ref, getD_map]
        (repeat ((with_reducible refine And.intro ?_ ?_); (first | trivial | assumption | omega | (simp; done))))
        refine hK29 _ ?_
        (try clear hK29)
        refine at_seq fun K30 hK30 => ?_
        refine at_cond _ rfl rfl (fun h31 => ?_) (fun h31 => ?_)
        · have r31 := h31
          (try simp only [dB2] at h31)
          refine at_skip ?_
          (try simp only [thenQ, blockQ])
          refine hK30 _ ?_
          (try clear hK30)
          refine at_seq fun K32 hK32 => ?_
          refine at_block ?_
          refine at_seq fun K33 hK33 => ?_
          refine at_region [It.mk (some 67) none (IK.p (PK.iAddrS (Operand.tmp 63) (Operand.tmp 65) 2)), It.mk (some 68) none (IK.p (PK.load (Operand.tmp 67) 2 true)), It.mk (some 10) none (IK.alloc (CV.st [CV.pv (Value.int IntKind.i64 0), CV.pv (Value.slice none 0 0)])), It.mk none none (IK.store (Operand.tmp 10) (Operand.tmp 68) 2)] (by kernel_rfl) ?_
          simp (maxSteps:=999999) (disch:=omega) only [av1, av2, av3, av4, av5, av6, eq_self, exists_const, forall_const, implies_true, storeOk, thenQ, PK.cond, PK.val, Nat.reduceAdd, Nat.reduceLT, Nat.reduceMul, reduceCtorEq, ↓reduceIte, Nat.reduceEqDiff, Nat.reduceLeDiff, Nat.reduceSub, Nat.reduceBEq, Nat.reduceBNe, Int.reduceLT, Int.reduceEq, Int.reduceAdd, Int.reduceToNat, Int.reduceLE, Int.reduceBEq, Int.reduceBNe, enc1, cChan, cCSt, eqTy_Sum, eqTy_Ref, getD_map]
          (repeat ((with_reducible refine And.intro ?_ ?_); (first | trivial | assumption | omega | (simp; done))))
          refine hK33 _ ?_
          (try clear hK33)
          refine at_seq fun K34 hK34 => ?_
          refine at_region [It.mk (some 70) none (IK.p (PK.mov (Operand.tmp 8))), It.mk (some 71) none (IK.p (PK.fAddr (Operand.tmp 10) 0 0)), It.mk (some 72) none (IK.p (PK.load (Operand.tmp 71) 1 false)), It.mk (some 73) none (IK.lit 1 [Operand.tmp 70, Operand.tmp 72]), It.mk (some 74) none (IK.call 71 [Operand.tmp 73]), It.mk (some 69) none (IK.p (PK.mov (Operand.tmp 74))), It.mk (some 75) none (IK.p (PK.ext (Operand.tmp 69) 0)), It.mk (some 76) none (IK.p (PK.ext (Operand.tmp 69) 1)), It.mk (some 11) none (IK.p (PK.mov (Operand.tmp 75))), It.mk (some 12) none (IK.p (PK.mov (Operand.tmp 76)))] (by kernel_rfl) ?_
          refine apl_cut [_, _, _, _] _ (fun K35 hK35 => ?_)
          simp (maxSteps:=999999) (disch:=omega) only [av1, av2, av3, av4, av5, av6, eq_self, exists_const, forall_const, implies_true, storeOk, thenQ, PK.cond, PK.val, Nat.reduceAdd, Nat.reduceLT, Nat.reduceMul, reduceCtorEq, ↓reduceIte, Nat.reduceEqDiff, Nat.reduceLeDiff, Nat.reduceSub, Nat.reduceBEq, Nat.reduceBNe, Int.reduceLT, Int.reduceEq, Int.reduceAdd, Int.reduceToNat, Int.reduceLE, Int.reduceBEq, Int.reduceBNe, enc1, cChan, cCSt, eqTy_Sum, eqTy_Ref, getD_map]
          (repeat ((with_reducible refine And.intro ?_ ?_); (first | trivial | assumption | omega | (simp; done))))
          refine hK35 _ ?_
          (try clear hK35)
          refine apl_cut [_] _ (fun K36 hK36 => ?_)
          simp (maxSteps:=999999) (disch:=omega) only [av1, av2, av3, av4, av5, av6, eq_self, exists_const, forall_const, implies_true, storeOk, thenQ, PK.cond, PK.val, Nat.reduceAdd, Nat.reduceLT, Nat.reduceMul, reduceCtorEq, ↓reduceIte, Nat.reduceEqDiff, Nat.reduceLeDiff, Nat.reduceSub, Nat.reduceBEq, Nat.reduceBNe, Int.reduceLT, Int.reduceEq, Int.reduceAdd, Int.reduceToNat, Int.reduceLE, Int.reduceBEq, Int.reduceBNe, enc1, cChan, cCSt, eqTy_Sum, eqTy_Ref, getD_map]
          apply Or.inl
          first | refine ⟨[], trivial, ?_⟩ | refine ⟨_, (coinAdd_ap [_, _] (by simp)), ?_⟩ | refine ⟨_, fun _ => (coinAdd_ap [_, _] (by simp)), ?_⟩ | refine ⟨_, fun h => ⟨h, (coinAdd_ap [_, _] (by simp))⟩, ?_⟩ | refine ⟨_, fun h => ⟨by simp_all, (coinAdd_ap [_, _] (by simp))⟩, ?_⟩ | refine ⟨[], ?_⟩
          (try simp only [rsAV, List.map_cons, List.map_nil, thenQ])
          refine hK36 _ ?_
          (try clear hK36)
          simp (maxSteps:=999999) (disch:=omega) only [av1, av2, av3, av4, av5, av6, eq_self, exists_const, forall_const, implies_true, storeOk, thenQ, PK.cond, PK.val, Nat.reduceAdd, Nat.reduceLT, Nat.reduceMul, reduceCtorEq, ↓reduceIte, Nat.reduceEqDiff, Nat.reduceLeDiff, Nat.reduceSub, Nat.reduceBEq, Nat.reduceBNe, Int.reduceLT, Int.reduceEq, Int.reduceAdd, Int.reduceToNat, Int.reduceLE, Int.reduceBEq, Int.reduceBNe, enc1, cChan, cCSt, eqTy_Sum, eqTy_Ref, getD_map]
          (repeat ((with_reducible refine And.intro ?_ ?_); (first | trivial | assumption | omega | (simp; done))))
          refine hK34 _ ?_
          (try clear hK34)
          refine at_seq fun K37 hK37 => ?_
          refine at_seq fun K38 hK38 => ?_
          refine at_region [It.mk (some 77) none (IK.p (PK.mov (Operand.tmp 12))), It.mk (some 78) none (IK.p (PK.bin BinOp.neq (Operand.tmp 77) (Operand.const (Value.int IntKind.i64 0))))] (by kernel_rfl) ?_
          simp (maxSteps:=999999) (disch:=omega) only [av1, av2, av3, av4, av5, av6, eq_self, exists_const, forall_const, implies_true, storeOk, thenQ, PK.cond, PK.val, Nat.reduceAdd, Nat.reduceLT, Nat.reduceMul, reduceCtorEq, ↓reduceIte, Nat.reduceEqDiff, Nat.reduceLeDiff, Nat.reduceSub, Nat.reduceBEq, Nat.reduceBNe, Int.reduceLT, Int.reduceEq, Int.reduceAdd, Int.reduceToNat, Int.reduceLE, Int.reduceBEq, Int.reduceBNe, enc1, cChan, cCSt, eqTy_Sum, eqTy_Ref, getD_map]
          (repeat ((with_reducible refine And.intro ?_ ?_); (first | trivial | assumption | omega | (simp; done))))
          refine hK38 _ ?_
          (try clear hK38)
          refine at_cond _ rfl rfl (fun h39 => ?_) (fun h39 => ?_)
          · have r39 := h39
            (try simp only [dB2] at h39)
            refine at_seq fun K40 hK40 => ?_
            refine at_region [It.mk (some 79) none (IK.p (PK.mov (Operand.tmp 12))), It.mk (some 6) none (IK.p (PK.mov (Operand.tmp 79)))] (by kernel_rfl) ?_
            simp (maxSteps:=999999) (disch:=omega) only [av1, av2, av3, av4, av5, av6, eq_self, exists_const, forall_const, implies_true, storeOk, thenQ, PK.cond, PK.val, Nat.reduceAdd, Nat.reduceLT, Nat.reduceMul, reduceCtorEq, ↓reduceIte, Nat.reduceEqDiff, Nat.reduceLeDiff, Nat.reduceSub, Nat.reduceBEq, Nat.reduceBNe, Int.reduceLT, Int.reduceEq, Int.reduceAdd, Int.reduceToNat, Int.reduceLE, Int.reduceBEq, Int.reduceBNe, enc1, cChan, cCSt, eqTy_Sum, eqTy_Ref, getD_map]
            (repeat ((with_reducible refine And.intro ?_ ?_); (first | trivial | assumption | omega | (simp; done))))
            refine hK40 _ ?_
            (try clear hK40)
            refine at_ret ?_
            simp (maxSteps:=999999) (disch:=omega) only [av1, av2, av3, av4, av5, av6, eq_self, exists_const, forall_const, implies_true, storeOk, thenQ, PK.cond, PK.val, Nat.reduceAdd, Nat.reduceLT, Nat.reduceMul, reduceCtorEq, ↓reduceIte, Nat.reduceEqDiff, Nat.reduceLeDiff, Nat.reduceSub, Nat.reduceBEq, Nat.reduceBNe, Int.reduceLT, Int.reduceEq, Int.reduceAdd, Int.reduceToNat, Int.reduceLE, Int.reduceBEq, Int.reduceBNe, enc1, cChan, cCSt, eqTy_Sum, eqTy_Ref, getD_map, blockQ, retQ, RetOk, ResOk, AV.fin, AV.fins, CV.le, CV.les]
            refine pv_int ?_
            unfold chkE
            first
              | (rw [if_pos (by assumption)]; done)
              | (rw [if_neg (by rw [Bool.not_eq_true]; assumption), if_pos (by assumption)]; done)
              | (have e := coin_bad hk (by simpa using (by omega : k < O.length)) (amount_at (by omega)) (by assumption)
                 rw [if_neg (by rw [Bool.not_eq_true]; assumption), if_neg (by rw [Bool.not_eq_false]; assumption), if_pos (by rw [e]; assumption), e]; done)
              | (have e0 : coinAdd 0 (O.map Out.amount) = (s, 0) := by rw [hk.eq, List.drop_eq_nil_of_le (by simp; omega)]; rfl
                 rw [if_neg (by rw [Bool.not_eq_true]; assumption), if_neg (by rw [Bool.not_eq_false]; assumption), e0, if_neg (by simp)]
                 first
                   | (rw [if_pos (by assumption)]; done)
                   | (rw [if_neg (by simp only [Int.not_lt, gt_iff_lt]; assumption)]; done)
                   | trace_state)
          · have r39 := h39
            (try simp only [dB2] at h39)
            refine at_skip ?_
            (try simp only [thenQ, blockQ])
            refine hK37 _ ?_
            (try clear hK37)
            refine at_region [It.mk (some 80) none (IK.p (PK.mov (Operand.tmp 11))), It.mk (some 8) none (IK.p (PK.mov (Operand.tmp 80)))] (by kernel_rfl) ?_
            simp (maxSteps:=999999) (disch:=omega) only [av1, av2, av3, av4, av5, av6, eq_self, exists_const, forall_const, implies_true, storeOk, thenQ, PK.cond, PK.val, Nat.reduceAdd, Nat.reduceLT, Nat.reduceMul, reduceCtorEq, ↓reduceIte, Nat.reduceEqDiff, Nat.reduceLeDiff, Nat.reduceSub, Nat.reduceBEq, Nat.reduceBNe, Int.reduceLT, Int.reduceEq, Int.reduceAdd, Int.reduceToNat, Int.reduceLE, Int.reduceBEq, Int.reduceBNe, enc1, cChan, cCSt, eqTy_Sum, eqTy_Ref, getD_map]
            (repeat ((with_reducible refine And.intro ?_ ?_); (first | trivial | assumption | omega | (simp; done))))
            (try simp only [blockQ])
            refine hK32 _ ?_
            (try clear hK32)
            refine at_region [It.mk (some 81) none (IK.p (PK.bin BinOp.add (Operand.tmp 65) (Operand.const (Value.int IntKind.i64 1)))), It.mk (some 65) none (IK.p (PK.mov (Operand.tmp 81)))] (by kernel_rfl) ?_
            simp (maxSteps:=999999) (disch:=omega) only [av1, av2, av3, av4, av5, av6, eq_self, exists_const, forall_const, implies_true, storeOk, thenQ, PK.cond, PK.val, Nat.reduceAdd, Nat.reduceLT, Nat.reduceMul, reduceCtorEq, ↓reduceIte, Nat.reduceEqDiff, Nat.reduceLeDiff, Nat.reduceSub, Nat.reduceBEq, Nat.reduceBNe, Int.reduceLT, Int.reduceEq, Int.reduceAdd, Int.reduceToNat, Int.reduceLE, Int.reduceBEq, Int.reduceBNe, enc1, cChan, cCSt, eqTy_Sum, eqTy_Ref, getD_map]
            (repeat ((with_reducible refine And.intro ?_ ?_); (first | trivial | assumption | omega | (simp; done))))
            refine ⟨⟨(k + 1, _), coin_next hk (by simpa using (by omega : k < O.length)) (amount_at (by omega)) (by assumption)⟩, by (dsimp only; omega), ?_⟩
            refine Le.drop 4 (by simp) (by first | rfl | simp) (by simp [AObj.lt, AV.lt, AV.lts]) ?_ (by simp [AObj.lt, AV.lt, AV.lts]) (by intro q hq; cases hq)
            (try simp (maxSteps:=999999) (disch:=omega) only [av1, av2, av3, av4, av5, av6, eq_self, exists_const, forall_const, implies_true, storeOk, thenQ, PK.cond, PK.val, Nat.reduceAdd, Nat.reduceLT, Nat.reduceMul, reduceCtorEq, ↓reduceIte, Nat.reduceEqDiff, Nat.reduceLeDiff, Nat.reduceSub, Nat.reduceBEq, Nat.reduceBNe, Int.reduceLT, Int.reduceEq, Int.reduceAdd, Int.reduceToNat, Int.reduceLE, Int.reduceBEq, Int.reduceBNe, enc1, cChan, cCSt, eqTy_Sum, eqTy_Ref, getD_map])
            repeat' (first | exact SubT.nil | refine SubT.cons ?_ ?_)
            all_goals (first | rfl | (simp only [look, Nat.reduceEqDiff, ↓reduceIte]; first | rfl | ((rw [wrap64 (by omega) (by omega)]; rfl))))
        · have r31 := h31
          (try simp only [dB2] at h31)
          refine at_exit ?_
          simp only [thenQ, blockQ, if_true]
          refine hK27 _ ?_
          (try clear hK27)
          refine at_seq fun K41 hK41 => ?_
          refine at_seq fun K42 hK42 => ?_
          refine at_region [It.mk (some 82) none (IK.p (PK.mov (Operand.tmp 8))), It.mk (some 83) none (IK.p (PK.fAddr (Operand.tmp 4) 1 1)), It.mk (some 84) none (IK.p (PK.load (Operand.tmp 83) 1 false)), It.mk (some 85) none (IK.p (PK.iAddrS (Operand.tmp 84) (Operand.const (Value.int IntKind.i64 0)) 2)), It.mk (some 86) none (IK.p (PK.fAddr (Operand.tmp 85) 0 0)), It.mk (some 87) none (IK.p (PK.load (Operand.tmp 86) 1 false)), It.mk (some 88) none (IK.p (PK.bin BinOp.gtr (Operand.tmp 82) (Operand.tmp 87)))] (by kernel_rfl) ?_
          simp (maxSteps:=999999) (disch:=omega) only [av1, av2, av3, av4, av5, av6, eq_self, exists_const, forall_const, implies_true, storeOk, thenQ, PK.cond, PK.val, Nat.reduceAdd, Nat.reduceLT, Nat.reduceMul, reduceCtorEq, ↓reduceIte, Nat.reduceEqDiff, Nat.reduceLeDiff, Nat.reduceSub, Nat.reduceBEq, Nat.reduceBNe, Int.reduceLT, Int.reduceEq, Int.reduceAdd, Int.reduceToNat, Int.reduceLE, Int.reduceBEq, Int.reduceBNe, enc1, cChan, cCSt, eqTy_Sum, eqTy_Ref, getD_map]
          (repeat ((with_reducible refine And.intro ?_ ?_); (first | trivial | assumption | omega | (simp; done))))
          refine hK42 _ ?_
          (try clear hK42)
          refine at_cond _ rfl rfl (fun h43 => ?_) (fun h43 => ?_)
          · have r43 := h43
            (try simp only [dB2] at h43)
            refine at_seq fun K44 hK44 => ?_
            refine at_region [It.mk (some 6) none (IK.p (PK.mov (Operand.const (Value.int IntKind.i64 14))))] (by kernel_rfl) ?_
            simp (maxSteps:=999999) (disch:=omega) only [av1, av2, av3, av4, av5, av6, eq_self, exists_const, forall_const, implies_true, storeOk, thenQ, PK.cond, PK.val, Nat.reduceAdd, Nat.reduceLT, Nat.reduceMul, reduceCtorEq, ↓reduceIte, Nat.reduceEqDiff, Nat.reduceLeDiff, Nat.reduceSub, Nat.reduceBEq, Nat.reduceBNe, Int.reduceLT, Int.reduceEq, Int.reduceAdd, Int.reduceToNat, Int.reduceLE, Int.reduceBEq, Int.reduceBNe, enc1, cChan, cCSt, eqTy_Sum, eqTy_Ref, getD_map]
            (repeat ((with_reducible refine And.intro ?_ ?_); (first | trivial | assumption | omega | (simp; done))))
            refine hK44 _ ?_
            (try clear hK44)
            refine at_ret ?_
            simp (maxSteps:=999999) (disch:=omega) only [av1, av2, av3, av4, av5, av6, eq_self, exists_const, forall_const, implies_true, storeOk, thenQ, PK.cond, PK.val, Nat.reduceAdd, Nat.reduceLT, Nat.reduceMul, reduceCtorEq, ↓reduceIte, Nat.reduceEqDiff, Nat.reduceLeDiff, Nat.reduceSub, Nat.reduceBEq, Nat.reduceBNe, Int.reduceLT, Int.reduceEq, Int.reduceAdd, Int.reduceToNat, Int.reduceLE, Int.reduceBEq, Int.reduceBNe, enc1, cChan, cCSt, eqTy_Sum, eqTy_Ref, getD_map, blockQ, retQ, RetOk, ResOk, AV.fin, AV.fins, CV.le, CV.les]
            refine pv_int ?_
            unfold chkE
            first
              | (rw [if_pos (by assumption)]; done)
              | (rw [if_neg (by rw [Bool.not_eq_true]; assumption), if_pos (by assumption)]; done)
              | (have e := coin_bad hk (by simpa using (by omega : k < O.length)) (amount_at (by omega)) (by assumption)
                 rw [if_neg (by rw [Bool.not_eq_true]; assumption), if_neg (by rw [Bool.not_eq_false]; assumption), if_pos (by rw [e]; assumption), e]; done)
              | (have e0 : coinAdd 0 (O.map Out.amount) = (s, 0) := by rw [hk.eq, List.drop_eq_nil_of_le (by simp; omega)]; rfl
                 rw [if_neg (by rw [Bool.not_eq_true]; assumption), if_neg (by rw [Bool.not_eq_false]; assumption), e0, if_neg (by simp)]
                 first
                   | (rw [if_pos (by assumption)]; done)
                   | (rw [if_neg (by simp only [Int.not_lt, gt_iff_lt]; assumption)]; done)
                   | trace_state)
          · have r43 := h43
            (try simp only [dB2] at h43)
            refine at_skip ?_
            (try simp only [thenQ, blockQ])
            refine hK41 _ ?_
            (try clear hK41)
            refine at_seq fun K45 hK45 => ?_
            refine at_region [It.mk (some 6) none (IK.p (PK.mov (Operand.const (Value.int IntKind.i64 0))))] (by kernel_rfl) ?_
            simp (maxSteps:=999999) (disch:=omega) only [av1, av2, av3, av4, av5, av6, eq_self, exists_const, forall_const, implies_true, storeOk, thenQ, PK.cond, PK.val, Nat.reduceAdd, Nat.reduceLT, Nat.reduceMul, reduceCtorEq, ↓reduceIte, Nat.reduceEqDiff, Nat.reduceLeDiff, Nat.reduceSub, Nat.reduceBEq, Nat.reduceBNe, Int.reduceLT, Int.reduceEq, Int.reduceAdd, Int.reduceToNat, Int.reduceLE, Int.reduceBEq, Int.reduceBNe, enc1, cChan, cCSt, eqTy_Sum, eqTy_Ref, getD_map]
            (repeat ((with_reducible refine And.intro ?_ ?_); (first | trivial | assumption | omega | (simp; done))))
            refine hK45 _ ?_
            (try clear hK45)
            refine at_ret ?_
            simp (maxSteps:=999999) (disch:=omega) only [av1, av2, av3, av4, av5, av6, eq_self, exists_const, forall_const, implies_true, storeOk, thenQ, PK.cond, PK.val, Nat.reduceAdd, Nat.reduceLT, Nat.reduceMul, reduceCtorEq, ↓reduceIte, Nat.reduceEqDiff, Nat.reduceLeDiff, Nat.reduceSub, Nat.reduceBEq, Nat.reduceBNe, Int.reduceLT, Int.reduceEq, Int.reduceAdd, Int.reduceToNat, Int.reduceLE, Int.reduceBEq, Int.reduceBNe, enc1, cChan, cCSt, eqTy_Sum, eqTy_Ref, getD_map, blockQ, retQ, RetOk, ResOk, AV.fin, AV.fins, CV.le, CV.les]
            refine pv_int ?_
            unfold chkE
            first
              | (rw [if_pos (by assumption)]; done)
              | (rw [if_neg (by rw [Bool.not_eq_true]; assumption), if_pos (by assumption)]; done)
              | (have e := coin_bad hk (by simpa using (by omega : k < O.length)) (amount_at (by omega)) (by assumption)
                 rw [if_neg (by rw [Bool.not_eq_true]; assumption), if_neg (by rw [Bool.not_eq_false]; assumption), if_pos (by rw [e]; assumption), e]; done)
              | (have e0 : coinAdd 0 (O.map Out.amount) = (s, 0) := by rw [hk.eq, List.drop_eq_nil_of_le (by simp; omega)]; rfl
                 rw [if_neg (by rw [Bool.not_eq_true]; assumption), if_neg (by rw [Bool.not_eq_false]; assumption), e0, if_neg (by simp)]
                 first
                   | (rw [if_pos (by assumption)]; done)
                   | (rw [if_neg (by simp only [Int.not_lt, gt_iff_lt]; assumption)]; done)
                   | trace_state)
end Go.Proofs.Ytcghjnegaiiieaa
namespace Go.Proofs.Ytcghjnegaiiieaa
open Go.RowKit
theorem reps_le {w : World} {F : Nat → Prop} {ε : Nat → Value} : ∀ (xs ys : List CV) (vs : List Value), CV.les xs ys → AV.repVs w F ε (xs.map .c) vs → AV.repVs w F ε (ys.map .c) vs
  | [], [], _, _, h => h
  | x :: xs, y :: ys, vs, h, hr => by
    simp only [CV.les] at h
    simp only [List.map_cons, AV.repVs, AV.repV] at hr ⊢
    obtain ⟨v, us, e, ⟨cs, h1, h2⟩, h3⟩ := hr
    exact ⟨v, us, e, ⟨cs, CV.le_rep x y cs h.1 h1, by rw [← CV.le_agg h.1]; exact h2⟩, reps_le xs ys us h.2 h3⟩
  | [], _ :: _, _, h, _ => by simp [CV.les] at h
  | _ :: _, [], _, h, _ => by simp [CV.les] at h
theorem AP.le {P : Program} {f : FuncId} {xs ys rs : List CV} (h : AP P f ys rs) (hl : CV.les xs ys) : AP P f xs rs := ⟨h.1, fun w F vs hF hv => h.2 w F vs hF (reps_le xs ys vs hl hv)⟩
theorem sum_ap {t : Txx} (ht : OkTxx t) (hs : smallTx t = true) : AP Try.prog 58 [cTxx t] [cSum (sumF t)] :=
  txSum_ap t ht (by have l := bodyBy_len false ht.well hs; omega) (sumF_len t)
theorem ref_ap {t : Txx} (ht : OkTxx t) (hs : smallTx t = true) : AP Try.prog 57 [cTxx t] [cRef (sumF t) 0] :=
  commitRef_ap t ht (by have l := bodyBy_len false ht.well hs; omega) (sumF_len t)
end Go.Proofs.Ytcghjnegaiiieaa

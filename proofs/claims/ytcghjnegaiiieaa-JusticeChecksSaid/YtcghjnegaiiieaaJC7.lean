/- Part 7 of the texts that LawJusticeChecks needs, pruned and joined. -/
import Derived.Test.YtcghjnegaiiieaaRows
import Derived.Test.YtcghjnegaiiieaaJC6
set_option linter.unusedSimpArgs false
namespace Go.Proofs.Ytcghjnegaiiieaa
open Go.RowKit
set_option maxRecDepth 100000 in
set_option maxHeartbeats 4000000 in
theorem part15_ap : AP Try.prog 136 [ic .i64 90, ic .i64 100] [ic .i64 9] := by
  refine ap_of (fun _ _ => Try.call136 _ _) Try.func136 rfl Try.ntmps136 (by simp) (zs := [RZ.mk 4 none]) (by kernel_rfl) (fun w F => ?_)
  simp only [List.map_cons, List.map_nil, argT, Nat.reduceAdd]
  refine at_seq fun K1 hK1 => ?_
  refine at_region [It.mk (some 4) none (IK.p (PK.mov (Operand.const (Value.int IntKind.i64 0))))] (by kernel_rfl) ?_
  simp (maxSteps:=999999) (disch:=omega) only [av1, av2, av3, av4, av5, av6, eq_self, exists_const, forall_const, implies_true, storeOk, thenQ, PK.cond, PK.val, Nat.reduceAdd, Nat.reduceLT, Nat.reduceMul, reduceCtorEq, ↓reduceIte, Nat.reduceEqDiff, Nat.reduceLeDiff, Nat.reduceSub, Nat.reduceBEq, Nat.reduceBNe, Int.reduceLT, Int.reduceEq, Int.reduceAdd, Int.reduceToNat, Int.reduceLE, Int.reduceBEq, Int.reduceBNe, ic, coinRight]
  (repeat ((with_reducible refine And.intro ?_ ?_); (first | trivial | assumption | omega | (exact nf_imp _) | (exact fn_imp _) | (intro hq; exact ⟨hq, by omega⟩) | (simp; done) | (intro hq; simp [hq]; done) | (intro hq; refine ⟨hq, fun hq2 => ?_⟩; rw [hq, hq2]; rfl))))
  refine hK1 _ ?_
  (try clear hK1)
  refine at_seq fun K2 hK2 => ?_
  refine at_seq fun K3 hK3 => ?_
  refine at_region [It.mk (some 5) none (IK.p (PK.mov (Operand.tmp 0))), It.mk (some 6) none (IK.call 105 [Operand.tmp 5]), It.mk (some 7) none (IK.p (PK.not (Operand.tmp 6))), It.mk (some 8) none (IK.p (PK.mov (Operand.tmp 7))), It.mk (some 9) (some (8, false)) (IK.p (PK.mov (Operand.tmp 1))), It.mk (some 10) (some (8, false)) (IK.p (PK.bin BinOp.lss (Operand.tmp 9) (Operand.const (Value.int IntKind.i64 0)))), It.mk (some 11) none (IK.p (PK.pick (Operand.tmp 8) (Operand.const (Value.bool true)) (Operand.tmp 10)))] (by kernel_rfl) ?_
  refine apl_cut [_] _ (fun K4 hK4 => ?_)
  simp (maxSteps:=999999) (disch:=omega) only [av1, av2, av3, av4, av5, av6, eq_self, exists_const, forall_const, implies_true, storeOk, thenQ, PK.cond, PK.val, Nat.reduceAdd, Nat.reduceLT, Nat.reduceMul, reduceCtorEq, ↓reduceIte, Nat.reduceEqDiff, Nat.reduceLeDiff, Nat.reduceSub, Nat.reduceBEq, Nat.reduceBNe, Int.reduceLT, Int.reduceEq, Int.reduceAdd, Int.reduceToNat, Int.reduceLE, Int.reduceBEq, Int.reduceBNe, ic, coinRight]
  (repeat ((with_reducible refine And.intro ?_ ?_); (first | trivial | assumption | omega | (exact nf_imp _) | (exact fn_imp _) | (intro hq; exact ⟨hq, by omega⟩) | (simp; done) | (intro hq; simp [hq]; done) | (intro hq; refine ⟨hq, fun hq2 => ?_⟩; rw [hq, hq2]; rfl))))
  refine hK4 _ ?_
  (try clear hK4)
  refine apl_cut [_] _ (fun K5 hK5 => ?_)
  simp (maxSteps:=999999) (disch:=omega) only [av1, av2, av3, av4, av5, av6, eq_self, exists_const, forall_const, implies_true, storeOk, thenQ, PK.cond, PK.val, Nat.reduceAdd, Nat.reduceLT, Nat.reduceMul, reduceCtorEq, ↓reduceIte, Nat.reduceEqDiff, Nat.reduceLeDiff, Nat.reduceSub, Nat.reduceBEq, Nat.reduceBNe, Int.reduceLT, Int.reduceEq, Int.reduceAdd, Int.reduceToNat, Int.reduceLE, Int.reduceBEq, Int.reduceBNe, ic, coinRight]
  apply Or.inl
  first | refine ⟨[], trivial, ?_⟩ | refine ⟨_, (coinRight_ap _), ?_⟩ | refine ⟨_, fun _ => (coinRight_ap _), ?_⟩ | refine ⟨_, fun h => ⟨h, (coinRight_ap _)⟩, ?_⟩ | refine ⟨_, fun h => ⟨by simp_all, (coinRight_ap _)⟩, ?_⟩ | refine ⟨[], ?_⟩
  (try simp only [rsAV, List.map_cons, List.map_nil, thenQ])
  refine hK5 _ ?_
  (try clear hK5)
  simp (maxSteps:=999999) (disch:=omega) only [av1, av2, av3, av4, av5, av6, eq_self, exists_const, forall_const, implies_true, storeOk, thenQ, PK.cond, PK.val, Nat.reduceAdd, Nat.reduceLT, Nat.reduceMul, reduceCtorEq, ↓reduceIte, Nat.reduceEqDiff, Nat.reduceLeDiff, Nat.reduceSub, Nat.reduceBEq, Nat.reduceBNe, Int.reduceLT, Int.reduceEq, Int.reduceAdd, Int.reduceToNat, Int.reduceLE, Int.reduceBEq, Int.reduceBNe, ic, coinRight]
  (repeat ((with_reducible refine And.intro ?_ ?_); (first | trivial | assumption | omega | (exact nf_imp _) | (exact fn_imp _) | (intro hq; exact ⟨hq, by omega⟩) | (simp; done) | (intro hq; simp [hq]; done) | (intro hq; refine ⟨hq, fun hq2 => ?_⟩; rw [hq, hq2]; rfl))))
  refine hK3 _ ?_
  (try clear hK3)
  refine at_cond _ rfl rfl (fun h6 => ?_) (fun h6 => ?_)
  · have r6 := h6
    (try simp only [dB2] at h6)
    simp at h6
  · have r6 := h6
    (try simp only [dB2] at h6)
    refine at_skip ?_
    (try simp only [thenQ, blockQ])
    refine hK2 _ ?_
    (try clear hK2)
    refine at_seq fun K7 hK7 => ?_
    refine at_region [It.mk (some 12) none (IK.p (PK.mov (Operand.tmp 0))), It.mk (some 13) none (IK.p (PK.mov (Operand.tmp 1))), It.mk (some 14) none (IK.p (PK.mn (Operand.tmp 13) (Operand.const (Value.int IntKind.i64 1000)))), It.mk (some 15) none (IK.p (PK.bin BinOp.mul (Operand.tmp 12) (Operand.tmp 14))), It.mk (some 16) none (IK.p (PK.bin BinOp.quo (Operand.tmp 15) (Operand.const (Value.int IntKind.i64 1000)))), It.mk (some 4) none (IK.p (PK.mov (Operand.tmp 16)))] (by kernel_rfl) ?_
    simp (maxSteps:=999999) (disch:=omega) only [av1, av2, av3, av4, av5, av6, eq_self, exists_const, forall_const, implies_true, storeOk, thenQ, PK.cond, PK.val, Nat.reduceAdd, Nat.reduceLT, Nat.reduceMul, reduceCtorEq, ↓reduceIte, Nat.reduceEqDiff, Nat.reduceLeDiff, Nat.reduceSub, Nat.reduceBEq, Nat.reduceBNe, Int.reduceLT, Int.reduceEq, Int.reduceAdd, Int.reduceToNat, Int.reduceLE, Int.reduceBEq, Int.reduceBNe, ic, coinRight]
    (repeat ((with_reducible refine And.intro ?_ ?_); (first | trivial | assumption | omega | (exact nf_imp _) | (exact fn_imp _) | (intro hq; exact ⟨hq, by omega⟩) | (simp; done) | (intro hq; simp [hq]; done) | (intro hq; refine ⟨hq, fun hq2 => ?_⟩; rw [hq, hq2]; rfl))))
    refine hK7 _ ?_
    (try clear hK7)
    refine at_ret ?_
    simp (maxSteps:=999999) (disch:=omega) only [av1, av2, av3, av4, av5, av6, eq_self, exists_const, forall_const, implies_true, storeOk, thenQ, PK.cond, PK.val, Nat.reduceAdd, Nat.reduceLT, Nat.reduceMul, reduceCtorEq, ↓reduceIte, Nat.reduceEqDiff, Nat.reduceLeDiff, Nat.reduceSub, Nat.reduceBEq, Nat.reduceBNe, Int.reduceLT, Int.reduceEq, Int.reduceAdd, Int.reduceToNat, Int.reduceLE, Int.reduceBEq, Int.reduceBNe, ic, coinRight, blockQ, retQ, RetOk, ResOk, AV.fin, AV.fins, CV.le, CV.les]
    (first | rfl | trace_state)
set_option maxRecDepth 100000 in
set_option maxHeartbeats 4000000 in
theorem shares15_ap : AP Try.prog 109 [ic .i64 100, .st [ic .i64 100, ic .i64 10]] [ic .i64 81, ic .i64 9, ic .i64 10, ic .i64 0] := by
  refine ap_of (fun _ _ => Try.call109 _ _) Try.func109 rfl Try.ntmps109 (by simp) (zs := [RZ.mk 4 none, RZ.mk 5 none, RZ.mk 6 none, RZ.mk 7 none]) (by kernel_rfl) (fun w F => ?_)
  simp only [List.map_cons, List.map_nil, argT, Nat.reduceAdd]
  refine at_seq fun K1 hK1 => ?_
  refine at_region [It.mk (some 3) none (IK.box (Operand.tmp 1)), It.mk (some 4) none (IK.p (PK.mov (Operand.const (Value.int IntKind.i64 0)))), It.mk (some 5) none (IK.p (PK.mov (Operand.const (Value.int IntKind.i64 0)))), It.mk (some 6) none (IK.p (PK.mov (Operand.const (Value.int IntKind.i64 0)))), It.mk (some 7) none (IK.p (PK.mov (Operand.const (Value.int IntKind.i64 0))))] (by kernel_rfl) ?_
  simp (maxSteps:=999999) (disch:=omega) only [av1, av2, av3, av4, av5, av6, eq_self, exists_const, forall_const, implies_true, storeOk, thenQ, PK.cond, PK.val, Nat.reduceAdd, Nat.reduceLT, Nat.reduceMul, reduceCtorEq, ↓reduceIte, Nat.reduceEqDiff, Nat.reduceLeDiff, Nat.reduceSub, Nat.reduceBEq, Nat.reduceBNe, Int.reduceLT, Int.reduceEq, Int.reduceAdd, Int.reduceToNat, Int.reduceLE, Int.reduceBEq, Int.reduceBNe, ic, coinRight]
  (repeat ((with_reducible refine And.intro ?_ ?_); (first | trivial | assumption | omega | (exact nf_imp _) | (exact fn_imp _) | (intro hq; exact ⟨hq, by omega⟩) | (simp; done) | (intro hq; simp [hq]; done) | (intro hq; refine ⟨hq, fun hq2 => ?_⟩; rw [hq, hq2]; rfl))))
  refine hK1 _ ?_
  (try clear hK1)
  refine at_seq fun K2 hK2 => ?_
  refine at_seq fun K3 hK3 => ?_
  refine at_region [It.mk (some 8) none (IK.p (PK.mov (Operand.tmp 0))), It.mk (some 9) none (IK.call 105 [Operand.tmp 8]), It.mk (some 10) none (IK.p (PK.not (Operand.tmp 9))), It.mk (some 11) none (IK.p (PK.mov (Operand.tmp 10))), It.mk (some 12) (some (11, false)) (IK.p (PK.fAddr (Operand.tmp 3) 1 1)), It.mk (some 13) (some (11, false)) (IK.p (PK.load (Operand.tmp 12) 1 false)), It.mk (some 14) (some (11, false)) (IK.call 105 [Operand.tmp 13]), It.mk (some 15) (some (11, false)) (IK.p (PK.not (Operand.tmp 14))), It.mk (some 16) none (IK.p (PK.pick (Operand.tmp 11) (Operand.const (Value.bool true)) (Operand.tmp 15))), It.mk (some 17) none (IK.p (PK.mov (Operand.tmp 16))), It.mk (some 18) (some (17, false)) (IK.p (PK.fAddr (Operand.tmp 3) 0 0)), It.mk (some 19) (some (17, false)) (IK.p (PK.load (Operand.tmp 18) 1 false)), It.mk (some 20) (some (17, false)) (IK.p (PK.bin BinOp.lss (Operand.tmp 19) (Operand.const (Value.int IntKind.i64 0)))), It.mk (some 21) none (IK.p (PK.pick (Operand.tmp 17) (Operand.const (Value.bool true)) (Operand.tmp 20))), It.mk (some 22) none (IK.p (PK.mov (Operand.tmp 21))), It.mk (some 23) (some (22, false)) (IK.p (PK.fAddr (Operand.tmp 3) 0 0)), It.mk (some 24) (some (22, false)) (IK.p (PK.load (Operand.tmp 23) 1 false)), It.mk (some 25) (some (22, false)) (IK.p (PK.bin BinOp.gtr (Operand.tmp 24) (Operand.const (Value.int IntKind.i64 1000)))), It.mk (some 26) none (IK.p (PK.pick (Operand.tmp 22) (Operand.const (Value.bool true)) (Operand.tmp 25)))] (by kernel_rfl) ?_
  refine apl_cut [_] _ (fun K4 hK4 => ?_)
  simp (maxSteps:=999999) (disch:=omega) only [av1, av2, av3, av4, av5, av6, eq_self, exists_const, forall_const, implies_true, storeOk, thenQ, PK.cond, PK.val, Nat.reduceAdd, Nat.reduceLT, Nat.reduceMul, reduceCtorEq, ↓reduceIte, Nat.reduceEqDiff, Nat.reduceLeDiff, Nat.reduceSub, Nat.reduceBEq, Nat.reduceBNe, Int.reduceLT, Int.reduceEq, Int.reduceAdd, Int.reduceToNat, Int.reduceLE, Int.reduceBEq, Int.reduceBNe, ic, coinRight]
  (repeat ((with_reducible refine And.intro ?_ ?_); (first | trivial | assumption | omega | (exact nf_imp _) | (exact fn_imp _) | (intro hq; exact ⟨hq, by omega⟩) | (simp; done) | (intro hq; simp [hq]; done) | (intro hq; refine ⟨hq, fun hq2 => ?_⟩; rw [hq, hq2]; rfl))))
  refine hK4 _ ?_
  (try clear hK4)
  refine apl_cut [_] _ (fun K5 hK5 => ?_)
  simp (maxSteps:=999999) (disch:=omega) only [av1, av2, av3, av4, av5, av6, eq_self, exists_const, forall_const, implies_true, storeOk, thenQ, PK.cond, PK.val, Nat.reduceAdd, Nat.reduceLT, Nat.reduceMul, reduceCtorEq, ↓reduceIte, Nat.reduceEqDiff, Nat.reduceLeDiff, Nat.reduceSub, Nat.reduceBEq, Nat.reduceBNe, Int.reduceLT, Int.reduceEq, Int.reduceAdd, Int.reduceToNat, Int.reduceLE, Int.reduceBEq, Int.reduceBNe, ic, coinRight]
  apply Or.inl
  first | refine ⟨[], trivial, ?_⟩ | refine ⟨_, (coinRight_ap _), ?_⟩ | refine ⟨_, fun _ => (coinRight_ap _), ?_⟩ | refine ⟨_, fun h => ⟨h, (coinRight_ap _)⟩, ?_⟩ | refine ⟨_, fun h => ⟨by simp_all, (coinRight_ap _)⟩, ?_⟩ | refine ⟨[], ?_⟩
  (try simp only [rsAV, List.map_cons, List.map_nil, thenQ])
  refine hK5 _ ?_
  (try clear hK5)
  refine apl_cut [_, _, _, _] _ (fun K6 hK6 => ?_)
  simp (maxSteps:=999999) (disch:=omega) only [av1, av2, av3, av4, av5, av6, eq_self, exists_const, forall_const, implies_true, storeOk, thenQ, PK.cond, PK.val, Nat.reduceAdd, Nat.reduceLT, Nat.reduceMul, reduceCtorEq, ↓reduceIte, Nat.reduceEqDiff, Nat.reduceLeDiff, Nat.reduceSub, Nat.reduceBEq, Nat.reduceBNe, Int.reduceLT, Int.reduceEq, Int.reduceAdd, Int.reduceToNat, Int.reduceLE, Int.reduceBEq, Int.reduceBNe, ic, coinRight]
  (repeat ((with_reducible refine And.intro ?_ ?_); (first | trivial | assumption | omega | (exact nf_imp _) | (exact fn_imp _) | (intro hq; exact ⟨hq, by omega⟩) | (simp; done) | (intro hq; simp [hq]; done) | (intro hq; refine ⟨hq, fun hq2 => ?_⟩; rw [hq, hq2]; rfl))))
  refine hK6 _ ?_
  (try clear hK6)
  refine apl_cut [_] _ (fun K7 hK7 => ?_)
  simp (maxSteps:=999999) (disch:=omega) only [av1, av2, av3, av4, av5, av6, eq_self, exists_const, forall_const, implies_true, storeOk, thenQ, PK.cond, PK.val, Nat.reduceAdd, Nat.reduceLT, Nat.reduceMul, reduceCtorEq, ↓reduceIte, Nat.reduceEqDiff, Nat.reduceLeDiff, Nat.reduceSub, Nat.reduceBEq, Nat.reduceBNe, Int.reduceLT, Int.reduceEq, Int.reduceAdd, Int.reduceToNat, Int.reduceLE, Int.reduceBEq, Int.reduceBNe, ic, coinRight]
  apply Or.inl
  first | refine ⟨[], trivial, ?_⟩ | refine ⟨_, (coinRight_ap _), ?_⟩ | refine ⟨_, fun _ => (coinRight_ap _), ?_⟩ | refine ⟨_, fun h => ⟨h, (coinRight_ap _)⟩, ?_⟩ | refine ⟨_, fun h => ⟨by simp_all, (coinRight_ap _)⟩, ?_⟩ | refine ⟨[], ?_⟩
  (try simp only [rsAV, List.map_cons, List.map_nil, thenQ])
  refine hK7 _ ?_
  (try clear hK7)
  simp (maxSteps:=999999) (disch:=omega) only [av1, av2, av3, av4, av5, av6, eq_self, exists_const, forall_const, implies_true, storeOk, thenQ, PK.cond, PK.val, Nat.reduceAdd, Nat.reduceLT, Nat.reduceMul, reduceCtorEq, ↓reduceIte, Nat.reduceEqDiff, Nat.reduceLeDiff, Nat.reduceSub, Nat.reduceBEq, Nat.reduceBNe, Int.reduceLT, Int.reduceEq, Int.reduceAdd, Int.reduceToNat, Int.reduceLE, Int.reduceBEq, Int.reduceBNe, ic, coinRight]
  (repeat ((with_reducible refine And.intro ?_ ?_); (first | trivial | assumption | omega | (exact nf_imp _) | (exact fn_imp _) | (intro hq; exact ⟨hq, by omega⟩) | (simp; done) | (intro hq; simp [hq]; done) | (intro hq; refine ⟨hq, fun hq2 => ?_⟩; rw [hq, hq2]; rfl))))
  refine hK3 _ ?_
  (try clear hK3)
  refine at_cond _ rfl rfl (fun h8 => ?_) (fun h8 => ?_)
  · have r8 := h8
    (try simp only [dB2] at h8)
    simp at h8
  · have r8 := h8
    (try simp only [dB2] at h8)
    refine at_skip ?_
    (try simp only [thenQ, blockQ])
    refine hK2 _ ?_
    (try clear hK2)
    refine at_seq fun K9 hK9 => ?_
    refine at_region [It.mk (some 27) none (IK.p (PK.fAddr (Operand.tmp 3) 1 1)), It.mk (some 28) none (IK.p (PK.load (Operand.tmp 27) 1 false)), It.mk (some 29) none (IK.p (PK.mov (Operand.tmp 0))), It.mk (some 30) none (IK.p (PK.mn (Operand.tmp 28) (Operand.tmp 29))), It.mk (some 6) none (IK.p (PK.mov (Operand.tmp 30)))] (by kernel_rfl) ?_
    simp (maxSteps:=999999) (disch:=omega) only [av1, av2, av3, av4, av5, av6, eq_self, exists_const, forall_const, implies_true, storeOk, thenQ, PK.cond, PK.val, Nat.reduceAdd, Nat.reduceLT, Nat.reduceMul, reduceCtorEq, ↓reduceIte, Nat.reduceEqDiff, Nat.reduceLeDiff, Nat.reduceSub, Nat.reduceBEq, Nat.reduceBNe, Int.reduceLT, Int.reduceEq, Int.reduceAdd, Int.reduceToNat, Int.reduceLE, Int.reduceBEq, Int.reduceBNe, ic, coinRight]
    (repeat ((with_reducible refine And.intro ?_ ?_); (first | trivial | assumption | omega | (exact nf_imp _) | (exact fn_imp _) | (intro hq; exact ⟨hq, by omega⟩) | (simp; done) | (intro hq; simp [hq]; done) | (intro hq; refine ⟨hq, fun hq2 => ?_⟩; rw [hq, hq2]; rfl))))
    refine hK9 _ ?_
    (try clear hK9)
    refine at_seq fun K10 hK10 => ?_
    refine at_region [It.mk (some 31) none (IK.p (PK.mov (Operand.tmp 0))), It.mk (some 32) none (IK.p (PK.mov (Operand.tmp 6))), It.mk (some 33) none (IK.p (PK.bin BinOp.sub (Operand.tmp 31) (Operand.tmp 32))), It.mk (some 34) none (IK.p (PK.fAddr (Operand.tmp 3) 0 0)), It.mk (some 35) none (IK.p (PK.load (Operand.tmp 34) 1 false)), It.mk (some 36) none (IK.call 136 [Operand.tmp 33, Operand.tmp 35]), It.mk (some 5) none (IK.p (PK.mov (Operand.tmp 36)))] (by kernel_rfl) ?_
    refine apl_cut [_, _, _, _, _] _ (fun K11 hK11 => ?_)
    simp (maxSteps:=999999) (disch:=omega) only [av1, av2, av3, av4, av5, av6, eq_self, exists_const, forall_const, implies_true, storeOk, thenQ, PK.cond, PK.val, Nat.reduceAdd, Nat.reduceLT, Nat.reduceMul, reduceCtorEq, ↓reduceIte, Nat.reduceEqDiff, Nat.reduceLeDiff, Nat.reduceSub, Nat.reduceBEq, Nat.reduceBNe, Int.reduceLT, Int.reduceEq, Int.reduceAdd, Int.reduceToNat, Int.reduceLE, Int.reduceBEq, Int.reduceBNe, ic, coinRight]
    (repeat ((with_reducible refine And.intro ?_ ?_); (first | trivial | assumption | omega | (exact nf_imp _) | (exact fn_imp _) | (intro hq; exact ⟨hq, by omega⟩) | (simp; done) | (intro hq; simp [hq]; done) | (intro hq; refine ⟨hq, fun hq2 => ?_⟩; rw [hq, hq2]; rfl))))
    refine hK11 _ ?_
    (try clear hK11)
    refine apl_cut [_] _ (fun K12 hK12 => ?_)
    simp (maxSteps:=999999) (disch:=omega) only [av1, av2, av3, av4, av5, av6, eq_self, exists_const, forall_const, implies_true, storeOk, thenQ, PK.cond, PK.val, Nat.reduceAdd, Nat.reduceLT, Nat.reduceMul, reduceCtorEq, ↓reduceIte, Nat.reduceEqDiff, Nat.reduceLeDiff, Nat.reduceSub, Nat.reduceBEq, Nat.reduceBNe, Int.reduceLT, Int.reduceEq, Int.reduceAdd, Int.reduceToNat, Int.reduceLE, Int.reduceBEq, Int.reduceBNe, ic, coinRight]
    apply Or.inl
    first | refine ⟨[], trivial, ?_⟩ | refine ⟨_, (part15_ap), ?_⟩ | refine ⟨_, fun _ => (part15_ap), ?_⟩ | refine ⟨_, fun h => ⟨h, (part15_ap)⟩, ?_⟩ | refine ⟨_, fun h => ⟨by simp_all, (part15_ap)⟩, ?_⟩ | refine ⟨[], ?_⟩
    (try simp only [rsAV, List.map_cons, List.map_nil, thenQ])
    refine hK12 _ ?_
    (try clear hK12)
    simp (maxSteps:=999999) (disch:=omega) only [av1, av2, av3, av4, av5, av6, eq_self, exists_const, forall_const, implies_true, storeOk, thenQ, PK.cond, PK.val, Nat.reduceAdd, Nat.reduceLT, Nat.reduceMul, reduceCtorEq, ↓reduceIte, Nat.reduceEqDiff, Nat.reduceLeDiff, Nat.reduceSub, Nat.reduceBEq, Nat.reduceBNe, Int.reduceLT, Int.reduceEq, Int.reduceAdd, Int.reduceToNat, Int.reduceLE, Int.reduceBEq, Int.reduceBNe, ic, coinRight]
    (repeat ((with_reducible refine And.intro ?_ ?_); (first | trivial | assumption | omega | (exact nf_imp _) | (exact fn_imp _) | (intro hq; exact ⟨hq, by omega⟩) | (simp; done) | (intro hq; simp [hq]; done) | (intro hq; refine ⟨hq, fun hq2 => ?_⟩; rw [hq, hq2]; rfl))))
    refine hK10 _ ?_
    (try clear hK10)
    refine at_seq fun K13 hK13 => ?_
    refine at_region [It.mk (some 37) none (IK.p (PK.mov (Operand.tmp 0))), It.mk (some 38) none (IK.p (PK.mov (Operand.tmp 6))), It.mk (some 39) none (IK.p (PK.bin BinOp.sub (Operand.tmp 37) (Operand.tmp 38))), It.mk (some 40) none (IK.p (PK.mov (Operand.tmp 5))), It.mk (some 41) none (IK.p (PK.bin BinOp.sub (Operand.tmp 39) (Operand.tmp 40))), It.mk (some 42) none (IK.p (PK.mov (Operand.tmp 5))), It.mk (some 43) none (IK.p (PK.mov (Operand.tmp 6))), It.mk (some 4) none (IK.p (PK.mov (Operand.tmp 41))), It.mk (some 5) none (IK.p (PK.mov (Operand.tmp 42))), It.mk (some 6) none (IK.p (PK.mov (Operand.tmp 43))), It.mk (some 7) none (IK.p (PK.mov (Operand.const (Value.int IntKind.i64 0))))] (by kernel_rfl) ?_
    simp (maxSteps:=999999) (disch:=omega) only [av1, av2, av3, av4, av5, av6, eq_self, exists_const, forall_const, implies_true, storeOk, thenQ, PK.cond, PK.val, Nat.reduceAdd, Nat.reduceLT, Nat.reduceMul, reduceCtorEq, ↓reduceIte, Nat.reduceEqDiff, Nat.reduceLeDiff, Nat.reduceSub, Nat.reduceBEq, Nat.reduceBNe, Int.reduceLT, Int.reduceEq, Int.reduceAdd, Int.reduceToNat, Int.reduceLE, Int.reduceBEq, Int.reduceBNe, ic, coinRight]
    (repeat ((with_reducible refine And.intro ?_ ?_); (first | trivial | assumption | omega | (exact nf_imp _) | (exact fn_imp _) | (intro hq; exact ⟨hq, by omega⟩) | (simp; done) | (intro hq; simp [hq]; done) | (intro hq; refine ⟨hq, fun hq2 => ?_⟩; rw [hq, hq2]; rfl))))
    refine hK13 _ ?_
    (try clear hK13)
    refine at_ret ?_
    simp (maxSteps:=999999) (disch:=omega) only [av1, av2, av3, av4, av5, av6, eq_self, exists_const, forall_const, implies_true, storeOk, thenQ, PK.cond, PK.val, Nat.reduceAdd, Nat.reduceLT, Nat.reduceMul, reduceCtorEq, ↓reduceIte, Nat.reduceEqDiff, Nat.reduceLeDiff, Nat.reduceSub, Nat.reduceBEq, Nat.reduceBNe, Int.reduceLT, Int.reduceEq, Int.reduceAdd, Int.reduceToNat, Int.reduceLE, Int.reduceBEq, Int.reduceBNe, ic, coinRight, blockQ, retQ, RetOk, ResOk, AV.fin, AV.fins, CV.le, CV.les]
    (first | rfl | exact ⟨rfl, rfl, rfl, rfl⟩ | trace_state)
set_option maxRecDepth 100000 in
set_option maxHeartbeats 4000000 in
theorem key15_ap : AP Try.prog 110 [ic .i64 3] [ic .i64 103] := by
  refine ap_of (fun _ _ => Try.call110 _ _) Try.func110 rfl Try.ntmps110 (by simp) (zs := [RZ.mk 2 none]) (by kernel_rfl) (fun w F => ?_)
  simp only [List.map_cons, List.map_nil, argT, Nat.reduceAdd]
  refine at_seq fun K1 hK1 => ?_
  refine at_region [It.mk (some 2) none (IK.p (PK.mov (Operand.const (Value.int IntKind.i64 0))))] (by kernel_rfl) ?_
  simp (maxSteps:=999999) (disch:=omega) only [av1, av2, av3, av4, av5, av6, eq_self, exists_const, forall_const, implies_true, storeOk, thenQ, PK.cond, PK.val, Nat.reduceAdd, Nat.reduceLT, Nat.reduceMul, reduceCtorEq, ↓reduceIte, Nat.reduceEqDiff, Nat.reduceLeDiff, Nat.reduceSub, Nat.reduceBEq, Nat.reduceBNe, Int.reduceLT, Int.reduceEq, Int.reduceAdd, Int.reduceToNat, Int.reduceLE, Int.reduceBEq, Int.reduceBNe, ic]
  (repeat ((with_reducible refine And.intro ?_ ?_); (first | trivial | assumption | omega | (exact nf_imp _) | (exact fn_imp _) | (intro hq; exact ⟨hq, by omega⟩) | (simp; done) | (intro hq; simp [hq]; done) | (intro hq; refine ⟨hq, fun hq2 => ?_⟩; rw [hq, hq2]; rfl))))
  refine hK1 _ ?_
  (try clear hK1)
  refine at_seq fun K2 hK2 => ?_
  refine at_region [It.mk (some 3) none (IK.p (PK.mov (Operand.tmp 0))), It.mk (some 4) none (IK.p (PK.bin BinOp.add (Operand.const (Value.int IntKind.i64 100)) (Operand.tmp 3))), It.mk (some 2) none (IK.p (PK.mov (Operand.tmp 4)))] (by kernel_rfl) ?_
  simp (maxSteps:=999999) (disch:=omega) only [av1, av2, av3, av4, av5, av6, eq_self, exists_const, forall_const, implies_true, storeOk, thenQ, PK.cond, PK.val, Nat.reduceAdd, Nat.reduceLT, Nat.reduceMul, reduceCtorEq, ↓reduceIte, Nat.reduceEqDiff, Nat.reduceLeDiff, Nat.reduceSub, Nat.reduceBEq, Nat.reduceBNe, Int.reduceLT, Int.reduceEq, Int.reduceAdd, Int.reduceToNat, Int.reduceLE, Int.reduceBEq, Int.reduceBNe, ic]
  (repeat ((with_reducible refine And.intro ?_ ?_); (first | trivial | assumption | omega | (exact nf_imp _) | (exact fn_imp _) | (intro hq; exact ⟨hq, by omega⟩) | (simp; done) | (intro hq; simp [hq]; done) | (intro hq; refine ⟨hq, fun hq2 => ?_⟩; rw [hq, hq2]; rfl))))
  refine hK2 _ ?_
  (try clear hK2)
  refine at_ret ?_
  simp (maxSteps:=999999) (disch:=omega) only [av1, av2, av3, av4, av5, av6, eq_self, exists_const, forall_const, implies_true, storeOk, thenQ, PK.cond, PK.val, Nat.reduceAdd, Nat.reduceLT, Nat.reduceMul, reduceCtorEq, ↓reduceIte, Nat.reduceEqDiff, Nat.reduceLeDiff, Nat.reduceSub, Nat.reduceBEq, Nat.reduceBNe, Int.reduceLT, Int.reduceEq, Int.reduceAdd, Int.reduceToNat, Int.reduceLE, Int.reduceBEq, Int.reduceBNe, ic, blockQ, retQ, RetOk, ResOk, AV.fin, AV.fins, CV.le, CV.les]
  (first | rfl | trace_state)
set_option maxRecDepth 100000 in
set_option maxHeartbeats 4000000 in
theorem awake15_ap : AP Try.prog 67 [] [.pv (.bool true)] := by
  refine ap_of (fun _ _ => Try.call67 _ _) Try.func67 rfl Try.ntmps67 (by simp) (zs := [RZ.mk 0 none]) (by kernel_rfl) (fun w F => ?_)
  simp only [List.map_cons, List.map_nil, argT, Nat.reduceAdd]
  refine at_seq fun K1 hK1 => ?_
  refine at_region [It.mk (some 0) none (IK.p (PK.mov (Operand.const (Value.bool false))))] (by kernel_rfl) ?_
  simp (maxSteps:=999999) (disch:=omega) only [av1, av2, av3, av4, av5, av6, eq_self, exists_const, forall_const, implies_true, storeOk, thenQ, PK.cond, PK.val, Nat.reduceAdd, Nat.reduceLT, Nat.reduceMul, reduceCtorEq, ↓reduceIte, Nat.reduceEqDiff, Nat.reduceLeDiff, Nat.reduceSub, Nat.reduceBEq, Nat.reduceBNe, Int.reduceLT, Int.reduceEq, Int.reduceAdd, Int.reduceToNat, Int.reduceLE, Int.reduceBEq, Int.reduceBNe, ic]
  (repeat ((with_reducible refine And.intro ?_ ?_); (first | trivial | assumption | omega | (exact nf_imp _) | (exact fn_imp _) | (intro hq; exact ⟨hq, by omega⟩) | (simp; done) | (intro hq; simp [hq]; done) | (intro hq; refine ⟨hq, fun hq2 => ?_⟩; rw [hq, hq2]; rfl))))
  refine hK1 _ ?_
  (try clear hK1)
  refine at_seq fun K2 hK2 => ?_
  refine at_region [It.mk (some 6) none (IK.p (PK.bld (CV.st [CV.pv (Value.int IntKind.i64 0), CV.pv (Value.int IntKind.i64 0)]) [(0, 1), (1, 1)] [(0, Operand.const (Value.int IntKind.i64 100)), (1, Operand.const (Value.int IntKind.i64 10))])), It.mk (some 7) none (IK.call 109 [Operand.const (Value.int IntKind.i64 100), Operand.tmp 6]), It.mk (some 5) none (IK.p (PK.mov (Operand.tmp 7))), It.mk (some 8) none (IK.p (PK.ext (Operand.tmp 5) 0)), It.mk (some 9) none (IK.p (PK.ext (Operand.tmp 5) 1)), It.mk (some 10) none (IK.p (PK.ext (Operand.tmp 5) 2)), It.mk (some 11) none (IK.p (PK.ext (Operand.tmp 5) 3)), It.mk (some 1) none (IK.p (PK.mov (Operand.tmp 8))), It.mk (some 2) none (IK.p (PK.mov (Operand.tmp 9))), It.mk (some 3) none (IK.p (PK.mov (Operand.tmp 10))), It.mk (some 4) none (IK.p (PK.mov (Operand.tmp 11)))] (by kernel_rfl) ?_
  refine apl_cut [_] _ (fun K3 hK3 => ?_)
  simp (maxSteps:=999999) (disch:=omega) only [av1, av2, av3, av4, av5, av6, eq_self, exists_const, forall_const, implies_true, storeOk, thenQ, PK.cond, PK.val, Nat.reduceAdd, Nat.reduceLT, Nat.reduceMul, reduceCtorEq, ↓reduceIte, Nat.reduceEqDiff, Nat.reduceLeDiff, Nat.reduceSub, Nat.reduceBEq, Nat.reduceBNe, Int.reduceLT, Int.reduceEq, Int.reduceAdd, Int.reduceToNat, Int.reduceLE, Int.reduceBEq, Int.reduceBNe, ic]
  (repeat ((with_reducible refine And.intro ?_ ?_); (first | trivial | assumption | omega | (exact nf_imp _) | (exact fn_imp _) | (intro hq; exact ⟨hq, by omega⟩) | (simp; done) | (intro hq; simp [hq]; done) | (intro hq; refine ⟨hq, fun hq2 => ?_⟩; rw [hq, hq2]; rfl))))
  refine hK3 _ ?_
  (try clear hK3)
  refine apl_cut [_] _ (fun K4 hK4 => ?_)
  simp (maxSteps:=999999) (disch:=omega) only [av1, av2, av3, av4, av5, av6, eq_self, exists_const, forall_const, implies_true, storeOk, thenQ, PK.cond, PK.val, Nat.reduceAdd, Nat.reduceLT, Nat.reduceMul, reduceCtorEq, ↓reduceIte, Nat.reduceEqDiff, Nat.reduceLeDiff, Nat.reduceSub, Nat.reduceBEq, Nat.reduceBNe, Int.reduceLT, Int.reduceEq, Int.reduceAdd, Int.reduceToNat, Int.reduceLE, Int.reduceBEq, Int.reduceBNe, ic]
  apply Or.inl
  first | refine ⟨[], trivial, ?_⟩ | refine ⟨_, (shares15_ap), ?_⟩ | refine ⟨_, fun _ => (shares15_ap), ?_⟩ | refine ⟨_, fun h => ⟨h, (shares15_ap)⟩, ?_⟩ | refine ⟨_, fun h => ⟨by simp_all, (shares15_ap)⟩, ?_⟩ | refine ⟨[], ?_⟩
  (try simp only [rsAV, List.map_cons, List.map_nil, thenQ])
  refine hK4 _ ?_
  (try clear hK4)
  simp (maxSteps:=999999) (disch:=omega) only [av1, av2, av3, av4, av5, av6, eq_self, exists_const, forall_const, implies_true, storeOk, thenQ, PK.cond, PK.val, Nat.reduceAdd, Nat.reduceLT, Nat.reduceMul, reduceCtorEq, ↓reduceIte, Nat.reduceEqDiff, Nat.reduceLeDiff, Nat.reduceSub, Nat.reduceBEq, Nat.reduceBNe, Int.reduceLT, Int.reduceEq, Int.reduceAdd, Int.reduceToNat, Int.reduceLE, Int.reduceBEq, Int.reduceBNe, ic]
  (repeat ((with_reducible refine And.intro ?_ ?_); (first | trivial | assumption | omega | (exact nf_imp _) | (exact fn_imp _) | (intro hq; exact ⟨hq, by omega⟩) | (simp; done) | (intro hq; simp [hq]; done) | (intro hq; refine ⟨hq, fun hq2 => ?_⟩; rw [hq, hq2]; rfl))))
  refine hK2 _ ?_
  (try clear hK2)
  refine at_seq fun K5 hK5 => ?_
  refine at_region [It.mk (some 12) none (IK.p (PK.mov (Operand.tmp 1))), It.mk (some 13) none (IK.p (PK.bin BinOp.eql (Operand.tmp 12) (Operand.const (Value.int IntKind.i64 81)))), It.mk (some 14) none (IK.p (PK.mov (Operand.tmp 13))), It.mk (some 15) (some (14, true)) (IK.p (PK.mov (Operand.tmp 2))), It.mk (some 16) (some (14, true)) (IK.p (PK.bin BinOp.eql (Operand.tmp 15) (Operand.const (Value.int IntKind.i64 9)))), It.mk (some 17) none (IK.p (PK.pick (Operand.tmp 14) (Operand.tmp 16) (Operand.const (Value.bool false)))), It.mk (some 18) none (IK.p (PK.mov (Operand.tmp 17))), It.mk (some 19) (some (18, true)) (IK.p (PK.mov (Operand.tmp 3))), It.mk (some 20) (some (18, true)) (IK.p (PK.bin BinOp.eql (Operand.tmp 19) (Operand.const (Value.int IntKind.i64 10)))), It.mk (some 21) none (IK.p (PK.pick (Operand.tmp 18) (Operand.tmp 20) (Operand.const (Value.bool false)))), It.mk (some 22) none (IK.p (PK.mov (Operand.tmp 21))), It.mk (some 23) (some (22, true)) (IK.p (PK.mov (Operand.tmp 4))), It.mk (some 24) (some (22, true)) (IK.p (PK.bin BinOp.eql (Operand.tmp 23) (Operand.const (Value.int IntKind.i64 0)))), It.mk (some 25) none (IK.p (PK.pick (Operand.tmp 22) (Operand.tmp 24) (Operand.const (Value.bool false)))), It.mk (some 26) none (IK.p (PK.mov (Operand.tmp 25))), It.mk (some 27) (some (26, true)) (IK.call 110 [Operand.const (Value.int IntKind.i64 3)]), It.mk (some 28) (some (26, true)) (IK.p (PK.bin BinOp.eql (Operand.tmp 27) (Operand.const (Value.int IntKind.i64 103)))), It.mk (some 29) none (IK.p (PK.pick (Operand.tmp 26) (Operand.tmp 28) (Operand.const (Value.bool false)))), It.mk (some 30) none (IK.p (PK.mov (Operand.tmp 29))), It.mk (some 31) none (IK.p (PK.pick (Operand.tmp 30) (Operand.const (Value.bool true)) (Operand.const (Value.bool false)))), It.mk (some 0) none (IK.p (PK.mov (Operand.tmp 31)))] (by kernel_rfl) ?_
  refine apl_cut [_, _, _, _, _, _, _, _, _, _, _, _, _, _, _] _ (fun K6 hK6 => ?_)
  simp (maxSteps:=999999) (disch:=omega) only [av1, av2, av3, av4, av5, av6, eq_self, exists_const, forall_const, implies_true, storeOk, thenQ, PK.cond, PK.val, Nat.reduceAdd, Nat.reduceLT, Nat.reduceMul, reduceCtorEq, ↓reduceIte, Nat.reduceEqDiff, Nat.reduceLeDiff, Nat.reduceSub, Nat.reduceBEq, Nat.reduceBNe, Int.reduceLT, Int.reduceEq, Int.reduceAdd, Int.reduceToNat, Int.reduceLE, Int.reduceBEq, Int.reduceBNe, ic]
  (repeat ((with_reducible refine And.intro ?_ ?_); (first | trivial | assumption | omega | (exact nf_imp _) | (exact fn_imp _) | (intro hq; exact ⟨hq, by omega⟩) | (simp; done) | (intro hq; simp [hq]; done) | (intro hq; refine ⟨hq, fun hq2 => ?_⟩; rw [hq, hq2]; rfl))))
  refine hK6 _ ?_
  (try clear hK6)
  refine apl_cut [_] _ (fun K7 hK7 => ?_)
  simp (maxSteps:=999999) (disch:=omega) only [av1, av2, av3, av4, av5, av6, eq_self, exists_const, forall_const, implies_true, storeOk, thenQ, PK.cond, PK.val, Nat.reduceAdd, Nat.reduceLT, Nat.reduceMul, reduceCtorEq, ↓reduceIte, Nat.reduceEqDiff, Nat.reduceLeDiff, Nat.reduceSub, Nat.reduceBEq, Nat.reduceBNe, Int.reduceLT, Int.reduceEq, Int.reduceAdd, Int.reduceToNat, Int.reduceLE, Int.reduceBEq, Int.reduceBNe, ic]
  apply Or.inl
  first | refine ⟨[], trivial, ?_⟩ | refine ⟨_, (key15_ap), ?_⟩ | refine ⟨_, fun _ => (key15_ap), ?_⟩ | refine ⟨_, fun h => ⟨h, (key15_ap)⟩, ?_⟩ | refine ⟨_, fun h => ⟨by simp_all, (key15_ap)⟩, ?_⟩ | refine ⟨[], ?_⟩
  (try simp only [rsAV, List.map_cons, List.map_nil, thenQ])
  refine hK7 _ ?_
  (try clear hK7)
  simp (maxSteps:=999999) (disch:=omega) only [av1, av2, av3, av4, av5, av6, eq_self, exists_const, forall_const, implies_true, storeOk, thenQ, PK.cond, PK.val, Nat.reduceAdd, Nat.reduceLT, Nat.reduceMul, reduceCtorEq, ↓reduceIte, Nat.reduceEqDiff, Nat.reduceLeDiff, Nat.reduceSub, Nat.reduceBEq, Nat.reduceBNe, Int.reduceLT, Int.reduceEq, Int.reduceAdd, Int.reduceToNat, Int.reduceLE, Int.reduceBEq, Int.reduceBNe, ic]
  (repeat ((with_reducible refine And.intro ?_ ?_); (first | trivial | assumption | omega | (exact nf_imp _) | (exact fn_imp _) | (intro hq; exact ⟨hq, by omega⟩) | (simp; done) | (intro hq; simp [hq]; done) | (intro hq; refine ⟨hq, fun hq2 => ?_⟩; rw [hq, hq2]; rfl))))
  refine hK5 _ ?_
  (try clear hK5)
  refine at_ret ?_
  simp (maxSteps:=999999) (disch:=omega) only [av1, av2, av3, av4, av5, av6, eq_self, exists_const, forall_const, implies_true, storeOk, thenQ, PK.cond, PK.val, Nat.reduceAdd, Nat.reduceLT, Nat.reduceMul, reduceCtorEq, ↓reduceIte, Nat.reduceEqDiff, Nat.reduceLeDiff, Nat.reduceSub, Nat.reduceBEq, Nat.reduceBNe, Int.reduceLT, Int.reduceEq, Int.reduceAdd, Int.reduceToNat, Int.reduceLE, Int.reduceBEq, Int.reduceBNe, ic, blockQ, retQ, RetOk, ResOk, AV.fin, AV.fins, CV.le, CV.les]
  (first | rfl | trace_state)
noncomputable def checkV (c : Chan) (t j : Txx) : Int := if jBad c t j = true then 1 else match t.outs, j.ins with
  | o :: _, y :: _ => match o.ways with
    | _ :: q :: _ => chkE o.amount q y (sumF t) (keysOf (sumF j) j.sgns) (j.outs.map Out.amount)
    | _ => 1
  | _, _ => 1
structure JShape (c : Chan) (t j : Txx) : Prop where
  own : 0 ≤ ownerTx c t
  right : txB j = true
  kind : j.op.kind = 0
  ex : ∃ x a p q b y, t.ins = [x] ∧ t.outs = [⟨a, [p, q]⟩, b] ∧ q.keys.length = 1 ∧ j.ins = [y]
theorem jShape {c : Chan} {t j : Txx} (h : jBad c t j = false) : JShape c t j := by
  simp only [jBad, Bool.or_eq_false_iff, decide_eq_false_iff_not, Int.not_lt, Bool.not_eq_false', bne_eq_false_iff_eq] at h
  obtain ⟨⟨⟨h1, h2⟩, h3⟩, h4⟩ := h
  obtain ⟨x, a, p, q, b, e1, e2, _, e4⟩ := ownerTx_full h1
  obtain ⟨y, e5⟩ := len_one (show j.ins.length = 1 by omega)
  exact ⟨h1, h2, h4, x, a, p, q, b, y, e1, e2, e4, e5⟩
theorem small_sgns {t : Txx} (h : smallTx t = true) : t.sgns.length ≤ 1000000 ∧ t.outs.length ≤ 20 ∧ ∀ x ∈ t.ins, x.pre.length ≤ 100 := by
  simp only [smallTx, Bool.and_eq_true, decide_eq_true_eq, List.all_eq_true] at h
  exact ⟨by omega, h.1.1.1.1.2, h.1.2⟩
theorem keys_ap {t : Txx} (ht : OkTxx t) (hs : smallTx t = true) : AP Try.prog 70 [cTxx t] [ints .i64 (keysOf (sumF t) t.sgns)] :=
  txKeys_ap t ht (by have l := bodyBy_len false ht.well hs; omega) (sumF_len t) (small_sgns hs).1
theorem okKeysOf {t : Txx} (ht : OkTxx t) (hs : smallTx t = true) : SlOk (fun n => (Lit.int .i64 n).wf = true) (keysOf (sumF t) t.sgns) :=
  ⟨by have := keysOf_len (sumF t) t.sgns; have := (small_sgns hs).1; unfold maxLen; omega, fun x hx => by
    obtain ⟨y, hy, rfl⟩ := List.mem_map.1 hx
    exact (ht.sgns.all y (List.mem_filter.1 hy).1).key⟩
theorem opensJ_ap {q : Way} {y : Inp} {j : Txx} (hq : OkWay q) (hy : OkInp y) (hj : OkTxx j) (hs : smallTx j = true) (hl : y.pre.length ≤ 100) : AP Try.prog 20 [cWay q, cTr ⟨keysOf (sumF j) j.sgns, y.pre, 0, 0⟩] [.pv (.bool (opB q ⟨keysOf (sumF j) j.sgns, y.pre, 0, 0⟩))] :=
  opens_ap q _ hq ⟨okKeysOf hj hs, hy.pre, okZero, okZero⟩ (by show y.pre.length ≤ _; omega)
theorem check_ap (c : Chan) (t j : Txx) (ht : OkTxx t) (hj : OkTxx j) (st : smallTx t = true) (sj : smallTx j = true) : AP Try.prog 68 [cChan c, cTxx t, cTxx j] [ic .i64 (checkV c t j)] := by
  cases h : jBad c t j with
  | true => rw [show checkV c t j = 1 from if_pos h]; exact checkBad_ap c t j ht hj h
  | false =>
    have s := jShape h
    obtain ⟨x, a, p, q, b, y, e1, e2, e3, e4⟩ := s.ex
    obtain ⟨I, O1, o, g⟩ := t
    obtain ⟨I2, O, o2, g2⟩ := j
    dsimp only at e1 e2 e4
    subst e1 e2 e4
    have e : checkV c ⟨[x], [⟨a, [p, q]⟩, b], o, g⟩ ⟨[y], O, o2, g2⟩ = chkE a q y (sumF ⟨[x], [⟨a, [p, q]⟩, b], o, g⟩) (keysOf (sumF ⟨[y], O, o2, g2⟩) g2) (O.map Out.amount) := by
      unfold checkV
      rw [if_neg (by rw [h]; simp)]
    rw [e]
    exact checkFull_ap c x a p q b o g y O o2 g2 _ _ _ (by have := s.own; omega) s.kind (owner_ap c _ ht) (by have g := txRight_ap _ hj; rw [s.right] at g; exact g) (ref_ap ht st) (keys_ap hj sj)
      (opensJ_ap ((ht.outs.all ⟨a, [p, q]⟩ (by simp)).ways.all q (by simp)) (hj.ins.all y (by simp)) hj sj ((small_sgns sj).2.2 y (by simp))) (by have := (small_sgns sj).2.1; dsimp only at this; omega)
theorem checkV_full {c : Chan} {x : Inp} {a : Int} {p q : Way} {b : Out} {o : Opx} {g : List Sgn} {y : Inp} {O : List Out} {o2 : Opx} {g2 : List Sgn} (h : jBad c ⟨[x], [⟨a, [p, q]⟩, b], o, g⟩ ⟨[y], O, o2, g2⟩ = false) : checkV c ⟨[x], [⟨a, [p, q]⟩, b], o, g⟩ ⟨[y], O, o2, g2⟩ = chkE a q y (sumF ⟨[x], [⟨a, [p, q]⟩, b], o, g⟩) (keysOf (sumF ⟨[y], O, o2, g2⟩) g2) (O.map Out.amount) := by
  unfold checkV
  rw [if_neg (by rw [h]; simp)]
theorem amounts_next {O : List Out} {k : Nat} (hk : k < O.length) : ((O.map Out.amount).take (k + 1)).map (ic .i64) = ((O.map Out.amount).take k).map (ic .i64) ++ [.pv (.int .i64 (O.getD k default).amount)] := by
  rw [List.take_succ_eq_append_getElem (by simpa using hk), List.map_append]
  simp [hk, ic]
end Go.Proofs.Ytcghjnegaiiieaa
namespace Go.Proofs.Ytcghjnegaiiieaa
open Go.RowKit
set_option maxRecDepth 100000 in
set_option maxRecDepth 100000 in
set_option maxHeartbeats 4000000 in
theorem justiceChecks_ap (c : Chan) (t j : Txx) (ht : OkTxx t) (hj : OkTxx j) : AP Try.prog 11 [cChan c, cTxx t, cTxx j] [.pv (.bool true)] := by
  refine ap_of (fun _ _ => Try.call11 _ _) Try.func11 rfl Try.ntmps11 (by simp) (zs := [RZ.mk 6 none]) (by kernel_rfl) (fun w F => ?_)
  simp only [List.map_cons, List.map_nil, argT, Nat.reduceAdd]
  refine at_seq fun K1 hK1 => ?_
  refine at_region [It.mk (some 3) none (IK.box (Operand.tmp 0)), It.mk (some 4) none (IK.box (Operand.tmp 1)), It.mk (some 5) none (IK.box (Operand.tmp 2)), It.mk (some 6) none (IK.p (PK.mov (Operand.const (Value.bool false))))] (by kernel_rfl) ?_
  simp (maxSteps:=999999) (disch:=omega) only [av1, av2, av3, av4, av5, av6, eq_self, exists_const, forall_const, implies_true, storeOk, thenQ, PK.cond, PK.val, Nat.reduceAdd, Nat.reduceLT, Nat.reduceMul, reduceCtorEq, ↓reduceIte, Nat.reduceEqDiff, Nat.reduceLeDiff, Nat.reduceSub, Nat.reduceBEq, Nat.reduceBNe, Int.reduceLT, Int.reduceEq, Int.reduceAdd, Int.reduceToNat, Int.reduceLE, Int.reduceBEq, Int.reduceBNe, enc1, cChan, cCSt, eqTy_Sum, eqTy_Ref, getD_map]
  (repeat ((with_reducible refine And.intro ?_ ?_); (first | trivial | assumption | omega | (simp; done))))
  refine hK1 _ ?_
  (try clear hK1)
  refine at_seq fun K2 hK2 => ?_
  refine at_seq fun K3 hK3 => ?_
  refine at_region [It.mk (some 13) none (IK.p (PK.load (Operand.tmp 4) 40 true)), It.mk (some 14) none (IK.call 59 [Operand.tmp 13]), It.mk (some 15) none (IK.p (PK.bin BinOp.neq (Operand.tmp 14) (Operand.const (Value.int IntKind.i64 0)))), It.mk (some 16) none (IK.p (PK.mov (Operand.tmp 15))), It.mk (some 17) (some (16, false)) (IK.p (PK.load (Operand.tmp 5) 40 true)), It.mk (some 18) (some (16, false)) (IK.call 59 [Operand.tmp 17]), It.mk (some 19) (some (16, false)) (IK.p (PK.bin BinOp.neq (Operand.tmp 18) (Operand.const (Value.int IntKind.i64 0)))), It.mk (some 20) none (IK.p (PK.pick (Operand.tmp 16) (Operand.const (Value.bool true)) (Operand.tmp 19))), It.mk (some 21) none (IK.p (PK.mov (Operand.tmp 20))), It.mk (some 22) (some (21, false)) (IK.p (PK.fAddr (Operand.tmp 3) 1 1)), It.mk (some 23) (some (21, false)) (IK.p (PK.load (Operand.tmp 22) 1 false)), It.mk (some 24) (some (21, false)) (IK.p (PK.bin BinOp.gtr (Operand.tmp 23) (Operand.const (Value.int IntKind.i64 255)))), It.mk (some 25) none (IK.p (PK.pick (Operand.tmp 21) (Operand.const (Value.bool true)) (Operand.tmp 24))), It.mk (some 26) none (IK.p (PK.mov (Operand.tmp 25))), It.mk (some 27) (some (26, false)) (IK.p (PK.fAddr (Operand.tmp 3) 1 1)), It.mk (some 28) (some (26, false)) (IK.p (PK.load (Operand.tmp 27) 1 false)), It.mk (some 29) (some (26, false)) (IK.p (PK.bin BinOp.lss (Operand.tmp 28) (Operand.const (Value.int IntKind.i64 0)))), It.mk (some 30) none (IK.p (PK.pick (Operand.tmp 26) (Operand.const (Value.bool true)) (Operand.tmp 29))), It.mk (some 31) none (IK.p (PK.mov (Operand.tmp 30))), It.mk (some 32) (some (31, false)) (IK.p (PK.fAddr (Operand.tmp 3) 2 2)), It.mk (some 33) (some (31, false)) (IK.p (PK.load (Operand.tmp 32) 1 false)), It.mk (some 34) (some (31, false)) (IK.p (PK.bin BinOp.gtr (Operand.tmp 33) (Operand.const (Value.int IntKind.i64 255)))), It.mk (some 35) none (IK.p (PK.pick (Operand.tmp 31) (Operand.const (Value.bool true)) (Operand.tmp 34))), It.mk (some 36) none (IK.p (PK.mov (Operand.tmp 35))), It.mk (some 37) (some (36, false)) (IK.p (PK.fAddr (Operand.tmp 3) 2 2)), It.mk (some 38) (some (36, false)) (IK.p (PK.load (Operand.tmp 37) 1 false)), It.mk (some 39) (some (36, false)) (IK.p (PK.bin BinOp.lss (Operand.tmp 38) (Operand.const (Value.int IntKind.i64 0)))), It.mk (some 40) none (IK.p (PK.pick (Operand.tmp 36) (Operand.const (Value.bool true)) (Operand.tmp 39)))] (by kernel_rfl) ?_
  refine apl_cut [_] _ (fun K4 hK4 => ?_)
  simp (maxSteps:=999999) (disch:=omega) only [av1, av2, av3, av4, av5, av6, eq_self, exists_const, forall_const, implies_true, storeOk, thenQ, PK.cond, PK.val, Nat.reduceAdd, Nat.reduceLT, Nat.reduceMul, reduceCtorEq, ↓reduceIte, Nat.reduceEqDiff, Nat.reduceLeDiff, Nat.reduceSub, Nat.reduceBEq, Nat.reduceBNe, Int.reduceLT, Int.reduceEq, Int.reduceAdd, Int.reduceToNat, Int.reduceLE, Int.reduceBEq, Int.reduceBNe, enc1, cChan, cCSt, eqTy_Sum, eqTy_Ref, getD_map]
  (repeat ((with_reducible refine And.intro ?_ ?_); (first | trivial | assumption | omega | (simp; done))))
  refine hK4 _ ?_
  (try clear hK4)
  refine apl_cut [_] _ (fun K5 hK5 => ?_)
  simp (maxSteps:=999999) (disch:=omega) only [av1, av2, av3, av4, av5, av6, eq_self, exists_const, forall_const, implies_true, storeOk, thenQ, PK.cond, PK.val, Nat.reduceAdd, Nat.reduceLT, Nat.reduceMul, reduceCtorEq, ↓reduceIte, Nat.reduceEqDiff, Nat.reduceLeDiff, Nat.reduceSub, Nat.reduceBEq, Nat.reduceBNe, Int.reduceLT, Int.reduceEq, Int.reduceAdd, Int.reduceToNat, Int.reduceLE, Int.reduceBEq, Int.reduceBNe, enc1, cChan, cCSt, eqTy_Sum, eqTy_Ref, getD_map]
  apply Or.inl
  first | refine ⟨[], trivial, ?_⟩ | refine ⟨_, (smallTx_ap t ht), ?_⟩ | refine ⟨_, fun _ => (smallTx_ap t ht), ?_⟩ | refine ⟨_, fun h => ⟨h, (smallTx_ap t ht)⟩, ?_⟩ | refine ⟨_, fun h => ⟨by simp_all, (smallTx_ap t ht)⟩, ?_⟩ | refine ⟨[], ?_⟩
  (try simp only [rsAV, List.map_cons, List.map_nil, thenQ])
  refine hK5 _ ?_
  (try clear hK5)
  refine apl_cut [_, _, _] _ (fun K6 hK6 => ?_)
  simp (maxSteps:=999999) (disch:=omega) only [av1, av2, av3, av4, av5, av6, eq_self, exists_const, forall_const, implies_true, storeOk, thenQ, PK.cond, PK.val, Nat.reduceAdd, Nat.reduceLT, Nat.reduceMul, reduceCtorEq, ↓reduceIte, Nat.reduceEqDiff, Nat.reduceLeDiff, Nat.reduceSub, Nat.reduceBEq, Nat.reduceBNe, Int.reduceLT, Int.reduceEq, Int.reduceAdd, Int.reduceToNat, Int.reduceLE, Int.reduceBEq, Int.reduceBNe, enc1, cChan, cCSt, eqTy_Sum, eqTy_Ref, getD_map]
  (repeat ((with_reducible refine And.intro ?_ ?_); (first | trivial | assumption | omega | (simp; done))))
  refine hK6 _ ?_
  (try clear hK6)
  refine apl_cut [_] _ (fun K7 hK7 => ?_)
  simp (maxSteps:=999999) (disch:=omega) only [av1, av2, av3, av4, av5, av6, eq_self, exists_const, forall_const, implies_true, storeOk, thenQ, PK.cond, PK.val, Nat.reduceAdd, Nat.reduceLT, Nat.reduceMul, reduceCtorEq, ↓reduceIte, Nat.reduceEqDiff, Nat.reduceLeDiff, Nat.reduceSub, Nat.reduceBEq, Nat.reduceBNe, Int.reduceLT, Int.reduceEq, Int.reduceAdd, Int.reduceToNat, Int.reduceLE, Int.reduceBEq, Int.reduceBNe, enc1, cChan, cCSt, eqTy_Sum, eqTy_Ref, getD_map]
  apply Or.inl
  first | refine ⟨[], trivial, ?_⟩ | refine ⟨_, (smallTx_ap j hj), ?_⟩ | refine ⟨_, fun _ => (smallTx_ap j hj), ?_⟩ | refine ⟨_, fun h => ⟨h, (smallTx_ap j hj)⟩, ?_⟩ | refine ⟨_, fun h => ⟨by simp_all, (smallTx_ap j hj)⟩, ?_⟩ | refine ⟨[], ?_⟩
  (try simp only [rsAV, List.map_cons, List.map_nil, thenQ])
  refine hK7 _ ?_
  (try clear hK7)
  simp (maxSteps:=999999) (disch:=omega) only [av1, av2, av3, av4, av5, av6, eq_self, exists_const, forall_const, implies_true, storeOk, thenQ, PK.cond, PK.val, Nat.reduceAdd, Nat.reduceLT, Nat.reduceMul, reduceCtorEq, ↓reduceIte, Nat.reduceEqDiff, Nat.reduceLeDiff, Nat.reduceSub, Nat.reduceBEq, Nat.reduceBNe, Int.reduceLT, Int.reduceEq, Int.reduceAdd, Int.reduceToNat, Int.reduceLE, Int.reduceBEq, Int.reduceBNe, enc1, cChan, cCSt, eqTy_Sum, eqTy_Ref, getD_map]
  (repeat ((with_reducible refine And.intro ?_ ?_); (first | trivial | assumption | omega | (simp; done))))
  refine hK3 _ ?_
  (try clear hK3)
  refine at_cond _ rfl rfl (fun h8 => ?_) (fun h8 => ?_)
  · have r8 := h8
    (try simp only [dB2] at h8)
    refine at_seq fun K9 hK9 => ?_
    refine at_region [It.mk (some 41) none (IK.call 67 []), It.mk (some 6) none (IK.p (PK.mov (Operand.tmp 41)))] (by kernel_rfl) ?_
    refine apl_cut [_] _ (fun K10 hK10 => ?_)
    simp (maxSteps:=999999) (disch:=omega) only [av1, av2, av3, av4, av5, av6, eq_self, exists_const, forall_const, implies_true, storeOk, thenQ, PK.cond, PK.val, Nat.reduceAdd, Nat.reduceLT, Nat.reduceMul, reduceCtorEq, ↓reduceIte, Nat.reduceEqDiff, Nat.reduceLeDiff, Nat.reduceSub, Nat.reduceBEq, Nat.reduceBNe, Int.reduceLT, Int.reduceEq, Int.reduceAdd, Int.reduceToNat, Int.reduceLE, Int.reduceBEq, Int.reduceBNe, enc1, cChan, cCSt, eqTy_Sum, eqTy_Ref, getD_map]
    apply Or.inl
    first | refine ⟨[], trivial, ?_⟩ | refine ⟨_, (awake15_ap), ?_⟩ | refine ⟨_, fun _ => (awake15_ap), ?_⟩ | refine ⟨_, fun h => ⟨h, (awake15_ap)⟩, ?_⟩ | refine ⟨_, fun h => ⟨by simp_all, (awake15_ap)⟩, ?_⟩ | refine ⟨[], ?_⟩
    (try simp only [rsAV, List.map_cons, List.map_nil, thenQ])
    refine hK10 _ ?_
    (try clear hK10)
    simp (maxSteps:=999999) (disch:=omega) only [av1, av2, av3, av4, av5, av6, eq_self, exists_const, forall_const, implies_true, storeOk, thenQ, PK.cond, PK.val, Nat.reduceAdd, Nat.reduceLT, Nat.reduceMul, reduceCtorEq, ↓reduceIte, Nat.reduceEqDiff, Nat.reduceLeDiff, Nat.reduceSub, Nat.reduceBEq, Nat.reduceBNe, Int.reduceLT, Int.reduceEq, Int.reduceAdd, Int.reduceToNat, Int.reduceLE, Int.reduceBEq, Int.reduceBNe, enc1, cChan, cCSt, eqTy_Sum, eqTy_Ref, getD_map]
    (repeat ((with_reducible refine And.intro ?_ ?_); (first | trivial | assumption | omega | (simp; done))))
    refine hK9 _ ?_
    (try clear hK9)
    refine at_ret ?_
    simp (maxSteps:=999999) (disch:=omega) only [av1, av2, av3, av4, av5, av6, eq_self, exists_const, forall_const, implies_true, storeOk, thenQ, PK.cond, PK.val, Nat.reduceAdd, Nat.reduceLT, Nat.reduceMul, reduceCtorEq, ↓reduceIte, Nat.reduceEqDiff, Nat.reduceLeDiff, Nat.reduceSub, Nat.reduceBEq, Nat.reduceBNe, Int.reduceLT, Int.reduceEq, Int.reduceAdd, Int.reduceToNat, Int.reduceLE, Int.reduceBEq, Int.reduceBNe, enc1, cChan, cCSt, eqTy_Sum, eqTy_Ref, getD_map, blockQ, retQ, RetOk, ResOk, AV.fin, AV.fins, CV.le, CV.les]
    all_goals refine pv_bool ?_
    all_goals first
      | rfl
      | (rw [show checkV c t j = 1 from if_pos (show jBad c t j = true by unfold jBad; assumption)]; rfl)
      | (rw [hcv]; unfold chkE; rw [if_pos (by assumption)]; rfl)
      | (rw [hcv]; unfold chkE; rw [if_neg (by rw [Bool.not_eq_true]; assumption), if_pos (by assumption)]; rfl)
      | (rw [hcv]; unfold chkE; rw [if_neg (by rw [Bool.not_eq_true]; assumption), if_neg (by rw [Bool.not_eq_false]; assumption), if_pos (by assumption)]; exact beq_self_eq_true _)
      | (rw [hcv]; unfold chkE; rw [if_neg (by rw [Bool.not_eq_true]; assumption), if_neg (by rw [Bool.not_eq_false]; assumption), if_neg (by rw [ne_eq, Decidable.not_not]; assumption), if_pos (by assumption)]; rfl)
      | (rw [hcv]; unfold chkE; rw [if_neg (by rw [Bool.not_eq_true]; assumption), if_neg (by rw [Bool.not_eq_false]; assumption), if_neg (by rw [ne_eq, Decidable.not_not]; assumption), if_neg (by simp only [Int.not_lt, gt_iff_lt]; assumption)]; rfl)
      | trace_state
  · have r8 := h8
    (try simp only [dB2] at h8)
    have hsm : smallTx t = true ∧ smallTx j = true := (by simp at h8; exact ⟨h8.1.1.1.1.1, h8.1.1.1.1.2⟩)
    refine at_skip ?_
    (try simp only [thenQ, blockQ])
    refine hK2 _ ?_
    (try clear hK2)
    refine at_seq fun K11 hK11 => ?_
    refine at_region [It.mk (some 42) none (IK.p (PK.load (Operand.tmp 3) 39 true)), It.mk (some 43) none (IK.p (PK.load (Operand.tmp 4) 40 true)), It.mk (some 44) none (IK.p (PK.load (Operand.tmp 5) 40 true)), It.mk (some 45) none (IK.call 68 [Operand.tmp 42, Operand.tmp 43, Operand.tmp 44]), It.mk (some 7) none (IK.p (PK.mov (Operand.tmp 45)))] (by kernel_rfl) ?_
    refine apl_cut [_, _, _] _ (fun K12 hK12 => ?_)
    simp (maxSteps:=999999) (disch:=omega) only [av1, av2, av3, av4, av5, av6, eq_self, exists_const, forall_const, implies_true, storeOk, thenQ, PK.cond, PK.val, Nat.reduceAdd, Nat.reduceLT, Nat.reduceMul, reduceCtorEq, ↓reduceIte, Nat.reduceEqDiff, Nat.reduceLeDiff, Nat.reduceSub, Nat.reduceBEq, Nat.reduceBNe, Int.reduceLT, Int.reduceEq, Int.reduceAdd, Int.reduceToNat, Int.reduceLE, Int.reduceBEq, Int.reduceBNe, enc1, cChan, cCSt, eqTy_Sum, eqTy_Ref, getD_map]
    (repeat ((with_reducible refine And.intro ?_ ?_); (first | trivial | assumption | omega | (simp; done))))
    refine hK12 _ ?_
    (try clear hK12)
    refine apl_cut [_] _ (fun K13 hK13 => ?_)
    simp (maxSteps:=999999) (disch:=omega) only [av1, av2, av3, av4, av5, av6, eq_self, exists_const, forall_const, implies_true, storeOk, thenQ, PK.cond, PK.val, Nat.reduceAdd, Nat.reduceLT, Nat.reduceMul, reduceCtorEq, ↓reduceIte, Nat.reduceEqDiff, Nat.reduceLeDiff, Nat.reduceSub, Nat.reduceBEq, Nat.reduceBNe, Int.reduceLT, Int.reduceEq, Int.reduceAdd, Int.reduceToNat, Int.reduceLE, Int.reduceBEq, Int.reduceBNe, enc1, cChan, cCSt, eqTy_Sum, eqTy_Ref, getD_map]
    apply Or.inl
    first | refine ⟨[], trivial, ?_⟩ | refine ⟨_, (check_ap c t j ht hj hsm.1 hsm.2), ?_⟩ | refine ⟨_, fun _ => (check_ap c t j ht hj hsm.1 hsm.2), ?_⟩ | refine ⟨_, fun h => ⟨h, (check_ap c t j ht hj hsm.1 hsm.2)⟩, ?_⟩ | refine ⟨_, fun h => ⟨by simp_all, (check_ap c t j ht hj hsm.1 hsm.2)⟩, ?_⟩ | refine ⟨[], ?_⟩
    (try simp only [rsAV, List.map_cons, List.map_nil, thenQ])
    refine hK13 _ ?_
    (try clear hK13)
    simp (maxSteps:=999999) (disch:=omega) only [av1, av2, av3, av4, av5, av6, eq_self, exists_const, forall_const, implies_true, storeOk, thenQ, PK.cond, PK.val, Nat.reduceAdd, Nat.reduceLT, Nat.reduceMul, reduceCtorEq, ↓reduceIte, Nat.reduceEqDiff, Nat.reduceLeDiff, Nat.reduceSub, Nat.reduceBEq, Nat.reduceBNe, Int.reduceLT, Int.reduceEq, Int.reduceAdd, Int.reduceToNat, Int.reduceLE, Int.reduceBEq, Int.reduceBNe, enc1, cChan, cCSt, eqTy_Sum, eqTy_Ref, getD_map]
    (repeat ((with_reducible refine And.intro ?_ ?_); (first | trivial | assumption | omega | (simp; done))))
    refine hK11 _ ?_
    (try clear hK11)
    refine at_seq fun K14 hK14 => ?_
    refine at_seq fun K15 hK15 => ?_
    refine at_region [It.mk (some 46) none (IK.p (PK.load (Operand.tmp 3) 39 true)), It.mk (some 47) none (IK.p (PK.load (Operand.tmp 4) 40 true)), It.mk (some 48) none (IK.call 56 [Operand.tmp 46, Operand.tmp 47]), It.mk (some 49) none (IK.p (PK.bin BinOp.lss (Operand.tmp 48) (Operand.const (Value.int IntKind.i64 0)))), It.mk (some 50) none (IK.p (PK.mov (Operand.tmp 49))), It.mk (some 51) (some (50, false)) (IK.p (PK.load (Operand.tmp 5) 40 true)), It.mk (some 52) (some (50, false)) (IK.call 69 [Operand.tmp 51]), It.mk (some 53) (some (50, false)) (IK.p (PK.not (Operand.tmp 52))), It.mk (some 54) none (IK.p (PK.pick (Operand.tmp 50) (Operand.const (Value.bool true)) (Operand.tmp 53))), It.mk (some 55) none (IK.p (PK.mov (Operand.tmp 54))), It.mk (some 56) (some (55, false)) (IK.p (PK.fAddr (Operand.tmp 5) 0 0)), It.mk (some 57) (some (55, false)) (IK.p (PK.load (Operand.tmp 56) 1 false)), It.mk (some 58) (some (55, false)) (IK.p (PK.len false (Operand.tmp 57))), It.mk (some 59) (some (55, false)) (IK.p (PK.bin BinOp.neq (Operand.tmp 58) (Operand.const (Value.int IntKind.i64 1)))), It.mk (some 60) none (IK.p (PK.pick (Operand.tmp 55) (Operand.const (Value.bool true)) (Operand.tmp 59))), It.mk (some 61) none (IK.p (PK.mov (Operand.tmp 60))), It.mk (some 62) (some (61, false)) (IK.p (PK.fAddr (Operand.tmp 5) 2 2)), It.mk (some 63) (some (61, false)) (IK.p (PK.fAddr (Operand.tmp 62) 0 0)), It.mk (some 64) (some (61, false)) (IK.p (PK.load (Operand.tmp 63) 1 false)), It.mk (some 65) (some (61, false)) (IK.p (PK.bin BinOp.neq (Operand.tmp 64) (Operand.const (Value.int IntKind.i64 0)))), It.mk (some 66) none (IK.p (PK.pick (Operand.tmp 61) (Operand.const (Value.bool true)) (Operand.tmp 65)))] (by kernel_rfl) ?_
    refine apl_cut [_, _] _ (fun K16 hK16 => ?_)
    simp (maxSteps:=999999) (disch:=omega) only [av1, av2, av3, av4, av5, av6, eq_self, exists_const, forall_const, implies_true, storeOk, thenQ, PK.cond, PK.val, Nat.reduceAdd, Nat.reduceLT, Nat.reduceMul, reduceCtorEq, ↓reduceIte, Nat.reduceEqDiff, Nat.reduceLeDiff, Nat.reduceSub, Nat.reduceBEq, Nat.reduceBNe, Int.reduceLT, Int.reduceEq, Int.reduceAdd, Int.reduceToNat, Int.reduceLE, Int.reduceBEq, Int.reduceBNe, enc1, cChan, cCSt, eqTy_Sum, eqTy_Ref, getD_map]
    (repeat ((with_reducible refine And.intro ?_ ?_); (first | trivial | assumption | omega | (simp; done))))
    refine hK16 _ ?_
    (try clear hK16)
    refine apl_cut [_] _ (fun K17 hK17 => ?_)
    simp (maxSteps:=999999) (disch:=omega) only [av1, av2, av3, av4, av5, av6, eq_self, exists_const, forall_const, implies_true, storeOk, thenQ, PK.cond, PK.val, Nat.reduceAdd, Nat.reduceLT, Nat.reduceMul, reduceCtorEq, ↓reduceIte, Nat.reduceEqDiff, Nat.reduceLeDiff, Nat.reduceSub, Nat.reduceBEq, Nat.reduceBNe, Int.reduceLT, Int.reduceEq, Int.reduceAdd, Int.reduceToNat, Int.reduceLE, Int.reduceBEq, Int.reduceBNe, enc1, cChan, cCSt, eqTy_Sum, eqTy_Ref, getD_map]
    apply Or.inl
    first | refine ⟨[], trivial, ?_⟩ | refine ⟨_, (owner_ap c t ht), ?_⟩ | refine ⟨_, fun _ => (owner_ap c t ht), ?_⟩ | refine ⟨_, fun h => ⟨h, (owner_ap c t ht)⟩, ?_⟩ | refine ⟨_, fun h => ⟨by simp_all, (owner_ap c t ht)⟩, ?_⟩ | refine ⟨[], ?_⟩
    (try simp only [rsAV, List.map_cons, List.map_nil, thenQ])
    refine hK17 _ ?_
    (try clear hK17)
    refine apl_cut [_, _, _] _ (fun K18 hK18 => ?_)
    simp (maxSteps:=999999) (disch:=omega) only [av1, av2, av3, av4, av5, av6, eq_self, exists_const, forall_const, implies_true, storeOk, thenQ, PK.cond, PK.val, Nat.reduceAdd, Nat.reduceLT, Nat.reduceMul, reduceCtorEq, ↓reduceIte, Nat.reduceEqDiff, Nat.reduceLeDiff, Nat.reduceSub, Nat.reduceBEq, Nat.reduceBNe, Int.reduceLT, Int.reduceEq, Int.reduceAdd, Int.reduceToNat, Int.reduceLE, Int.reduceBEq, Int.reduceBNe, enc1, cChan, cCSt, eqTy_Sum, eqTy_Ref, getD_map]
    (repeat ((with_reducible refine And.intro ?_ ?_); (first | trivial | assumption | omega | (simp; done))))
    refine hK18 _ ?_
    (try clear hK18)
    refine apl_cut [_] _ (fun K19 hK19 => ?_)
    simp (maxSteps:=999999) (disch:=omega) only [av1, av2, av3, av4, av5, av6, eq_self, exists_const, forall_const, implies_true, storeOk, thenQ, PK.cond, PK.val, Nat.reduceAdd, Nat.reduceLT, Nat.reduceMul, reduceCtorEq, ↓reduceIte, Nat.reduceEqDiff, Nat.reduceLeDiff, Nat.reduceSub, Nat.reduceBEq, Nat.reduceBNe, Int.reduceLT, Int.reduceEq, Int.reduceAdd, Int.reduceToNat, Int.reduceLE, Int.reduceBEq, Int.reduceBNe, enc1, cChan, cCSt, eqTy_Sum, eqTy_Ref, getD_map]
    apply Or.inl
    first | refine ⟨[], trivial, ?_⟩ | refine ⟨_, (txRight_ap j hj), ?_⟩ | refine ⟨_, fun _ => (txRight_ap j hj), ?_⟩ | refine ⟨_, fun h => ⟨h, (txRight_ap j hj)⟩, ?_⟩ | refine ⟨_, fun h => ⟨by simp_all, (txRight_ap j hj)⟩, ?_⟩ | refine ⟨[], ?_⟩
    (try simp only [rsAV, List.map_cons, List.map_nil, thenQ])
    refine hK19 _ ?_
    (try clear hK19)
    simp (maxSteps:=999999) (disch:=omega) only [av1, av2, av3, av4, av5, av6, eq_self, exists_const, forall_const, implies_true, storeOk, thenQ, PK.cond, PK.val, Nat.reduceAdd, Nat.reduceLT, Nat.reduceMul, reduceCtorEq, ↓reduceIte, Nat.reduceEqDiff, Nat.reduceLeDiff, Nat.reduceSub, Nat.reduceBEq, Nat.reduceBNe, Int.reduceLT, Int.reduceEq, Int.reduceAdd, Int.reduceToNat, Int.reduceLE, Int.reduceBEq, Int.reduceBNe, enc1, cChan, cCSt, eqTy_Sum, eqTy_Ref, getD_map]
    (repeat ((with_reducible refine And.intro ?_ ?_); (first | trivial | assumption | omega | (simp; done))))
    refine hK15 _ ?_
    (try clear hK15)
    refine at_cond _ rfl rfl (fun h20 => ?_) (fun h20 => ?_)
    · have r20 := h20
      (try simp only [dB2] at h20)
      refine at_seq fun K21 hK21 => ?_
      refine at_region [It.mk (some 67) none (IK.p (PK.mov (Operand.tmp 7))), It.mk (some 68) none (IK.p (PK.bin BinOp.eql (Operand.tmp 67) (Operand.const (Value.int IntKind.i64 1)))), It.mk (some 69) none (IK.p (PK.mov (Operand.tmp 68))), It.mk (some 70) (some (69, true)) (IK.call 67 []), It.mk (some 71) none (IK.p (PK.pick (Operand.tmp 69) (Operand.tmp 70) (Operand.const (Value.bool false)))), It.mk (some 6) none (IK.p (PK.mov (Operand.tmp 71)))] (by kernel_rfl) ?_
      refine apl_cut [_, _, _] _ (fun K22 hK22 => ?_)
      simp (maxSteps:=999999) (disch:=omega) only [av1, av2, av3, av4, av5, av6, eq_self, exists_const, forall_const, implies_true, storeOk, thenQ, PK.cond, PK.val, Nat.reduceAdd, Nat.reduceLT, Nat.reduceMul, reduceCtorEq, ↓reduceIte, Nat.reduceEqDiff, Nat.reduceLeDiff, Nat.reduceSub, Nat.reduceBEq, Nat.reduceBNe, Int.reduceLT, Int.reduceEq, Int.reduceAdd, Int.reduceToNat, Int.reduceLE, Int.reduceBEq, Int.reduceBNe, enc1, cChan, cCSt, eqTy_Sum, eqTy_Ref, getD_map]
      (repeat ((with_reducible refine And.intro ?_ ?_); (first | trivial | assumption | omega | (simp; done))))
      refine hK22 _ ?_
      (try clear hK22)
      refine apl_cut [_] _ (fun K23 hK23 => ?_)
      simp (maxSteps:=999999) (disch:=omega) only [av1, av2, av3, av4, av5, av6, eq_self, exists_const, forall_const, implies_true, storeOk, thenQ, PK.cond, PK.val, Nat.reduceAdd, Nat.reduceLT, Nat.reduceMul, reduceCtorEq, ↓reduceIte, Nat.reduceEqDiff, Nat.reduceLeDiff, Nat.reduceSub, Nat.reduceBEq, Nat.reduceBNe, Int.reduceLT, Int.reduceEq, Int.reduceAdd, Int.reduceToNat, Int.reduceLE, Int.reduceBEq, Int.reduceBNe, enc1, cChan, cCSt, eqTy_Sum, eqTy_Ref, getD_map]
      apply Or.inl
      first | refine ⟨[], trivial, ?_⟩ | refine ⟨_, (awake15_ap), ?_⟩ | refine ⟨_, fun _ => (awake15_ap), ?_⟩ | refine ⟨_, fun h => ⟨h, (awake15_ap)⟩, ?_⟩ | refine ⟨_, fun h => ⟨by simp_all, (awake15_ap)⟩, ?_⟩ | refine ⟨[], ?_⟩
      (try simp only [rsAV, List.map_cons, List.map_nil, thenQ])
      refine hK23 _ ?_
      (try clear hK23)
      simp (maxSteps:=999999) (disch:=omega) only [av1, av2, av3, av4, av5, av6, eq_self, exists_const, forall_const, implies_true, storeOk, thenQ, PK.cond, PK.val, Nat.reduceAdd, Nat.reduceLT, Nat.reduceMul, reduceCtorEq, ↓reduceIte, Nat.reduceEqDiff, Nat.reduceLeDiff, Nat.reduceSub, Nat.reduceBEq, Nat.reduceBNe, Int.reduceLT, Int.reduceEq, Int.reduceAdd, Int.reduceToNat, Int.reduceLE, Int.reduceBEq, Int.reduceBNe, enc1, cChan, cCSt, eqTy_Sum, eqTy_Ref, getD_map]
      (repeat ((with_reducible refine And.intro ?_ ?_); (first | trivial | assumption | omega | (simp; done))))
      refine hK21 _ ?_
      (try clear hK21)
      refine at_ret ?_
      simp (maxSteps:=999999) (disch:=omega) only [av1, av2, av3, av4, av5, av6, eq_self, exists_const, forall_const, implies_true, storeOk, thenQ, PK.cond, PK.val, Nat.reduceAdd, Nat.reduceLT, Nat.reduceMul, reduceCtorEq, ↓reduceIte, Nat.reduceEqDiff, Nat.reduceLeDiff, Nat.reduceSub, Nat.reduceBEq, Nat.reduceBNe, Int.reduceLT, Int.reduceEq, Int.reduceAdd, Int.reduceToNat, Int.reduceLE, Int.reduceBEq, Int.reduceBNe, enc1, cChan, cCSt, eqTy_Sum, eqTy_Ref, getD_map, blockQ, retQ, RetOk, ResOk, AV.fin, AV.fins, CV.le, CV.les]
      all_goals refine pv_bool ?_
      all_goals first
        | rfl
        | (rw [show checkV c t j = 1 from if_pos (show jBad c t j = true by unfold jBad; assumption)]; rfl)
        | (rw [hcv]; unfold chkE; rw [if_pos (by assumption)]; rfl)
        | (rw [hcv]; unfold chkE; rw [if_neg (by rw [Bool.not_eq_true]; assumption), if_pos (by assumption)]; rfl)
        | (rw [hcv]; unfold chkE; rw [if_neg (by rw [Bool.not_eq_true]; assumption), if_neg (by rw [Bool.not_eq_false]; assumption), if_pos (by assumption)]; exact beq_self_eq_true _)
        | (rw [hcv]; unfold chkE; rw [if_neg (by rw [Bool.not_eq_true]; assumption), if_neg (by rw [Bool.not_eq_false]; assumption), if_neg (by rw [ne_eq, Decidable.not_not]; assumption), if_pos (by assumption)]; rfl)
        | (rw [hcv]; unfold chkE; rw [if_neg (by rw [Bool.not_eq_true]; assumption), if_neg (by rw [Bool.not_eq_false]; assumption), if_neg (by rw [ne_eq, Decidable.not_not]; assumption), if_neg (by simp only [Int.not_lt, gt_iff_lt]; assumption)]; rfl)
        | trace_state
    · have r20 := h20
      (try simp only [dB2] at h20)
      have hjb : jBad c t j = false := r20; have hsh := jShape hjb; obtain ⟨x, a, p, q, b, y, e1, e2, e3, e4⟩ := hsh.ex; obtain ⟨I, O1, o, g⟩ := t; obtain ⟨I2, O, o2, g2⟩ := j; dsimp only at e1 e2 e4; subst e1 e2 e4; have hcv := checkV_full hjb
      refine at_skip ?_
      (try simp only [thenQ, blockQ])
      refine hK14 _ ?_
      (try clear hK14)
      refine at_seq fun K24 hK24 => ?_
      refine at_seq fun K25 hK25 => ?_
      refine at_draws [] (by kernel_rfl) ?_
      refine ag_pures (fuel := 11) [0, 1, 2, 3, 4, 5] [It.mk (some 72) none (IK.p (PK.fAddr (Operand.tmp 5) 0 0)), It.mk (some 73) none (IK.p (PK.load (Operand.tmp 72) 1 false)), It.mk (some 74) none (IK.p (PK.iAddrS (Operand.tmp 73) (Operand.const (Value.int IntKind.i64 0)) 35)), It.mk (some 75) none (IK.p (PK.fAddr (Operand.tmp 74) 0 0)), It.mk (some 76) none (IK.p (PK.load (Operand.tmp 75) 33 true)), It.mk (some 77) none (IK.p (PK.load (Operand.tmp 4) 40 true))] (by kernel_rfl) (by kernel_rfl) (by kernel_rfl) (by kernel_rfl) (hideZ_nil _ 0) (fun K26 hK26 => ?_)
      simp (maxSteps:=999999) (disch:=omega) only [av1, av2, av3, av4, av5, av6, eq_self, exists_const, forall_const, implies_true, storeOk, thenQ, PK.cond, PK.val, Nat.reduceAdd, Nat.reduceLT, Nat.reduceMul, reduceCtorEq, ↓reduceIte, Nat.reduceEqDiff, Nat.reduceLeDiff, Nat.reduceSub, Nat.reduceBEq, Nat.reduceBNe, Int.reduceLT, Int.reduceEq, Int.reduceAdd, Int.reduceToNat, Int.reduceLE, Int.reduceBEq, Int.reduceBNe, enc1, cChan, cCSt, eqTy_Sum, eqTy_Ref, getD_map]
      (repeat ((with_reducible refine And.intro ?_ ?_); (first | trivial | assumption | omega | (simp; done))))
      refine hK26 _ ?_
      (try clear hK26)
      refine ag_one (i:=6) (by kernel_rfl) ?_
      refine agi (it := It.mk (some 78) none (IK.call 58 [Operand.tmp 77])) (R' := [4, 3, 2, 1, 0]) (by kernel_rfl) (.inl rfl) (by kernel_rfl) (fun K27 hK27 => ?_)
      simp (maxSteps:=999999) (disch:=omega) only [av1, av2, av3, av4, av5, av6, eq_self, exists_const, forall_const, implies_true, storeOk, thenQ, PK.cond, PK.val, Nat.reduceAdd, Nat.reduceLT, Nat.reduceMul, reduceCtorEq, ↓reduceIte, Nat.reduceEqDiff, Nat.reduceLeDiff, Nat.reduceSub, Nat.reduceBEq, Nat.reduceBNe, Int.reduceLT, Int.reduceEq, Int.reduceAdd, Int.reduceToNat, Int.reduceLE, Int.reduceBEq, Int.reduceBNe, enc1, cChan, cCSt, eqTy_Sum, eqTy_Ref, getD_map]
      apply Or.inl
      first | refine ⟨[], trivial, ?_⟩ | refine ⟨_, (sum_ap ht hsm.1), ?_⟩ | refine ⟨_, fun _ => (sum_ap ht hsm.1), ?_⟩ | refine ⟨_, fun h => ⟨h, (sum_ap ht hsm.1)⟩, ?_⟩ | refine ⟨_, fun h => ⟨by simp_all, (sum_ap ht hsm.1)⟩, ?_⟩ | refine ⟨[], ?_⟩
      (try simp only [rsAV, List.map_cons, List.map_nil, thenQ])
      refine hK27 _ ?_
      (try clear hK27)
      refine ag_pures (fuel := 0) [7, 8, 9, 10, 11, 12, 13, 14, 15, 16] [It.mk (some 79) none (IK.p (PK.bld (CV.st [CV.ar IntKind.u8 32 (List.replicate 32 0), CV.pv (Value.int IntKind.i64 0)]) [(0, 32), (32, 1)] [(0, Operand.tmp 78)])), It.mk (some 80) none (IK.p (PK.eqA true 62 (Sh.st [Sh.a IntKind.u8 32, Sh.i]) (Operand.tmp 76) (Operand.tmp 79))), It.mk (some 81) none (IK.p (PK.mov (Operand.tmp 80))), It.mk (some 82) (some (81, false)) (IK.p (PK.fAddr (Operand.tmp 5) 0 0)), It.mk (some 83) (some (81, false)) (IK.p (PK.load (Operand.tmp 82) 1 false)), It.mk (some 84) (some (81, false)) (IK.p (PK.iAddrS (Operand.tmp 83) (Operand.const (Value.int IntKind.i64 0)) 35)), It.mk (some 85) (some (81, false)) (IK.p (PK.fAddr (Operand.tmp 84) 1 33)), It.mk (some 86) (some (81, false)) (IK.p (PK.load (Operand.tmp 85) 1 false)), It.mk (some 87) (some (81, false)) (IK.p (PK.bin BinOp.neq (Operand.tmp 86) (Operand.const (Value.int IntKind.i64 1)))), It.mk (some 88) none (IK.p (PK.pick (Operand.tmp 81) (Operand.const (Value.bool true)) (Operand.tmp 87)))] (by kernel_rfl) (by kernel_rfl) (by kernel_rfl) (by kernel_rfl) (hideZ_nil _ 0) (fun K28 hK28 => ?_)
      simp (maxSteps:=999999) (disch:=omega) only [av1, av2, av3, av4, av5, av6, eq_self, exists_const, forall_const, implies_true, storeOk, thenQ, PK.cond, PK.val, Nat.reduceAdd, Nat.reduceLT, Nat.reduceMul, reduceCtorEq, ↓reduceIte, Nat.reduceEqDiff, Nat.reduceLeDiff, Nat.reduceSub, Nat.reduceBEq, Nat.reduceBNe, Int.reduceLT, Int.reduceEq, Int.reduceAdd, Int.reduceToNat, Int.reduceLE, Int.reduceBEq, Int.reduceBNe, enc1, cChan, cCSt, eqTy_Sum, eqTy_Ref, getD_map]
      (repeat ((with_reducible refine And.intro ?_ ?_); (first | trivial | assumption | omega | (simp; done))))
      refine hK28 _ ?_
      (try clear hK28)
      refine ag_done (by kernel_rfl) ?_
      (try simp only [thenQ])
      refine hK25 _ ?_
      (try clear hK25)
      refine at_cond _ rfl rfl (fun h29 => ?_) (fun h29 => ?_)
      · have r29 := h29
        (try simp only [dB2] at h29)
        refine at_seq fun K30 hK30 => ?_
        refine at_region [It.mk (some 89) none (IK.p (PK.mov (Operand.tmp 7))), It.mk (some 90) none (IK.p (PK.bin BinOp.eql (Operand.tmp 89) (Operand.const (Value.int IntKind.i64 13)))), It.mk (some 91) none (IK.p (PK.mov (Operand.tmp 90))), It.mk (some 92) (some (91, true)) (IK.call 67 []), It.mk (some 93) none (IK.p (PK.pick (Operand.tmp 91) (Operand.tmp 92) (Operand.const (Value.bool false)))), It.mk (some 6) none (IK.p (PK.mov (Operand.tmp 93)))] (by kernel_rfl) ?_
        refine apl_cut [_, _, _] _ (fun K31 hK31 => ?_)
        simp (maxSteps:=999999) (disch:=omega) only [av1, av2, av3, av4, av5, av6, eq_self, exists_const, forall_const, implies_true, storeOk, thenQ, PK.cond, PK.val, Nat.reduceAdd, Nat.reduceLT, Nat.reduceMul, reduceCtorEq, ↓reduceIte, Nat.reduceEqDiff, Nat.reduceLeDiff, Nat.reduceSub, Nat.reduceBEq, Nat.reduceBNe, Int.reduceLT, Int.reduceEq, Int.reduceAdd, Int.reduceToNat, Int.reduceLE, Int.reduceBEq, Int.reduceBNe, enc1, cChan, cCSt, eqTy_Sum, eqTy_Ref, getD_map]
        (repeat ((with_reducible refine And.intro ?_ ?_); (first | trivial | assumption | omega | (simp; done))))
        refine hK31 _ ?_
        (try clear hK31)
        refine apl_cut [_] _ (fun K32 hK32 => ?_)
        simp (maxSteps:=999999) (disch:=omega) only [av1, av2, av3, av4, av5, av6, eq_self, exists_const, forall_const, implies_true, storeOk, thenQ, PK.cond, PK.val, Nat.reduceAdd, Nat.reduceLT, Nat.reduceMul, reduceCtorEq, ↓reduceIte, Nat.reduceEqDiff, Nat.reduceLeDiff, Nat.reduceSub, Nat.reduceBEq, Nat.reduceBNe, Int.reduceLT, Int.reduceEq, Int.reduceAdd, Int.reduceToNat, Int.reduceLE, Int.reduceBEq, Int.reduceBNe, enc1, cChan, cCSt, eqTy_Sum, eqTy_Ref, getD_map]
        apply Or.inl
        first | refine ⟨[], trivial, ?_⟩ | refine ⟨_, (awake15_ap), ?_⟩ | refine ⟨_, fun _ => (awake15_ap), ?_⟩ | refine ⟨_, fun h => ⟨h, (awake15_ap)⟩, ?_⟩ | refine ⟨_, fun h => ⟨by simp_all, (awake15_ap)⟩, ?_⟩ | refine ⟨[], ?_⟩
        (try simp only [rsAV, List.map_cons, List.map_nil, thenQ])
        refine hK32 _ ?_
        (try clear hK32)
        simp (maxSteps:=999999) (disch:=omega) only [av1, av2, av3, av4, av5, av6, eq_self, exists_const, forall_const, implies_true, storeOk, thenQ, PK.cond, PK.val, Nat.reduceAdd, Nat.reduceLT, Nat.reduceMul, reduceCtorEq, ↓reduceIte, Nat.reduceEqDiff, Nat.reduceLeDiff, Nat.reduceSub, Nat.reduceBEq, Nat.reduceBNe, Int.reduceLT, Int.reduceEq, Int.reduceAdd, Int.reduceToNat, Int.reduceLE, Int.reduceBEq, Int.reduceBNe, enc1, cChan, cCSt, eqTy_Sum, eqTy_Ref, getD_map]
        (repeat ((with_reducible refine And.intro ?_ ?_); (first | trivial | assumption | omega | (simp; done))))
        refine hK30 _ ?_
        (try clear hK30)
        refine at_ret ?_
        simp (maxSteps:=999999) (disch:=omega) only [av1, av2, av3, av4, av5, av6, eq_self, exists_const, forall_const, implies_true, storeOk, thenQ, PK.cond, PK.val, Nat.reduceAdd, Nat.reduceLT, Nat.reduceMul, reduceCtorEq, ↓reduceIte, Nat.reduceEqDiff, Nat.reduceLeDiff, Nat.reduceSub, Nat.reduceBEq, Nat.reduceBNe, Int.reduceLT, Int.reduceEq, Int.reduceAdd, Int.reduceToNat, Int.reduceLE, Int.reduceBEq, Int.reduceBNe, enc1, cChan, cCSt, eqTy_Sum, eqTy_Ref, getD_map, blockQ, retQ, RetOk, ResOk, AV.fin, AV.fins, CV.le, CV.les]
        all_goals refine pv_bool ?_
        all_goals first
          | rfl
          | (rw [show checkV c t j = 1 from if_pos (show jBad c t j = true by unfold jBad; assumption)]; rfl)
          | (rw [hcv]; unfold chkE; rw [if_pos (by assumption)]; rfl)
          | (rw [hcv]; unfold chkE; rw [if_neg (by rw [Bool.not_eq_true]; assumption), if_pos (by assumption)]; rfl)
          | (rw [hcv]; unfold chkE; rw [if_neg (by rw [Bool.not_eq_true]; assumption), if_neg (by rw [Bool.not_eq_false]; assumption), if_pos (by assumption)]; exact beq_self_eq_true _)
          | (rw [hcv]; unfold chkE; rw [if_neg (by rw [Bool.not_eq_true]; assumption), if_neg (by rw [Bool.not_eq_false]; assumption), if_neg (by rw [ne_eq, Decidable.not_not]; assumption), if_pos (by assumption)]; rfl)
          | (rw [hcv]; unfold chkE; rw [if_neg (by rw [Bool.not_eq_true]; assumption), if_neg (by rw [Bool.not_eq_false]; assumption), if_neg (by rw [ne_eq, Decidable.not_not]; assumption), if_neg (by simp only [Int.not_lt, gt_iff_lt]; assumption)]; rfl)
          | trace_state
      · have r29 := h29
        (try simp only [dB2] at h29)
        refine at_skip ?_
        (try simp only [thenQ, blockQ])
        refine hK24 _ ?_
        (try clear hK24)
        refine at_seq fun K33 hK33 => ?_
        refine at_seq fun K34 hK34 => ?_
        refine at_region [It.mk (some 94) none (IK.p (PK.fAddr (Operand.tmp 4) 1 1)), It.mk (some 95) none (IK.p (PK.load (Operand.tmp 94) 1 false)), It.mk (some 96) none (IK.p (PK.len false (Operand.tmp 95))), It.mk (some 97) none (IK.p (PK.bin BinOp.neq (Operand.tmp 96) (Operand.const (Value.int IntKind.i64 2)))), It.mk (some 98) none (IK.p (PK.mov (Operand.tmp 97))), It.mk (some 99) (some (98, false)) (IK.p (PK.fAddr (Operand.tmp 4) 1 1)), It.mk (some 100) (some (98, false)) (IK.p (PK.load (Operand.tmp 99) 1 false)), It.mk (some 101) (some (98, false)) (IK.p (PK.iAddrS (Operand.tmp 100) (Operand.const (Value.int IntKind.i64 0)) 2)), It.mk (some 102) (some (98, false)) (IK.p (PK.fAddr (Operand.tmp 101) 1 1)), It.mk (some 103) (some (98, false)) (IK.p (PK.load (Operand.tmp 102) 1 false)), It.mk (some 104) (some (98, false)) (IK.p (PK.len false (Operand.tmp 103))), It.mk (some 105) (some (98, false)) (IK.p (PK.bin BinOp.neq (Operand.tmp 104) (Operand.const (Value.int IntKind.i64 2)))), It.mk (some 106) none (IK.p (PK.pick (Operand.tmp 98) (Operand.const (Value.bool true)) (Operand.tmp 105))), It.mk (some 107) none (IK.p (PK.mov (Operand.tmp 106))), It.mk (some 108) (some (107, false)) (IK.p (PK.fAddr (Operand.tmp 4) 1 1)), It.mk (some 109) (some (107, false)) (IK.p (PK.load (Operand.tmp 108) 1 false)), It.mk (some 110) (some (107, false)) (IK.p (PK.iAddrS (Operand.tmp 109) (Operand.const (Value.int IntKind.i64 0)) 2)), It.mk (some 111) (some (107, false)) (IK.p (PK.fAddr (Operand.tmp 110) 1 1)), It.mk (some 112) (some (107, false)) (IK.p (PK.load (Operand.tmp 111) 1 false)), It.mk (some 113) (some (107, false)) (IK.p (PK.iAddrS (Operand.tmp 112) (Operand.const (Value.int IntKind.i64 1)) 35)), It.mk (some 114) (some (107, false)) (IK.p (PK.fAddr (Operand.tmp 113) 0 0)), It.mk (some 115) (some (107, false)) (IK.p (PK.load (Operand.tmp 114) 1 false)), It.mk (some 116) (some (107, false)) (IK.p (PK.len false (Operand.tmp 115))), It.mk (some 117) (some (107, false)) (IK.p (PK.bin BinOp.neq (Operand.tmp 116) (Operand.const (Value.int IntKind.i64 1)))), It.mk (some 118) none (IK.p (PK.pick (Operand.tmp 107) (Operand.const (Value.bool true)) (Operand.tmp 117)))] (by kernel_rfl) ?_
        simp (maxSteps:=999999) (disch:=omega) only [av1, av2, av3, av4, av5, av6, eq_self, exists_const, forall_const, implies_true, storeOk, thenQ, PK.cond, PK.val, Nat.reduceAdd, Nat.reduceLT, Nat.reduceMul, reduceCtorEq, ↓reduceIte, Nat.reduceEqDiff, Nat.reduceLeDiff, Nat.reduceSub, Nat.reduceBEq, Nat.reduceBNe, Int.reduceLT, Int.reduceEq, Int.reduceAdd, Int.reduceToNat, Int.reduceLE, Int.reduceBEq, Int.reduceBNe, enc1, cChan, cCSt, eqTy_Sum, eqTy_Ref, getD_map]
        (repeat ((with_reducible refine And.intro ?_ ?_); (first | trivial | assumption | omega | (simp; done))))
        refine hK34 _ ?_
        (try clear hK34)
        refine at_cond _ rfl rfl (fun h35 => ?_) (fun h35 => ?_)
        · have r35 := h35
          (try simp only [dB2] at h35)
          omega
        · have r35 := h35
          (try simp only [dB2] at h35)
          refine at_skip ?_
          (try simp only [thenQ, blockQ])
          refine hK33 _ ?_
          (try clear hK33)
          refine at_seq fun K36 hK36 => ?_
          refine at_region [It.mk (some 119) none (IK.p (PK.fAddr (Operand.tmp 4) 1 1)), It.mk (some 120) none (IK.p (PK.load (Operand.tmp 119) 1 false)), It.mk (some 121) none (IK.p (PK.iAddrS (Operand.tmp 120) (Operand.const (Value.int IntKind.i64 0)) 2)), It.mk (some 122) none (IK.p (PK.fAddr (Operand.tmp 121) 1 1)), It.mk (some 123) none (IK.p (PK.load (Operand.tmp 122) 1 false)), It.mk (some 124) none (IK.p (PK.iAddrS (Operand.tmp 123) (Operand.const (Value.int IntKind.i64 1)) 35)), It.mk (some 125) none (IK.p (PK.load (Operand.tmp 124) 35 true)), It.mk (some 8) none (IK.alloc (CV.st [CV.pv (Value.slice none 0 0), CV.ar IntKind.u8 32 (List.replicate 32 0), CV.pv (Value.int IntKind.i64 0), CV.pv (Value.int IntKind.i64 0)])), It.mk none none (IK.store (Operand.tmp 8) (Operand.tmp 125) 35)] (by kernel_rfl) ?_
          simp (maxSteps:=999999) (disch:=omega) only [av1, av2, av3, av4, av5, av6, eq_self, exists_const, forall_const, implies_true, storeOk, thenQ, PK.cond, PK.val, Nat.reduceAdd, Nat.reduceLT, Nat.reduceMul, reduceCtorEq, ↓reduceIte, Nat.reduceEqDiff, Nat.reduceLeDiff, Nat.reduceSub, Nat.reduceBEq, Nat.reduceBNe, Int.reduceLT, Int.reduceEq, Int.reduceAdd, Int.reduceToNat, Int.reduceLE, Int.reduceBEq, Int.reduceBNe, enc1, cChan, cCSt, eqTy_Sum, eqTy_Ref, getD_map]
          (repeat ((with_reducible refine And.intro ?_ ?_); (first | trivial | assumption | omega | (simp; done))))
          refine hK36 _ ?_
          (try clear hK36)
          refine at_seq fun K37 hK37 => ?_
          refine at_seq fun K38 hK38 => ?_
          refine at_draws [] (by kernel_rfl) ?_
          refine ag_pures (fuel := 4) [0, 1, 3, 4, 5, 6, 7] [It.mk (some 126) none (IK.p (PK.load (Operand.tmp 8) 35 true)), It.mk (some 127) none (IK.p (PK.load (Operand.tmp 5) 40 true)), It.mk (some 129) none (IK.p (PK.fAddr (Operand.tmp 5) 0 0)), It.mk (some 130) none (IK.p (PK.load (Operand.tmp 129) 1 false)), It.mk (some 131) none (IK.p (PK.iAddrS (Operand.tmp 130) (Operand.const (Value.int IntKind.i64 0)) 35)), It.mk (some 132) none (IK.p (PK.fAddr (Operand.tmp 131) 2 34)), It.mk (some 133) none (IK.p (PK.load (Operand.tmp 132) 1 false))] (by kernel_rfl) (by kernel_rfl) (by kernel_rfl) (by kernel_rfl) (hideZ_nil _ 0) (fun K39 hK39 => ?_)
          simp (maxSteps:=999999) (disch:=omega) only [av1, av2, av3, av4, av5, av6, eq_self, exists_const, forall_const, implies_true, storeOk, thenQ, PK.cond, PK.val, Nat.reduceAdd, Nat.reduceLT, Nat.reduceMul, reduceCtorEq, ↓reduceIte, Nat.reduceEqDiff, Nat.reduceLeDiff, Nat.reduceSub, Nat.reduceBEq, Nat.reduceBNe, Int.reduceLT, Int.reduceEq, Int.reduceAdd, Int.reduceToNat, Int.reduceLE, Int.reduceBEq, Int.reduceBNe, enc1, cChan, cCSt, eqTy_Sum, eqTy_Ref, getD_map]
          (repeat ((with_reducible refine And.intro ?_ ?_); (first | trivial | assumption | omega | (simp; done))))
          refine hK39 _ ?_
          (try clear hK39)
          refine ag_one (i:=2) (by kernel_rfl) ?_
          refine agi (it := It.mk (some 128) none (IK.call 70 [Operand.tmp 127])) (R' := [7, 6, 5, 4, 3, 0]) (by kernel_rfl) (.inl rfl) (by kernel_rfl) (fun K40 hK40 => ?_)
          simp (maxSteps:=999999) (disch:=omega) only [av1, av2, av3, av4, av5, av6, eq_self, exists_const, forall_const, implies_true, storeOk, thenQ, PK.cond, PK.val, Nat.reduceAdd, Nat.reduceLT, Nat.reduceMul, reduceCtorEq, ↓reduceIte, Nat.reduceEqDiff, Nat.reduceLeDiff, Nat.reduceSub, Nat.reduceBEq, Nat.reduceBNe, Int.reduceLT, Int.reduceEq, Int.reduceAdd, Int.reduceToNat, Int.reduceLE, Int.reduceBEq, Int.reduceBNe, enc1, cChan, cCSt, eqTy_Sum, eqTy_Ref, getD_map]
          apply Or.inl
          first | refine ⟨[], trivial, ?_⟩ | refine ⟨_, (keys_ap hj hsm.2), ?_⟩ | refine ⟨_, fun _ => (keys_ap hj hsm.2), ?_⟩ | refine ⟨_, fun h => ⟨h, (keys_ap hj hsm.2)⟩, ?_⟩ | refine ⟨_, fun h => ⟨by simp_all, (keys_ap hj hsm.2)⟩, ?_⟩ | refine ⟨[], ?_⟩
          (try simp only [rsAV, List.map_cons, List.map_nil, thenQ])
          refine hK40 _ ?_
          (try clear hK40)
          refine ag_pures (fuel := 2) [8] [It.mk (some 134) none (IK.p (PK.bld (CV.st [CV.pv (Value.slice none 0 0), CV.pv (Value.slice none 0 0), CV.pv (Value.int IntKind.i64 0), CV.pv (Value.int IntKind.i64 0)]) [(0, 1), (1, 1), (2, 1), (3, 1)] [(0, Operand.tmp 128), (1, Operand.tmp 133)]))] (by kernel_rfl) (by kernel_rfl) (by kernel_rfl) (by kernel_rfl) (hideZ_nil _ 0) (fun K41 hK41 => ?_)
          simp (maxSteps:=999999) (disch:=omega) only [av1, av2, av3, av4, av5, av6, eq_self, exists_const, forall_const, implies_true, storeOk, thenQ, PK.cond, PK.val, Nat.reduceAdd, Nat.reduceLT, Nat.reduceMul, reduceCtorEq, ↓reduceIte, Nat.reduceEqDiff, Nat.reduceLeDiff, Nat.reduceSub, Nat.reduceBEq, Nat.reduceBNe, Int.reduceLT, Int.reduceEq, Int.reduceAdd, Int.reduceToNat, Int.reduceLE, Int.reduceBEq, Int.reduceBNe, enc1, cChan, cCSt, eqTy_Sum, eqTy_Ref, getD_map]
          (repeat ((with_reducible refine And.intro ?_ ?_); (first | trivial | assumption | omega | (simp; done))))
          refine hK41 _ ?_
          (try clear hK41)
          refine ag_one (i:=9) (by kernel_rfl) ?_
          refine agi (it := It.mk (some 135) none (IK.call 20 [Operand.tmp 126, Operand.tmp 134])) (R' := []) (by kernel_rfl) (.inl rfl) (by kernel_rfl) (fun K42 hK42 => ?_)
          simp (maxSteps:=999999) (disch:=omega) only [av1, av2, av3, av4, av5, av6, eq_self, exists_const, forall_const, implies_true, storeOk, thenQ, PK.cond, PK.val, Nat.reduceAdd, Nat.reduceLT, Nat.reduceMul, reduceCtorEq, ↓reduceIte, Nat.reduceEqDiff, Nat.reduceLeDiff, Nat.reduceSub, Nat.reduceBEq, Nat.reduceBNe, Int.reduceLT, Int.reduceEq, Int.reduceAdd, Int.reduceToNat, Int.reduceLE, Int.reduceBEq, Int.reduceBNe, enc1, cChan, cCSt, eqTy_Sum, eqTy_Ref, getD_map]
          apply Or.inl
          first | refine ⟨[], trivial, ?_⟩ | refine ⟨_, (opensJ_ap ((ht.outs.all ⟨a, [p, q]⟩ (by simp)).ways.all q (by simp)) (hj.ins.all y (by simp)) hj hsm.2 ((small_sgns hsm.2).2.2 y (by simp))), ?_⟩ | refine ⟨_, fun _ => (opensJ_ap ((ht.outs.all ⟨a, [p, q]⟩ (by simp)).ways.all q (by simp)) (hj.ins.all y (by simp)) hj hsm.2 ((small_sgns hsm.2).2.2 y (by simp))), ?_⟩ | refine ⟨_, fun h => ⟨h, (opensJ_ap ((ht.outs.all ⟨a, [p, q]⟩ (by simp)).ways.all q (by simp)) (hj.ins.all y (by simp)) hj hsm.2 ((small_sgns hsm.2).2.2 y (by simp)))⟩, ?_⟩ | refine ⟨_, fun h => ⟨by simp_all, (opensJ_ap ((ht.outs.all ⟨a, [p, q]⟩ (by simp)).ways.all q (by simp)) (hj.ins.all y (by simp)) hj hsm.2 ((small_sgns hsm.2).2.2 y (by simp)))⟩, ?_⟩ | refine ⟨[], ?_⟩
          (try simp only [rsAV, List.map_cons, List.map_nil, thenQ])
          refine hK42 _ ?_
          (try clear hK42)
          refine ag_pures (fuel := 0) [10] [It.mk (some 136) none (IK.p (PK.not (Operand.tmp 135)))] (by kernel_rfl) (by kernel_rfl) (by kernel_rfl) (by kernel_rfl) (hideZ_nil _ 0) (fun K43 hK43 => ?_)
          simp (maxSteps:=999999) (disch:=omega) only [av1, av2, av3, av4, av5, av6, eq_self, exists_const, forall_const, implies_true, storeOk, thenQ, PK.cond, PK.val, Nat.reduceAdd, Nat.reduceLT, Nat.reduceMul, reduceCtorEq, ↓reduceIte, Nat.reduceEqDiff, Nat.reduceLeDiff, Nat.reduceSub, Nat.reduceBEq, Nat.reduceBNe, Int.reduceLT, Int.reduceEq, Int.reduceAdd, Int.reduceToNat, Int.reduceLE, Int.reduceBEq, Int.reduceBNe, enc1, cChan, cCSt, eqTy_Sum, eqTy_Ref, getD_map]
          (repeat ((with_reducible refine And.intro ?_ ?_); (first | trivial | assumption | omega | (simp; done))))
          refine hK43 _ ?_
          (try clear hK43)
          refine ag_done (by kernel_rfl) ?_
          (try simp only [thenQ])
          refine hK38 _ ?_
          (try clear hK38)
          refine at_cond _ rfl rfl (fun h44 => ?_) (fun h44 => ?_)
          · have r44 := h44
            (try simp only [dB2] at h44)
            refine at_seq fun K45 hK45 => ?_
            refine at_region [It.mk (some 137) none (IK.p (PK.mov (Operand.tmp 7))), It.mk (some 138) none (IK.p (PK.bin BinOp.eql (Operand.tmp 137) (Operand.const (Value.int IntKind.i64 12)))), It.mk (some 139) none (IK.p (PK.mov (Operand.tmp 138))), It.mk (some 140) (some (139, true)) (IK.call 67 []), It.mk (some 141) none (IK.p (PK.pick (Operand.tmp 139) (Operand.tmp 140) (Operand.const (Value.bool false)))), It.mk (some 6) none (IK.p (PK.mov (Operand.tmp 141)))] (by kernel_rfl) ?_
            refine apl_cut [_, _, _] _ (fun K46 hK46 => ?_)
            simp (maxSteps:=999999) (disch:=omega) only [av1, av2, av3, av4, av5, av6, eq_self, exists_const, forall_const, implies_true, storeOk, thenQ, PK.cond, PK.val, Nat.reduceAdd, Nat.reduceLT, Nat.reduceMul, reduceCtorEq, ↓reduceIte, Nat.reduceEqDiff, Nat.reduceLeDiff, Nat.reduceSub, Nat.reduceBEq, Nat.reduceBNe, Int.reduceLT, Int.reduceEq, Int.reduceAdd, Int.reduceToNat, Int.reduceLE, Int.reduceBEq, Int.reduceBNe, enc1, cChan, cCSt, eqTy_Sum, eqTy_Ref, getD_map]
            (repeat ((with_reducible refine And.intro ?_ ?_); (first | trivial | assumption | omega | (simp; done))))
            refine hK46 _ ?_
            (try clear hK46)
            refine apl_cut [_] _ (fun K47 hK47 => ?_)
            simp (maxSteps:=999999) (disch:=omega) only [av1, av2, av3, av4, av5, av6, eq_self, exists_const, forall_const, implies_true, storeOk, thenQ, PK.cond, PK.val, Nat.reduceAdd, Nat.reduceLT, Nat.reduceMul, reduceCtorEq, ↓reduceIte, Nat.reduceEqDiff, Nat.reduceLeDiff, Nat.reduceSub, Nat.reduceBEq, Nat.reduceBNe, Int.reduceLT, Int.reduceEq, Int.reduceAdd, Int.reduceToNat, Int.reduceLE, Int.reduceBEq, Int.reduceBNe, enc1, cChan, cCSt, eqTy_Sum, eqTy_Ref, getD_map]
            apply Or.inl
            first | refine ⟨[], trivial, ?_⟩ | refine ⟨_, (awake15_ap), ?_⟩ | refine ⟨_, fun _ => (awake15_ap), ?_⟩ | refine ⟨_, fun h => ⟨h, (awake15_ap)⟩, ?_⟩ | refine ⟨_, fun h => ⟨by simp_all, (awake15_ap)⟩, ?_⟩ | refine ⟨[], ?_⟩
            (try simp only [rsAV, List.map_cons, List.map_nil, thenQ])
            refine hK47 _ ?_
            (try clear hK47)
            simp (maxSteps:=999999) (disch:=omega) only [av1, av2, av3, av4, av5, av6, eq_self, exists_const, forall_const, implies_true, storeOk, thenQ, PK.cond, PK.val, Nat.reduceAdd, Nat.reduceLT, Nat.reduceMul, reduceCtorEq, ↓reduceIte, Nat.reduceEqDiff, Nat.reduceLeDiff, Nat.reduceSub, Nat.reduceBEq, Nat.reduceBNe, Int.reduceLT, Int.reduceEq, Int.reduceAdd, Int.reduceToNat, Int.reduceLE, Int.reduceBEq, Int.reduceBNe, enc1, cChan, cCSt, eqTy_Sum, eqTy_Ref, getD_map]
            (repeat ((with_reducible refine And.intro ?_ ?_); (first | trivial | assumption | omega | (simp; done))))
            refine hK45 _ ?_
            (try clear hK45)
            refine at_ret ?_
            simp (maxSteps:=999999) (disch:=omega) only [av1, av2, av3, av4, av5, av6, eq_self, exists_const, forall_const, implies_true, storeOk, thenQ, PK.cond, PK.val, Nat.reduceAdd, Nat.reduceLT, Nat.reduceMul, reduceCtorEq, ↓reduceIte, Nat.reduceEqDiff, Nat.reduceLeDiff, Nat.reduceSub, Nat.reduceBEq, Nat.reduceBNe, Int.reduceLT, Int.reduceEq, Int.reduceAdd, Int.reduceToNat, Int.reduceLE, Int.reduceBEq, Int.reduceBNe, enc1, cChan, cCSt, eqTy_Sum, eqTy_Ref, getD_map, blockQ, retQ, RetOk, ResOk, AV.fin, AV.fins, CV.le, CV.les]
            all_goals refine pv_bool ?_
            all_goals first
              | rfl
              | (rw [show checkV c t j = 1 from if_pos (show jBad c t j = true by unfold jBad; assumption)]; rfl)
              | (rw [hcv]; unfold chkE; rw [if_pos (by assumption)]; rfl)
              | (rw [hcv]; unfold chkE; rw [if_neg (by rw [Bool.not_eq_true]; assumption), if_pos (by assumption)]; rfl)
              | (rw [hcv]; unfold chkE; rw [if_neg (by rw [Bool.not_eq_true]; assumption), if_neg (by rw [Bool.not_eq_false]; assumption), if_pos (by assumption)]; exact beq_self_eq_true _)
              | (rw [hcv]; unfold chkE; rw [if_neg (by rw [Bool.not_eq_true]; assumption), if_neg (by rw [Bool.not_eq_false]; assumption), if_neg (by rw [ne_eq, Decidable.not_not]; assumption), if_pos (by assumption)]; rfl)
              | (rw [hcv]; unfold chkE; rw [if_neg (by rw [Bool.not_eq_true]; assumption), if_neg (by rw [Bool.not_eq_false]; assumption), if_neg (by rw [ne_eq, Decidable.not_not]; assumption), if_neg (by simp only [Int.not_lt, gt_iff_lt]; assumption)]; rfl)
              | trace_state
          · have r44 := h44
            (try simp only [dB2] at h44)
            refine at_skip ?_
            (try simp only [thenQ, blockQ])
            refine hK37 _ ?_
            (try clear hK37)
            refine at_seq fun K48 hK48 => ?_
            refine at_region [It.mk (some 9) none (IK.p (PK.mov (Operand.const (Value.slice none 0 0))))] (by kernel_rfl) ?_
            simp (maxSteps:=999999) (disch:=omega) only [av1, av2, av3, av4, av5, av6, eq_self, exists_const, forall_const, implies_true, storeOk, thenQ, PK.cond, PK.val, Nat.reduceAdd, Nat.reduceLT, Nat.reduceMul, reduceCtorEq, ↓reduceIte, Nat.reduceEqDiff, Nat.reduceLeDiff, Nat.reduceSub, Nat.reduceBEq, Nat.reduceBNe, Int.reduceLT, Int.reduceEq, Int.reduceAdd, Int.reduceToNat, Int.reduceLE, Int.reduceBEq, Int.reduceBNe, enc1, cChan, cCSt, eqTy_Sum, eqTy_Ref, getD_map]
            (repeat ((with_reducible refine And.intro ?_ ?_); (first | trivial | assumption | omega | (simp; done))))
            refine hK48 _ ?_
            (try clear hK48)
            refine at_seq fun K49 hK49 => ?_
            refine at_seq fun K50 hK50 => ?_
            refine at_region [It.mk (some 10) none (IK.p (PK.mov (Operand.const (Value.int IntKind.i64 0))))] (by kernel_rfl) ?_
            simp (maxSteps:=999999) (disch:=omega) only [av1, av2, av3, av4, av5, av6, eq_self, exists_const, forall_const, implies_true, storeOk, thenQ, PK.cond, PK.val, Nat.reduceAdd, Nat.reduceLT, Nat.reduceMul, reduceCtorEq, ↓reduceIte, Nat.reduceEqDiff, Nat.reduceLeDiff, Nat.reduceSub, Nat.reduceBEq, Nat.reduceBNe, Int.reduceLT, Int.reduceEq, Int.reduceAdd, Int.reduceToNat, Int.reduceLE, Int.reduceBEq, Int.reduceBNe, enc1, cChan, cCSt, eqTy_Sum, eqTy_Ref, getD_map]
            (repeat ((with_reducible refine And.intro ?_ ?_); (first | trivial | assumption | omega | (simp; done))))
            refine hK50 _ ?_
            (try clear hK50)
            refine at_block ?_
            refine AT.le (Le.birth 9 2 1 rfl (by simp [B0])) ?_
            refine at_loopH [3, 4, 5, 7, 8] (fun k : { k : Nat // k ≤ O.length } => [(10, true, bi .i64 k.1), (9, true, .os 4)]) (fun k => [.cell (.c (cChan c)), .cell (.c (cTxx ⟨[x], [⟨a, [p, q]⟩, b], o, g⟩)), .cell (.c (cTxx ⟨[y], O, o2, g2⟩)), .cell (.c (cWay q)), .row 2 1 (((O.map Out.amount).take k.1).map (ic .i64))]) (fun k => O.length - k.1) ⟨0, by omega⟩ ?_ ?_
            · refine Le.same (by rfl) ?_
              simp (maxSteps:=999999) (disch:=omega) only [av1, av2, av3, av4, av5, av6, eq_self, exists_const, forall_const, implies_true, storeOk, thenQ, PK.cond, PK.val, Nat.reduceAdd, Nat.reduceLT, Nat.reduceMul, reduceCtorEq, ↓reduceIte, Nat.reduceEqDiff, Nat.reduceLeDiff, Nat.reduceSub, Nat.reduceBEq, Nat.reduceBNe, Int.reduceLT, Int.reduceEq, Int.reduceAdd, Int.reduceToNat, Int.reduceLE, Int.reduceBEq, Int.reduceBNe, enc1, cChan, cCSt, eqTy_Sum, eqTy_Ref, getD_map]
              repeat' (first | exact SubT.nil | refine SubT.cons (by first | rfl | (simp [look]; done) | (fail)) ?_)
            rintro ⟨k, hk⟩; have hO : O.length ≤ 20 := (small_sgns hsm.2).2.1; have hT : ((O.map Out.amount).take k).length ≤ k := List.length_take_le _ _
            simp (maxSteps:=999999) (disch:=omega) only [av1, av2, av3, av4, av5, av6, eq_self, exists_const, forall_const, implies_true, storeOk, thenQ, PK.cond, PK.val, Nat.reduceAdd, Nat.reduceLT, Nat.reduceMul, reduceCtorEq, ↓reduceIte, Nat.reduceEqDiff, Nat.reduceLeDiff, Nat.reduceSub, Nat.reduceBEq, Nat.reduceBNe, Int.reduceLT, Int.reduceEq, Int.reduceAdd, Int.reduceToNat, Int.reduceLE, Int.reduceBEq, Int.reduceBNe, enc1, cChan, cCSt, eqTy_Sum, eqTy_Ref, getD_map]
            refine at_seq fun K51 hK51 => ?_
            refine at_seq fun K52 hK52 => ?_
            refine at_region [It.mk (some 142) none (IK.p (PK.mov (Operand.tmp 10))), It.mk (some 143) none (IK.p (PK.fAddr (Operand.tmp 5) 1 1)), It.mk (some 144) none (IK.p (PK.load (Operand.tmp 143) 1 false)), It.mk (some 145) none (IK.p (PK.len false (Operand.tmp 144))), It.mk (some 146) none (IK.p (PK.bin BinOp.lss (Operand.tmp 142) (Operand.tmp 145)))] (by kernel_rfl) ?_
            simp (maxSteps:=999999) (disch:=omega) only [av1, av2, av3, av4, av5, av6, eq_self, exists_const, forall_const, implies_true, storeOk, thenQ, PK.cond, PK.val, Nat.reduceAdd, Nat.reduceLT, Nat.reduceMul, reduceCtorEq, ↓reduceIte, Nat.reduceEqDiff, Nat.reduceLeDiff, Nat.reduceSub, Nat.reduceBEq, Nat.reduceBNe, Int.reduceLT, Int.reduceEq, Int.reduceAdd, Int.reduceToNat, Int.reduceLE, Int.reduceBEq, Int.reduceBNe, enc1, cChan, cCSt, eqTy_Sum, eqTy_Ref, getD_map]
            (repeat ((with_reducible refine And.intro ?_ ?_); (first | trivial | assumption | omega | (simp; done))))
            refine hK52 _ ?_
            (try clear hK52)
            refine at_cond _ rfl rfl (fun h53 => ?_) (fun h53 => ?_)
            · have r53 := h53
              (try simp only [dB2] at h53)
              refine at_skip ?_
              (try simp only [thenQ, blockQ])
              refine hK51 _ ?_
              (try clear hK51)
              refine at_seq fun K54 hK54 => ?_
              refine at_block ?_
              refine at_region [It.mk (some 149) none (IK.p (PK.mov (Operand.tmp 9))), It.mk (some 150) none (IK.p (PK.fAddr (Operand.tmp 5) 1 1)), It.mk (some 151) none (IK.p (PK.load (Operand.tmp 150) 1 false)), It.mk (some 152) none (IK.p (PK.mov (Operand.tmp 10))), It.mk (some 153) none (IK.p (PK.iAddrS (Operand.tmp 151) (Operand.tmp 152) 2)), It.mk (some 154) none (IK.p (PK.fAddr (Operand.tmp 153) 0 0)), It.mk (some 155) none (IK.p (PK.load (Operand.tmp 154) 1 false)), It.mk (some 156) none (IK.lit 1 [Operand.tmp 155]), It.mk (some 157) none (IK.app (Operand.tmp 149) (Operand.tmp 156) 2 1), It.mk (some 9) none (IK.p (PK.mov (Operand.tmp 157)))] (by kernel_rfl) ?_
              simp (maxSteps:=999999) (disch:=omega) only [av1, av2, av3, av4, av5, av6, eq_self, exists_const, forall_const, implies_true, storeOk, thenQ, PK.cond, PK.val, Nat.reduceAdd, Nat.reduceLT, Nat.reduceMul, reduceCtorEq, ↓reduceIte, Nat.reduceEqDiff, Nat.reduceLeDiff, Nat.reduceSub, Nat.reduceBEq, Nat.reduceBNe, Int.reduceLT, Int.reduceEq, Int.reduceAdd, Int.reduceToNat, Int.reduceLE, Int.reduceBEq, Int.reduceBNe, enc1, cChan, cCSt, eqTy_Sum, eqTy_Ref, getD_map]
              (repeat ((with_reducible refine And.intro ?_ ?_); (first | trivial | assumption | omega | (simp; done))))
              (try simp only [blockQ])
              refine hK54 _ ?_
              (try clear hK54)
              refine at_region [It.mk (some 147) none (IK.p (PK.mov (Operand.tmp 10))), It.mk (some 148) none (IK.p (PK.bin BinOp.add (Operand.tmp 147) (Operand.const (Value.int IntKind.i64 1)))), It.mk (some 10) none (IK.p (PK.mov (Operand.tmp 148)))] (by kernel_rfl) ?_
              simp (maxSteps:=999999) (disch:=omega) only [av1, av2, av3, av4, av5, av6, eq_self, exists_const, forall_const, implies_true, storeOk, thenQ, PK.cond, PK.val, Nat.reduceAdd, Nat.reduceLT, Nat.reduceMul, reduceCtorEq, ↓reduceIte, Nat.reduceEqDiff, Nat.reduceLeDiff, Nat.reduceSub, Nat.reduceBEq, Nat.reduceBNe, Int.reduceLT, Int.reduceEq, Int.reduceAdd, Int.reduceToNat, Int.reduceLE, Int.reduceBEq, Int.reduceBNe, enc1, cChan, cCSt, eqTy_Sum, eqTy_Ref, getD_map]
              (repeat ((with_reducible refine And.intro ?_ ?_); (first | trivial | assumption | omega | (simp; done))))
              refine ⟨⟨k + 1, by omega⟩, by (dsimp only; omega), ?_⟩
              refine Le.same (by (dsimp only; rw [amounts_next (by omega)])) ?_
              (try simp (maxSteps:=999999) (disch:=omega) only [av1, av2, av3, av4, av5, av6, eq_self, exists_const, forall_const, implies_true, storeOk, thenQ, PK.cond, PK.val, Nat.reduceAdd, Nat.reduceLT, Nat.reduceMul, reduceCtorEq, ↓reduceIte, Nat.reduceEqDiff, Nat.reduceLeDiff, Nat.reduceSub, Nat.reduceBEq, Nat.reduceBNe, Int.reduceLT, Int.reduceEq, Int.reduceAdd, Int.reduceToNat, Int.reduceLE, Int.reduceBEq, Int.reduceBNe, enc1, cChan, cCSt, eqTy_Sum, eqTy_Ref, getD_map])
              repeat' (first | exact SubT.nil | refine SubT.cons ?_ ?_)
              all_goals (first | rfl | (simp only [look, Nat.reduceEqDiff, ↓reduceIte]; first | rfl | ((rw [wrap64 (by omega) (by omega)]; rfl))))
            · have r53 := h53
              (try simp only [dB2] at h53)
              refine at_exit ?_
              simp only [thenQ, blockQ, if_true]
              refine hK49 _ ?_
              (try clear hK49)
              refine at_seq fun K55 hK55 => ?_
              have e0 : (O.map Out.amount).take k = O.map Out.amount := List.take_of_length_le (by simp; omega)
              rw [e0]
              refine at_region [It.mk (some 159) none (IK.p (PK.mov (Operand.tmp 9))), It.mk (some 160) none (IK.call 71 [Operand.tmp 159]), It.mk (some 158) none (IK.p (PK.mov (Operand.tmp 160))), It.mk (some 161) none (IK.p (PK.ext (Operand.tmp 158) 0)), It.mk (some 162) none (IK.p (PK.ext (Operand.tmp 158) 1)), It.mk (some 11) none (IK.p (PK.mov (Operand.tmp 161))), It.mk (some 12) none (IK.p (PK.mov (Operand.tmp 162)))] (by kernel_rfl) ?_
              refine apl_cut [_] _ (fun K56 hK56 => ?_)
              simp (maxSteps:=999999) (disch:=omega) only [av1, av2, av3, av4, av5, av6, eq_self, exists_const, forall_const, implies_true, storeOk, thenQ, PK.cond, PK.val, Nat.reduceAdd, Nat.reduceLT, Nat.reduceMul, reduceCtorEq, ↓reduceIte, Nat.reduceEqDiff, Nat.reduceLeDiff, Nat.reduceSub, Nat.reduceBEq, Nat.reduceBNe, Int.reduceLT, Int.reduceEq, Int.reduceAdd, Int.reduceToNat, Int.reduceLE, Int.reduceBEq, Int.reduceBNe, enc1, cChan, cCSt, eqTy_Sum, eqTy_Ref, getD_map]
              (repeat ((with_reducible refine And.intro ?_ ?_); (first | trivial | assumption | omega | (simp; done))))
              refine hK56 _ ?_
              (try clear hK56)
              refine apl_cut [_] _ (fun K57 hK57 => ?_)
              simp (maxSteps:=999999) (disch:=omega) only [av1, av2, av3, av4, av5, av6, eq_self, exists_const, forall_const, implies_true, storeOk, thenQ, PK.cond, PK.val, Nat.reduceAdd, Nat.reduceLT, Nat.reduceMul, reduceCtorEq, ↓reduceIte, Nat.reduceEqDiff, Nat.reduceLeDiff, Nat.reduceSub, Nat.reduceBEq, Nat.reduceBNe, Int.reduceLT, Int.reduceEq, Int.reduceAdd, Int.reduceToNat, Int.reduceLE, Int.reduceBEq, Int.reduceBNe, enc1, cChan, cCSt, eqTy_Sum, eqTy_Ref, getD_map]
              refine Or.inr (callX_read (coinAdd_ap (O.map Out.amount) (by have := (small_sgns hsm.2).2.1; dsimp only at this; simp; omega)) (by simp [av6, ic, cChan, cRef, cSum, cCSt, ints, eqTy_Sum, eqTy_Ref, cTxx, cOut, cWay, cInp, cOpx, cSgn] <;> rfl) rfl rfl rfl ?_)
              simp (maxSteps:=999999) (disch:=omega) only [av1, av2, av3, av4, av5, av6, eq_self, exists_const, forall_const, implies_true, storeOk, thenQ, PK.cond, PK.val, Nat.reduceAdd, Nat.reduceLT, Nat.reduceMul, reduceCtorEq, ↓reduceIte, Nat.reduceEqDiff, Nat.reduceLeDiff, Nat.reduceSub, Nat.reduceBEq, Nat.reduceBNe, Int.reduceLT, Int.reduceEq, Int.reduceAdd, Int.reduceToNat, Int.reduceLE, Int.reduceBEq, Int.reduceBNe, enc1, cChan, cCSt, eqTy_Sum, eqTy_Ref, getD_map]
              refine hK57 _ ?_
              (try clear hK57)
              simp (maxSteps:=999999) (disch:=omega) only [av1, av2, av3, av4, av5, av6, eq_self, exists_const, forall_const, implies_true, storeOk, thenQ, PK.cond, PK.val, Nat.reduceAdd, Nat.reduceLT, Nat.reduceMul, reduceCtorEq, ↓reduceIte, Nat.reduceEqDiff, Nat.reduceLeDiff, Nat.reduceSub, Nat.reduceBEq, Nat.reduceBNe, Int.reduceLT, Int.reduceEq, Int.reduceAdd, Int.reduceToNat, Int.reduceLE, Int.reduceBEq, Int.reduceBNe, enc1, cChan, cCSt, eqTy_Sum, eqTy_Ref, getD_map]
              (repeat ((with_reducible refine And.intro ?_ ?_); (first | trivial | assumption | omega | (simp; done))))
              refine hK55 _ ?_
              (try clear hK55)
              refine at_seq fun K58 hK58 => ?_
              refine at_seq fun K59 hK59 => ?_
              refine at_region [It.mk (some 163) none (IK.p (PK.mov (Operand.tmp 12))), It.mk (some 164) none (IK.p (PK.bin BinOp.neq (Operand.tmp 163) (Operand.const (Value.int IntKind.i64 0))))] (by kernel_rfl) ?_
              simp (maxSteps:=999999) (disch:=omega) only [av1, av2, av3, av4, av5, av6, eq_self, exists_const, forall_const, implies_true, storeOk, thenQ, PK.cond, PK.val, Nat.reduceAdd, Nat.reduceLT, Nat.reduceMul, reduceCtorEq, ↓reduceIte, Nat.reduceEqDiff, Nat.reduceLeDiff, Nat.reduceSub, Nat.reduceBEq, Nat.reduceBNe, Int.reduceLT, Int.reduceEq, Int.reduceAdd, Int.reduceToNat, Int.reduceLE, Int.reduceBEq, Int.reduceBNe, enc1, cChan, cCSt, eqTy_Sum, eqTy_Ref, getD_map]
              (repeat ((with_reducible refine And.intro ?_ ?_); (first | trivial | assumption | omega | (simp; done))))
              refine hK59 _ ?_
              (try clear hK59)
              refine at_cond _ rfl rfl (fun h60 => ?_) (fun h60 => ?_)
              · have r60 := h60
                (try simp only [dB2] at h60)
                refine at_seq fun K61 hK61 => ?_
                refine at_region [It.mk (some 165) none (IK.p (PK.mov (Operand.tmp 7))), It.mk (some 166) none (IK.p (PK.mov (Operand.tmp 12))), It.mk (some 167) none (IK.p (PK.bin BinOp.eql (Operand.tmp 165) (Operand.tmp 166))), It.mk (some 168) none (IK.p (PK.mov (Operand.tmp 167))), It.mk (some 169) (some (168, true)) (IK.call 67 []), It.mk (some 170) none (IK.p (PK.pick (Operand.tmp 168) (Operand.tmp 169) (Operand.const (Value.bool false)))), It.mk (some 6) none (IK.p (PK.mov (Operand.tmp 170)))] (by kernel_rfl) ?_
                refine apl_cut [_, _, _, _] _ (fun K62 hK62 => ?_)
                simp (maxSteps:=999999) (disch:=omega) only [av1, av2, av3, av4, av5, av6, eq_self, exists_const, forall_const, implies_true, storeOk, thenQ, PK.cond, PK.val, Nat.reduceAdd, Nat.reduceLT, Nat.reduceMul, reduceCtorEq, ↓reduceIte, Nat.reduceEqDiff, Nat.reduceLeDiff, Nat.reduceSub, Nat.reduceBEq, Nat.reduceBNe, Int.reduceLT, Int.reduceEq, Int.reduceAdd, Int.reduceToNat, Int.reduceLE, Int.reduceBEq, Int.reduceBNe, enc1, cChan, cCSt, eqTy_Sum, eqTy_Ref, getD_map]
                (repeat ((with_reducible refine And.intro ?_ ?_); (first | trivial | assumption | omega | (simp; done))))
                refine hK62 _ ?_
                (try clear hK62)
                refine apl_cut [_] _ (fun K63 hK63 => ?_)
                simp (maxSteps:=999999) (disch:=omega) only [av1, av2, av3, av4, av5, av6, eq_self, exists_const, forall_const, implies_true, storeOk, thenQ, PK.cond, PK.val, Nat.reduceAdd, Nat.reduceLT, Nat.reduceMul, reduceCtorEq, ↓reduceIte, Nat.reduceEqDiff, Nat.reduceLeDiff, Nat.reduceSub, Nat.reduceBEq, Nat.reduceBNe, Int.reduceLT, Int.reduceEq, Int.reduceAdd, Int.reduceToNat, Int.reduceLE, Int.reduceBEq, Int.reduceBNe, enc1, cChan, cCSt, eqTy_Sum, eqTy_Ref, getD_map]
                apply Or.inl
                first | refine ⟨[], trivial, ?_⟩ | refine ⟨_, (awake15_ap), ?_⟩ | refine ⟨_, fun _ => (awake15_ap), ?_⟩ | refine ⟨_, fun h => ⟨h, (awake15_ap)⟩, ?_⟩ | refine ⟨_, fun h => ⟨by simp_all, (awake15_ap)⟩, ?_⟩ | refine ⟨[], ?_⟩
                (try simp only [rsAV, List.map_cons, List.map_nil, thenQ])
                refine hK63 _ ?_
                (try clear hK63)
                simp (maxSteps:=999999) (disch:=omega) only [av1, av2, av3, av4, av5, av6, eq_self, exists_const, forall_const, implies_true, storeOk, thenQ, PK.cond, PK.val, Nat.reduceAdd, Nat.reduceLT, Nat.reduceMul, reduceCtorEq, ↓reduceIte, Nat.reduceEqDiff, Nat.reduceLeDiff, Nat.reduceSub, Nat.reduceBEq, Nat.reduceBNe, Int.reduceLT, Int.reduceEq, Int.reduceAdd, Int.reduceToNat, Int.reduceLE, Int.reduceBEq, Int.reduceBNe, enc1, cChan, cCSt, eqTy_Sum, eqTy_Ref, getD_map]
                (repeat ((with_reducible refine And.intro ?_ ?_); (first | trivial | assumption | omega | (simp; done))))
                refine hK61 _ ?_
                (try clear hK61)
                refine at_ret ?_
                simp (maxSteps:=999999) (disch:=omega) only [av1, av2, av3, av4, av5, av6, eq_self, exists_const, forall_const, implies_true, storeOk, thenQ, PK.cond, PK.val, Nat.reduceAdd, Nat.reduceLT, Nat.reduceMul, reduceCtorEq, ↓reduceIte, Nat.reduceEqDiff, Nat.reduceLeDiff, Nat.reduceSub, Nat.reduceBEq, Nat.reduceBNe, Int.reduceLT, Int.reduceEq, Int.reduceAdd, Int.reduceToNat, Int.reduceLE, Int.reduceBEq, Int.reduceBNe, enc1, cChan, cCSt, eqTy_Sum, eqTy_Ref, getD_map, blockQ, retQ, RetOk, ResOk, AV.fin, AV.fins, CV.le, CV.les]
                all_goals refine pv_bool ?_
                all_goals first
                  | rfl
                  | (rw [show checkV c t j = 1 from if_pos (show jBad c t j = true by unfold jBad; assumption)]; rfl)
                  | (rw [hcv]; unfold chkE; rw [if_pos (by assumption)]; rfl)
                  | (rw [hcv]; unfold chkE; rw [if_neg (by rw [Bool.not_eq_true]; assumption), if_pos (by assumption)]; rfl)
                  | (rw [hcv]; unfold chkE; rw [if_neg (by rw [Bool.not_eq_true]; assumption), if_neg (by rw [Bool.not_eq_false]; assumption), if_pos (by assumption)]; exact beq_self_eq_true _)
                  | (rw [hcv]; unfold chkE; rw [if_neg (by rw [Bool.not_eq_true]; assumption), if_neg (by rw [Bool.not_eq_false]; assumption), if_neg (by rw [ne_eq, Decidable.not_not]; assumption), if_pos (by assumption)]; rfl)
                  | (rw [hcv]; unfold chkE; rw [if_neg (by rw [Bool.not_eq_true]; assumption), if_neg (by rw [Bool.not_eq_false]; assumption), if_neg (by rw [ne_eq, Decidable.not_not]; assumption), if_neg (by simp only [Int.not_lt, gt_iff_lt]; assumption)]; rfl)
                  | trace_state
              · have r60 := h60
                (try simp only [dB2] at h60)
                refine at_skip ?_
                (try simp only [thenQ, blockQ])
                refine hK58 _ ?_
                (try clear hK58)
                refine at_seq fun K64 hK64 => ?_
                refine at_seq fun K65 hK65 => ?_
                refine at_region [It.mk (some 171) none (IK.p (PK.mov (Operand.tmp 11))), It.mk (some 172) none (IK.p (PK.fAddr (Operand.tmp 4) 1 1)), It.mk (some 173) none (IK.p (PK.load (Operand.tmp 172) 1 false)), It.mk (some 174) none (IK.p (PK.iAddrS (Operand.tmp 173) (Operand.const (Value.int IntKind.i64 0)) 2)), It.mk (some 175) none (IK.p (PK.fAddr (Operand.tmp 174) 0 0)), It.mk (some 176) none (IK.p (PK.load (Operand.tmp 175) 1 false)), It.mk (some 177) none (IK.p (PK.bin BinOp.gtr (Operand.tmp 171) (Operand.tmp 176)))] (by kernel_rfl) ?_
                simp (maxSteps:=999999) (disch:=omega) only [av1, av2, av3, av4, av5, av6, eq_self, exists_const, forall_const, implies_true, storeOk, thenQ, PK.cond, PK.val, Nat.reduceAdd, Nat.reduceLT, Nat.reduceMul, reduceCtorEq, ↓reduceIte, Nat.reduceEqDiff, Nat.reduceLeDiff, Nat.reduceSub, Nat.reduceBEq, Nat.reduceBNe, Int.reduceLT, Int.reduceEq, Int.reduceAdd, Int.reduceToNat, Int.reduceLE, Int.reduceBEq, Int.reduceBNe, enc1, cChan, cCSt, eqTy_Sum, eqTy_Ref, getD_map]
                (repeat ((with_reducible refine And.intro ?_ ?_); (first | trivial | assumption | omega | (simp; done))))
                refine hK65 _ ?_
                (try clear hK65)
                refine at_cond _ rfl rfl (fun h66 => ?_) (fun h66 => ?_)
                · have r66 := h66
                  (try simp only [dB2] at h66)
                  refine at_seq fun K67 hK67 => ?_
                  refine at_region [It.mk (some 178) none (IK.p (PK.mov (Operand.tmp 7))), It.mk (some 179) none (IK.p (PK.bin BinOp.eql (Operand.tmp 178) (Operand.const (Value.int IntKind.i64 14)))), It.mk (some 180) none (IK.p (PK.mov (Operand.tmp 179))), It.mk (some 181) (some (180, true)) (IK.call 67 []), It.mk (some 182) none (IK.p (PK.pick (Operand.tmp 180) (Operand.tmp 181) (Operand.const (Value.bool false)))), It.mk (some 6) none (IK.p (PK.mov (Operand.tmp 182)))] (by kernel_rfl) ?_
                  refine apl_cut [_, _, _] _ (fun K68 hK68 => ?_)
                  simp (maxSteps:=999999) (disch:=omega) only [av1, av2, av3, av4, av5, av6, eq_self, exists_const, forall_const, implies_true, storeOk, thenQ, PK.cond, PK.val, Nat.reduceAdd, Nat.reduceLT, Nat.reduceMul, reduceCtorEq, ↓reduceIte, Nat.reduceEqDiff, Nat.reduceLeDiff, Nat.reduceSub, Nat.reduceBEq, Nat.reduceBNe, Int.reduceLT, Int.reduceEq, Int.reduceAdd, Int.reduceToNat, Int.reduceLE, Int.reduceBEq, Int.reduceBNe, enc1, cChan, cCSt, eqTy_Sum, eqTy_Ref, getD_map]
                  (repeat ((with_reducible refine And.intro ?_ ?_); (first | trivial | assumption | omega | (simp; done))))
                  refine hK68 _ ?_
                  (try clear hK68)
                  refine apl_cut [_] _ (fun K69 hK69 => ?_)
                  simp (maxSteps:=999999) (disch:=omega) only [av1, av2, av3, av4, av5, av6, eq_self, exists_const, forall_const, implies_true, storeOk, thenQ, PK.cond, PK.val, Nat.reduceAdd, Nat.reduceLT, Nat.reduceMul, reduceCtorEq, ↓reduceIte, Nat.reduceEqDiff, Nat.reduceLeDiff, Nat.reduceSub, Nat.reduceBEq, Nat.reduceBNe, Int.reduceLT, Int.reduceEq, Int.reduceAdd, Int.reduceToNat, Int.reduceLE, Int.reduceBEq, Int.reduceBNe, enc1, cChan, cCSt, eqTy_Sum, eqTy_Ref, getD_map]
                  apply Or.inl
                  first | refine ⟨[], trivial, ?_⟩ | refine ⟨_, (awake15_ap), ?_⟩ | refine ⟨_, fun _ => (awake15_ap), ?_⟩ | refine ⟨_, fun h => ⟨h, (awake15_ap)⟩, ?_⟩ | refine ⟨_, fun h => ⟨by simp_all, (awake15_ap)⟩, ?_⟩ | refine ⟨[], ?_⟩
                  (try simp only [rsAV, List.map_cons, List.map_nil, thenQ])
                  refine hK69 _ ?_
                  (try clear hK69)
                  simp (maxSteps:=999999) (disch:=omega) only [av1, av2, av3, av4, av5, av6, eq_self, exists_const, forall_const, implies_true, storeOk, thenQ, PK.cond, PK.val, Nat.reduceAdd, Nat.reduceLT, Nat.reduceMul, reduceCtorEq, ↓reduceIte, Nat.reduceEqDiff, Nat.reduceLeDiff, Nat.reduceSub, Nat.reduceBEq, Nat.reduceBNe, Int.reduceLT, Int.reduceEq, Int.reduceAdd, Int.reduceToNat, Int.reduceLE, Int.reduceBEq, Int.reduceBNe, enc1, cChan, cCSt, eqTy_Sum, eqTy_Ref, getD_map]
                  (repeat ((with_reducible refine And.intro ?_ ?_); (first | trivial | assumption | omega | (simp; done))))
                  refine hK67 _ ?_
                  (try clear hK67)
                  refine at_ret ?_
                  simp (maxSteps:=999999) (disch:=omega) only [av1, av2, av3, av4, av5, av6, eq_self, exists_const, forall_const, implies_true, storeOk, thenQ, PK.cond, PK.val, Nat.reduceAdd, Nat.reduceLT, Nat.reduceMul, reduceCtorEq, ↓reduceIte, Nat.reduceEqDiff, Nat.reduceLeDiff, Nat.reduceSub, Nat.reduceBEq, Nat.reduceBNe, Int.reduceLT, Int.reduceEq, Int.reduceAdd, Int.reduceToNat, Int.reduceLE, Int.reduceBEq, Int.reduceBNe, enc1, cChan, cCSt, eqTy_Sum, eqTy_Ref, getD_map, blockQ, retQ, RetOk, ResOk, AV.fin, AV.fins, CV.le, CV.les]
                  all_goals refine pv_bool ?_
                  all_goals first
                    | rfl
                    | (rw [show checkV c t j = 1 from if_pos (show jBad c t j = true by unfold jBad; assumption)]; rfl)
                    | (rw [hcv]; unfold chkE; rw [if_pos (by assumption)]; rfl)
                    | (rw [hcv]; unfold chkE; rw [if_neg (by rw [Bool.not_eq_true]; assumption), if_pos (by assumption)]; rfl)
                    | (rw [hcv]; unfold chkE; rw [if_neg (by rw [Bool.not_eq_true]; assumption), if_neg (by rw [Bool.not_eq_false]; assumption), if_pos (by assumption)]; exact beq_self_eq_true _)
                    | (rw [hcv]; unfold chkE; rw [if_neg (by rw [Bool.not_eq_true]; assumption), if_neg (by rw [Bool.not_eq_false]; assumption), if_neg (by rw [ne_eq, Decidable.not_not]; assumption), if_pos (by assumption)]; rfl)
                    | (rw [hcv]; unfold chkE; rw [if_neg (by rw [Bool.not_eq_true]; assumption), if_neg (by rw [Bool.not_eq_false]; assumption), if_neg (by rw [ne_eq, Decidable.not_not]; assumption), if_neg (by simp only [Int.not_lt, gt_iff_lt]; assumption)]; rfl)
                    | trace_state
                · have r66 := h66
                  (try simp only [dB2] at h66)
                  refine at_skip ?_
                  (try simp only [thenQ, blockQ])
                  refine hK64 _ ?_
                  (try clear hK64)
                  refine at_seq fun K70 hK70 => ?_
                  refine at_region [It.mk (some 183) none (IK.p (PK.mov (Operand.tmp 7))), It.mk (some 184) none (IK.p (PK.bin BinOp.eql (Operand.tmp 183) (Operand.const (Value.int IntKind.i64 0)))), It.mk (some 185) none (IK.p (PK.mov (Operand.tmp 184))), It.mk (some 186) (some (185, true)) (IK.call 67 []), It.mk (some 187) none (IK.p (PK.pick (Operand.tmp 185) (Operand.tmp 186) (Operand.const (Value.bool false)))), It.mk (some 6) none (IK.p (PK.mov (Operand.tmp 187)))] (by kernel_rfl) ?_
                  refine apl_cut [_, _, _] _ (fun K71 hK71 => ?_)
                  simp (maxSteps:=999999) (disch:=omega) only [av1, av2, av3, av4, av5, av6, eq_self, exists_const, forall_const, implies_true, storeOk, thenQ, PK.cond, PK.val, Nat.reduceAdd, Nat.reduceLT, Nat.reduceMul, reduceCtorEq, ↓reduceIte, Nat.reduceEqDiff, Nat.reduceLeDiff, Nat.reduceSub, Nat.reduceBEq, Nat.reduceBNe, Int.reduceLT, Int.reduceEq, Int.reduceAdd, Int.reduceToNat, Int.reduceLE, Int.reduceBEq, Int.reduceBNe, enc1, cChan, cCSt, eqTy_Sum, eqTy_Ref, getD_map]
                  (repeat ((with_reducible refine And.intro ?_ ?_); (first | trivial | assumption | omega | (simp; done))))
                  refine hK71 _ ?_
                  (try clear hK71)
                  refine apl_cut [_] _ (fun K72 hK72 => ?_)
                  simp (maxSteps:=999999) (disch:=omega) only [av1, av2, av3, av4, av5, av6, eq_self, exists_const, forall_const, implies_true, storeOk, thenQ, PK.cond, PK.val, Nat.reduceAdd, Nat.reduceLT, Nat.reduceMul, reduceCtorEq, ↓reduceIte, Nat.reduceEqDiff, Nat.reduceLeDiff, Nat.reduceSub, Nat.reduceBEq, Nat.reduceBNe, Int.reduceLT, Int.reduceEq, Int.reduceAdd, Int.reduceToNat, Int.reduceLE, Int.reduceBEq, Int.reduceBNe, enc1, cChan, cCSt, eqTy_Sum, eqTy_Ref, getD_map]
                  apply Or.inl
                  first | refine ⟨[], trivial, ?_⟩ | refine ⟨_, (awake15_ap), ?_⟩ | refine ⟨_, fun _ => (awake15_ap), ?_⟩ | refine ⟨_, fun h => ⟨h, (awake15_ap)⟩, ?_⟩ | refine ⟨_, fun h => ⟨by simp_all, (awake15_ap)⟩, ?_⟩ | refine ⟨[], ?_⟩
                  (try simp only [rsAV, List.map_cons, List.map_nil, thenQ])
                  refine hK72 _ ?_
                  (try clear hK72)
                  simp (maxSteps:=999999) (disch:=omega) only [av1, av2, av3, av4, av5, av6, eq_self, exists_const, forall_const, implies_true, storeOk, thenQ, PK.cond, PK.val, Nat.reduceAdd, Nat.reduceLT, Nat.reduceMul, reduceCtorEq, ↓reduceIte, Nat.reduceEqDiff, Nat.reduceLeDiff, Nat.reduceSub, Nat.reduceBEq, Nat.reduceBNe, Int.reduceLT, Int.reduceEq, Int.reduceAdd, Int.reduceToNat, Int.reduceLE, Int.reduceBEq, Int.reduceBNe, enc1, cChan, cCSt, eqTy_Sum, eqTy_Ref, getD_map]
                  (repeat ((with_reducible refine And.intro ?_ ?_); (first | trivial | assumption | omega | (simp; done))))
                  refine hK70 _ ?_
                  (try clear hK70)
                  refine at_ret ?_
                  simp (maxSteps:=999999) (disch:=omega) only [av1, av2, av3, av4, av5, av6, eq_self, exists_const, forall_const, implies_true, storeOk, thenQ, PK.cond, PK.val, Nat.reduceAdd, Nat.reduceLT, Nat.reduceMul, reduceCtorEq, ↓reduceIte, Nat.reduceEqDiff, Nat.reduceLeDiff, Nat.reduceSub, Nat.reduceBEq, Nat.reduceBNe, Int.reduceLT, Int.reduceEq, Int.reduceAdd, Int.reduceToNat, Int.reduceLE, Int.reduceBEq, Int.reduceBNe, enc1, cChan, cCSt, eqTy_Sum, eqTy_Ref, getD_map, blockQ, retQ, RetOk, ResOk, AV.fin, AV.fins, CV.le, CV.les]
                  all_goals refine pv_bool ?_
                  all_goals first
                    | rfl
                    | (rw [show checkV c t j = 1 from if_pos (show jBad c t j = true by unfold jBad; assumption)]; rfl)
                    | (rw [hcv]; unfold chkE; rw [if_pos (by assumption)]; rfl)
                    | (rw [hcv]; unfold chkE; rw [if_neg (by rw [Bool.not_eq_true]; assumption), if_pos (by assumption)]; rfl)
                    | (rw [hcv]; unfold chkE; rw [if_neg (by rw [Bool.not_eq_true]; assumption), if_neg (by rw [Bool.not_eq_false]; assumption), if_pos (by assumption)]; exact beq_self_eq_true _)
                    | (rw [hcv]; unfold chkE; rw [if_neg (by rw [Bool.not_eq_true]; assumption), if_neg (by rw [Bool.not_eq_false]; assumption), if_neg (by rw [ne_eq, Decidable.not_not]; assumption), if_pos (by assumption)]; rfl)
                    | (rw [hcv]; unfold chkE; rw [if_neg (by rw [Bool.not_eq_true]; assumption), if_neg (by rw [Bool.not_eq_false]; assumption), if_neg (by rw [ne_eq, Decidable.not_not]; assumption), if_neg (by simp only [Int.not_lt, gt_iff_lt]; assumption)]; rfl)
                    | trace_state
end Go.Proofs.Ytcghjnegaiiieaa
namespace Go.Proofs.Ytcghjnegaiiieaa
open Go.RowKit
theorem inp_flat {w : World} {F : Nat → Prop} {cs : List Value} {t : List Int} {i y : Int} {p : List Int} (h : RCons RRef 33 (RCons (RInt .i64) 1 (RCons (RSl (RInt .u8) 1) 1 RNil)) w F cs ((t, i), y, p, ())) : RInp w F cs ⟨t, i, y, p⟩ := by
  obtain ⟨c, d, rfl, hl, ⟨c1, c2, rfl, hl1, ha, c3, c4, rfl, hl2, hb, hnil⟩, h2⟩ := h
  have hnil : c4 = [] := hnil
  subst hnil
  exact ⟨c1, c3 ++ d, by simp, hl1, ha, c3, d, rfl, hl2, hb, h2⟩
set_option maxRecDepth 100000 in
theorem got_inp : Got Try.prog 96 RInp := fun H enc W m cs x hx => by
  obtain ⟨⟨⟨t, i⟩, y, p, u⟩, h⟩ := got_st Try.underlying96 (by kernel_rfl) (gotF_cons (n := 33) rfl (by kernel_rfl) got_ref (gotF_cons (n := 1) rfl (by kernel_rfl) (got_int Try.underlying3) (gotF_cons (n := 1) rfl (by kernel_rfl) (got_sl Try.underlying27 (size := 1) (by kernel_rfl) (by decide) (got_int Try.underlying5)) (gotF_nil _)))) H enc W m cs x hx
  exact ⟨_, inp_flat h⟩
set_option maxRecDepth 100000 in
theorem got_sgn : Got Try.prog 177 RSgn := by
  unfold RSgn
  exact got_by (got_st Try.underlying177 (by kernel_rfl) (gotF_cons (n := 1) rfl (by kernel_rfl) (got_int Try.underlying3) (gotF_cons (n := 32) rfl (by kernel_rfl) (got_arr Try.underlying24 Try.underlying5 (by kernel_rfl) (by kernel_rfl)) (gotF_nil _)))) (fun x : Sgn => (x.key, x.of_, ())) (fun p => ⟨p.1, p.2.1⟩) (fun _ => rfl)
set_option maxRecDepth 100000 in
theorem got_opx : Got Try.prog 87 ROpx := by
  unfold ROpx
  exact got_by (got_st Try.underlying87 (by kernel_rfl) (gotF_cons (n := 1) rfl (by kernel_rfl) (got_int Try.underlying3) (gotF_cons (n := 1) rfl (by kernel_rfl) (got_int Try.underlying3) (gotF_cons (n := 1) rfl (by kernel_rfl) (got_int Try.underlying3) (gotF_cons (n := 1) rfl (by kernel_rfl) (got_int Try.underlying2) (gotF_cons (n := 32) rfl (by kernel_rfl) (got_arr Try.underlying24 Try.underlying5 (by kernel_rfl) (by kernel_rfl)) (gotF_cons (n := 1) rfl (by kernel_rfl) (got_sl Try.underlying27 (size := 1) (by kernel_rfl) (by decide) (got_int Try.underlying5)) (gotF_nil _)))))))) (fun x : Opx => (x.kind, x.tower, x.channel, x.amount, x.root, x.data, ())) (fun p => ⟨p.1, p.2.1, p.2.2.1, p.2.2.2.1, p.2.2.2.2.1, p.2.2.2.2.2.1⟩) (fun _ => rfl)
set_option maxRecDepth 100000 in
theorem got_tx : Got Try.prog 90 RTxx := by
  unfold RTxx
  exact got_by (got_st Try.underlying90 (by kernel_rfl) (gotF_cons (n := 1) rfl (by kernel_rfl) (got_sl Try.underlying84 (size := 35) (by kernel_rfl) (by decide) got_inp) (gotF_cons (n := 1) rfl (by kernel_rfl) (got_sl Try.underlying85 (size := 2) (by kernel_rfl) (by decide) got_out) (gotF_cons (n := 37) rfl (by kernel_rfl) got_opx (gotF_cons (n := 1) rfl (by kernel_rfl) (got_sl Try.underlying88 (size := 33) (by kernel_rfl) (by decide) got_sgn) (gotF_nil _)))))) (fun t : Txx => (t.ins, t.outs, t.op, t.sgns, ())) (fun p => ⟨p.1, p.2.1, p.2.2.1, p.2.2.2.1⟩) (fun _ => rfl)
end Go.Proofs.Ytcghjnegaiiieaa
namespace Go.Proofs.Ytcghjnegaiiieaa.justiceChecks
open Go.ChangeShapes Go.WideShapes Go.ChangeAt Go.RowKit
open Go.ChangeMaps (open_string shut_string)
theorem own : ownKnob Try.prog.godebug = none := by kernel_rfl
theorem laidOut : laidOutB Try.prog = true := by kernel_rfl
theorem reads : (Try.f11.params.toList.all fun t => Try.prog.readableRec t && decide (t < Try.prog.types.size)) = true := by kernel_rfl
set_option maxRecDepth 100000 in
theorem walk {H : Type} {enc : TypeId × Value → H} (W : World) (base : Nat) (args : Array Value) (ds : List (DataW H)) (ps : List MemPlace)
    (hval : ∀ (j : Nat) t v, Try.f11.params[j]? = some t → args[j]? = some v → Value.okWide Try.prog W .any base t v)
    (hA : DataW.TrodAll enc Try.prog W 0 (fun _ => true) true Try.f11.params.toList args.toList ds ps)
    (hsz : (DataW.weightsEach Try.prog Try.f11.params.toList ds).all (· ≤ reachBytes) = true) :
    Calls Try.prog 11 args W fun e W' => e = .returned (.bool true) ∧ Below W.heap.size W W' := by
  rw [Try.params11] at hA hval hsz
  obtain ⟨v0, vs0, d0, ds0, p0, q0, hargs, rfl, rfl, h0, r0⟩ := trodAll_cons hA
  obtain ⟨v1, vs1, d1, ds1, p1, q1, rfl, rfl, rfl, h1, r1⟩ := trodAll_cons r0
  obtain ⟨v2, vs2, d2, ds2, p2, q2, rfl, rfl, rfl, h2, r2⟩ := trodAll_cons r1
  obtain ⟨rfl, rfl, rfl⟩ := trodAll_nil r2
  obtain rfl : args = #[v0, v1, v2] := by cases args; simp_all
  obtain ⟨c, hc⟩ := got_arg got_chan h0
  obtain ⟨t, ht⟩ := got_arg got_tx h1
  obtain ⟨j, hj⟩ := got_arg got_tx h2
  obtain ⟨hr, ok⟩ := arg_rep brgChan hc (agg_arg Try.underlying64 (hval 0 64 v0 rfl rfl))
  obtain ⟨hr1, ok1⟩ := arg_rep brgTxx ht (agg_arg Try.underlying90 (hval 1 90 v1 rfl rfl))
  obtain ⟨hr2, ok2⟩ := arg_rep brgTxx hj (agg_arg Try.underlying90 (hval 2 90 v2 rfl rfl))
  exact law_of_ap (justiceChecks_ap c t j ok1 ok2) W [v0, v1, v2] (by simp only [List.map_cons, List.map_nil, AV.repVs, AV.repV]; exact ⟨v0, _, rfl, hr, v1, _, rfl, hr1, v2, _, rfl, hr2, rfl⟩)
theorem lifted (os : Os) (started : os.Started) (H : Type) (enc : TypeId × Value → H) :
    ReturnsInHanded {} Try.checked os 11 .any (Rows.justiceChecksSpec.pre6 enc Try.prog Try.f11 Rows.justiceChecksRow.domain false) (Rows.justiceChecksSpec.post enc Try.prog Try.f11 false true false false) :=
  lawLift (C := Try.checked) own started (by kernel_rfl) Try.func11
    (ChangeSpec.witness6 (enc := enc) (C := Try.checked) false ⟨#[], #[.agg #[.int .i64 0, .int .i64 0, .int .i64 0, .int .u8 0, .int .u8 0, .int .u8 0, .int .u8 0, .int .u8 0, .int .u8 0, .int .u8 0, .int .u8 0, .int .u8 0, .int .u8 0, .int .u8 0, .int .u8 0, .int .u8 0, .int .u8 0, .int .u8 0, .int .u8 0, .int .u8 0, .int .u8 0, .int .u8 0, .int .u8 0, .int .u8 0, .int .u8 0, .int .u8 0, .int .u8 0, .int .u8 0, .int .u8 0, .int .u8 0, .int .u8 0, .int .u8 0, .int .u8 0, .int .u8 0, .int .u8 0, .int .i64 0, .int .i64 0, .int .i64 0, .int .i64 0], .agg #[.slice none 0 0, .slice none 0 0, .int .i64 0, .int .i64 0, .int .i64 0, .int .i64 0, .int .u8 0, .int .u8 0, .int .u8 0, .int .u8 0, .int .u8 0, .int .u8 0, .int .u8 0, .int .u8 0, .int .u8 0, .int .u8 0, .int .u8 0, .int .u8 0, .int .u8 0, .int .u8 0, .int .u8 0, .int .u8 0, .int .u8 0, .int .u8 0, .int .u8 0, .int .u8 0, .int .u8 0, .int .u8 0, .int .u8 0, .int .u8 0, .int .u8 0, .int .u8 0, .int .u8 0, .int .u8 0, .int .u8 0, .int .u8 0, .int .u8 0, .int .u8 0, .slice none 0 0, .slice none 0 0], .agg #[.slice none 0 0, .slice none 0 0, .int .i64 0, .int .i64 0, .int .i64 0, .int .i64 0, .int .u8 0, .int .u8 0, .int .u8 0, .int .u8 0, .int .u8 0, .int .u8 0, .int .u8 0, .int .u8 0, .int .u8 0, .int .u8 0, .int .u8 0, .int .u8 0, .int .u8 0, .int .u8 0, .int .u8 0, .int .u8 0, .int .u8 0, .int .u8 0, .int .u8 0, .int .u8 0, .int .u8 0, .int .u8 0, .int .u8 0, .int .u8 0, .int .u8 0, .int .u8 0, .int .u8 0, .int .u8 0, .int .u8 0, .int .u8 0, .int .u8 0, .int .u8 0, .slice none 0 0, .slice none 0 0]], []⟩ 64 (by kernel_rfl) (by kernel_rfl) (by kernel_rfl) (by kernel_rfl))
    rfl laidOut reads rfl Try.underlying4 (fun ds h => by match ds, h with | [d0, d1, d2], _ => exact ⟨rfl, rfl, rfl⟩) walk
end Go.Proofs.Ytcghjnegaiiieaa.justiceChecks

/- Part 6 of the texts that LawAppointJobs needs, pruned and joined. -/
import Derived.Test.YtcghjnegaiiieaaRows
import Derived.Test.YtcghjnegaiiieaaAJ5
set_option linter.unusedSimpArgs false
namespace Go.Proofs.Ytcghjnegaiiieaa
open Go.RowKit
def cJob (ch st : Int) (h blob : List Int) : CV := .st [ic .i64 ch, ic .i64 st, cSum h, ints .u8 blob]
def cRcp (tw ch st : Int) (h b : List Int) : CV := .st [ic .i64 tw, ic .i64 ch, ic .i64 st, cSum h, cSum b]
theorem eqTy_Rcp : EqTy Try.prog 104 (.st [.i, .i, .i, .a .u8 32, .a .u8 32]) := EqTy.struct Try.underlying104 Try.stoodInHeld104 (by kernel_rfl) (.cons (by simp) rfl eqTy_int (.cons (by simp) rfl eqTy_int (.cons (by simp) rfl eqTy_int (.cons (by simp) rfl eqTy_Sum (.cons (by simp) rfl eqTy_Sum (.nil _))))))
set_option maxRecDepth 100000 in
set_option maxHeartbeats 4000000 in
theorem hint_ap (c : List Int) (hc : ArOk .u8 32 c) : AP Try.prog 63 [cSum c] [cSum (joinF 71 [c])] := by
  refine ap_of (fun _ _ => Try.call63 _ _) Try.func63 rfl Try.ntmps63 (by simp) (zs := [RZ.mk 2 (some (32, true))]) (by kernel_rfl) (fun w F => ?_)
  simp only [List.map_cons, List.map_nil, argT, Nat.reduceAdd]
  refine at_seq fun K1 hK1 => ?_
  refine at_region [It.mk (some 1) none (IK.box (Operand.tmp 0)), It.mk (some 2) none (IK.alloc (CV.ar IntKind.u8 32 (List.replicate 32 0)))] (by kernel_rfl) ?_
  simp (maxSteps:=999999) (disch:=omega) only [av1, av2, av3, av4, av5, av6, av7, eq_self, exists_const, forall_const, implies_true, storeOk, thenQ, PK.cond, PK.val, Nat.reduceAdd, Nat.reduceLT, Nat.reduceMul, reduceCtorEq, ↓reduceIte, Nat.reduceEqDiff, Nat.reduceLeDiff, Nat.reduceSub, Nat.reduceBEq, Nat.reduceBNe, Int.reduceLT, Int.reduceEq, Int.reduceAdd, Int.reduceToNat, Int.reduceLE, Int.reduceBEq, Int.reduceBNe, enc1, List.take_length, List.drop_zero, Option.toList_none, Option.toList_some, maxLen]
  (repeat ((with_reducible refine And.intro ?_ ?_); (first | trivial | assumption | omega | (simp; done))))
  refine hK1 _ ?_
  (try clear hK1)
  refine at_seq fun K2 hK2 => ?_
  have hkl := hc.len
  refine AT.le (Le.freezeC 0 rfl) ?_
  (try simp (maxSteps:=999999) (disch:=omega) only [av1, av2, av3, av4, av5, av6, av7, eq_self, exists_const, forall_const, implies_true, storeOk, thenQ, PK.cond, PK.val, Nat.reduceAdd, Nat.reduceLT, Nat.reduceMul, reduceCtorEq, ↓reduceIte, Nat.reduceEqDiff, Nat.reduceLeDiff, Nat.reduceSub, Nat.reduceBEq, Nat.reduceBNe, Int.reduceLT, Int.reduceEq, Int.reduceAdd, Int.reduceToNat, Int.reduceLE, Int.reduceBEq, Int.reduceBNe, enc1, List.take_length, List.drop_zero, Option.toList_none, Option.toList_some, maxLen])
  refine at_region [It.mk (some 3) none (IK.p (PK.slcA (Operand.tmp 1) none none 32 1)), It.mk (some 4) none (IK.lit 1 [Operand.tmp 3]), It.mk (some 5) none (IK.call 19 [Operand.const (Value.int IntKind.u8 71), Operand.tmp 4]), It.mk none none (IK.store (Operand.tmp 2) (Operand.tmp 5) 32)] (by kernel_rfl) ?_
  refine apl_cut [_, _] _ (fun K3 hK3 => ?_)
  simp (maxSteps:=999999) (disch:=omega) only [av1, av2, av3, av4, av5, av6, av7, eq_self, exists_const, forall_const, implies_true, storeOk, thenQ, PK.cond, PK.val, Nat.reduceAdd, Nat.reduceLT, Nat.reduceMul, reduceCtorEq, ↓reduceIte, Nat.reduceEqDiff, Nat.reduceLeDiff, Nat.reduceSub, Nat.reduceBEq, Nat.reduceBNe, Int.reduceLT, Int.reduceEq, Int.reduceAdd, Int.reduceToNat, Int.reduceLE, Int.reduceBEq, Int.reduceBNe, enc1, List.take_length, List.drop_zero, Option.toList_none, Option.toList_some, maxLen]
  (repeat ((with_reducible refine And.intro ?_ ?_); (first | trivial | assumption | omega | (simp; done))))
  refine hK3 _ ?_
  (try clear hK3)
  refine apl_cut [_] _ (fun K4 hK4 => ?_)
  simp (maxSteps:=999999) (disch:=omega) only [av1, av2, av3, av4, av5, av6, av7, eq_self, exists_const, forall_const, implies_true, storeOk, thenQ, PK.cond, PK.val, Nat.reduceAdd, Nat.reduceLT, Nat.reduceMul, reduceCtorEq, ↓reduceIte, Nat.reduceEqDiff, Nat.reduceLeDiff, Nat.reduceSub, Nat.reduceBEq, Nat.reduceBNe, Int.reduceLT, Int.reduceEq, Int.reduceAdd, Int.reduceToNat, Int.reduceLE, Int.reduceBEq, Int.reduceBNe, enc1, List.take_length, List.drop_zero, Option.toList_none, Option.toList_some, maxLen]
  apply Or.inl
  first | refine ⟨[], trivial, ?_⟩ | refine ⟨_, (one_ap 71 (by decide) (sum8 hc).1 (sum8 hc).2), ?_⟩ | refine ⟨_, fun _ => (one_ap 71 (by decide) (sum8 hc).1 (sum8 hc).2), ?_⟩ | refine ⟨_, fun h => ⟨h, (one_ap 71 (by decide) (sum8 hc).1 (sum8 hc).2)⟩, ?_⟩ | refine ⟨_, fun h => ⟨by simp_all, (one_ap 71 (by decide) (sum8 hc).1 (sum8 hc).2)⟩, ?_⟩ | refine ⟨[], ?_⟩
  (try simp only [rsAV, List.map_cons, List.map_nil, thenQ])
  refine hK4 _ ?_
  (try clear hK4)
  simp (maxSteps:=999999) (disch:=omega) only [av1, av2, av3, av4, av5, av6, av7, eq_self, exists_const, forall_const, implies_true, storeOk, thenQ, PK.cond, PK.val, Nat.reduceAdd, Nat.reduceLT, Nat.reduceMul, reduceCtorEq, ↓reduceIte, Nat.reduceEqDiff, Nat.reduceLeDiff, Nat.reduceSub, Nat.reduceBEq, Nat.reduceBNe, Int.reduceLT, Int.reduceEq, Int.reduceAdd, Int.reduceToNat, Int.reduceLE, Int.reduceBEq, Int.reduceBNe, enc1, List.take_length, List.drop_zero, Option.toList_none, Option.toList_some, maxLen]
  (repeat ((with_reducible refine And.intro ?_ ?_); (first | trivial | assumption | omega | (simp; done))))
  refine hK2 _ ?_
  (try clear hK2)
  refine at_ret ?_
  simp (maxSteps:=999999) (disch:=omega) only [av1, av2, av3, av4, av5, av6, av7, eq_self, exists_const, forall_const, implies_true, storeOk, thenQ, PK.cond, PK.val, Nat.reduceAdd, Nat.reduceLT, Nat.reduceMul, reduceCtorEq, ↓reduceIte, Nat.reduceEqDiff, Nat.reduceLeDiff, Nat.reduceSub, Nat.reduceBEq, Nat.reduceBNe, Int.reduceLT, Int.reduceEq, Int.reduceAdd, Int.reduceToNat, Int.reduceLE, Int.reduceBEq, Int.reduceBNe, enc1, List.take_length, List.drop_zero, Option.toList_none, Option.toList_some, maxLen, blockQ, retQ, RetOk, ResOk, AV.fin, AV.fins, CV.le, CV.les]
  first | rfl | trace_state
set_option maxRecDepth 100000 in
set_option maxHeartbeats 4000000 in
theorem key16_ap (c : List Int) (hc : ArOk .u8 32 c) : AP Try.prog 108 [cSum c] [cSum (joinF 72 [c])] := by
  refine ap_of (fun _ _ => Try.call108 _ _) Try.func108 rfl Try.ntmps108 (by simp) (zs := [RZ.mk 2 (some (32, true))]) (by kernel_rfl) (fun w F => ?_)
  simp only [List.map_cons, List.map_nil, argT, Nat.reduceAdd]
  refine at_seq fun K1 hK1 => ?_
  refine at_region [It.mk (some 1) none (IK.box (Operand.tmp 0)), It.mk (some 2) none (IK.alloc (CV.ar IntKind.u8 32 (List.replicate 32 0)))] (by kernel_rfl) ?_
  simp (maxSteps:=999999) (disch:=omega) only [av1, av2, av3, av4, av5, av6, av7, eq_self, exists_const, forall_const, implies_true, storeOk, thenQ, PK.cond, PK.val, Nat.reduceAdd, Nat.reduceLT, Nat.reduceMul, reduceCtorEq, ↓reduceIte, Nat.reduceEqDiff, Nat.reduceLeDiff, Nat.reduceSub, Nat.reduceBEq, Nat.reduceBNe, Int.reduceLT, Int.reduceEq, Int.reduceAdd, Int.reduceToNat, Int.reduceLE, Int.reduceBEq, Int.reduceBNe, enc1, List.take_length, List.drop_zero, Option.toList_none, Option.toList_some, maxLen]
  (repeat ((with_reducible refine And.intro ?_ ?_); (first | trivial | assumption | omega | (simp; done))))
  refine hK1 _ ?_
  (try clear hK1)
  refine at_seq fun K2 hK2 => ?_
  have hkl := hc.len
  refine AT.le (Le.freezeC 0 rfl) ?_
  (try simp (maxSteps:=999999) (disch:=omega) only [av1, av2, av3, av4, av5, av6, av7, eq_self, exists_const, forall_const, implies_true, storeOk, thenQ, PK.cond, PK.val, Nat.reduceAdd, Nat.reduceLT, Nat.reduceMul, reduceCtorEq, ↓reduceIte, Nat.reduceEqDiff, Nat.reduceLeDiff, Nat.reduceSub, Nat.reduceBEq, Nat.reduceBNe, Int.reduceLT, Int.reduceEq, Int.reduceAdd, Int.reduceToNat, Int.reduceLE, Int.reduceBEq, Int.reduceBNe, enc1, List.take_length, List.drop_zero, Option.toList_none, Option.toList_some, maxLen])
  refine at_region [It.mk (some 3) none (IK.p (PK.slcA (Operand.tmp 1) none none 32 1)), It.mk (some 4) none (IK.lit 1 [Operand.tmp 3]), It.mk (some 5) none (IK.call 19 [Operand.const (Value.int IntKind.u8 72), Operand.tmp 4]), It.mk none none (IK.store (Operand.tmp 2) (Operand.tmp 5) 32)] (by kernel_rfl) ?_
  refine apl_cut [_, _] _ (fun K3 hK3 => ?_)
  simp (maxSteps:=999999) (disch:=omega) only [av1, av2, av3, av4, av5, av6, av7, eq_self, exists_const, forall_const, implies_true, storeOk, thenQ, PK.cond, PK.val, Nat.reduceAdd, Nat.reduceLT, Nat.reduceMul, reduceCtorEq, ↓reduceIte, Nat.reduceEqDiff, Nat.reduceLeDiff, Nat.reduceSub, Nat.reduceBEq, Nat.reduceBNe, Int.reduceLT, Int.reduceEq, Int.reduceAdd, Int.reduceToNat, Int.reduceLE, Int.reduceBEq, Int.reduceBNe, enc1, List.take_length, List.drop_zero, Option.toList_none, Option.toList_some, maxLen]
  (repeat ((with_reducible refine And.intro ?_ ?_); (first | trivial | assumption | omega | (simp; done))))
  refine hK3 _ ?_
  (try clear hK3)
  refine apl_cut [_] _ (fun K4 hK4 => ?_)
  simp (maxSteps:=999999) (disch:=omega) only [av1, av2, av3, av4, av5, av6, av7, eq_self, exists_const, forall_const, implies_true, storeOk, thenQ, PK.cond, PK.val, Nat.reduceAdd, Nat.reduceLT, Nat.reduceMul, reduceCtorEq, ↓reduceIte, Nat.reduceEqDiff, Nat.reduceLeDiff, Nat.reduceSub, Nat.reduceBEq, Nat.reduceBNe, Int.reduceLT, Int.reduceEq, Int.reduceAdd, Int.reduceToNat, Int.reduceLE, Int.reduceBEq, Int.reduceBNe, enc1, List.take_length, List.drop_zero, Option.toList_none, Option.toList_some, maxLen]
  apply Or.inl
  first | refine ⟨[], trivial, ?_⟩ | refine ⟨_, (one_ap 72 (by decide) (sum8 hc).1 (sum8 hc).2), ?_⟩ | refine ⟨_, fun _ => (one_ap 72 (by decide) (sum8 hc).1 (sum8 hc).2), ?_⟩ | refine ⟨_, fun h => ⟨h, (one_ap 72 (by decide) (sum8 hc).1 (sum8 hc).2)⟩, ?_⟩ | refine ⟨_, fun h => ⟨by simp_all, (one_ap 72 (by decide) (sum8 hc).1 (sum8 hc).2)⟩, ?_⟩ | refine ⟨[], ?_⟩
  (try simp only [rsAV, List.map_cons, List.map_nil, thenQ])
  refine hK4 _ ?_
  (try clear hK4)
  simp (maxSteps:=999999) (disch:=omega) only [av1, av2, av3, av4, av5, av6, av7, eq_self, exists_const, forall_const, implies_true, storeOk, thenQ, PK.cond, PK.val, Nat.reduceAdd, Nat.reduceLT, Nat.reduceMul, reduceCtorEq, ↓reduceIte, Nat.reduceEqDiff, Nat.reduceLeDiff, Nat.reduceSub, Nat.reduceBEq, Nat.reduceBNe, Int.reduceLT, Int.reduceEq, Int.reduceAdd, Int.reduceToNat, Int.reduceLE, Int.reduceBEq, Int.reduceBNe, enc1, List.take_length, List.drop_zero, Option.toList_none, Option.toList_some, maxLen]
  (repeat ((with_reducible refine And.intro ?_ ?_); (first | trivial | assumption | omega | (simp; done))))
  refine hK2 _ ?_
  (try clear hK2)
  refine at_ret ?_
  simp (maxSteps:=999999) (disch:=omega) only [av1, av2, av3, av4, av5, av6, av7, eq_self, exists_const, forall_const, implies_true, storeOk, thenQ, PK.cond, PK.val, Nat.reduceAdd, Nat.reduceLT, Nat.reduceMul, reduceCtorEq, ↓reduceIte, Nat.reduceEqDiff, Nat.reduceLeDiff, Nat.reduceSub, Nat.reduceBEq, Nat.reduceBNe, Int.reduceLT, Int.reduceEq, Int.reduceAdd, Int.reduceToNat, Int.reduceLE, Int.reduceBEq, Int.reduceBNe, enc1, List.take_length, List.drop_zero, Option.toList_none, Option.toList_some, maxLen, blockQ, retQ, RetOk, ResOk, AV.fin, AV.fins, CV.le, CV.les]
  first | rfl | trace_state
set_option maxRecDepth 100000 in
set_option maxHeartbeats 4000000 in
theorem mark16_ap (b : List Int) (hb : Bytes8 b) (hl : b.length ≤ 1000000) : AP Try.prog 64 [ints .u8 b] [cSum (joinF 73 [b])] := by
  refine ap_of (fun _ _ => Try.call64 _ _) Try.func64 rfl Try.ntmps64 (by simp) (zs := [RZ.mk 2 (some (32, true))]) (by kernel_rfl) (fun w F => ?_)
  simp only [List.map_cons, List.map_nil, argT, Nat.reduceAdd]
  refine at_seq fun K1 hK1 => ?_
  refine at_region [It.mk (some 2) none (IK.alloc (CV.ar IntKind.u8 32 (List.replicate 32 0)))] (by kernel_rfl) ?_
  simp (maxSteps:=999999) (disch:=omega) only [av1, av2, av3, av4, av5, av6, av7, eq_self, exists_const, forall_const, implies_true, storeOk, thenQ, PK.cond, PK.val, Nat.reduceAdd, Nat.reduceLT, Nat.reduceMul, reduceCtorEq, ↓reduceIte, Nat.reduceEqDiff, Nat.reduceLeDiff, Nat.reduceSub, Nat.reduceBEq, Nat.reduceBNe, Int.reduceLT, Int.reduceEq, Int.reduceAdd, Int.reduceToNat, Int.reduceLE, Int.reduceBEq, Int.reduceBNe, enc1]
  (repeat ((with_reducible refine And.intro ?_ ?_); (first | trivial | assumption | omega | (simp; done))))
  refine hK1 _ ?_
  (try clear hK1)
  refine at_seq fun K2 hK2 => ?_
  refine at_region [It.mk (some 3) none (IK.p (PK.mov (Operand.tmp 0))), It.mk (some 4) none (IK.lit 1 [Operand.tmp 3]), It.mk (some 5) none (IK.call 19 [Operand.const (Value.int IntKind.u8 73), Operand.tmp 4]), It.mk none none (IK.store (Operand.tmp 2) (Operand.tmp 5) 32)] (by kernel_rfl) ?_
  refine apl_cut [_, _] _ (fun K3 hK3 => ?_)
  simp (maxSteps:=999999) (disch:=omega) only [av1, av2, av3, av4, av5, av6, av7, eq_self, exists_const, forall_const, implies_true, storeOk, thenQ, PK.cond, PK.val, Nat.reduceAdd, Nat.reduceLT, Nat.reduceMul, reduceCtorEq, ↓reduceIte, Nat.reduceEqDiff, Nat.reduceLeDiff, Nat.reduceSub, Nat.reduceBEq, Nat.reduceBNe, Int.reduceLT, Int.reduceEq, Int.reduceAdd, Int.reduceToNat, Int.reduceLE, Int.reduceBEq, Int.reduceBNe, enc1]
  (repeat ((with_reducible refine And.intro ?_ ?_); (first | trivial | assumption | omega | (simp; done))))
  refine hK3 _ ?_
  (try clear hK3)
  refine apl_cut [_] _ (fun K4 hK4 => ?_)
  simp (maxSteps:=999999) (disch:=omega) only [av1, av2, av3, av4, av5, av6, av7, eq_self, exists_const, forall_const, implies_true, storeOk, thenQ, PK.cond, PK.val, Nat.reduceAdd, Nat.reduceLT, Nat.reduceMul, reduceCtorEq, ↓reduceIte, Nat.reduceEqDiff, Nat.reduceLeDiff, Nat.reduceSub, Nat.reduceBEq, Nat.reduceBNe, Int.reduceLT, Int.reduceEq, Int.reduceAdd, Int.reduceToNat, Int.reduceLE, Int.reduceBEq, Int.reduceBNe, enc1]
  apply Or.inl
  first | refine ⟨[], trivial, ?_⟩ | refine ⟨_, (one_ap 73 (by decide) hb hl), ?_⟩ | refine ⟨_, fun _ => (one_ap 73 (by decide) hb hl), ?_⟩ | refine ⟨_, fun h => ⟨h, (one_ap 73 (by decide) hb hl)⟩, ?_⟩ | refine ⟨_, fun h => ⟨by simp_all, (one_ap 73 (by decide) hb hl)⟩, ?_⟩ | refine ⟨[], ?_⟩
  (try simp only [rsAV, List.map_cons, List.map_nil, thenQ])
  refine hK4 _ ?_
  (try clear hK4)
  simp (maxSteps:=999999) (disch:=omega) only [av1, av2, av3, av4, av5, av6, av7, eq_self, exists_const, forall_const, implies_true, storeOk, thenQ, PK.cond, PK.val, Nat.reduceAdd, Nat.reduceLT, Nat.reduceMul, reduceCtorEq, ↓reduceIte, Nat.reduceEqDiff, Nat.reduceLeDiff, Nat.reduceSub, Nat.reduceBEq, Nat.reduceBNe, Int.reduceLT, Int.reduceEq, Int.reduceAdd, Int.reduceToNat, Int.reduceLE, Int.reduceBEq, Int.reduceBNe, enc1]
  (repeat ((with_reducible refine And.intro ?_ ?_); (first | trivial | assumption | omega | (simp; done))))
  refine hK2 _ ?_
  (try clear hK2)
  refine at_ret ?_
  simp (maxSteps:=999999) (disch:=omega) only [av1, av2, av3, av4, av5, av6, av7, eq_self, exists_const, forall_const, implies_true, storeOk, thenQ, PK.cond, PK.val, Nat.reduceAdd, Nat.reduceLT, Nat.reduceMul, reduceCtorEq, ↓reduceIte, Nat.reduceEqDiff, Nat.reduceLeDiff, Nat.reduceSub, Nat.reduceBEq, Nat.reduceBNe, Int.reduceLT, Int.reduceEq, Int.reduceAdd, Int.reduceToNat, Int.reduceLE, Int.reduceBEq, Int.reduceBNe, enc1, blockQ, retQ, RetOk, ResOk, AV.fin, AV.fins, CV.le, CV.les]
  first | rfl | trace_state
noncomputable def coverV (c : List Int) (t : Txx) : List Int := if bytesE t ≠ 0 then [] else closeV (joinF 72 [c]) (bytesV t)
def coverE (t : Txx) : Int := if bytesE t ≠ 0 then bytesE t else closeEr (bytesV t)
theorem bytesV_fit {t : Txx} (ht : OkTxx t) (hs : smallTx t = true) : Bytes8 (bytesV t) ∧ (bytesV t).length ≤ 1000000 := by
  have l := txBy_len ht.well hs
  have w := txBy_ok ht.well
  unfold bytesV
  split
  · exact ⟨bytes8_wf (by omega) w, by omega⟩
  · exact ⟨okNil, by simp⟩
set_option maxRecDepth 100000 in
set_option maxHeartbeats 4000000 in
theorem cover16_ap (c : List Int) (t : Txx) (hc : ArOk .u8 32 c) (ht : OkTxx t) (hs : smallTx t = true) : AP Try.prog 62 [cSum c, cTxx t] [ints .u8 (coverV c t), ic .i64 (coverE t)] := by
  refine ap_of (fun _ _ => Try.call62 _ _) Try.func62 rfl Try.ntmps62 (by simp) (zs := [RZ.mk 4 none, RZ.mk 5 none]) (by kernel_rfl) (fun w F => ?_)
  simp only [List.map_cons, List.map_nil, argT, Nat.reduceAdd]
  refine at_seq fun K1 hK1 => ?_
  refine at_region [It.mk (some 2) none (IK.box (Operand.tmp 0)), It.mk (some 3) none (IK.box (Operand.tmp 1)), It.mk (some 4) none (IK.p (PK.mov (Operand.const (Value.slice none 0 0)))), It.mk (some 5) none (IK.p (PK.mov (Operand.const (Value.int IntKind.i64 0))))] (by kernel_rfl) ?_
  simp (maxSteps:=999999) (disch:=omega) only [av1, av2, av3, av4, av5, av6, av7, eq_self, exists_const, forall_const, implies_true, storeOk, thenQ, PK.cond, PK.val, Nat.reduceAdd, Nat.reduceLT, Nat.reduceMul, reduceCtorEq, ↓reduceIte, Nat.reduceEqDiff, Nat.reduceLeDiff, Nat.reduceSub, Nat.reduceBEq, Nat.reduceBNe, Int.reduceLT, Int.reduceEq, Int.reduceAdd, Int.reduceToNat, Int.reduceLE, Int.reduceBEq, Int.reduceBNe, enc1]
  (repeat ((with_reducible refine And.intro ?_ ?_); (first | trivial | assumption | omega | (simp; done))))
  refine hK1 _ ?_
  (try clear hK1)
  refine at_seq fun K2 hK2 => ?_
  refine at_region [It.mk (some 9) none (IK.p (PK.load (Operand.tmp 3) 40 true)), It.mk (some 10) none (IK.call 75 [Operand.tmp 9]), It.mk (some 8) none (IK.p (PK.mov (Operand.tmp 10))), It.mk (some 11) none (IK.p (PK.ext (Operand.tmp 8) 0)), It.mk (some 12) none (IK.p (PK.ext (Operand.tmp 8) 1)), It.mk (some 6) none (IK.p (PK.mov (Operand.tmp 11))), It.mk (some 7) none (IK.p (PK.mov (Operand.tmp 12)))] (by kernel_rfl) ?_
  refine apl_cut [_] _ (fun K3 hK3 => ?_)
  simp (maxSteps:=999999) (disch:=omega) only [av1, av2, av3, av4, av5, av6, av7, eq_self, exists_const, forall_const, implies_true, storeOk, thenQ, PK.cond, PK.val, Nat.reduceAdd, Nat.reduceLT, Nat.reduceMul, reduceCtorEq, ↓reduceIte, Nat.reduceEqDiff, Nat.reduceLeDiff, Nat.reduceSub, Nat.reduceBEq, Nat.reduceBNe, Int.reduceLT, Int.reduceEq, Int.reduceAdd, Int.reduceToNat, Int.reduceLE, Int.reduceBEq, Int.reduceBNe, enc1]
  (repeat ((with_reducible refine And.intro ?_ ?_); (first | trivial | assumption | omega | (simp; done))))
  refine hK3 _ ?_
  (try clear hK3)
  refine apl_cut [_] _ (fun K4 hK4 => ?_)
  simp (maxSteps:=999999) (disch:=omega) only [av1, av2, av3, av4, av5, av6, av7, eq_self, exists_const, forall_const, implies_true, storeOk, thenQ, PK.cond, PK.val, Nat.reduceAdd, Nat.reduceLT, Nat.reduceMul, reduceCtorEq, ↓reduceIte, Nat.reduceEqDiff, Nat.reduceLeDiff, Nat.reduceSub, Nat.reduceBEq, Nat.reduceBNe, Int.reduceLT, Int.reduceEq, Int.reduceAdd, Int.reduceToNat, Int.reduceLE, Int.reduceBEq, Int.reduceBNe, enc1]
  apply Or.inl
  first | refine ⟨[], trivial, ?_⟩ | refine ⟨_, (txBytes_ap t ht (by have l := txBy_len ht.well hs; omega)), ?_⟩ | refine ⟨_, fun _ => (txBytes_ap t ht (by have l := txBy_len ht.well hs; omega)), ?_⟩ | refine ⟨_, fun h => ⟨h, (txBytes_ap t ht (by have l := txBy_len ht.well hs; omega))⟩, ?_⟩ | refine ⟨_, fun h => ⟨by simp_all, (txBytes_ap t ht (by have l := txBy_len ht.well hs; omega))⟩, ?_⟩ | refine ⟨[], ?_⟩
  (try simp only [rsAV, List.map_cons, List.map_nil, thenQ])
  refine hK4 _ ?_
  (try clear hK4)
  simp (maxSteps:=999999) (disch:=omega) only [av1, av2, av3, av4, av5, av6, av7, eq_self, exists_const, forall_const, implies_true, storeOk, thenQ, PK.cond, PK.val, Nat.reduceAdd, Nat.reduceLT, Nat.reduceMul, reduceCtorEq, ↓reduceIte, Nat.reduceEqDiff, Nat.reduceLeDiff, Nat.reduceSub, Nat.reduceBEq, Nat.reduceBNe, Int.reduceLT, Int.reduceEq, Int.reduceAdd, Int.reduceToNat, Int.reduceLE, Int.reduceBEq, Int.reduceBNe, enc1]
  (repeat ((with_reducible refine And.intro ?_ ?_); (first | trivial | assumption | omega | (simp; done))))
  refine hK2 _ ?_
  (try clear hK2)
  refine at_seq fun K5 hK5 => ?_
  refine at_seq fun K6 hK6 => ?_
  refine at_region [It.mk (some 13) none (IK.p (PK.mov (Operand.tmp 7))), It.mk (some 14) none (IK.p (PK.bin BinOp.neq (Operand.tmp 13) (Operand.const (Value.int IntKind.i64 0))))] (by kernel_rfl) ?_
  simp (maxSteps:=999999) (disch:=omega) only [av1, av2, av3, av4, av5, av6, av7, eq_self, exists_const, forall_const, implies_true, storeOk, thenQ, PK.cond, PK.val, Nat.reduceAdd, Nat.reduceLT, Nat.reduceMul, reduceCtorEq, ↓reduceIte, Nat.reduceEqDiff, Nat.reduceLeDiff, Nat.reduceSub, Nat.reduceBEq, Nat.reduceBNe, Int.reduceLT, Int.reduceEq, Int.reduceAdd, Int.reduceToNat, Int.reduceLE, Int.reduceBEq, Int.reduceBNe, enc1]
  (repeat ((with_reducible refine And.intro ?_ ?_); (first | trivial | assumption | omega | (simp; done))))
  refine hK6 _ ?_
  (try clear hK6)
  refine at_cond _ rfl rfl (fun h7 => ?_) (fun h7 => ?_)
  · have r7 := h7
    (try simp only [dB2] at h7)
    refine at_seq fun K8 hK8 => ?_
    refine at_region [It.mk (some 15) none (IK.p (PK.mov (Operand.tmp 7))), It.mk (some 4) none (IK.p (PK.mov (Operand.const (Value.slice none 0 0)))), It.mk (some 5) none (IK.p (PK.mov (Operand.tmp 15)))] (by kernel_rfl) ?_
    simp (maxSteps:=999999) (disch:=omega) only [av1, av2, av3, av4, av5, av6, av7, eq_self, exists_const, forall_const, implies_true, storeOk, thenQ, PK.cond, PK.val, Nat.reduceAdd, Nat.reduceLT, Nat.reduceMul, reduceCtorEq, ↓reduceIte, Nat.reduceEqDiff, Nat.reduceLeDiff, Nat.reduceSub, Nat.reduceBEq, Nat.reduceBNe, Int.reduceLT, Int.reduceEq, Int.reduceAdd, Int.reduceToNat, Int.reduceLE, Int.reduceBEq, Int.reduceBNe, enc1]
    (repeat ((with_reducible refine And.intro ?_ ?_); (first | trivial | assumption | omega | (simp; done))))
    refine hK8 _ ?_
    (try clear hK8)
    refine at_ret ?_
    simp (maxSteps:=999999) (disch:=omega) only [av1, av2, av3, av4, av5, av6, av7, eq_self, exists_const, forall_const, implies_true, storeOk, thenQ, PK.cond, PK.val, Nat.reduceAdd, Nat.reduceLT, Nat.reduceMul, reduceCtorEq, ↓reduceIte, Nat.reduceEqDiff, Nat.reduceLeDiff, Nat.reduceSub, Nat.reduceBEq, Nat.reduceBNe, Int.reduceLT, Int.reduceEq, Int.reduceAdd, Int.reduceToNat, Int.reduceLE, Int.reduceBEq, Int.reduceBNe, enc1, blockQ, retQ, RetOk, ResOk, AV.fin, AV.fins, CV.le, CV.les]
    first
      | (have e : bytesE t ≠ 0 := by assumption
         simp [coverV, coverE, e]; done)
      | (have e : bytesE t = 0 := by assumption
         simp [coverV, coverE, e]; done)
      | trace_state
  · have r7 := h7
    (try simp only [dB2] at h7)
    refine at_skip ?_
    (try simp only [thenQ, blockQ])
    refine hK5 _ ?_
    (try clear hK5)
    refine at_seq fun K9 hK9 => ?_
    refine at_region [It.mk (some 16) none (IK.p (PK.load (Operand.tmp 2) 32 true)), It.mk (some 17) none (IK.call 108 [Operand.tmp 16]), It.mk (some 18) none (IK.p (PK.mov (Operand.tmp 6))), It.mk (some 19) none (IK.call 76 [Operand.tmp 17, Operand.tmp 18]), It.mk (some 20) none (IK.p (PK.ext (Operand.tmp 19) 0)), It.mk (some 21) none (IK.p (PK.ext (Operand.tmp 19) 1)), It.mk (some 4) none (IK.p (PK.mov (Operand.tmp 20))), It.mk (some 5) none (IK.p (PK.mov (Operand.tmp 21)))] (by kernel_rfl) ?_
    refine apl_cut [_] _ (fun K10 hK10 => ?_)
    simp (maxSteps:=999999) (disch:=omega) only [av1, av2, av3, av4, av5, av6, av7, eq_self, exists_const, forall_const, implies_true, storeOk, thenQ, PK.cond, PK.val, Nat.reduceAdd, Nat.reduceLT, Nat.reduceMul, reduceCtorEq, ↓reduceIte, Nat.reduceEqDiff, Nat.reduceLeDiff, Nat.reduceSub, Nat.reduceBEq, Nat.reduceBNe, Int.reduceLT, Int.reduceEq, Int.reduceAdd, Int.reduceToNat, Int.reduceLE, Int.reduceBEq, Int.reduceBNe, enc1]
    (repeat ((with_reducible refine And.intro ?_ ?_); (first | trivial | assumption | omega | (simp; done))))
    refine hK10 _ ?_
    (try clear hK10)
    refine apl_cut [_] _ (fun K11 hK11 => ?_)
    simp (maxSteps:=999999) (disch:=omega) only [av1, av2, av3, av4, av5, av6, av7, eq_self, exists_const, forall_const, implies_true, storeOk, thenQ, PK.cond, PK.val, Nat.reduceAdd, Nat.reduceLT, Nat.reduceMul, reduceCtorEq, ↓reduceIte, Nat.reduceEqDiff, Nat.reduceLeDiff, Nat.reduceSub, Nat.reduceBEq, Nat.reduceBNe, Int.reduceLT, Int.reduceEq, Int.reduceAdd, Int.reduceToNat, Int.reduceLE, Int.reduceBEq, Int.reduceBNe, enc1]
    apply Or.inl
    first | refine ⟨[], trivial, ?_⟩ | refine ⟨_, (key16_ap c hc), ?_⟩ | refine ⟨_, fun _ => (key16_ap c hc), ?_⟩ | refine ⟨_, fun h => ⟨h, (key16_ap c hc)⟩, ?_⟩ | refine ⟨_, fun h => ⟨by simp_all, (key16_ap c hc)⟩, ?_⟩ | refine ⟨[], ?_⟩
    (try simp only [rsAV, List.map_cons, List.map_nil, thenQ])
    refine hK11 _ ?_
    (try clear hK11)
    refine apl_cut [_] _ (fun K12 hK12 => ?_)
    simp (maxSteps:=999999) (disch:=omega) only [av1, av2, av3, av4, av5, av6, av7, eq_self, exists_const, forall_const, implies_true, storeOk, thenQ, PK.cond, PK.val, Nat.reduceAdd, Nat.reduceLT, Nat.reduceMul, reduceCtorEq, ↓reduceIte, Nat.reduceEqDiff, Nat.reduceLeDiff, Nat.reduceSub, Nat.reduceBEq, Nat.reduceBNe, Int.reduceLT, Int.reduceEq, Int.reduceAdd, Int.reduceToNat, Int.reduceLE, Int.reduceBEq, Int.reduceBNe, enc1]
    (repeat ((with_reducible refine And.intro ?_ ?_); (first | trivial | assumption | omega | (simp; done))))
    refine hK12 _ ?_
    (try clear hK12)
    refine apl_cut [_] _ (fun K13 hK13 => ?_)
    simp (maxSteps:=999999) (disch:=omega) only [av1, av2, av3, av4, av5, av6, av7, eq_self, exists_const, forall_const, implies_true, storeOk, thenQ, PK.cond, PK.val, Nat.reduceAdd, Nat.reduceLT, Nat.reduceMul, reduceCtorEq, ↓reduceIte, Nat.reduceEqDiff, Nat.reduceLeDiff, Nat.reduceSub, Nat.reduceBEq, Nat.reduceBNe, Int.reduceLT, Int.reduceEq, Int.reduceAdd, Int.reduceToNat, Int.reduceLE, Int.reduceBEq, Int.reduceBNe, enc1]
    apply Or.inl
    first | refine ⟨[], trivial, ?_⟩ | refine ⟨_, (veilClose_ap (joinF 72 [c]) (bytesV t) (joinOk _ _) (bytesV_fit ht hs).1 (bytesV_fit ht hs).2), ?_⟩ | refine ⟨_, fun _ => (veilClose_ap (joinF 72 [c]) (bytesV t) (joinOk _ _) (bytesV_fit ht hs).1 (bytesV_fit ht hs).2), ?_⟩ | refine ⟨_, fun h => ⟨h, (veilClose_ap (joinF 72 [c]) (bytesV t) (joinOk _ _) (bytesV_fit ht hs).1 (bytesV_fit ht hs).2)⟩, ?_⟩ | refine ⟨_, fun h => ⟨by simp_all, (veilClose_ap (joinF 72 [c]) (bytesV t) (joinOk _ _) (bytesV_fit ht hs).1 (bytesV_fit ht hs).2)⟩, ?_⟩ | refine ⟨[], ?_⟩
    (try simp only [rsAV, List.map_cons, List.map_nil, thenQ])
    refine hK13 _ ?_
    (try clear hK13)
    simp (maxSteps:=999999) (disch:=omega) only [av1, av2, av3, av4, av5, av6, av7, eq_self, exists_const, forall_const, implies_true, storeOk, thenQ, PK.cond, PK.val, Nat.reduceAdd, Nat.reduceLT, Nat.reduceMul, reduceCtorEq, ↓reduceIte, Nat.reduceEqDiff, Nat.reduceLeDiff, Nat.reduceSub, Nat.reduceBEq, Nat.reduceBNe, Int.reduceLT, Int.reduceEq, Int.reduceAdd, Int.reduceToNat, Int.reduceLE, Int.reduceBEq, Int.reduceBNe, enc1]
    (repeat ((with_reducible refine And.intro ?_ ?_); (first | trivial | assumption | omega | (simp; done))))
    refine hK9 _ ?_
    (try clear hK9)
    refine at_ret ?_
    simp (maxSteps:=999999) (disch:=omega) only [av1, av2, av3, av4, av5, av6, av7, eq_self, exists_const, forall_const, implies_true, storeOk, thenQ, PK.cond, PK.val, Nat.reduceAdd, Nat.reduceLT, Nat.reduceMul, reduceCtorEq, ↓reduceIte, Nat.reduceEqDiff, Nat.reduceLeDiff, Nat.reduceSub, Nat.reduceBEq, Nat.reduceBNe, Int.reduceLT, Int.reduceEq, Int.reduceAdd, Int.reduceToNat, Int.reduceLE, Int.reduceBEq, Int.reduceBNe, enc1, blockQ, retQ, RetOk, ResOk, AV.fin, AV.fins, CV.le, CV.les]
    first
      | (have e : bytesE t ≠ 0 := by assumption
         simp [coverV, coverE, e]; done)
      | (have e : bytesE t = 0 := by assumption
         simp [coverV, coverE, e]; done)
      | trace_state
def jobBad (ch st : Int) : Bool := decide (ch < 0) || decide (ch > 1048576) || decide (st < 0) || decide (st > 1048576)
set_option maxRecDepth 100000 in
set_option maxHeartbeats 4000000 in
theorem makeBad_ap (ch st : Int) (c : List Int) (t : Txx) (h : jobBad ch st = true) : AP Try.prog 61 [ic .i64 ch, ic .i64 st, cSum c, cTxx t] [cJob 0 0 Z32 [], ic .i64 1] := by
  refine ap_of (fun _ _ => Try.call61 _ _) Try.func61 rfl Try.ntmps61 (by simp) (zs := [RZ.mk 8 (some (35, true)), RZ.mk 9 none]) (by kernel_rfl) (fun w F => ?_)
  simp only [List.map_cons, List.map_nil, argT, Nat.reduceAdd]
  refine at_seq fun K1 hK1 => ?_
  refine at_region [It.mk (some 6) none (IK.box (Operand.tmp 2)), It.mk (some 7) none (IK.box (Operand.tmp 3)), It.mk (some 8) none (IK.alloc (CV.st [CV.pv (Value.int IntKind.i64 0), CV.pv (Value.int IntKind.i64 0), CV.ar IntKind.u8 32 (List.replicate 32 0), CV.pv (Value.slice none 0 0)])), It.mk (some 9) none (IK.p (PK.mov (Operand.const (Value.int IntKind.i64 0))))] (by kernel_rfl) ?_
  simp (maxSteps:=999999) (disch:=omega) only [av1, av2, av3, av4, av5, av6, av7, eq_self, exists_const, forall_const, implies_true, storeOk, thenQ, PK.cond, PK.val, Nat.reduceAdd, Nat.reduceLT, Nat.reduceMul, reduceCtorEq, ↓reduceIte, Nat.reduceEqDiff, Nat.reduceLeDiff, Nat.reduceSub, Nat.reduceBEq, Nat.reduceBNe, Int.reduceLT, Int.reduceEq, Int.reduceAdd, Int.reduceToNat, Int.reduceLE, Int.reduceBEq, Int.reduceBNe, enc1, cJob]
  (repeat ((with_reducible refine And.intro ?_ ?_); (first | trivial | assumption | omega | (simp; done))))
  refine hK1 _ ?_
  (try clear hK1)
  refine at_seq fun K2 hK2 => ?_
  refine at_seq fun K3 hK3 => ?_
  refine at_region [It.mk (some 12) none (IK.p (PK.mov (Operand.tmp 0))), It.mk (some 13) none (IK.p (PK.bin BinOp.lss (Operand.tmp 12) (Operand.const (Value.int IntKind.i64 0)))), It.mk (some 14) none (IK.p (PK.mov (Operand.tmp 13))), It.mk (some 15) (some (14, false)) (IK.p (PK.mov (Operand.tmp 0))), It.mk (some 16) (some (14, false)) (IK.p (PK.bin BinOp.gtr (Operand.tmp 15) (Operand.const (Value.int IntKind.i64 1048576)))), It.mk (some 17) none (IK.p (PK.pick (Operand.tmp 14) (Operand.const (Value.bool true)) (Operand.tmp 16))), It.mk (some 18) none (IK.p (PK.mov (Operand.tmp 17))), It.mk (some 19) (some (18, false)) (IK.p (PK.mov (Operand.tmp 1))), It.mk (some 20) (some (18, false)) (IK.p (PK.bin BinOp.lss (Operand.tmp 19) (Operand.const (Value.int IntKind.i64 0)))), It.mk (some 21) none (IK.p (PK.pick (Operand.tmp 18) (Operand.const (Value.bool true)) (Operand.tmp 20))), It.mk (some 22) none (IK.p (PK.mov (Operand.tmp 21))), It.mk (some 23) (some (22, false)) (IK.p (PK.mov (Operand.tmp 1))), It.mk (some 24) (some (22, false)) (IK.p (PK.bin BinOp.gtr (Operand.tmp 23) (Operand.const (Value.int IntKind.i64 1048576)))), It.mk (some 25) none (IK.p (PK.pick (Operand.tmp 22) (Operand.const (Value.bool true)) (Operand.tmp 24)))] (by kernel_rfl) ?_
  simp (maxSteps:=999999) (disch:=omega) only [av1, av2, av3, av4, av5, av6, av7, eq_self, exists_const, forall_const, implies_true, storeOk, thenQ, PK.cond, PK.val, Nat.reduceAdd, Nat.reduceLT, Nat.reduceMul, reduceCtorEq, ↓reduceIte, Nat.reduceEqDiff, Nat.reduceLeDiff, Nat.reduceSub, Nat.reduceBEq, Nat.reduceBNe, Int.reduceLT, Int.reduceEq, Int.reduceAdd, Int.reduceToNat, Int.reduceLE, Int.reduceBEq, Int.reduceBNe, enc1, cJob]
  (repeat ((with_reducible refine And.intro ?_ ?_); (first | trivial | assumption | omega | (simp; done))))
  refine hK3 _ ?_
  (try clear hK3)
  refine at_cond _ rfl rfl (fun h4 => ?_) (fun h4 => ?_)
  · have r4 := h4
    (try simp only [dB2] at h4)
    refine at_seq fun K5 hK5 => ?_
    refine at_region [It.mk (some 26) none (IK.p (PK.bld (CV.st [CV.pv (Value.int IntKind.i64 0), CV.pv (Value.int IntKind.i64 0), CV.ar IntKind.u8 32 (List.replicate 32 0), CV.pv (Value.slice none 0 0)]) [(0, 1), (1, 1), (2, 32), (34, 1)] [])), It.mk none none (IK.store (Operand.tmp 8) (Operand.tmp 26) 35), It.mk (some 9) none (IK.p (PK.mov (Operand.const (Value.int IntKind.i64 1))))] (by kernel_rfl) ?_
    simp (maxSteps:=999999) (disch:=omega) only [av1, av2, av3, av4, av5, av6, av7, eq_self, exists_const, forall_const, implies_true, storeOk, thenQ, PK.cond, PK.val, Nat.reduceAdd, Nat.reduceLT, Nat.reduceMul, reduceCtorEq, ↓reduceIte, Nat.reduceEqDiff, Nat.reduceLeDiff, Nat.reduceSub, Nat.reduceBEq, Nat.reduceBNe, Int.reduceLT, Int.reduceEq, Int.reduceAdd, Int.reduceToNat, Int.reduceLE, Int.reduceBEq, Int.reduceBNe, enc1, cJob]
    (repeat ((with_reducible refine And.intro ?_ ?_); (first | trivial | assumption | omega | (simp; done))))
    refine hK5 _ ?_
    (try clear hK5)
    refine at_ret ?_
    simp (maxSteps:=999999) (disch:=omega) only [av1, av2, av3, av4, av5, av6, av7, eq_self, exists_const, forall_const, implies_true, storeOk, thenQ, PK.cond, PK.val, Nat.reduceAdd, Nat.reduceLT, Nat.reduceMul, reduceCtorEq, ↓reduceIte, Nat.reduceEqDiff, Nat.reduceLeDiff, Nat.reduceSub, Nat.reduceBEq, Nat.reduceBNe, Int.reduceLT, Int.reduceEq, Int.reduceAdd, Int.reduceToNat, Int.reduceLE, Int.reduceBEq, Int.reduceBNe, enc1, cJob, blockQ, retQ, RetOk, ResOk, AV.fin, AV.fins, CV.le, CV.les]
    first | (simp; rfl) | trace_state
  · have r4 := h4
    (try simp only [dB2] at h4)
    (rw [jobBad, r4] at h; cases h)
set_option maxRecDepth 100000 in
set_option maxHeartbeats 4000000 in
theorem makeErr_ap (ch st : Int) (c : List Int) (t : Txx) (hc : ArOk .u8 32 c) (ht : OkTxx t) (hs : smallTx t = true) (h : jobBad ch st = false) (he : coverE t ≠ 0) : AP Try.prog 61 [ic .i64 ch, ic .i64 st, cSum c, cTxx t] [cJob 0 0 Z32 [], ic .i64 (coverE t)] := by
  refine ap_of (fun _ _ => Try.call61 _ _) Try.func61 rfl Try.ntmps61 (by simp) (zs := [RZ.mk 8 (some (35, true)), RZ.mk 9 none]) (by kernel_rfl) (fun w F => ?_)
  simp only [List.map_cons, List.map_nil, argT, Nat.reduceAdd]
  refine at_seq fun K1 hK1 => ?_
  refine at_region [It.mk (some 6) none (IK.box (Operand.tmp 2)), It.mk (some 7) none (IK.box (Operand.tmp 3)), It.mk (some 8) none (IK.alloc (CV.st [CV.pv (Value.int IntKind.i64 0), CV.pv (Value.int IntKind.i64 0), CV.ar IntKind.u8 32 (List.replicate 32 0), CV.pv (Value.slice none 0 0)])), It.mk (some 9) none (IK.p (PK.mov (Operand.const (Value.int IntKind.i64 0))))] (by kernel_rfl) ?_
  simp (maxSteps:=999999) (disch:=omega) only [av1, av2, av3, av4, av5, av6, av7, eq_self, exists_const, forall_const, implies_true, storeOk, thenQ, PK.cond, PK.val, Nat.reduceAdd, Nat.reduceLT, Nat.reduceMul, reduceCtorEq, ↓reduceIte, Nat.reduceEqDiff, Nat.reduceLeDiff, Nat.reduceSub, Nat.reduceBEq, Nat.reduceBNe, Int.reduceLT, Int.reduceEq, Int.reduceAdd, Int.reduceToNat, Int.reduceLE, Int.reduceBEq, Int.reduceBNe, enc1, cJob]
  (repeat ((with_reducible refine And.intro ?_ ?_); (first | trivial | assumption | omega | (simp; done))))
  refine hK1 _ ?_
  (try clear hK1)
  refine at_seq fun K2 hK2 => ?_
  refine at_seq fun K3 hK3 => ?_
  refine at_region [It.mk (some 12) none (IK.p (PK.mov (Operand.tmp 0))), It.mk (some 13) none (IK.p (PK.bin BinOp.lss (Operand.tmp 12) (Operand.const (Value.int IntKind.i64 0)))), It.mk (some 14) none (IK.p (PK.mov (Operand.tmp 13))), It.mk (some 15) (some (14, false)) (IK.p (PK.mov (Operand.tmp 0))), It.mk (some 16) (some (14, false)) (IK.p (PK.bin BinOp.gtr (Operand.tmp 15) (Operand.const (Value.int IntKind.i64 1048576)))), It.mk (some 17) none (IK.p (PK.pick (Operand.tmp 14) (Operand.const (Value.bool true)) (Operand.tmp 16))), It.mk (some 18) none (IK.p (PK.mov (Operand.tmp 17))), It.mk (some 19) (some (18, false)) (IK.p (PK.mov (Operand.tmp 1))), It.mk (some 20) (some (18, false)) (IK.p (PK.bin BinOp.lss (Operand.tmp 19) (Operand.const (Value.int IntKind.i64 0)))), It.mk (some 21) none (IK.p (PK.pick (Operand.tmp 18) (Operand.const (Value.bool true)) (Operand.tmp 20))), It.mk (some 22) none (IK.p (PK.mov (Operand.tmp 21))), It.mk (some 23) (some (22, false)) (IK.p (PK.mov (Operand.tmp 1))), It.mk (some 24) (some (22, false)) (IK.p (PK.bin BinOp.gtr (Operand.tmp 23) (Operand.const (Value.int IntKind.i64 1048576)))), It.mk (some 25) none (IK.p (PK.pick (Operand.tmp 22) (Operand.const (Value.bool true)) (Operand.tmp 24)))] (by kernel_rfl) ?_
  simp (maxSteps:=999999) (disch:=omega) only [av1, av2, av3, av4, av5, av6, av7, eq_self, exists_const, forall_const, implies_true, storeOk, thenQ, PK.cond, PK.val, Nat.reduceAdd, Nat.reduceLT, Nat.reduceMul, reduceCtorEq, ↓reduceIte, Nat.reduceEqDiff, Nat.reduceLeDiff, Nat.reduceSub, Nat.reduceBEq, Nat.reduceBNe, Int.reduceLT, Int.reduceEq, Int.reduceAdd, Int.reduceToNat, Int.reduceLE, Int.reduceBEq, Int.reduceBNe, enc1, cJob]
  (repeat ((with_reducible refine And.intro ?_ ?_); (first | trivial | assumption | omega | (simp; done))))
  refine hK3 _ ?_
  (try clear hK3)
  refine at_cond _ rfl rfl (fun h4 => ?_) (fun h4 => ?_)
  · have r4 := h4
    (try simp only [dB2] at h4)
    (rw [jobBad, r4] at h; cases h)
  · have r4 := h4
    (try simp only [dB2] at h4)
    refine at_skip ?_
    (try simp only [thenQ, blockQ])
    refine hK2 _ ?_
    (try clear hK2)
    refine at_seq fun K5 hK5 => ?_
    refine at_region [It.mk (some 28) none (IK.p (PK.load (Operand.tmp 6) 32 true)), It.mk (some 29) none (IK.p (PK.load (Operand.tmp 7) 40 true)), It.mk (some 30) none (IK.call 62 [Operand.tmp 28, Operand.tmp 29]), It.mk (some 27) none (IK.p (PK.mov (Operand.tmp 30))), It.mk (some 31) none (IK.p (PK.ext (Operand.tmp 27) 0)), It.mk (some 32) none (IK.p (PK.ext (Operand.tmp 27) 1)), It.mk (some 10) none (IK.p (PK.mov (Operand.tmp 31))), It.mk (some 11) none (IK.p (PK.mov (Operand.tmp 32)))] (by kernel_rfl) ?_
    refine apl_cut [_, _] _ (fun K6 hK6 => ?_)
    simp (maxSteps:=999999) (disch:=omega) only [av1, av2, av3, av4, av5, av6, av7, eq_self, exists_const, forall_const, implies_true, storeOk, thenQ, PK.cond, PK.val, Nat.reduceAdd, Nat.reduceLT, Nat.reduceMul, reduceCtorEq, ↓reduceIte, Nat.reduceEqDiff, Nat.reduceLeDiff, Nat.reduceSub, Nat.reduceBEq, Nat.reduceBNe, Int.reduceLT, Int.reduceEq, Int.reduceAdd, Int.reduceToNat, Int.reduceLE, Int.reduceBEq, Int.reduceBNe, enc1, cJob]
    (repeat ((with_reducible refine And.intro ?_ ?_); (first | trivial | assumption | omega | (simp; done))))
    refine hK6 _ ?_
    (try clear hK6)
    refine apl_cut [_] _ (fun K7 hK7 => ?_)
    simp (maxSteps:=999999) (disch:=omega) only [av1, av2, av3, av4, av5, av6, av7, eq_self, exists_const, forall_const, implies_true, storeOk, thenQ, PK.cond, PK.val, Nat.reduceAdd, Nat.reduceLT, Nat.reduceMul, reduceCtorEq, ↓reduceIte, Nat.reduceEqDiff, Nat.reduceLeDiff, Nat.reduceSub, Nat.reduceBEq, Nat.reduceBNe, Int.reduceLT, Int.reduceEq, Int.reduceAdd, Int.reduceToNat, Int.reduceLE, Int.reduceBEq, Int.reduceBNe, enc1, cJob]
    apply Or.inl
    first | refine ⟨[], trivial, ?_⟩ | refine ⟨_, (cover16_ap c t hc ht hs), ?_⟩ | refine ⟨_, fun _ => (cover16_ap c t hc ht hs), ?_⟩ | refine ⟨_, fun h => ⟨h, (cover16_ap c t hc ht hs)⟩, ?_⟩ | refine ⟨_, fun h => ⟨by simp_all, (cover16_ap c t hc ht hs)⟩, ?_⟩ | refine ⟨[], ?_⟩
    (try simp only [rsAV, List.map_cons, List.map_nil, thenQ])
    refine hK7 _ ?_
    (try clear hK7)
    simp (maxSteps:=999999) (disch:=omega) only [av1, av2, av3, av4, av5, av6, av7, eq_self, exists_const, forall_const, implies_true, storeOk, thenQ, PK.cond, PK.val, Nat.reduceAdd, Nat.reduceLT, Nat.reduceMul, reduceCtorEq, ↓reduceIte, Nat.reduceEqDiff, Nat.reduceLeDiff, Nat.reduceSub, Nat.reduceBEq, Nat.reduceBNe, Int.reduceLT, Int.reduceEq, Int.reduceAdd, Int.reduceToNat, Int.reduceLE, Int.reduceBEq, Int.reduceBNe, enc1, cJob]
    (repeat ((with_reducible refine And.intro ?_ ?_); (first | trivial | assumption | omega | (simp; done))))
    refine hK5 _ ?_
    (try clear hK5)
    refine at_seq fun K8 hK8 => ?_
    refine at_seq fun K9 hK9 => ?_
    refine at_region [It.mk (some 33) none (IK.p (PK.mov (Operand.tmp 11))), It.mk (some 34) none (IK.p (PK.bin BinOp.neq (Operand.tmp 33) (Operand.const (Value.int IntKind.i64 0))))] (by kernel_rfl) ?_
    simp (maxSteps:=999999) (disch:=omega) only [av1, av2, av3, av4, av5, av6, av7, eq_self, exists_const, forall_const, implies_true, storeOk, thenQ, PK.cond, PK.val, Nat.reduceAdd, Nat.reduceLT, Nat.reduceMul, reduceCtorEq, ↓reduceIte, Nat.reduceEqDiff, Nat.reduceLeDiff, Nat.reduceSub, Nat.reduceBEq, Nat.reduceBNe, Int.reduceLT, Int.reduceEq, Int.reduceAdd, Int.reduceToNat, Int.reduceLE, Int.reduceBEq, Int.reduceBNe, enc1, cJob]
    (repeat ((with_reducible refine And.intro ?_ ?_); (first | trivial | assumption | omega | (simp; done))))
    refine hK9 _ ?_
    (try clear hK9)
    refine at_cond _ rfl rfl (fun h10 => ?_) (fun h10 => ?_)
    · have r10 := h10
      (try simp only [dB2] at h10)
      refine at_seq fun K11 hK11 => ?_
      refine at_region [It.mk (some 35) none (IK.p (PK.bld (CV.st [CV.pv (Value.int IntKind.i64 0), CV.pv (Value.int IntKind.i64 0), CV.ar IntKind.u8 32 (List.replicate 32 0), CV.pv (Value.slice none 0 0)]) [(0, 1), (1, 1), (2, 32), (34, 1)] [])), It.mk (some 36) none (IK.p (PK.mov (Operand.tmp 11))), It.mk none none (IK.store (Operand.tmp 8) (Operand.tmp 35) 35), It.mk (some 9) none (IK.p (PK.mov (Operand.tmp 36)))] (by kernel_rfl) ?_
      simp (maxSteps:=999999) (disch:=omega) only [av1, av2, av3, av4, av5, av6, av7, eq_self, exists_const, forall_const, implies_true, storeOk, thenQ, PK.cond, PK.val, Nat.reduceAdd, Nat.reduceLT, Nat.reduceMul, reduceCtorEq, ↓reduceIte, Nat.reduceEqDiff, Nat.reduceLeDiff, Nat.reduceSub, Nat.reduceBEq, Nat.reduceBNe, Int.reduceLT, Int.reduceEq, Int.reduceAdd, Int.reduceToNat, Int.reduceLE, Int.reduceBEq, Int.reduceBNe, enc1, cJob]
      (repeat ((with_reducible refine And.intro ?_ ?_); (first | trivial | assumption | omega | (simp; done))))
      refine hK11 _ ?_
      (try clear hK11)
      refine at_ret ?_
      simp (maxSteps:=999999) (disch:=omega) only [av1, av2, av3, av4, av5, av6, av7, eq_self, exists_const, forall_const, implies_true, storeOk, thenQ, PK.cond, PK.val, Nat.reduceAdd, Nat.reduceLT, Nat.reduceMul, reduceCtorEq, ↓reduceIte, Nat.reduceEqDiff, Nat.reduceLeDiff, Nat.reduceSub, Nat.reduceBEq, Nat.reduceBNe, Int.reduceLT, Int.reduceEq, Int.reduceAdd, Int.reduceToNat, Int.reduceLE, Int.reduceBEq, Int.reduceBNe, enc1, cJob, blockQ, retQ, RetOk, ResOk, AV.fin, AV.fins, CV.le, CV.les]
      first | (simp; rfl) | trace_state
    · have r10 := h10
      (try simp only [dB2] at h10)
      exact absurd (by assumption) he
set_option maxRecDepth 100000 in
set_option maxHeartbeats 4000000 in
theorem makeOk_ap (ch st : Int) (c : List Int) (t : Txx) (hc : ArOk .u8 32 c) (ht : OkTxx t) (hs : smallTx t = true) (h : jobBad ch st = false) (he : coverE t = 0) : AP Try.prog 61 [ic .i64 ch, ic .i64 st, cSum c, cTxx t] [cJob ch st (joinF 71 [c]) (coverV c t), ic .i64 0] := by
  refine ap_of (fun _ _ => Try.call61 _ _) Try.func61 rfl Try.ntmps61 (by simp) (zs := [RZ.mk 8 (some (35, true)), RZ.mk 9 none]) (by kernel_rfl) (fun w F => ?_)
  simp only [List.map_cons, List.map_nil, argT, Nat.reduceAdd]
  refine at_seq fun K1 hK1 => ?_
  refine at_region [It.mk (some 6) none (IK.box (Operand.tmp 2)), It.mk (some 7) none (IK.box (Operand.tmp 3)), It.mk (some 8) none (IK.alloc (CV.st [CV.pv (Value.int IntKind.i64 0), CV.pv (Value.int IntKind.i64 0), CV.ar IntKind.u8 32 (List.replicate 32 0), CV.pv (Value.slice none 0 0)])), It.mk (some 9) none (IK.p (PK.mov (Operand.const (Value.int IntKind.i64 0))))] (by kernel_rfl) ?_
  simp (maxSteps:=999999) (disch:=omega) only [av1, av2, av3, av4, av5, av6, av7, eq_self, exists_const, forall_const, implies_true, storeOk, thenQ, PK.cond, PK.val, Nat.reduceAdd, Nat.reduceLT, Nat.reduceMul, reduceCtorEq, ↓reduceIte, Nat.reduceEqDiff, Nat.reduceLeDiff, Nat.reduceSub, Nat.reduceBEq, Nat.reduceBNe, Int.reduceLT, Int.reduceEq, Int.reduceAdd, Int.reduceToNat, Int.reduceLE, Int.reduceBEq, Int.reduceBNe, enc1, cJob]
  (repeat ((with_reducible refine And.intro ?_ ?_); (first | trivial | assumption | omega | (simp; done))))
  refine hK1 _ ?_
  (try clear hK1)
  refine at_seq fun K2 hK2 => ?_
  refine at_seq fun K3 hK3 => ?_
  refine at_region [It.mk (some 12) none (IK.p (PK.mov (Operand.tmp 0))), It.mk (some 13) none (IK.p (PK.bin BinOp.lss (Operand.tmp 12) (Operand.const (Value.int IntKind.i64 0)))), It.mk (some 14) none (IK.p (PK.mov (Operand.tmp 13))), It.mk (some 15) (some (14, false)) (IK.p (PK.mov (Operand.tmp 0))), It.mk (some 16) (some (14, false)) (IK.p (PK.bin BinOp.gtr (Operand.tmp 15) (Operand.const (Value.int IntKind.i64 1048576)))), It.mk (some 17) none (IK.p (PK.pick (Operand.tmp 14) (Operand.const (Value.bool true)) (Operand.tmp 16))), It.mk (some 18) none (IK.p (PK.mov (Operand.tmp 17))), It.mk (some 19) (some (18, false)) (IK.p (PK.mov (Operand.tmp 1))), It.mk (some 20) (some (18, false)) (IK.p (PK.bin BinOp.lss (Operand.tmp 19) (Operand.const (Value.int IntKind.i64 0)))), It.mk (some 21) none (IK.p (PK.pick (Operand.tmp 18) (Operand.const (Value.bool true)) (Operand.tmp 20))), It.mk (some 22) none (IK.p (PK.mov (Operand.tmp 21))), It.mk (some 23) (some (22, false)) (IK.p (PK.mov (Operand.tmp 1))), It.mk (some 24) (some (22, false)) (IK.p (PK.bin BinOp.gtr (Operand.tmp 23) (Operand.const (Value.int IntKind.i64 1048576)))), It.mk (some 25) none (IK.p (PK.pick (Operand.tmp 22) (Operand.const (Value.bool true)) (Operand.tmp 24)))] (by kernel_rfl) ?_
  simp (maxSteps:=999999) (disch:=omega) only [av1, av2, av3, av4, av5, av6, av7, eq_self, exists_const, forall_const, implies_true, storeOk, thenQ, PK.cond, PK.val, Nat.reduceAdd, Nat.reduceLT, Nat.reduceMul, reduceCtorEq, ↓reduceIte, Nat.reduceEqDiff, Nat.reduceLeDiff, Nat.reduceSub, Nat.reduceBEq, Nat.reduceBNe, Int.reduceLT, Int.reduceEq, Int.reduceAdd, Int.reduceToNat, Int.reduceLE, Int.reduceBEq, Int.reduceBNe, enc1, cJob]
  (repeat ((with_reducible refine And.intro ?_ ?_); (first | trivial | assumption | omega | (simp; done))))
  refine hK3 _ ?_
  (try clear hK3)
  refine at_cond _ rfl rfl (fun h4 => ?_) (fun h4 => ?_)
  · have r4 := h4
    (try simp only [dB2] at h4)
    (rw [jobBad, r4] at h; cases h)
  · have r4 := h4
    (try simp only [dB2] at h4)
    refine at_skip ?_
    (try simp only [thenQ, blockQ])
    refine hK2 _ ?_
    (try clear hK2)
    refine at_seq fun K5 hK5 => ?_
    refine at_region [It.mk (some 28) none (IK.p (PK.load (Operand.tmp 6) 32 true)), It.mk (some 29) none (IK.p (PK.load (Operand.tmp 7) 40 true)), It.mk (some 30) none (IK.call 62 [Operand.tmp 28, Operand.tmp 29]), It.mk (some 27) none (IK.p (PK.mov (Operand.tmp 30))), It.mk (some 31) none (IK.p (PK.ext (Operand.tmp 27) 0)), It.mk (some 32) none (IK.p (PK.ext (Operand.tmp 27) 1)), It.mk (some 10) none (IK.p (PK.mov (Operand.tmp 31))), It.mk (some 11) none (IK.p (PK.mov (Operand.tmp 32)))] (by kernel_rfl) ?_
    refine apl_cut [_, _] _ (fun K6 hK6 => ?_)
    simp (maxSteps:=999999) (disch:=omega) only [av1, av2, av3, av4, av5, av6, av7, eq_self, exists_const, forall_const, implies_true, storeOk, thenQ, PK.cond, PK.val, Nat.reduceAdd, Nat.reduceLT, Nat.reduceMul, reduceCtorEq, ↓reduceIte, Nat.reduceEqDiff, Nat.reduceLeDiff, Nat.reduceSub, Nat.reduceBEq, Nat.reduceBNe, Int.reduceLT, Int.reduceEq, Int.reduceAdd, Int.reduceToNat, Int.reduceLE, Int.reduceBEq, Int.reduceBNe, enc1, cJob]
    (repeat ((with_reducible refine And.intro ?_ ?_); (first | trivial | assumption | omega | (simp; done))))
    refine hK6 _ ?_
    (try clear hK6)
    refine apl_cut [_] _ (fun K7 hK7 => ?_)
    simp (maxSteps:=999999) (disch:=omega) only [av1, av2, av3, av4, av5, av6, av7, eq_self, exists_const, forall_const, implies_true, storeOk, thenQ, PK.cond, PK.val, Nat.reduceAdd, Nat.reduceLT, Nat.reduceMul, reduceCtorEq, ↓reduceIte, Nat.reduceEqDiff, Nat.reduceLeDiff, Nat.reduceSub, Nat.reduceBEq, Nat.reduceBNe, Int.reduceLT, Int.reduceEq, Int.reduceAdd, Int.reduceToNat, Int.reduceLE, Int.reduceBEq, Int.reduceBNe, enc1, cJob]
    apply Or.inl
    first | refine ⟨[], trivial, ?_⟩ | refine ⟨_, (cover16_ap c t hc ht hs), ?_⟩ | refine ⟨_, fun _ => (cover16_ap c t hc ht hs), ?_⟩ | refine ⟨_, fun h => ⟨h, (cover16_ap c t hc ht hs)⟩, ?_⟩ | refine ⟨_, fun h => ⟨by simp_all, (cover16_ap c t hc ht hs)⟩, ?_⟩ | refine ⟨[], ?_⟩
    (try simp only [rsAV, List.map_cons, List.map_nil, thenQ])
    refine hK7 _ ?_
    (try clear hK7)
    simp (maxSteps:=999999) (disch:=omega) only [av1, av2, av3, av4, av5, av6, av7, eq_self, exists_const, forall_const, implies_true, storeOk, thenQ, PK.cond, PK.val, Nat.reduceAdd, Nat.reduceLT, Nat.reduceMul, reduceCtorEq, ↓reduceIte, Nat.reduceEqDiff, Nat.reduceLeDiff, Nat.reduceSub, Nat.reduceBEq, Nat.reduceBNe, Int.reduceLT, Int.reduceEq, Int.reduceAdd, Int.reduceToNat, Int.reduceLE, Int.reduceBEq, Int.reduceBNe, enc1, cJob]
    (repeat ((with_reducible refine And.intro ?_ ?_); (first | trivial | assumption | omega | (simp; done))))
    refine hK5 _ ?_
    (try clear hK5)
    refine at_seq fun K8 hK8 => ?_
    refine at_seq fun K9 hK9 => ?_
    refine at_region [It.mk (some 33) none (IK.p (PK.mov (Operand.tmp 11))), It.mk (some 34) none (IK.p (PK.bin BinOp.neq (Operand.tmp 33) (Operand.const (Value.int IntKind.i64 0))))] (by kernel_rfl) ?_
    simp (maxSteps:=999999) (disch:=omega) only [av1, av2, av3, av4, av5, av6, av7, eq_self, exists_const, forall_const, implies_true, storeOk, thenQ, PK.cond, PK.val, Nat.reduceAdd, Nat.reduceLT, Nat.reduceMul, reduceCtorEq, ↓reduceIte, Nat.reduceEqDiff, Nat.reduceLeDiff, Nat.reduceSub, Nat.reduceBEq, Nat.reduceBNe, Int.reduceLT, Int.reduceEq, Int.reduceAdd, Int.reduceToNat, Int.reduceLE, Int.reduceBEq, Int.reduceBNe, enc1, cJob]
    (repeat ((with_reducible refine And.intro ?_ ?_); (first | trivial | assumption | omega | (simp; done))))
    refine hK9 _ ?_
    (try clear hK9)
    refine at_cond _ rfl rfl (fun h10 => ?_) (fun h10 => ?_)
    · have r10 := h10
      (try simp only [dB2] at h10)
      exact absurd he (by assumption)
    · have r10 := h10
      (try simp only [dB2] at h10)
      refine at_skip ?_
      (try simp only [thenQ, blockQ])
      refine hK8 _ ?_
      (try clear hK8)
      refine at_seq fun K11 hK11 => ?_
      refine at_region [It.mk (some 37) none (IK.p (PK.mov (Operand.tmp 0))), It.mk (some 38) none (IK.p (PK.mov (Operand.tmp 1))), It.mk (some 39) none (IK.p (PK.load (Operand.tmp 6) 32 true)), It.mk (some 40) none (IK.call 63 [Operand.tmp 39]), It.mk (some 41) none (IK.p (PK.mov (Operand.tmp 10))), It.mk (some 42) none (IK.p (PK.bld (CV.st [CV.pv (Value.int IntKind.i64 0), CV.pv (Value.int IntKind.i64 0), CV.ar IntKind.u8 32 (List.replicate 32 0), CV.pv (Value.slice none 0 0)]) [(0, 1), (1, 1), (2, 32), (34, 1)] [(0, Operand.tmp 37), (1, Operand.tmp 38), (2, Operand.tmp 40), (3, Operand.tmp 41)])), It.mk none none (IK.store (Operand.tmp 8) (Operand.tmp 42) 35), It.mk (some 9) none (IK.p (PK.mov (Operand.const (Value.int IntKind.i64 0))))] (by kernel_rfl) ?_
      refine apl_cut [_, _, _] _ (fun K12 hK12 => ?_)
      simp (maxSteps:=999999) (disch:=omega) only [av1, av2, av3, av4, av5, av6, av7, eq_self, exists_const, forall_const, implies_true, storeOk, thenQ, PK.cond, PK.val, Nat.reduceAdd, Nat.reduceLT, Nat.reduceMul, reduceCtorEq, ↓reduceIte, Nat.reduceEqDiff, Nat.reduceLeDiff, Nat.reduceSub, Nat.reduceBEq, Nat.reduceBNe, Int.reduceLT, Int.reduceEq, Int.reduceAdd, Int.reduceToNat, Int.reduceLE, Int.reduceBEq, Int.reduceBNe, enc1, cJob]
      (repeat ((with_reducible refine And.intro ?_ ?_); (first | trivial | assumption | omega | (simp; done))))
      refine hK12 _ ?_
      (try clear hK12)
      refine apl_cut [_] _ (fun K13 hK13 => ?_)
      simp (maxSteps:=999999) (disch:=omega) only [av1, av2, av3, av4, av5, av6, av7, eq_self, exists_const, forall_const, implies_true, storeOk, thenQ, PK.cond, PK.val, Nat.reduceAdd, Nat.reduceLT, Nat.reduceMul, reduceCtorEq, ↓reduceIte, Nat.reduceEqDiff, Nat.reduceLeDiff, Nat.reduceSub, Nat.reduceBEq, Nat.reduceBNe, Int.reduceLT, Int.reduceEq, Int.reduceAdd, Int.reduceToNat, Int.reduceLE, Int.reduceBEq, Int.reduceBNe, enc1, cJob]
      apply Or.inl
      first | refine ⟨[], trivial, ?_⟩ | refine ⟨_, (hint_ap c hc), ?_⟩ | refine ⟨_, fun _ => (hint_ap c hc), ?_⟩ | refine ⟨_, fun h => ⟨h, (hint_ap c hc)⟩, ?_⟩ | refine ⟨_, fun h => ⟨by simp_all, (hint_ap c hc)⟩, ?_⟩ | refine ⟨[], ?_⟩
      (try simp only [rsAV, List.map_cons, List.map_nil, thenQ])
      refine hK13 _ ?_
      (try clear hK13)
      simp (maxSteps:=999999) (disch:=omega) only [av1, av2, av3, av4, av5, av6, av7, eq_self, exists_const, forall_const, implies_true, storeOk, thenQ, PK.cond, PK.val, Nat.reduceAdd, Nat.reduceLT, Nat.reduceMul, reduceCtorEq, ↓reduceIte, Nat.reduceEqDiff, Nat.reduceLeDiff, Nat.reduceSub, Nat.reduceBEq, Nat.reduceBNe, Int.reduceLT, Int.reduceEq, Int.reduceAdd, Int.reduceToNat, Int.reduceLE, Int.reduceBEq, Int.reduceBNe, enc1, cJob]
      (repeat ((with_reducible refine And.intro ?_ ?_); (first | trivial | assumption | omega | (simp; done))))
      refine hK11 _ ?_
      (try clear hK11)
      refine at_ret ?_
      simp (maxSteps:=999999) (disch:=omega) only [av1, av2, av3, av4, av5, av6, av7, eq_self, exists_const, forall_const, implies_true, storeOk, thenQ, PK.cond, PK.val, Nat.reduceAdd, Nat.reduceLT, Nat.reduceMul, reduceCtorEq, ↓reduceIte, Nat.reduceEqDiff, Nat.reduceLeDiff, Nat.reduceSub, Nat.reduceBEq, Nat.reduceBNe, Int.reduceLT, Int.reduceEq, Int.reduceAdd, Int.reduceToNat, Int.reduceLE, Int.reduceBEq, Int.reduceBNe, enc1, cJob, blockQ, retQ, RetOk, ResOk, AV.fin, AV.fins, CV.le, CV.les]
      first | (simp; done) | (simp; rfl) | trace_state
set_option maxRecDepth 100000 in
set_option maxHeartbeats 4000000 in
theorem receipt_ap (ch st tw : Int) (h b : List Int) (hb : Bytes8 b) (hl : b.length ≤ 1000000) : AP Try.prog 65 [cJob ch st h b, ic .i64 tw] [cRcp tw ch st h (joinF 73 [b])] := by
  refine ap_of (fun _ _ => Try.call65 _ _) Try.func65 rfl Try.ntmps65 (by simp) (zs := [RZ.mk 4 (some (67, true))]) (by kernel_rfl) (fun w F => ?_)
  simp only [List.map_cons, List.map_nil, argT, Nat.reduceAdd]
  refine at_seq fun K1 hK1 => ?_
  refine at_region [It.mk (some 2) none (IK.box (Operand.tmp 0)), It.mk (some 4) none (IK.alloc (CV.st [CV.pv (Value.int IntKind.i64 0), CV.pv (Value.int IntKind.i64 0), CV.pv (Value.int IntKind.i64 0), CV.ar IntKind.u8 32 (List.replicate 32 0), CV.ar IntKind.u8 32 (List.replicate 32 0)]))] (by kernel_rfl) ?_
  simp (maxSteps:=999999) (disch:=omega) only [av1, av2, av3, av4, av5, av6, av7, eq_self, exists_const, forall_const, implies_true, storeOk, thenQ, PK.cond, PK.val, Nat.reduceAdd, Nat.reduceLT, Nat.reduceMul, reduceCtorEq, ↓reduceIte, Nat.reduceEqDiff, Nat.reduceLeDiff, Nat.reduceSub, Nat.reduceBEq, Nat.reduceBNe, Int.reduceLT, Int.reduceEq, Int.reduceAdd, Int.reduceToNat, Int.reduceLE, Int.reduceBEq, Int.reduceBNe, enc1, cJob, cRcp]
  (repeat ((with_reducible refine And.intro ?_ ?_); (first | trivial | assumption | omega | (simp; done))))
  refine hK1 _ ?_
  (try clear hK1)
  refine at_seq fun K2 hK2 => ?_
  refine at_draws [] (by kernel_rfl) ?_
  refine ag_pures (fuel := 3) [0, 1, 2, 3, 4, 5, 6, 7, 8] [It.mk (some 5) none (IK.p (PK.mov (Operand.tmp 1))), It.mk (some 6) none (IK.p (PK.fAddr (Operand.tmp 2) 0 0)), It.mk (some 7) none (IK.p (PK.load (Operand.tmp 6) 1 false)), It.mk (some 8) none (IK.p (PK.fAddr (Operand.tmp 2) 1 1)), It.mk (some 9) none (IK.p (PK.load (Operand.tmp 8) 1 false)), It.mk (some 10) none (IK.p (PK.fAddr (Operand.tmp 2) 2 2)), It.mk (some 11) none (IK.p (PK.load (Operand.tmp 10) 32 true)), It.mk (some 12) none (IK.p (PK.fAddr (Operand.tmp 2) 3 34)), It.mk (some 13) none (IK.p (PK.load (Operand.tmp 12) 1 false))] (by kernel_rfl) (by kernel_rfl) (by kernel_rfl) (by kernel_rfl) (hideZ_nil _ 0) (fun K3 hK3 => ?_)
  simp (maxSteps:=999999) (disch:=omega) only [av1, av2, av3, av4, av5, av6, av7, eq_self, exists_const, forall_const, implies_true, storeOk, thenQ, PK.cond, PK.val, Nat.reduceAdd, Nat.reduceLT, Nat.reduceMul, reduceCtorEq, ↓reduceIte, Nat.reduceEqDiff, Nat.reduceLeDiff, Nat.reduceSub, Nat.reduceBEq, Nat.reduceBNe, Int.reduceLT, Int.reduceEq, Int.reduceAdd, Int.reduceToNat, Int.reduceLE, Int.reduceBEq, Int.reduceBNe, enc1, cJob, cRcp]
  (repeat ((with_reducible refine And.intro ?_ ?_); (first | trivial | assumption | omega | (simp; done))))
  refine hK3 _ ?_
  (try clear hK3)
  refine ag_one (i:=9) (by kernel_rfl) ?_
  refine agi (it := It.mk (some 14) none (IK.call 64 [Operand.tmp 13])) (R' := [6, 5, 4, 3, 2, 1, 0]) (by kernel_rfl) (.inl (by simp only [tgtB, IK.target, av1, av2, av4, Nat.reduceEqDiff, ↓reduceIte, reduceCtorEq, Option.isSome_some, List.all_nil])) (by kernel_rfl) (fun K4 hK4 => ?_)
  simp (maxSteps:=999999) (disch:=omega) only [av1, av2, av3, av4, av5, av6, av7, eq_self, exists_const, forall_const, implies_true, storeOk, thenQ, PK.cond, PK.val, Nat.reduceAdd, Nat.reduceLT, Nat.reduceMul, reduceCtorEq, ↓reduceIte, Nat.reduceEqDiff, Nat.reduceLeDiff, Nat.reduceSub, Nat.reduceBEq, Nat.reduceBNe, Int.reduceLT, Int.reduceEq, Int.reduceAdd, Int.reduceToNat, Int.reduceLE, Int.reduceBEq, Int.reduceBNe, enc1, cJob, cRcp]
  apply Or.inl
  first | refine ⟨[], trivial, ?_⟩ | refine ⟨_, (mark16_ap b hb hl), ?_⟩ | refine ⟨_, fun _ => (mark16_ap b hb hl), ?_⟩ | refine ⟨_, fun h => ⟨h, (mark16_ap b hb hl)⟩, ?_⟩ | refine ⟨_, fun h => ⟨by simp_all, (mark16_ap b hb hl)⟩, ?_⟩ | refine ⟨[], ?_⟩
  (try simp only [rsAV, List.map_cons, List.map_nil, thenQ])
  refine hK4 _ ?_
  (try clear hK4)
  refine ag_pures (fuel := 1) [10] [It.mk (some 15) none (IK.p (PK.bld (CV.st [CV.pv (Value.int IntKind.i64 0), CV.pv (Value.int IntKind.i64 0), CV.pv (Value.int IntKind.i64 0), CV.ar IntKind.u8 32 (List.replicate 32 0), CV.ar IntKind.u8 32 (List.replicate 32 0)]) [(0, 1), (1, 1), (2, 1), (3, 32), (35, 32)] [(0, Operand.tmp 5), (1, Operand.tmp 7), (2, Operand.tmp 9), (3, Operand.tmp 11), (4, Operand.tmp 14)]))] (by kernel_rfl) (by kernel_rfl) (by kernel_rfl) (by kernel_rfl) (hideZ_nil _ 0) (fun K5 hK5 => ?_)
  simp (maxSteps:=999999) (disch:=omega) only [av1, av2, av3, av4, av5, av6, av7, eq_self, exists_const, forall_const, implies_true, storeOk, thenQ, PK.cond, PK.val, Nat.reduceAdd, Nat.reduceLT, Nat.reduceMul, reduceCtorEq, ↓reduceIte, Nat.reduceEqDiff, Nat.reduceLeDiff, Nat.reduceSub, Nat.reduceBEq, Nat.reduceBNe, Int.reduceLT, Int.reduceEq, Int.reduceAdd, Int.reduceToNat, Int.reduceLE, Int.reduceBEq, Int.reduceBNe, enc1, cJob, cRcp]
  (repeat ((with_reducible refine And.intro ?_ ?_); (first | trivial | assumption | omega | (simp; done))))
  refine hK5 _ ?_
  (try clear hK5)
  refine ag_one (i:=11) (by kernel_rfl) ?_
  refine agi (it := It.mk none none (IK.store (Operand.tmp 4) (Operand.tmp 15) 67)) (R' := []) (by kernel_rfl) (.inr (by kernel_rfl)) (by kernel_rfl) (fun K6 hK6 => ?_)
  simp (maxSteps:=999999) (disch:=omega) only [av1, av2, av3, av4, av5, av6, av7, eq_self, exists_const, forall_const, implies_true, storeOk, thenQ, PK.cond, PK.val, Nat.reduceAdd, Nat.reduceLT, Nat.reduceMul, reduceCtorEq, ↓reduceIte, Nat.reduceEqDiff, Nat.reduceLeDiff, Nat.reduceSub, Nat.reduceBEq, Nat.reduceBNe, Int.reduceLT, Int.reduceEq, Int.reduceAdd, Int.reduceToNat, Int.reduceLE, Int.reduceBEq, Int.reduceBNe, enc1, cJob, cRcp]
  (repeat ((with_reducible refine And.intro ?_ ?_); (first | trivial | assumption | omega | (simp; done))))
  refine hK6 _ ?_
  (try clear hK6)
  refine ag_done (by kernel_rfl) ?_
  (try simp only [thenQ])
  refine hK2 _ ?_
  (try clear hK2)
  refine at_ret ?_
  simp (maxSteps:=999999) (disch:=omega) only [av1, av2, av3, av4, av5, av6, av7, eq_self, exists_const, forall_const, implies_true, storeOk, thenQ, PK.cond, PK.val, Nat.reduceAdd, Nat.reduceLT, Nat.reduceMul, reduceCtorEq, ↓reduceIte, Nat.reduceEqDiff, Nat.reduceLeDiff, Nat.reduceSub, Nat.reduceBEq, Nat.reduceBNe, Int.reduceLT, Int.reduceEq, Int.reduceAdd, Int.reduceToNat, Int.reduceLE, Int.reduceBEq, Int.reduceBNe, enc1, cJob, cRcp, blockQ, retQ, RetOk, ResOk, AV.fin, AV.fins, CV.le, CV.les]
  first | (simp; done) | trace_state
def rcpEq (tw ch st : Int) (h b : List Int) (tw' ch' st' : Int) (h' b' : List Int) : Bool := tw == tw' && (ch == ch' && (st == st' && (h == h' && b == b')))
set_option maxRecDepth 100000 in
set_option maxHeartbeats 4000000 in
theorem fits_ap (ch st : Int) (h b : List Int) (tw ch2 st2 : Int) (h2 b2 : List Int) (hb : Bytes8 b) (hl : b.length ≤ 1000000) : AP Try.prog 66 [cJob ch st h b, cRcp tw ch2 st2 h2 b2] [.pv (.bool (rcpEq tw ch2 st2 h2 b2 tw ch st h (joinF 73 [b])))] := by
  refine ap_of (fun _ _ => Try.call66 _ _) Try.func66 rfl Try.ntmps66 (by simp) (zs := [RZ.mk 4 none]) (by kernel_rfl) (fun w F => ?_)
  simp only [List.map_cons, List.map_nil, argT, Nat.reduceAdd]
  refine at_seq fun K1 hK1 => ?_
  refine at_region [It.mk (some 2) none (IK.box (Operand.tmp 0)), It.mk (some 3) none (IK.box (Operand.tmp 1)), It.mk (some 4) none (IK.p (PK.mov (Operand.const (Value.bool false))))] (by kernel_rfl) ?_
  simp (maxSteps:=999999) (disch:=omega) only [av1, av2, av3, av4, av5, av6, av7, eq_self, exists_const, forall_const, implies_true, storeOk, thenQ, PK.cond, PK.val, Nat.reduceAdd, Nat.reduceLT, Nat.reduceMul, reduceCtorEq, ↓reduceIte, Nat.reduceEqDiff, Nat.reduceLeDiff, Nat.reduceSub, Nat.reduceBEq, Nat.reduceBNe, Int.reduceLT, Int.reduceEq, Int.reduceAdd, Int.reduceToNat, Int.reduceLE, Int.reduceBEq, Int.reduceBNe, enc1, cJob, cRcp, eqTy_Rcp]
  (repeat ((with_reducible refine And.intro ?_ ?_); (first | trivial | assumption | omega | (simp; done))))
  refine hK1 _ ?_
  (try clear hK1)
  refine at_seq fun K2 hK2 => ?_
  refine at_draws [] (by kernel_rfl) ?_
  refine ag_pures (fuel := 3) [0, 1, 2, 3] [It.mk (some 5) none (IK.p (PK.load (Operand.tmp 3) 67 true)), It.mk (some 6) none (IK.p (PK.load (Operand.tmp 2) 35 true)), It.mk (some 7) none (IK.p (PK.fAddr (Operand.tmp 3) 0 0)), It.mk (some 8) none (IK.p (PK.load (Operand.tmp 7) 1 false))] (by kernel_rfl) (by kernel_rfl) (by kernel_rfl) (by kernel_rfl) (hideZ_nil _ 0) (fun K3 hK3 => ?_)
  simp (maxSteps:=999999) (disch:=omega) only [av1, av2, av3, av4, av5, av6, av7, eq_self, exists_const, forall_const, implies_true, storeOk, thenQ, PK.cond, PK.val, Nat.reduceAdd, Nat.reduceLT, Nat.reduceMul, reduceCtorEq, ↓reduceIte, Nat.reduceEqDiff, Nat.reduceLeDiff, Nat.reduceSub, Nat.reduceBEq, Nat.reduceBNe, Int.reduceLT, Int.reduceEq, Int.reduceAdd, Int.reduceToNat, Int.reduceLE, Int.reduceBEq, Int.reduceBNe, enc1, cJob, cRcp, eqTy_Rcp]
  (repeat ((with_reducible refine And.intro ?_ ?_); (first | trivial | assumption | omega | (simp; done))))
  refine hK3 _ ?_
  (try clear hK3)
  refine ag_one (i:=4) (by kernel_rfl) ?_
  refine agi0 (it := It.mk (some 9) none (IK.call 65 [Operand.tmp 6, Operand.tmp 8])) (by kernel_rfl) (by simp only [tgtB, IK.target, av1, av2, av4, Nat.reduceEqDiff, ↓reduceIte, reduceCtorEq, Option.isSome_some, List.all_nil]) (fun K4 hK4 => ?_)
  simp (maxSteps:=999999) (disch:=omega) only [av1, av2, av3, av4, av5, av6, av7, eq_self, exists_const, forall_const, implies_true, storeOk, thenQ, PK.cond, PK.val, Nat.reduceAdd, Nat.reduceLT, Nat.reduceMul, reduceCtorEq, ↓reduceIte, Nat.reduceEqDiff, Nat.reduceLeDiff, Nat.reduceSub, Nat.reduceBEq, Nat.reduceBNe, Int.reduceLT, Int.reduceEq, Int.reduceAdd, Int.reduceToNat, Int.reduceLE, Int.reduceBEq, Int.reduceBNe, enc1, cJob, cRcp, eqTy_Rcp]
  apply Or.inl
  first | refine ⟨[], trivial, ?_⟩ | refine ⟨_, (receipt_ap ch st tw h b hb hl), ?_⟩ | refine ⟨_, fun _ => (receipt_ap ch st tw h b hb hl), ?_⟩ | refine ⟨_, fun h => ⟨h, (receipt_ap ch st tw h b hb hl)⟩, ?_⟩ | refine ⟨_, fun h => ⟨by simp_all, (receipt_ap ch st tw h b hb hl)⟩, ?_⟩ | refine ⟨[], ?_⟩
  (try simp only [rsAV, List.map_cons, List.map_nil, thenQ])
  refine hK4 _ ?_
  (try clear hK4)
  refine ag_pures (fuel := 0) [5, 6] [It.mk (some 10) none (IK.p (PK.eqA false 104 (Sh.st [Sh.i, Sh.i, Sh.i, Sh.a IntKind.u8 32, Sh.a IntKind.u8 32]) (Operand.tmp 5) (Operand.tmp 9))), It.mk (some 4) none (IK.p (PK.mov (Operand.tmp 10)))] (by kernel_rfl) (by kernel_rfl) (by kernel_rfl) (by kernel_rfl) (hideZ_nil _ 0) (fun K5 hK5 => ?_)
  simp (maxSteps:=999999) (disch:=omega) only [av1, av2, av3, av4, av5, av6, av7, eq_self, exists_const, forall_const, implies_true, storeOk, thenQ, PK.cond, PK.val, Nat.reduceAdd, Nat.reduceLT, Nat.reduceMul, reduceCtorEq, ↓reduceIte, Nat.reduceEqDiff, Nat.reduceLeDiff, Nat.reduceSub, Nat.reduceBEq, Nat.reduceBNe, Int.reduceLT, Int.reduceEq, Int.reduceAdd, Int.reduceToNat, Int.reduceLE, Int.reduceBEq, Int.reduceBNe, enc1, cJob, cRcp, eqTy_Rcp]
  (repeat ((with_reducible refine And.intro ?_ ?_); (first | trivial | assumption | omega | (simp; done))))
  refine hK5 _ ?_
  (try clear hK5)
  refine ag_done (by kernel_rfl) ?_
  (try simp only [thenQ])
  refine hK2 _ ?_
  (try clear hK2)
  refine at_ret ?_
  simp (maxSteps:=999999) (disch:=omega) only [av1, av2, av3, av4, av5, av6, av7, eq_self, exists_const, forall_const, implies_true, storeOk, thenQ, PK.cond, PK.val, Nat.reduceAdd, Nat.reduceLT, Nat.reduceMul, reduceCtorEq, ↓reduceIte, Nat.reduceEqDiff, Nat.reduceLeDiff, Nat.reduceSub, Nat.reduceBEq, Nat.reduceBNe, Int.reduceLT, Int.reduceEq, Int.reduceAdd, Int.reduceToNat, Int.reduceLE, Int.reduceBEq, Int.reduceBNe, enc1, cJob, cRcp, eqTy_Rcp, blockQ, retQ, RetOk, ResOk, AV.fin, AV.fins, CV.le, CV.les]
  first | (simp [rcpEq]; done) | trace_state
end Go.Proofs.Ytcghjnegaiiieaa
namespace Go.Proofs.Ytcghjnegaiiieaa
open Go.RowKit
def t16 : Txx := ⟨[⟨Z32, 0, 0, []⟩], [], zOpx, []⟩
theorem t16_ok : OkTxx t16 := ⟨⟨by unfold maxLen; simp [t16], fun x hx => by
  simp [t16] at hx
  subst hx
  exact ⟨okZ32, okZero, okZero, okNil⟩⟩, okNil, okZOp, okNil⟩
theorem t16_small : smallTx t16 = true := by simp [smallTx, t16, zOpx]
theorem t16_B : txB t16 = true := by
  simp [t16, txB, txHeadB, opxB, zOpx, insUpto, inAtB, inpB, sgnsUpto, List.range_succ]
  rfl
theorem nB0 : numB 0 = [0] := by rw [numB, dif_pos (by omega)]; rfl
theorem nB1 : numB 1 = [1] := by rw [numB, dif_pos (by omega)]; rfl
theorem t16_len : (txBy t16).length ≤ 1000 := by
  simp [txBy, bodyBy, inBy, opBy, textB, numsI, nB0, nB1, t16, zOpx, Z32]
theorem t16_E : coverE t16 = 0 := by
  have l := t16_len
  simp [coverE, bytesE, bytesV, t16_B, closeEr]
  omega
theorem makeA_ap : AP Try.prog 61 [ic .i64 1, ic .i64 (-1), cSum Z32, cTxx t16] [cJob 0 0 Z32 [], ic .i64 1] := makeBad_ap 1 (-1) Z32 t16 (by decide)
theorem makeB_ap : AP Try.prog 61 [ic .i64 1, ic .i64 1, cSum Z32, cTxx t16] [cJob 1 1 (joinF 71 [Z32]) (coverV Z32 t16), ic .i64 0] := makeOk_ap 1 1 Z32 t16 okZ32 t16_ok t16_small (by decide) t16_E
theorem coverV_fit {c : List Int} {t : Txx} (ht : OkTxx t) (hs : smallTx t = true) : Bytes8 (coverV c t) ∧ (coverV c t).length ≤ 1000000 := by
  have b := bytesV_fit ht hs
  unfold coverV
  split
  · exact ⟨okNil, by simp⟩
  · unfold closeV
    split
    · exact ⟨okNil, by simp⟩
    · have l : (markV (joinF 72 [c]) (bytesV t) ++ coverF (joinF 72 [c]) (bytesV t)).length ≤ 1000000 := by rw [List.length_append, markV_len, coverF_len]; omega
      refine ⟨bytes8_wf l fun x hx => ?_, l⟩
      rcases List.mem_append.1 hx with hx | hx
      · exact joinF_wf _ _ x (List.mem_of_mem_take hx)
      · exact coverF_wf _ _ x hx
set_option maxRecDepth 100000 in
set_option maxHeartbeats 4000000 in
theorem awake16_ap : AP Try.prog 60 [] [.pv (.bool true)] := by
  refine ap_of (fun _ _ => Try.call60 _ _) Try.func60 rfl Try.ntmps60 (by simp) (zs := [RZ.mk 0 none]) (by kernel_rfl) (fun w F => ?_)
  simp only [List.map_cons, List.map_nil, argT, Nat.reduceAdd]
  refine at_seq fun K1 hK1 => ?_
  refine at_region [It.mk (some 0) none (IK.p (PK.mov (Operand.const (Value.bool false))))] (by kernel_rfl) ?_
  simp (maxSteps:=999999) (disch:=omega) only [av1, av2, av3, av4, av5, av6, av7, eq_self, exists_const, forall_const, implies_true, storeOk, thenQ, PK.cond, PK.val, Nat.reduceAdd, Nat.reduceLT, Nat.reduceMul, reduceCtorEq, ↓reduceIte, Nat.reduceEqDiff, Nat.reduceLeDiff, Nat.reduceSub, Nat.reduceBEq, Nat.reduceBNe, Int.reduceLT, Int.reduceEq, Int.reduceAdd, Int.reduceToNat, Int.reduceLE, Int.reduceBEq, Int.reduceBNe, enc1, cJob, cRcp, eqTy_Rcp, rcpEq]
  (repeat ((with_reducible refine And.intro ?_ ?_); (first | trivial | assumption | omega | (simp; done))))
  refine hK1 _ ?_
  (try clear hK1)
  refine at_seq fun K2 hK2 => ?_
  refine at_region [It.mk (some 6) none (IK.p (PK.bld (CV.ar IntKind.u8 32 (List.replicate 32 0)) [(0, 1), (1, 1), (2, 1), (3, 1), (4, 1), (5, 1), (6, 1), (7, 1), (8, 1), (9, 1), (10, 1), (11, 1), (12, 1), (13, 1), (14, 1), (15, 1), (16, 1), (17, 1), (18, 1), (19, 1), (20, 1), (21, 1), (22, 1), (23, 1), (24, 1), (25, 1), (26, 1), (27, 1), (28, 1), (29, 1), (30, 1), (31, 1)] [])), It.mk (some 7) none (IK.p (PK.bld (CV.st [CV.st [CV.ar IntKind.u8 32 (List.replicate 32 0), CV.pv (Value.int IntKind.i64 0)], CV.pv (Value.int IntKind.i64 0), CV.pv (Value.slice none 0 0)]) [(0, 33), (33, 1), (34, 1)] [])), It.mk (some 8) none (IK.lit 35 [Operand.tmp 7]), It.mk (some 9) none (IK.p (PK.bld (CV.st [CV.pv (Value.slice none 0 0), CV.pv (Value.slice none 0 0), CV.st [CV.pv (Value.int IntKind.i64 0), CV.pv (Value.int IntKind.i64 0), CV.pv (Value.int IntKind.i64 0), CV.pv (Value.int IntKind.i64 0), CV.ar IntKind.u8 32 (List.replicate 32 0), CV.pv (Value.slice none 0 0)], CV.pv (Value.slice none 0 0)]) [(0, 1), (1, 1), (2, 37), (39, 1)] [(0, Operand.tmp 8)])), It.mk (some 10) none (IK.call 61 [Operand.const (Value.int IntKind.i64 1), Operand.const (Value.int IntKind.i64 (-1)), Operand.tmp 6, Operand.tmp 9]), It.mk (some 5) none (IK.p (PK.mov (Operand.tmp 10))), It.mk (some 11) none (IK.p (PK.ext (Operand.tmp 5) 0)), It.mk (some 12) none (IK.p (PK.ext (Operand.tmp 5) 1)), It.mk (some 1) none (IK.alloc (CV.st [CV.pv (Value.int IntKind.i64 0), CV.pv (Value.int IntKind.i64 0), CV.ar IntKind.u8 32 (List.replicate 32 0), CV.pv (Value.slice none 0 0)])), It.mk none none (IK.store (Operand.tmp 1) (Operand.tmp 11) 35), It.mk (some 2) none (IK.p (PK.mov (Operand.tmp 12)))] (by kernel_rfl) ?_
  refine apl_cut [_, _, _, _] _ (fun K3 hK3 => ?_)
  simp (maxSteps:=999999) (disch:=omega) only [av1, av2, av3, av4, av5, av6, av7, eq_self, exists_const, forall_const, implies_true, storeOk, thenQ, PK.cond, PK.val, Nat.reduceAdd, Nat.reduceLT, Nat.reduceMul, reduceCtorEq, ↓reduceIte, Nat.reduceEqDiff, Nat.reduceLeDiff, Nat.reduceSub, Nat.reduceBEq, Nat.reduceBNe, Int.reduceLT, Int.reduceEq, Int.reduceAdd, Int.reduceToNat, Int.reduceLE, Int.reduceBEq, Int.reduceBNe, enc1, cJob, cRcp, eqTy_Rcp, rcpEq]
  (repeat ((with_reducible refine And.intro ?_ ?_); (first | trivial | assumption | omega | (simp; done))))
  refine hK3 _ ?_
  (try clear hK3)
  refine apl_cut [_] _ (fun K4 hK4 => ?_)
  simp (maxSteps:=999999) (disch:=omega) only [av1, av2, av3, av4, av5, av6, av7, eq_self, exists_const, forall_const, implies_true, storeOk, thenQ, PK.cond, PK.val, Nat.reduceAdd, Nat.reduceLT, Nat.reduceMul, reduceCtorEq, ↓reduceIte, Nat.reduceEqDiff, Nat.reduceLeDiff, Nat.reduceSub, Nat.reduceBEq, Nat.reduceBNe, Int.reduceLT, Int.reduceEq, Int.reduceAdd, Int.reduceToNat, Int.reduceLE, Int.reduceBEq, Int.reduceBNe, enc1, cJob, cRcp, eqTy_Rcp, rcpEq]
  apply Or.inl
  first | refine ⟨[], trivial, ?_⟩ | refine ⟨_, (makeA_ap.le (by simp [CV.les, CV.le, t16, cTxx, cOut, cWay, cInp, cRef, cSum, cOpx, zOpx, ints, ic] <;> rfl)), ?_⟩ | refine ⟨_, fun _ => (makeA_ap.le (by simp [CV.les, CV.le, t16, cTxx, cOut, cWay, cInp, cRef, cSum, cOpx, zOpx, ints, ic] <;> rfl)), ?_⟩ | refine ⟨_, fun h => ⟨h, (makeA_ap.le (by simp [CV.les, CV.le, t16, cTxx, cOut, cWay, cInp, cRef, cSum, cOpx, zOpx, ints, ic] <;> rfl))⟩, ?_⟩ | refine ⟨_, fun h => ⟨by simp_all, (makeA_ap.le (by simp [CV.les, CV.le, t16, cTxx, cOut, cWay, cInp, cRef, cSum, cOpx, zOpx, ints, ic] <;> rfl))⟩, ?_⟩ | refine ⟨[], ?_⟩
  (try simp only [rsAV, List.map_cons, List.map_nil, thenQ])
  refine hK4 _ ?_
  (try clear hK4)
  simp (maxSteps:=999999) (disch:=omega) only [av1, av2, av3, av4, av5, av6, av7, eq_self, exists_const, forall_const, implies_true, storeOk, thenQ, PK.cond, PK.val, Nat.reduceAdd, Nat.reduceLT, Nat.reduceMul, reduceCtorEq, ↓reduceIte, Nat.reduceEqDiff, Nat.reduceLeDiff, Nat.reduceSub, Nat.reduceBEq, Nat.reduceBNe, Int.reduceLT, Int.reduceEq, Int.reduceAdd, Int.reduceToNat, Int.reduceLE, Int.reduceBEq, Int.reduceBNe, enc1, cJob, cRcp, eqTy_Rcp, rcpEq]
  (repeat ((with_reducible refine And.intro ?_ ?_); (first | trivial | assumption | omega | (simp; done))))
  refine hK2 _ ?_
  (try clear hK2)
  refine at_seq fun K5 hK5 => ?_
  refine at_region [It.mk (some 14) none (IK.p (PK.bld (CV.ar IntKind.u8 32 (List.replicate 32 0)) [(0, 1), (1, 1), (2, 1), (3, 1), (4, 1), (5, 1), (6, 1), (7, 1), (8, 1), (9, 1), (10, 1), (11, 1), (12, 1), (13, 1), (14, 1), (15, 1), (16, 1), (17, 1), (18, 1), (19, 1), (20, 1), (21, 1), (22, 1), (23, 1), (24, 1), (25, 1), (26, 1), (27, 1), (28, 1), (29, 1), (30, 1), (31, 1)] [])), It.mk (some 15) none (IK.p (PK.bld (CV.st [CV.st [CV.ar IntKind.u8 32 (List.replicate 32 0), CV.pv (Value.int IntKind.i64 0)], CV.pv (Value.int IntKind.i64 0), CV.pv (Value.slice none 0 0)]) [(0, 33), (33, 1), (34, 1)] [])), It.mk (some 16) none (IK.lit 35 [Operand.tmp 15]), It.mk (some 17) none (IK.p (PK.bld (CV.st [CV.pv (Value.slice none 0 0), CV.pv (Value.slice none 0 0), CV.st [CV.pv (Value.int IntKind.i64 0), CV.pv (Value.int IntKind.i64 0), CV.pv (Value.int IntKind.i64 0), CV.pv (Value.int IntKind.i64 0), CV.ar IntKind.u8 32 (List.replicate 32 0), CV.pv (Value.slice none 0 0)], CV.pv (Value.slice none 0 0)]) [(0, 1), (1, 1), (2, 37), (39, 1)] [(0, Operand.tmp 16)])), It.mk (some 18) none (IK.call 61 [Operand.const (Value.int IntKind.i64 1), Operand.const (Value.int IntKind.i64 1), Operand.tmp 14, Operand.tmp 17]), It.mk (some 13) none (IK.p (PK.mov (Operand.tmp 18))), It.mk (some 19) none (IK.p (PK.ext (Operand.tmp 13) 0)), It.mk (some 20) none (IK.p (PK.ext (Operand.tmp 13) 1)), It.mk (some 3) none (IK.alloc (CV.st [CV.pv (Value.int IntKind.i64 0), CV.pv (Value.int IntKind.i64 0), CV.ar IntKind.u8 32 (List.replicate 32 0), CV.pv (Value.slice none 0 0)])), It.mk none none (IK.store (Operand.tmp 3) (Operand.tmp 19) 35), It.mk (some 4) none (IK.p (PK.mov (Operand.tmp 20)))] (by kernel_rfl) ?_
  refine apl_cut [_, _, _, _] _ (fun K6 hK6 => ?_)
  simp (maxSteps:=999999) (disch:=omega) only [av1, av2, av3, av4, av5, av6, av7, eq_self, exists_const, forall_const, implies_true, storeOk, thenQ, PK.cond, PK.val, Nat.reduceAdd, Nat.reduceLT, Nat.reduceMul, reduceCtorEq, ↓reduceIte, Nat.reduceEqDiff, Nat.reduceLeDiff, Nat.reduceSub, Nat.reduceBEq, Nat.reduceBNe, Int.reduceLT, Int.reduceEq, Int.reduceAdd, Int.reduceToNat, Int.reduceLE, Int.reduceBEq, Int.reduceBNe, enc1, cJob, cRcp, eqTy_Rcp, rcpEq]
  (repeat ((with_reducible refine And.intro ?_ ?_); (first | trivial | assumption | omega | (simp; done))))
  refine hK6 _ ?_
  (try clear hK6)
  refine apl_cut [_] _ (fun K7 hK7 => ?_)
  simp (maxSteps:=999999) (disch:=omega) only [av1, av2, av3, av4, av5, av6, av7, eq_self, exists_const, forall_const, implies_true, storeOk, thenQ, PK.cond, PK.val, Nat.reduceAdd, Nat.reduceLT, Nat.reduceMul, reduceCtorEq, ↓reduceIte, Nat.reduceEqDiff, Nat.reduceLeDiff, Nat.reduceSub, Nat.reduceBEq, Nat.reduceBNe, Int.reduceLT, Int.reduceEq, Int.reduceAdd, Int.reduceToNat, Int.reduceLE, Int.reduceBEq, Int.reduceBNe, enc1, cJob, cRcp, eqTy_Rcp, rcpEq]
  apply Or.inl
  first | refine ⟨[], trivial, ?_⟩ | refine ⟨_, (makeB_ap.le (by simp [CV.les, CV.le, t16, cTxx, cOut, cWay, cInp, cRef, cSum, cOpx, zOpx, ints, ic] <;> rfl)), ?_⟩ | refine ⟨_, fun _ => (makeB_ap.le (by simp [CV.les, CV.le, t16, cTxx, cOut, cWay, cInp, cRef, cSum, cOpx, zOpx, ints, ic] <;> rfl)), ?_⟩ | refine ⟨_, fun h => ⟨h, (makeB_ap.le (by simp [CV.les, CV.le, t16, cTxx, cOut, cWay, cInp, cRef, cSum, cOpx, zOpx, ints, ic] <;> rfl))⟩, ?_⟩ | refine ⟨_, fun h => ⟨by simp_all, (makeB_ap.le (by simp [CV.les, CV.le, t16, cTxx, cOut, cWay, cInp, cRef, cSum, cOpx, zOpx, ints, ic] <;> rfl))⟩, ?_⟩ | refine ⟨[], ?_⟩
  (try simp only [rsAV, List.map_cons, List.map_nil, thenQ])
  refine hK7 _ ?_
  (try clear hK7)
  simp (maxSteps:=999999) (disch:=omega) only [av1, av2, av3, av4, av5, av6, av7, eq_self, exists_const, forall_const, implies_true, storeOk, thenQ, PK.cond, PK.val, Nat.reduceAdd, Nat.reduceLT, Nat.reduceMul, reduceCtorEq, ↓reduceIte, Nat.reduceEqDiff, Nat.reduceLeDiff, Nat.reduceSub, Nat.reduceBEq, Nat.reduceBNe, Int.reduceLT, Int.reduceEq, Int.reduceAdd, Int.reduceToNat, Int.reduceLE, Int.reduceBEq, Int.reduceBNe, enc1, cJob, cRcp, eqTy_Rcp, rcpEq]
  (repeat ((with_reducible refine And.intro ?_ ?_); (first | trivial | assumption | omega | (simp; done))))
  refine hK5 _ ?_
  (try clear hK5)
  refine at_seqJ ?_
  apply Exists.intro
  refine And.intro ?_ ?_
  · skip
    refine at_draws [] (by kernel_rfl) ?_
    refine ag_pures (fuel := 4) [0, 1, 2, 3, 4, 5, 6, 7, 8, 9, 10, 11, 12, 13] [It.mk (some 21) none (IK.p (PK.mov (Operand.tmp 2))), It.mk (some 22) none (IK.p (PK.bin BinOp.eql (Operand.tmp 21) (Operand.const (Value.int IntKind.i64 1)))), It.mk (some 23) none (IK.p (PK.mov (Operand.tmp 22))), It.mk (some 24) (some (23, true)) (IK.p (PK.mov (Operand.tmp 4))), It.mk (some 25) (some (23, true)) (IK.p (PK.bin BinOp.eql (Operand.tmp 24) (Operand.const (Value.int IntKind.i64 0)))), It.mk (some 26) none (IK.p (PK.pick (Operand.tmp 23) (Operand.tmp 25) (Operand.const (Value.bool false)))), It.mk (some 27) none (IK.p (PK.mov (Operand.tmp 26))), It.mk (some 28) (some (27, true)) (IK.p (PK.fAddr (Operand.tmp 3) 1 1)), It.mk (some 29) (some (27, true)) (IK.p (PK.load (Operand.tmp 28) 1 false)), It.mk (some 30) (some (27, true)) (IK.p (PK.bin BinOp.eql (Operand.tmp 29) (Operand.const (Value.int IntKind.i64 1)))), It.mk (some 31) none (IK.p (PK.pick (Operand.tmp 27) (Operand.tmp 30) (Operand.const (Value.bool false)))), It.mk (some 32) none (IK.p (PK.mov (Operand.tmp 31))), It.mk (some 33) (some (32, true)) (IK.p (PK.load (Operand.tmp 3) 35 true)), It.mk (some 34) (some (32, true)) (IK.p (PK.load (Operand.tmp 3) 35 true))] (by kernel_rfl) (by kernel_rfl) (by kernel_rfl) (by kernel_rfl) (hideZ_nil _ 0) (fun K9 hK9 => ?_)
    simp (maxSteps:=999999) (disch:=omega) only [av1, av2, av3, av4, av5, av6, av7, eq_self, exists_const, forall_const, implies_true, storeOk, thenQ, PK.cond, PK.val, Nat.reduceAdd, Nat.reduceLT, Nat.reduceMul, reduceCtorEq, ↓reduceIte, Nat.reduceEqDiff, Nat.reduceLeDiff, Nat.reduceSub, Nat.reduceBEq, Nat.reduceBNe, Int.reduceLT, Int.reduceEq, Int.reduceAdd, Int.reduceToNat, Int.reduceLE, Int.reduceBEq, Int.reduceBNe, enc1, cJob, cRcp, eqTy_Rcp, rcpEq]
    (repeat ((with_reducible refine And.intro ?_ ?_); (first | trivial | assumption | omega | (simp; done))))
    refine hK9 _ ?_
    (try clear hK9)
    refine ag_one (i:=14) (by kernel_rfl) ?_
    refine agi0 (it := It.mk (some 35) (some (32, true)) (IK.call 65 [Operand.tmp 34, Operand.const (Value.int IntKind.i64 3)])) (by kernel_rfl) (by simp only [tgtB, IK.target, av1, av2, av4, Nat.reduceEqDiff, ↓reduceIte, reduceCtorEq, Option.isSome_some, List.all_nil]) (fun K10 hK10 => ?_)
    simp (maxSteps:=999999) (disch:=omega) only [av1, av2, av3, av4, av5, av6, av7, eq_self, exists_const, forall_const, implies_true, storeOk, thenQ, PK.cond, PK.val, Nat.reduceAdd, Nat.reduceLT, Nat.reduceMul, reduceCtorEq, ↓reduceIte, Nat.reduceEqDiff, Nat.reduceLeDiff, Nat.reduceSub, Nat.reduceBEq, Nat.reduceBNe, Int.reduceLT, Int.reduceEq, Int.reduceAdd, Int.reduceToNat, Int.reduceLE, Int.reduceBEq, Int.reduceBNe, enc1, cJob, cRcp, eqTy_Rcp, rcpEq]
    apply Or.inl
    first | refine ⟨[], trivial, ?_⟩ | refine ⟨_, (receipt_ap 1 1 3 (joinF 71 [Z32]) (coverV Z32 t16) (coverV_fit t16_ok t16_small).1 (coverV_fit t16_ok t16_small).2), ?_⟩ | refine ⟨_, fun _ => (receipt_ap 1 1 3 (joinF 71 [Z32]) (coverV Z32 t16) (coverV_fit t16_ok t16_small).1 (coverV_fit t16_ok t16_small).2), ?_⟩ | refine ⟨_, fun h => ⟨h, (receipt_ap 1 1 3 (joinF 71 [Z32]) (coverV Z32 t16) (coverV_fit t16_ok t16_small).1 (coverV_fit t16_ok t16_small).2)⟩, ?_⟩ | refine ⟨_, fun h => ⟨by simp_all, (receipt_ap 1 1 3 (joinF 71 [Z32]) (coverV Z32 t16) (coverV_fit t16_ok t16_small).1 (coverV_fit t16_ok t16_small).2)⟩, ?_⟩ | refine ⟨[], ?_⟩
    (try simp only [rsAV, List.map_cons, List.map_nil, thenQ])
    refine hK10 _ ?_
    (try clear hK10)
    refine ag_one (i:=15) (by kernel_rfl) ?_
    refine agi0 (it := It.mk (some 36) (some (32, true)) (IK.call 66 [Operand.tmp 33, Operand.tmp 35])) (by kernel_rfl) (by simp only [tgtB, IK.target, av1, av2, av4, Nat.reduceEqDiff, ↓reduceIte, reduceCtorEq, Option.isSome_some, List.all_nil]) (fun K11 hK11 => ?_)
    simp (maxSteps:=999999) (disch:=omega) only [av1, av2, av3, av4, av5, av6, av7, eq_self, exists_const, forall_const, implies_true, storeOk, thenQ, PK.cond, PK.val, Nat.reduceAdd, Nat.reduceLT, Nat.reduceMul, reduceCtorEq, ↓reduceIte, Nat.reduceEqDiff, Nat.reduceLeDiff, Nat.reduceSub, Nat.reduceBEq, Nat.reduceBNe, Int.reduceLT, Int.reduceEq, Int.reduceAdd, Int.reduceToNat, Int.reduceLE, Int.reduceBEq, Int.reduceBNe, enc1, cJob, cRcp, eqTy_Rcp, rcpEq]
    apply Or.inl
    first | refine ⟨[], trivial, ?_⟩ | refine ⟨_, (fits_ap 1 1 (joinF 71 [Z32]) (coverV Z32 t16) _ _ _ _ _ (coverV_fit t16_ok t16_small).1 (coverV_fit t16_ok t16_small).2), ?_⟩ | refine ⟨_, fun _ => (fits_ap 1 1 (joinF 71 [Z32]) (coverV Z32 t16) _ _ _ _ _ (coverV_fit t16_ok t16_small).1 (coverV_fit t16_ok t16_small).2), ?_⟩ | refine ⟨_, fun h => ⟨h, (fits_ap 1 1 (joinF 71 [Z32]) (coverV Z32 t16) _ _ _ _ _ (coverV_fit t16_ok t16_small).1 (coverV_fit t16_ok t16_small).2)⟩, ?_⟩ | refine ⟨_, fun h => ⟨by simp_all, (fits_ap 1 1 (joinF 71 [Z32]) (coverV Z32 t16) _ _ _ _ _ (coverV_fit t16_ok t16_small).1 (coverV_fit t16_ok t16_small).2)⟩, ?_⟩ | refine ⟨[], ?_⟩
    (try simp only [rsAV, List.map_cons, List.map_nil, thenQ])
    refine hK11 _ ?_
    (try clear hK11)
    refine ag_pures (fuel := 0) [16, 17] [It.mk (some 37) none (IK.p (PK.pick (Operand.tmp 32) (Operand.tmp 36) (Operand.const (Value.bool false)))), It.mk (some 0) none (IK.p (PK.mov (Operand.tmp 37)))] (by kernel_rfl) (by kernel_rfl) (by kernel_rfl) (by kernel_rfl) (hideZ_nil _ 0) (fun K12 hK12 => ?_)
    simp (maxSteps:=999999) (disch:=omega) only [av1, av2, av3, av4, av5, av6, av7, eq_self, exists_const, forall_const, implies_true, storeOk, thenQ, PK.cond, PK.val, Nat.reduceAdd, Nat.reduceLT, Nat.reduceMul, reduceCtorEq, ↓reduceIte, Nat.reduceEqDiff, Nat.reduceLeDiff, Nat.reduceSub, Nat.reduceBEq, Nat.reduceBNe, Int.reduceLT, Int.reduceEq, Int.reduceAdd, Int.reduceToNat, Int.reduceLE, Int.reduceBEq, Int.reduceBNe, enc1, cJob, cRcp, eqTy_Rcp, rcpEq]
    (repeat ((with_reducible refine And.intro ?_ ?_); (first | trivial | assumption | omega | (simp; done))))
    refine hK12 _ ?_
    (try clear hK12)
    refine ag_done (by kernel_rfl) ?_
    (try simp only [thenQ])
    exact Le.refl
  refine at_ret ?_
  simp (maxSteps:=999999) (disch:=omega) only [av1, av2, av3, av4, av5, av6, av7, eq_self, exists_const, forall_const, implies_true, storeOk, thenQ, PK.cond, PK.val, Nat.reduceAdd, Nat.reduceLT, Nat.reduceMul, reduceCtorEq, ↓reduceIte, Nat.reduceEqDiff, Nat.reduceLeDiff, Nat.reduceSub, Nat.reduceBEq, Nat.reduceBNe, Int.reduceLT, Int.reduceEq, Int.reduceAdd, Int.reduceToNat, Int.reduceLE, Int.reduceBEq, Int.reduceBNe, enc1, cJob, cRcp, eqTy_Rcp, rcpEq, blockQ, retQ, RetOk, ResOk, AV.fin, AV.fins, CV.le, CV.les]
  (first | rfl | trace_state)
end Go.Proofs.Ytcghjnegaiiieaa
namespace Go.Proofs.Ytcghjnegaiiieaa
open Go.RowKit
set_option maxRecDepth 100000 in
set_option maxHeartbeats 4000000 in
theorem jobs0_ap (ch st : Int) (c : List Int) (t : Txx) (rt rc rs : Int) (rh rb : List Int) (hc : ArOk .u8 32 c) (ht : OkTxx t) (h : smallTx t = false) : AP Try.prog 10 [ic .i64 ch, ic .i64 st, cSum c, cTxx t, cRcp rt rc rs rh rb] [.pv (.bool true)] := by
  refine ap_of (fun _ _ => Try.call10 _ _) Try.func10 rfl Try.ntmps10 (by simp) (zs := [RZ.mk 10 none]) (by kernel_rfl) (fun w F => ?_)
  simp only [List.map_cons, List.map_nil, argT, Nat.reduceAdd]
  refine at_seq fun K1 hK1 => ?_
  refine at_region [It.mk (some 7) none (IK.box (Operand.tmp 2)), It.mk (some 8) none (IK.box (Operand.tmp 3)), It.mk (some 9) none (IK.box (Operand.tmp 4)), It.mk (some 10) none (IK.p (PK.mov (Operand.const (Value.bool false))))] (by kernel_rfl) ?_
  simp (maxSteps:=999999) (disch:=omega) only [av1, av2, av3, av4, av5, av6, av7, eq_self, exists_const, forall_const, implies_true, storeOk, thenQ, PK.cond, PK.val, Nat.reduceAdd, Nat.reduceLT, Nat.reduceMul, reduceCtorEq, ↓reduceIte, Nat.reduceEqDiff, Nat.reduceLeDiff, Nat.reduceSub, Nat.reduceBEq, Nat.reduceBNe, Int.reduceLT, Int.reduceEq, Int.reduceAdd, Int.reduceToNat, Int.reduceLE, Int.reduceBEq, Int.reduceBNe, enc1, cJob, cRcp, eqTy_Rcp, eqTy_Sum, rcpEq, List.forall_mem_map]
  (repeat ((with_reducible refine And.intro ?_ ?_); (first | trivial | assumption | omega | (simp; done))))
  refine hK1 _ ?_
  (try clear hK1)
  refine at_seq fun K2 hK2 => ?_
  refine at_seq fun K3 hK3 => ?_
  refine at_region [It.mk (some 16) none (IK.p (PK.load (Operand.tmp 8) 40 true)), It.mk (some 17) none (IK.call 59 [Operand.tmp 16]), It.mk (some 18) none (IK.p (PK.bin BinOp.neq (Operand.tmp 17) (Operand.const (Value.int IntKind.i64 0))))] (by kernel_rfl) ?_
  refine apl_cut [_] _ (fun K4 hK4 => ?_)
  simp (maxSteps:=999999) (disch:=omega) only [av1, av2, av3, av4, av5, av6, av7, eq_self, exists_const, forall_const, implies_true, storeOk, thenQ, PK.cond, PK.val, Nat.reduceAdd, Nat.reduceLT, Nat.reduceMul, reduceCtorEq, ↓reduceIte, Nat.reduceEqDiff, Nat.reduceLeDiff, Nat.reduceSub, Nat.reduceBEq, Nat.reduceBNe, Int.reduceLT, Int.reduceEq, Int.reduceAdd, Int.reduceToNat, Int.reduceLE, Int.reduceBEq, Int.reduceBNe, enc1, cJob, cRcp, eqTy_Rcp, eqTy_Sum, rcpEq, List.forall_mem_map]
  (repeat ((with_reducible refine And.intro ?_ ?_); (first | trivial | assumption | omega | (simp; done))))
  refine hK4 _ ?_
  (try clear hK4)
  refine apl_cut [_] _ (fun K5 hK5 => ?_)
  simp (maxSteps:=999999) (disch:=omega) only [av1, av2, av3, av4, av5, av6, av7, eq_self, exists_const, forall_const, implies_true, storeOk, thenQ, PK.cond, PK.val, Nat.reduceAdd, Nat.reduceLT, Nat.reduceMul, reduceCtorEq, ↓reduceIte, Nat.reduceEqDiff, Nat.reduceLeDiff, Nat.reduceSub, Nat.reduceBEq, Nat.reduceBNe, Int.reduceLT, Int.reduceEq, Int.reduceAdd, Int.reduceToNat, Int.reduceLE, Int.reduceBEq, Int.reduceBNe, enc1, cJob, cRcp, eqTy_Rcp, eqTy_Sum, rcpEq, List.forall_mem_map]
  apply Or.inl
  first | refine ⟨[], trivial, ?_⟩ | refine ⟨_, (smallTx_ap t ht), ?_⟩ | refine ⟨_, fun _ => (smallTx_ap t ht), ?_⟩ | refine ⟨_, fun h => ⟨h, (smallTx_ap t ht)⟩, ?_⟩ | refine ⟨_, fun h => ⟨by simp_all, (smallTx_ap t ht)⟩, ?_⟩ | refine ⟨[], ?_⟩
  (try simp only [rsAV, List.map_cons, List.map_nil, thenQ])
  refine hK5 _ ?_
  (try clear hK5)
  simp (maxSteps:=999999) (disch:=omega) only [av1, av2, av3, av4, av5, av6, av7, eq_self, exists_const, forall_const, implies_true, storeOk, thenQ, PK.cond, PK.val, Nat.reduceAdd, Nat.reduceLT, Nat.reduceMul, reduceCtorEq, ↓reduceIte, Nat.reduceEqDiff, Nat.reduceLeDiff, Nat.reduceSub, Nat.reduceBEq, Nat.reduceBNe, Int.reduceLT, Int.reduceEq, Int.reduceAdd, Int.reduceToNat, Int.reduceLE, Int.reduceBEq, Int.reduceBNe, enc1, cJob, cRcp, eqTy_Rcp, eqTy_Sum, rcpEq, List.forall_mem_map]
  (repeat ((with_reducible refine And.intro ?_ ?_); (first | trivial | assumption | omega | (simp; done))))
  refine hK3 _ ?_
  (try clear hK3)
  refine at_cond _ rfl rfl (fun h6 => ?_) (fun h6 => ?_)
  · have r6 := h6
    (try simp only [dB2] at h6)
    refine at_seq fun K7 hK7 => ?_
    refine at_region [It.mk (some 19) none (IK.call 60 []), It.mk (some 10) none (IK.p (PK.mov (Operand.tmp 19)))] (by kernel_rfl) ?_
    refine apl_cut [_] _ (fun K8 hK8 => ?_)
    simp (maxSteps:=999999) (disch:=omega) only [av1, av2, av3, av4, av5, av6, av7, eq_self, exists_const, forall_const, implies_true, storeOk, thenQ, PK.cond, PK.val, Nat.reduceAdd, Nat.reduceLT, Nat.reduceMul, reduceCtorEq, ↓reduceIte, Nat.reduceEqDiff, Nat.reduceLeDiff, Nat.reduceSub, Nat.reduceBEq, Nat.reduceBNe, Int.reduceLT, Int.reduceEq, Int.reduceAdd, Int.reduceToNat, Int.reduceLE, Int.reduceBEq, Int.reduceBNe, enc1, cJob, cRcp, eqTy_Rcp, eqTy_Sum, rcpEq, List.forall_mem_map]
    apply Or.inl
    first | refine ⟨[], trivial, ?_⟩ | refine ⟨_, (awake16_ap), ?_⟩ | refine ⟨_, fun _ => (awake16_ap), ?_⟩ | refine ⟨_, fun h => ⟨h, (awake16_ap)⟩, ?_⟩ | refine ⟨_, fun h => ⟨by simp_all, (awake16_ap)⟩, ?_⟩ | refine ⟨[], ?_⟩
    (try simp only [rsAV, List.map_cons, List.map_nil, thenQ])
    refine hK8 _ ?_
    (try clear hK8)
    simp (maxSteps:=999999) (disch:=omega) only [av1, av2, av3, av4, av5, av6, av7, eq_self, exists_const, forall_const, implies_true, storeOk, thenQ, PK.cond, PK.val, Nat.reduceAdd, Nat.reduceLT, Nat.reduceMul, reduceCtorEq, ↓reduceIte, Nat.reduceEqDiff, Nat.reduceLeDiff, Nat.reduceSub, Nat.reduceBEq, Nat.reduceBNe, Int.reduceLT, Int.reduceEq, Int.reduceAdd, Int.reduceToNat, Int.reduceLE, Int.reduceBEq, Int.reduceBNe, enc1, cJob, cRcp, eqTy_Rcp, eqTy_Sum, rcpEq, List.forall_mem_map]
    (repeat ((with_reducible refine And.intro ?_ ?_); (first | trivial | assumption | omega | (simp; done))))
    refine hK7 _ ?_
    (try clear hK7)
    refine at_ret ?_
    simp (maxSteps:=999999) (disch:=omega) only [av1, av2, av3, av4, av5, av6, av7, eq_self, exists_const, forall_const, implies_true, storeOk, thenQ, PK.cond, PK.val, Nat.reduceAdd, Nat.reduceLT, Nat.reduceMul, reduceCtorEq, ↓reduceIte, Nat.reduceEqDiff, Nat.reduceLeDiff, Nat.reduceSub, Nat.reduceBEq, Nat.reduceBNe, Int.reduceLT, Int.reduceEq, Int.reduceAdd, Int.reduceToNat, Int.reduceLE, Int.reduceBEq, Int.reduceBNe, enc1, cJob, cRcp, eqTy_Rcp, eqTy_Sum, rcpEq, List.forall_mem_map, blockQ, retQ, RetOk, ResOk, AV.fin, AV.fins, CV.le, CV.les]
    (first | rfl | (simp; done) | trace_state)
  · have r6 := h6
    (try simp only [dB2] at h6)
    (rw [h] at r6; simp at r6)
set_option maxRecDepth 100000 in
set_option maxHeartbeats 4000000 in
theorem jobs1_ap (ch st : Int) (c : List Int) (t : Txx) (rt rc rs : Int) (rh rb : List Int) (hc : ArOk .u8 32 c) (ht : OkTxx t) (hs : smallTx t = true) (h : jobBad ch st = true) : AP Try.prog 10 [ic .i64 ch, ic .i64 st, cSum c, cTxx t, cRcp rt rc rs rh rb] [.pv (.bool true)] := by
  refine ap_of (fun _ _ => Try.call10 _ _) Try.func10 rfl Try.ntmps10 (by simp) (zs := [RZ.mk 10 none]) (by kernel_rfl) (fun w F => ?_)
  simp only [List.map_cons, List.map_nil, argT, Nat.reduceAdd]
  refine at_seq fun K1 hK1 => ?_
  refine at_region [It.mk (some 7) none (IK.box (Operand.tmp 2)), It.mk (some 8) none (IK.box (Operand.tmp 3)), It.mk (some 9) none (IK.box (Operand.tmp 4)), It.mk (some 10) none (IK.p (PK.mov (Operand.const (Value.bool false))))] (by kernel_rfl) ?_
  simp (maxSteps:=999999) (disch:=omega) only [av1, av2, av3, av4, av5, av6, av7, eq_self, exists_const, forall_const, implies_true, storeOk, thenQ, PK.cond, PK.val, Nat.reduceAdd, Nat.reduceLT, Nat.reduceMul, reduceCtorEq, ↓reduceIte, Nat.reduceEqDiff, Nat.reduceLeDiff, Nat.reduceSub, Nat.reduceBEq, Nat.reduceBNe, Int.reduceLT, Int.reduceEq, Int.reduceAdd, Int.reduceToNat, Int.reduceLE, Int.reduceBEq, Int.reduceBNe, enc1, cJob, cRcp, eqTy_Rcp, eqTy_Sum, rcpEq, List.forall_mem_map]
  (repeat ((with_reducible refine And.intro ?_ ?_); (first | trivial | assumption | omega | (simp; done))))
  refine hK1 _ ?_
  (try clear hK1)
  refine at_seq fun K2 hK2 => ?_
  refine at_seq fun K3 hK3 => ?_
  refine at_region [It.mk (some 16) none (IK.p (PK.load (Operand.tmp 8) 40 true)), It.mk (some 17) none (IK.call 59 [Operand.tmp 16]), It.mk (some 18) none (IK.p (PK.bin BinOp.neq (Operand.tmp 17) (Operand.const (Value.int IntKind.i64 0))))] (by kernel_rfl) ?_
  refine apl_cut [_] _ (fun K4 hK4 => ?_)
  simp (maxSteps:=999999) (disch:=omega) only [av1, av2, av3, av4, av5, av6, av7, eq_self, exists_const, forall_const, implies_true, storeOk, thenQ, PK.cond, PK.val, Nat.reduceAdd, Nat.reduceLT, Nat.reduceMul, reduceCtorEq, ↓reduceIte, Nat.reduceEqDiff, Nat.reduceLeDiff, Nat.reduceSub, Nat.reduceBEq, Nat.reduceBNe, Int.reduceLT, Int.reduceEq, Int.reduceAdd, Int.reduceToNat, Int.reduceLE, Int.reduceBEq, Int.reduceBNe, enc1, cJob, cRcp, eqTy_Rcp, eqTy_Sum, rcpEq, List.forall_mem_map]
  (repeat ((with_reducible refine And.intro ?_ ?_); (first | trivial | assumption | omega | (simp; done))))
  refine hK4 _ ?_
  (try clear hK4)
  refine apl_cut [_] _ (fun K5 hK5 => ?_)
  simp (maxSteps:=999999) (disch:=omega) only [av1, av2, av3, av4, av5, av6, av7, eq_self, exists_const, forall_const, implies_true, storeOk, thenQ, PK.cond, PK.val, Nat.reduceAdd, Nat.reduceLT, Nat.reduceMul, reduceCtorEq, ↓reduceIte, Nat.reduceEqDiff, Nat.reduceLeDiff, Nat.reduceSub, Nat.reduceBEq, Nat.reduceBNe, Int.reduceLT, Int.reduceEq, Int.reduceAdd, Int.reduceToNat, Int.reduceLE, Int.reduceBEq, Int.reduceBNe, enc1, cJob, cRcp, eqTy_Rcp, eqTy_Sum, rcpEq, List.forall_mem_map]
  apply Or.inl
  first | refine ⟨[], trivial, ?_⟩ | refine ⟨_, (smallTx_ap t ht), ?_⟩ | refine ⟨_, fun _ => (smallTx_ap t ht), ?_⟩ | refine ⟨_, fun h => ⟨h, (smallTx_ap t ht)⟩, ?_⟩ | refine ⟨_, fun h => ⟨by simp_all, (smallTx_ap t ht)⟩, ?_⟩ | refine ⟨[], ?_⟩
  (try simp only [rsAV, List.map_cons, List.map_nil, thenQ])
  refine hK5 _ ?_
  (try clear hK5)
  simp (maxSteps:=999999) (disch:=omega) only [av1, av2, av3, av4, av5, av6, av7, eq_self, exists_const, forall_const, implies_true, storeOk, thenQ, PK.cond, PK.val, Nat.reduceAdd, Nat.reduceLT, Nat.reduceMul, reduceCtorEq, ↓reduceIte, Nat.reduceEqDiff, Nat.reduceLeDiff, Nat.reduceSub, Nat.reduceBEq, Nat.reduceBNe, Int.reduceLT, Int.reduceEq, Int.reduceAdd, Int.reduceToNat, Int.reduceLE, Int.reduceBEq, Int.reduceBNe, enc1, cJob, cRcp, eqTy_Rcp, eqTy_Sum, rcpEq, List.forall_mem_map]
  (repeat ((with_reducible refine And.intro ?_ ?_); (first | trivial | assumption | omega | (simp; done))))
  refine hK3 _ ?_
  (try clear hK3)
  refine at_cond _ rfl rfl (fun h6 => ?_) (fun h6 => ?_)
  · have r6 := h6
    (try simp only [dB2] at h6)
    (rw [hs] at r6; simp at r6)
  · have r6 := h6
    (try simp only [dB2] at h6)
    refine at_skip ?_
    (try simp only [thenQ, blockQ])
    refine hK2 _ ?_
    (try clear hK2)
    refine at_seq fun K7 hK7 => ?_
    refine at_region [It.mk (some 21) none (IK.p (PK.mov (Operand.tmp 0))), It.mk (some 22) none (IK.p (PK.mov (Operand.tmp 1))), It.mk (some 23) none (IK.p (PK.load (Operand.tmp 7) 32 true)), It.mk (some 24) none (IK.p (PK.load (Operand.tmp 8) 40 true)), It.mk (some 25) none (IK.call 61 [Operand.tmp 21, Operand.tmp 22, Operand.tmp 23, Operand.tmp 24]), It.mk (some 20) none (IK.p (PK.mov (Operand.tmp 25))), It.mk (some 26) none (IK.p (PK.ext (Operand.tmp 20) 0)), It.mk (some 27) none (IK.p (PK.ext (Operand.tmp 20) 1)), It.mk (some 11) none (IK.alloc (CV.st [CV.pv (Value.int IntKind.i64 0), CV.pv (Value.int IntKind.i64 0), CV.ar IntKind.u8 32 (List.replicate 32 0), CV.pv (Value.slice none 0 0)])), It.mk none none (IK.store (Operand.tmp 11) (Operand.tmp 26) 35), It.mk (some 12) none (IK.p (PK.mov (Operand.tmp 27)))] (by kernel_rfl) ?_
    refine apl_cut [_, _, _, _] _ (fun K8 hK8 => ?_)
    simp (maxSteps:=999999) (disch:=omega) only [av1, av2, av3, av4, av5, av6, av7, eq_self, exists_const, forall_const, implies_true, storeOk, thenQ, PK.cond, PK.val, Nat.reduceAdd, Nat.reduceLT, Nat.reduceMul, reduceCtorEq, ↓reduceIte, Nat.reduceEqDiff, Nat.reduceLeDiff, Nat.reduceSub, Nat.reduceBEq, Nat.reduceBNe, Int.reduceLT, Int.reduceEq, Int.reduceAdd, Int.reduceToNat, Int.reduceLE, Int.reduceBEq, Int.reduceBNe, enc1, cJob, cRcp, eqTy_Rcp, eqTy_Sum, rcpEq, List.forall_mem_map]
    (repeat ((with_reducible refine And.intro ?_ ?_); (first | trivial | assumption | omega | (simp; done))))
    refine hK8 _ ?_
    (try clear hK8)
    refine apl_cut [_] _ (fun K9 hK9 => ?_)
    simp (maxSteps:=999999) (disch:=omega) only [av1, av2, av3, av4, av5, av6, av7, eq_self, exists_const, forall_const, implies_true, storeOk, thenQ, PK.cond, PK.val, Nat.reduceAdd, Nat.reduceLT, Nat.reduceMul, reduceCtorEq, ↓reduceIte, Nat.reduceEqDiff, Nat.reduceLeDiff, Nat.reduceSub, Nat.reduceBEq, Nat.reduceBNe, Int.reduceLT, Int.reduceEq, Int.reduceAdd, Int.reduceToNat, Int.reduceLE, Int.reduceBEq, Int.reduceBNe, enc1, cJob, cRcp, eqTy_Rcp, eqTy_Sum, rcpEq, List.forall_mem_map]
    apply Or.inl
    first | refine ⟨[], trivial, ?_⟩ | refine ⟨_, (makeBad_ap ch st c t h), ?_⟩ | refine ⟨_, fun _ => (makeBad_ap ch st c t h), ?_⟩ | refine ⟨_, fun h => ⟨h, (makeBad_ap ch st c t h)⟩, ?_⟩ | refine ⟨_, fun h => ⟨by simp_all, (makeBad_ap ch st c t h)⟩, ?_⟩ | refine ⟨[], ?_⟩
    (try simp only [rsAV, List.map_cons, List.map_nil, thenQ])
    refine hK9 _ ?_
    (try clear hK9)
    simp (maxSteps:=999999) (disch:=omega) only [av1, av2, av3, av4, av5, av6, av7, eq_self, exists_const, forall_const, implies_true, storeOk, thenQ, PK.cond, PK.val, Nat.reduceAdd, Nat.reduceLT, Nat.reduceMul, reduceCtorEq, ↓reduceIte, Nat.reduceEqDiff, Nat.reduceLeDiff, Nat.reduceSub, Nat.reduceBEq, Nat.reduceBNe, Int.reduceLT, Int.reduceEq, Int.reduceAdd, Int.reduceToNat, Int.reduceLE, Int.reduceBEq, Int.reduceBNe, enc1, cJob, cRcp, eqTy_Rcp, eqTy_Sum, rcpEq, List.forall_mem_map]
    (repeat ((with_reducible refine And.intro ?_ ?_); (first | trivial | assumption | omega | (simp; done))))
    refine hK7 _ ?_
    (try clear hK7)
    refine at_seq fun K10 hK10 => ?_
    refine at_region [It.mk (some 29) none (IK.p (PK.load (Operand.tmp 7) 32 true)), It.mk (some 30) none (IK.p (PK.load (Operand.tmp 8) 40 true)), It.mk (some 31) none (IK.call 62 [Operand.tmp 29, Operand.tmp 30]), It.mk (some 28) none (IK.p (PK.mov (Operand.tmp 31))), It.mk (some 32) none (IK.p (PK.ext (Operand.tmp 28) 0)), It.mk (some 33) none (IK.p (PK.ext (Operand.tmp 28) 1)), It.mk (some 13) none (IK.p (PK.mov (Operand.tmp 32))), It.mk (some 14) none (IK.p (PK.mov (Operand.tmp 33)))] (by kernel_rfl) ?_
    refine apl_cut [_, _] _ (fun K11 hK11 => ?_)
    simp (maxSteps:=999999) (disch:=omega) only [av1, av2, av3, av4, av5, av6, av7, eq_self, exists_const, forall_const, implies_true, storeOk, thenQ, PK.cond, PK.val, Nat.reduceAdd, Nat.reduceLT, Nat.reduceMul, reduceCtorEq, ↓reduceIte, Nat.reduceEqDiff, Nat.reduceLeDiff, Nat.reduceSub, Nat.reduceBEq, Nat.reduceBNe, Int.reduceLT, Int.reduceEq, Int.reduceAdd, Int.reduceToNat, Int.reduceLE, Int.reduceBEq, Int.reduceBNe, enc1, cJob, cRcp, eqTy_Rcp, eqTy_Sum, rcpEq, List.forall_mem_map]
    (repeat ((with_reducible refine And.intro ?_ ?_); (first | trivial | assumption | omega | (simp; done))))
    refine hK11 _ ?_
    (try clear hK11)
    refine apl_cut [_] _ (fun K12 hK12 => ?_)
    simp (maxSteps:=999999) (disch:=omega) only [av1, av2, av3, av4, av5, av6, av7, eq_self, exists_const, forall_const, implies_true, storeOk, thenQ, PK.cond, PK.val, Nat.reduceAdd, Nat.reduceLT, Nat.reduceMul, reduceCtorEq, ↓reduceIte, Nat.reduceEqDiff, Nat.reduceLeDiff, Nat.reduceSub, Nat.reduceBEq, Nat.reduceBNe, Int.reduceLT, Int.reduceEq, Int.reduceAdd, Int.reduceToNat, Int.reduceLE, Int.reduceBEq, Int.reduceBNe, enc1, cJob, cRcp, eqTy_Rcp, eqTy_Sum, rcpEq, List.forall_mem_map]
    apply Or.inl
    first | refine ⟨[], trivial, ?_⟩ | refine ⟨_, (cover16_ap c t hc ht hs), ?_⟩ | refine ⟨_, fun _ => (cover16_ap c t hc ht hs), ?_⟩ | refine ⟨_, fun h => ⟨h, (cover16_ap c t hc ht hs)⟩, ?_⟩ | refine ⟨_, fun h => ⟨by simp_all, (cover16_ap c t hc ht hs)⟩, ?_⟩ | refine ⟨[], ?_⟩
    (try simp only [rsAV, List.map_cons, List.map_nil, thenQ])
    refine hK12 _ ?_
    (try clear hK12)
    simp (maxSteps:=999999) (disch:=omega) only [av1, av2, av3, av4, av5, av6, av7, eq_self, exists_const, forall_const, implies_true, storeOk, thenQ, PK.cond, PK.val, Nat.reduceAdd, Nat.reduceLT, Nat.reduceMul, reduceCtorEq, ↓reduceIte, Nat.reduceEqDiff, Nat.reduceLeDiff, Nat.reduceSub, Nat.reduceBEq, Nat.reduceBNe, Int.reduceLT, Int.reduceEq, Int.reduceAdd, Int.reduceToNat, Int.reduceLE, Int.reduceBEq, Int.reduceBNe, enc1, cJob, cRcp, eqTy_Rcp, eqTy_Sum, rcpEq, List.forall_mem_map]
    (repeat ((with_reducible refine And.intro ?_ ?_); (first | trivial | assumption | omega | (simp; done))))
    refine hK10 _ ?_
    (try clear hK10)
    refine at_seq fun K13 hK13 => ?_
    refine at_seq fun K14 hK14 => ?_
    refine at_region [It.mk (some 34) none (IK.p (PK.mov (Operand.tmp 0))), It.mk (some 35) none (IK.p (PK.bin BinOp.lss (Operand.tmp 34) (Operand.const (Value.int IntKind.i64 0)))), It.mk (some 36) none (IK.p (PK.mov (Operand.tmp 35))), It.mk (some 37) (some (36, false)) (IK.p (PK.mov (Operand.tmp 0))), It.mk (some 38) (some (36, false)) (IK.p (PK.bin BinOp.gtr (Operand.tmp 37) (Operand.const (Value.int IntKind.i64 1048576)))), It.mk (some 39) none (IK.p (PK.pick (Operand.tmp 36) (Operand.const (Value.bool true)) (Operand.tmp 38))), It.mk (some 40) none (IK.p (PK.mov (Operand.tmp 39))), It.mk (some 41) (some (40, false)) (IK.p (PK.mov (Operand.tmp 1))), It.mk (some 42) (some (40, false)) (IK.p (PK.bin BinOp.lss (Operand.tmp 41) (Operand.const (Value.int IntKind.i64 0)))), It.mk (some 43) none (IK.p (PK.pick (Operand.tmp 40) (Operand.const (Value.bool true)) (Operand.tmp 42))), It.mk (some 44) none (IK.p (PK.mov (Operand.tmp 43))), It.mk (some 45) (some (44, false)) (IK.p (PK.mov (Operand.tmp 1))), It.mk (some 46) (some (44, false)) (IK.p (PK.bin BinOp.gtr (Operand.tmp 45) (Operand.const (Value.int IntKind.i64 1048576)))), It.mk (some 47) none (IK.p (PK.pick (Operand.tmp 44) (Operand.const (Value.bool true)) (Operand.tmp 46)))] (by kernel_rfl) ?_
    simp (maxSteps:=999999) (disch:=omega) only [av1, av2, av3, av4, av5, av6, av7, eq_self, exists_const, forall_const, implies_true, storeOk, thenQ, PK.cond, PK.val, Nat.reduceAdd, Nat.reduceLT, Nat.reduceMul, reduceCtorEq, ↓reduceIte, Nat.reduceEqDiff, Nat.reduceLeDiff, Nat.reduceSub, Nat.reduceBEq, Nat.reduceBNe, Int.reduceLT, Int.reduceEq, Int.reduceAdd, Int.reduceToNat, Int.reduceLE, Int.reduceBEq, Int.reduceBNe, enc1, cJob, cRcp, eqTy_Rcp, eqTy_Sum, rcpEq, List.forall_mem_map]
    (repeat ((with_reducible refine And.intro ?_ ?_); (first | trivial | assumption | omega | (simp; done))))
    refine hK14 _ ?_
    (try clear hK14)
    refine at_cond _ rfl rfl (fun h15 => ?_) (fun h15 => ?_)
    · have r15 := h15
      (try simp only [dB2] at h15)
      refine at_seq fun K16 hK16 => ?_
      refine at_region [It.mk (some 48) none (IK.p (PK.mov (Operand.tmp 12))), It.mk (some 49) none (IK.p (PK.bin BinOp.eql (Operand.tmp 48) (Operand.const (Value.int IntKind.i64 1)))), It.mk (some 50) none (IK.p (PK.mov (Operand.tmp 49))), It.mk (some 51) (some (50, true)) (IK.p (PK.fAddr (Operand.tmp 11) 3 34)), It.mk (some 52) (some (50, true)) (IK.p (PK.load (Operand.tmp 51) 1 false)), It.mk (some 53) (some (50, true)) (IK.p (PK.len false (Operand.tmp 52))), It.mk (some 54) (some (50, true)) (IK.p (PK.bin BinOp.eql (Operand.tmp 53) (Operand.const (Value.int IntKind.i64 0)))), It.mk (some 55) none (IK.p (PK.pick (Operand.tmp 50) (Operand.tmp 54) (Operand.const (Value.bool false)))), It.mk (some 56) none (IK.p (PK.mov (Operand.tmp 55))), It.mk (some 57) (some (56, true)) (IK.call 60 []), It.mk (some 58) none (IK.p (PK.pick (Operand.tmp 56) (Operand.tmp 57) (Operand.const (Value.bool false)))), It.mk (some 10) none (IK.p (PK.mov (Operand.tmp 58)))] (by kernel_rfl) ?_
      refine apl_cut [_, _, _, _, _, _, _, _, _] _ (fun K17 hK17 => ?_)
      simp (maxSteps:=999999) (disch:=omega) only [av1, av2, av3, av4, av5, av6, av7, eq_self, exists_const, forall_const, implies_true, storeOk, thenQ, PK.cond, PK.val, Nat.reduceAdd, Nat.reduceLT, Nat.reduceMul, reduceCtorEq, ↓reduceIte, Nat.reduceEqDiff, Nat.reduceLeDiff, Nat.reduceSub, Nat.reduceBEq, Nat.reduceBNe, Int.reduceLT, Int.reduceEq, Int.reduceAdd, Int.reduceToNat, Int.reduceLE, Int.reduceBEq, Int.reduceBNe, enc1, cJob, cRcp, eqTy_Rcp, eqTy_Sum, rcpEq, List.forall_mem_map]
      (repeat ((with_reducible refine And.intro ?_ ?_); (first | trivial | assumption | omega | (simp; done))))
      refine hK17 _ ?_
      (try clear hK17)
      refine apl_cut [_] _ (fun K18 hK18 => ?_)
      simp (maxSteps:=999999) (disch:=omega) only [av1, av2, av3, av4, av5, av6, av7, eq_self, exists_const, forall_const, implies_true, storeOk, thenQ, PK.cond, PK.val, Nat.reduceAdd, Nat.reduceLT, Nat.reduceMul, reduceCtorEq, ↓reduceIte, Nat.reduceEqDiff, Nat.reduceLeDiff, Nat.reduceSub, Nat.reduceBEq, Nat.reduceBNe, Int.reduceLT, Int.reduceEq, Int.reduceAdd, Int.reduceToNat, Int.reduceLE, Int.reduceBEq, Int.reduceBNe, enc1, cJob, cRcp, eqTy_Rcp, eqTy_Sum, rcpEq, List.forall_mem_map]
      apply Or.inl
      first | refine ⟨[], trivial, ?_⟩ | refine ⟨_, (awake16_ap), ?_⟩ | refine ⟨_, fun _ => (awake16_ap), ?_⟩ | refine ⟨_, fun h => ⟨h, (awake16_ap)⟩, ?_⟩ | refine ⟨_, fun h => ⟨by simp_all, (awake16_ap)⟩, ?_⟩ | refine ⟨[], ?_⟩
      (try simp only [rsAV, List.map_cons, List.map_nil, thenQ])
      refine hK18 _ ?_
      (try clear hK18)
      simp (maxSteps:=999999) (disch:=omega) only [av1, av2, av3, av4, av5, av6, av7, eq_self, exists_const, forall_const, implies_true, storeOk, thenQ, PK.cond, PK.val, Nat.reduceAdd, Nat.reduceLT, Nat.reduceMul, reduceCtorEq, ↓reduceIte, Nat.reduceEqDiff, Nat.reduceLeDiff, Nat.reduceSub, Nat.reduceBEq, Nat.reduceBNe, Int.reduceLT, Int.reduceEq, Int.reduceAdd, Int.reduceToNat, Int.reduceLE, Int.reduceBEq, Int.reduceBNe, enc1, cJob, cRcp, eqTy_Rcp, eqTy_Sum, rcpEq, List.forall_mem_map]
      (repeat ((with_reducible refine And.intro ?_ ?_); (first | trivial | assumption | omega | (simp; done))))
      refine hK16 _ ?_
      (try clear hK16)
      refine at_ret ?_
      simp (maxSteps:=999999) (disch:=omega) only [av1, av2, av3, av4, av5, av6, av7, eq_self, exists_const, forall_const, implies_true, storeOk, thenQ, PK.cond, PK.val, Nat.reduceAdd, Nat.reduceLT, Nat.reduceMul, reduceCtorEq, ↓reduceIte, Nat.reduceEqDiff, Nat.reduceLeDiff, Nat.reduceSub, Nat.reduceBEq, Nat.reduceBNe, Int.reduceLT, Int.reduceEq, Int.reduceAdd, Int.reduceToNat, Int.reduceLE, Int.reduceBEq, Int.reduceBNe, enc1, cJob, cRcp, eqTy_Rcp, eqTy_Sum, rcpEq, List.forall_mem_map, blockQ, retQ, RetOk, ResOk, AV.fin, AV.fins, CV.le, CV.les]
      (first | rfl | (simp; done) | trace_state)
    · have r15 := h15
      (try simp only [dB2] at h15)
      (rw [jobBad, r15] at h; cases h)
set_option maxRecDepth 100000 in
set_option maxHeartbeats 4000000 in
theorem jobs2_ap (ch st : Int) (c : List Int) (t : Txx) (rt rc rs : Int) (rh rb : List Int) (hc : ArOk .u8 32 c) (ht : OkTxx t) (hs : smallTx t = true) (h : jobBad ch st = false) (he : coverE t ≠ 0) : AP Try.prog 10 [ic .i64 ch, ic .i64 st, cSum c, cTxx t, cRcp rt rc rs rh rb] [.pv (.bool true)] := by
  refine ap_of (fun _ _ => Try.call10 _ _) Try.func10 rfl Try.ntmps10 (by simp) (zs := [RZ.mk 10 none]) (by kernel_rfl) (fun w F => ?_)
  simp only [List.map_cons, List.map_nil, argT, Nat.reduceAdd]
  refine at_seq fun K1 hK1 => ?_
  refine at_region [It.mk (some 7) none (IK.box (Operand.tmp 2)), It.mk (some 8) none (IK.box (Operand.tmp 3)), It.mk (some 9) none (IK.box (Operand.tmp 4)), It.mk (some 10) none (IK.p (PK.mov (Operand.const (Value.bool false))))] (by kernel_rfl) ?_
  simp (maxSteps:=999999) (disch:=omega) only [av1, av2, av3, av4, av5, av6, av7, eq_self, exists_const, forall_const, implies_true, storeOk, thenQ, PK.cond, PK.val, Nat.reduceAdd, Nat.reduceLT, Nat.reduceMul, reduceCtorEq, ↓reduceIte, Nat.reduceEqDiff, Nat.reduceLeDiff, Nat.reduceSub, Nat.reduceBEq, Nat.reduceBNe, Int.reduceLT, Int.reduceEq, Int.reduceAdd, Int.reduceToNat, Int.reduceLE, Int.reduceBEq, Int.reduceBNe, enc1, cJob, cRcp, eqTy_Rcp, eqTy_Sum, rcpEq, List.forall_mem_map]
  (repeat ((with_reducible refine And.intro ?_ ?_); (first | trivial | assumption | omega | (simp; done))))
  refine hK1 _ ?_
  (try clear hK1)
  refine at_seq fun K2 hK2 => ?_
  refine at_seq fun K3 hK3 => ?_
  refine at_region [It.mk (some 16) none (IK.p (PK.load (Operand.tmp 8) 40 true)), It.mk (some 17) none (IK.call 59 [Operand.tmp 16]), It.mk (some 18) none (IK.p (PK.bin BinOp.neq (Operand.tmp 17) (Operand.const (Value.int IntKind.i64 0))))] (by kernel_rfl) ?_
  refine apl_cut [_] _ (fun K4 hK4 => ?_)
  simp (maxSteps:=999999) (disch:=omega) only [av1, av2, av3, av4, av5, av6, av7, eq_self, exists_const, forall_const, implies_true, storeOk, thenQ, PK.cond, PK.val, Nat.reduceAdd, Nat.reduceLT, Nat.reduceMul, reduceCtorEq, ↓reduceIte, Nat.reduceEqDiff, Nat.reduceLeDiff, Nat.reduceSub, Nat.reduceBEq, Nat.reduceBNe, Int.reduceLT, Int.reduceEq, Int.reduceAdd, Int.reduceToNat, Int.reduceLE, Int.reduceBEq, Int.reduceBNe, enc1, cJob, cRcp, eqTy_Rcp, eqTy_Sum, rcpEq, List.forall_mem_map]
  (repeat ((with_reducible refine And.intro ?_ ?_); (first | trivial | assumption | omega | (simp; done))))
  refine hK4 _ ?_
  (try clear hK4)
  refine apl_cut [_] _ (fun K5 hK5 => ?_)
  simp (maxSteps:=999999) (disch:=omega) only [av1, av2, av3, av4, av5, av6, av7, eq_self, exists_const, forall_const, implies_true, storeOk, thenQ, PK.cond, PK.val, Nat.reduceAdd, Nat.reduceLT, Nat.reduceMul, reduceCtorEq, ↓reduceIte, Nat.reduceEqDiff, Nat.reduceLeDiff, Nat.reduceSub, Nat.reduceBEq, Nat.reduceBNe, Int.reduceLT, Int.reduceEq, Int.reduceAdd, Int.reduceToNat, Int.reduceLE, Int.reduceBEq, Int.reduceBNe, enc1, cJob, cRcp, eqTy_Rcp, eqTy_Sum, rcpEq, List.forall_mem_map]
  apply Or.inl
  first | refine ⟨[], trivial, ?_⟩ | refine ⟨_, (smallTx_ap t ht), ?_⟩ | refine ⟨_, fun _ => (smallTx_ap t ht), ?_⟩ | refine ⟨_, fun h => ⟨h, (smallTx_ap t ht)⟩, ?_⟩ | refine ⟨_, fun h => ⟨by simp_all, (smallTx_ap t ht)⟩, ?_⟩ | refine ⟨[], ?_⟩
  (try simp only [rsAV, List.map_cons, List.map_nil, thenQ])
  refine hK5 _ ?_
  (try clear hK5)
  simp (maxSteps:=999999) (disch:=omega) only [av1, av2, av3, av4, av5, av6, av7, eq_self, exists_const, forall_const, implies_true, storeOk, thenQ, PK.cond, PK.val, Nat.reduceAdd, Nat.reduceLT, Nat.reduceMul, reduceCtorEq, ↓reduceIte, Nat.reduceEqDiff, Nat.reduceLeDiff, Nat.reduceSub, Nat.reduceBEq, Nat.reduceBNe, Int.reduceLT, Int.reduceEq, Int.reduceAdd, Int.reduceToNat, Int.reduceLE, Int.reduceBEq, Int.reduceBNe, enc1, cJob, cRcp, eqTy_Rcp, eqTy_Sum, rcpEq, List.forall_mem_map]
  (repeat ((with_reducible refine And.intro ?_ ?_); (first | trivial | assumption | omega | (simp; done))))
  refine hK3 _ ?_
  (try clear hK3)
  refine at_cond _ rfl rfl (fun h6 => ?_) (fun h6 => ?_)
  · have r6 := h6
    (try simp only [dB2] at h6)
    (rw [hs] at r6; simp at r6)
  · have r6 := h6
    (try simp only [dB2] at h6)
    refine at_skip ?_
    (try simp only [thenQ, blockQ])
    refine hK2 _ ?_
    (try clear hK2)
    refine at_seq fun K7 hK7 => ?_
    refine at_region [It.mk (some 21) none (IK.p (PK.mov (Operand.tmp 0))), It.mk (some 22) none (IK.p (PK.mov (Operand.tmp 1))), It.mk (some 23) none (IK.p (PK.load (Operand.tmp 7) 32 true)), It.mk (some 24) none (IK.p (PK.load (Operand.tmp 8) 40 true)), It.mk (some 25) none (IK.call 61 [Operand.tmp 21, Operand.tmp 22, Operand.tmp 23, Operand.tmp 24]), It.mk (some 20) none (IK.p (PK.mov (Operand.tmp 25))), It.mk (some 26) none (IK.p (PK.ext (Operand.tmp 20) 0)), It.mk (some 27) none (IK.p (PK.ext (Operand.tmp 20) 1)), It.mk (some 11) none (IK.alloc (CV.st [CV.pv (Value.int IntKind.i64 0), CV.pv (Value.int IntKind.i64 0), CV.ar IntKind.u8 32 (List.replicate 32 0), CV.pv (Value.slice none 0 0)])), It.mk none none (IK.store (Operand.tmp 11) (Operand.tmp 26) 35), It.mk (some 12) none (IK.p (PK.mov (Operand.tmp 27)))] (by kernel_rfl) ?_
    refine apl_cut [_, _, _, _] _ (fun K8 hK8 => ?_)
    simp (maxSteps:=999999) (disch:=omega) only [av1, av2, av3, av4, av5, av6, av7, eq_self, exists_const, forall_const, implies_true, storeOk, thenQ, PK.cond, PK.val, Nat.reduceAdd, Nat.reduceLT, Nat.reduceMul, reduceCtorEq, ↓reduceIte, Nat.reduceEqDiff, Nat.reduceLeDiff, Nat.reduceSub, Nat.reduceBEq, Nat.reduceBNe, Int.reduceLT, Int.reduceEq, Int.reduceAdd, Int.reduceToNat, Int.reduceLE, Int.reduceBEq, Int.reduceBNe, enc1, cJob, cRcp, eqTy_Rcp, eqTy_Sum, rcpEq, List.forall_mem_map]
    (repeat ((with_reducible refine And.intro ?_ ?_); (first | trivial | assumption | omega | (simp; done))))
    refine hK8 _ ?_
    (try clear hK8)
    refine apl_cut [_] _ (fun K9 hK9 => ?_)
    simp (maxSteps:=999999) (disch:=omega) only [av1, av2, av3, av4, av5, av6, av7, eq_self, exists_const, forall_const, implies_true, storeOk, thenQ, PK.cond, PK.val, Nat.reduceAdd, Nat.reduceLT, Nat.reduceMul, reduceCtorEq, ↓reduceIte, Nat.reduceEqDiff, Nat.reduceLeDiff, Nat.reduceSub, Nat.reduceBEq, Nat.reduceBNe, Int.reduceLT, Int.reduceEq, Int.reduceAdd, Int.reduceToNat, Int.reduceLE, Int.reduceBEq, Int.reduceBNe, enc1, cJob, cRcp, eqTy_Rcp, eqTy_Sum, rcpEq, List.forall_mem_map]
    apply Or.inl
    first | refine ⟨[], trivial, ?_⟩ | refine ⟨_, (makeErr_ap ch st c t hc ht hs h he), ?_⟩ | refine ⟨_, fun _ => (makeErr_ap ch st c t hc ht hs h he), ?_⟩ | refine ⟨_, fun h => ⟨h, (makeErr_ap ch st c t hc ht hs h he)⟩, ?_⟩ | refine ⟨_, fun h => ⟨by simp_all, (makeErr_ap ch st c t hc ht hs h he)⟩, ?_⟩ | refine ⟨[], ?_⟩
    (try simp only [rsAV, List.map_cons, List.map_nil, thenQ])
    refine hK9 _ ?_
    (try clear hK9)
    simp (maxSteps:=999999) (disch:=omega) only [av1, av2, av3, av4, av5, av6, av7, eq_self, exists_const, forall_const, implies_true, storeOk, thenQ, PK.cond, PK.val, Nat.reduceAdd, Nat.reduceLT, Nat.reduceMul, reduceCtorEq, ↓reduceIte, Nat.reduceEqDiff, Nat.reduceLeDiff, Nat.reduceSub, Nat.reduceBEq, Nat.reduceBNe, Int.reduceLT, Int.reduceEq, Int.reduceAdd, Int.reduceToNat, Int.reduceLE, Int.reduceBEq, Int.reduceBNe, enc1, cJob, cRcp, eqTy_Rcp, eqTy_Sum, rcpEq, List.forall_mem_map]
    (repeat ((with_reducible refine And.intro ?_ ?_); (first | trivial | assumption | omega | (simp; done))))
    refine hK7 _ ?_
    (try clear hK7)
    refine at_seq fun K10 hK10 => ?_
    refine at_region [It.mk (some 29) none (IK.p (PK.load (Operand.tmp 7) 32 true)), It.mk (some 30) none (IK.p (PK.load (Operand.tmp 8) 40 true)), It.mk (some 31) none (IK.call 62 [Operand.tmp 29, Operand.tmp 30]), It.mk (some 28) none (IK.p (PK.mov (Operand.tmp 31))), It.mk (some 32) none (IK.p (PK.ext (Operand.tmp 28) 0)), It.mk (some 33) none (IK.p (PK.ext (Operand.tmp 28) 1)), It.mk (some 13) none (IK.p (PK.mov (Operand.tmp 32))), It.mk (some 14) none (IK.p (PK.mov (Operand.tmp 33)))] (by kernel_rfl) ?_
    refine apl_cut [_, _] _ (fun K11 hK11 => ?_)
    simp (maxSteps:=999999) (disch:=omega) only [av1, av2, av3, av4, av5, av6, av7, eq_self, exists_const, forall_const, implies_true, storeOk, thenQ, PK.cond, PK.val, Nat.reduceAdd, Nat.reduceLT, Nat.reduceMul, reduceCtorEq, ↓reduceIte, Nat.reduceEqDiff, Nat.reduceLeDiff, Nat.reduceSub, Nat.reduceBEq, Nat.reduceBNe, Int.reduceLT, Int.reduceEq, Int.reduceAdd, Int.reduceToNat, Int.reduceLE, Int.reduceBEq, Int.reduceBNe, enc1, cJob, cRcp, eqTy_Rcp, eqTy_Sum, rcpEq, List.forall_mem_map]
    (repeat ((with_reducible refine And.intro ?_ ?_); (first | trivial | assumption | omega | (simp; done))))
    refine hK11 _ ?_
    (try clear hK11)
    refine apl_cut [_] _ (fun K12 hK12 => ?_)
    simp (maxSteps:=999999) (disch:=omega) only [av1, av2, av3, av4, av5, av6, av7, eq_self, exists_const, forall_const, implies_true, storeOk, thenQ, PK.cond, PK.val, Nat.reduceAdd, Nat.reduceLT, Nat.reduceMul, reduceCtorEq, ↓reduceIte, Nat.reduceEqDiff, Nat.reduceLeDiff, Nat.reduceSub, Nat.reduceBEq, Nat.reduceBNe, Int.reduceLT, Int.reduceEq, Int.reduceAdd, Int.reduceToNat, Int.reduceLE, Int.reduceBEq, Int.reduceBNe, enc1, cJob, cRcp, eqTy_Rcp, eqTy_Sum, rcpEq, List.forall_mem_map]
    apply Or.inl
    first | refine ⟨[], trivial, ?_⟩ | refine ⟨_, (cover16_ap c t hc ht hs), ?_⟩ | refine ⟨_, fun _ => (cover16_ap c t hc ht hs), ?_⟩ | refine ⟨_, fun h => ⟨h, (cover16_ap c t hc ht hs)⟩, ?_⟩ | refine ⟨_, fun h => ⟨by simp_all, (cover16_ap c t hc ht hs)⟩, ?_⟩ | refine ⟨[], ?_⟩
    (try simp only [rsAV, List.map_cons, List.map_nil, thenQ])
    refine hK12 _ ?_
    (try clear hK12)
    simp (maxSteps:=999999) (disch:=omega) only [av1, av2, av3, av4, av5, av6, av7, eq_self, exists_const, forall_const, implies_true, storeOk, thenQ, PK.cond, PK.val, Nat.reduceAdd, Nat.reduceLT, Nat.reduceMul, reduceCtorEq, ↓reduceIte, Nat.reduceEqDiff, Nat.reduceLeDiff, Nat.reduceSub, Nat.reduceBEq, Nat.reduceBNe, Int.reduceLT, Int.reduceEq, Int.reduceAdd, Int.reduceToNat, Int.reduceLE, Int.reduceBEq, Int.reduceBNe, enc1, cJob, cRcp, eqTy_Rcp, eqTy_Sum, rcpEq, List.forall_mem_map]
    (repeat ((with_reducible refine And.intro ?_ ?_); (first | trivial | assumption | omega | (simp; done))))
    refine hK10 _ ?_
    (try clear hK10)
    refine at_seq fun K13 hK13 => ?_
    refine at_seq fun K14 hK14 => ?_
    refine at_region [It.mk (some 34) none (IK.p (PK.mov (Operand.tmp 0))), It.mk (some 35) none (IK.p (PK.bin BinOp.lss (Operand.tmp 34) (Operand.const (Value.int IntKind.i64 0)))), It.mk (some 36) none (IK.p (PK.mov (Operand.tmp 35))), It.mk (some 37) (some (36, false)) (IK.p (PK.mov (Operand.tmp 0))), It.mk (some 38) (some (36, false)) (IK.p (PK.bin BinOp.gtr (Operand.tmp 37) (Operand.const (Value.int IntKind.i64 1048576)))), It.mk (some 39) none (IK.p (PK.pick (Operand.tmp 36) (Operand.const (Value.bool true)) (Operand.tmp 38))), It.mk (some 40) none (IK.p (PK.mov (Operand.tmp 39))), It.mk (some 41) (some (40, false)) (IK.p (PK.mov (Operand.tmp 1))), It.mk (some 42) (some (40, false)) (IK.p (PK.bin BinOp.lss (Operand.tmp 41) (Operand.const (Value.int IntKind.i64 0)))), It.mk (some 43) none (IK.p (PK.pick (Operand.tmp 40) (Operand.const (Value.bool true)) (Operand.tmp 42))), It.mk (some 44) none (IK.p (PK.mov (Operand.tmp 43))), It.mk (some 45) (some (44, false)) (IK.p (PK.mov (Operand.tmp 1))), It.mk (some 46) (some (44, false)) (IK.p (PK.bin BinOp.gtr (Operand.tmp 45) (Operand.const (Value.int IntKind.i64 1048576)))), It.mk (some 47) none (IK.p (PK.pick (Operand.tmp 44) (Operand.const (Value.bool true)) (Operand.tmp 46)))] (by kernel_rfl) ?_
    simp (maxSteps:=999999) (disch:=omega) only [av1, av2, av3, av4, av5, av6, av7, eq_self, exists_const, forall_const, implies_true, storeOk, thenQ, PK.cond, PK.val, Nat.reduceAdd, Nat.reduceLT, Nat.reduceMul, reduceCtorEq, ↓reduceIte, Nat.reduceEqDiff, Nat.reduceLeDiff, Nat.reduceSub, Nat.reduceBEq, Nat.reduceBNe, Int.reduceLT, Int.reduceEq, Int.reduceAdd, Int.reduceToNat, Int.reduceLE, Int.reduceBEq, Int.reduceBNe, enc1, cJob, cRcp, eqTy_Rcp, eqTy_Sum, rcpEq, List.forall_mem_map]
    (repeat ((with_reducible refine And.intro ?_ ?_); (first | trivial | assumption | omega | (simp; done))))
    refine hK14 _ ?_
    (try clear hK14)
    refine at_cond _ rfl rfl (fun h15 => ?_) (fun h15 => ?_)
    · have r15 := h15
      (try simp only [dB2] at h15)
      (rw [jobBad, r15] at h; cases h)
    · have r15 := h15
      (try simp only [dB2] at h15)
      refine at_skip ?_
      (try simp only [thenQ, blockQ])
      refine hK13 _ ?_
      (try clear hK13)
      refine at_seq fun K16 hK16 => ?_
      refine at_seq fun K17 hK17 => ?_
      refine at_region [It.mk (some 59) none (IK.p (PK.mov (Operand.tmp 14))), It.mk (some 60) none (IK.p (PK.bin BinOp.neq (Operand.tmp 59) (Operand.const (Value.int IntKind.i64 0))))] (by kernel_rfl) ?_
      simp (maxSteps:=999999) (disch:=omega) only [av1, av2, av3, av4, av5, av6, av7, eq_self, exists_const, forall_const, implies_true, storeOk, thenQ, PK.cond, PK.val, Nat.reduceAdd, Nat.reduceLT, Nat.reduceMul, reduceCtorEq, ↓reduceIte, Nat.reduceEqDiff, Nat.reduceLeDiff, Nat.reduceSub, Nat.reduceBEq, Nat.reduceBNe, Int.reduceLT, Int.reduceEq, Int.reduceAdd, Int.reduceToNat, Int.reduceLE, Int.reduceBEq, Int.reduceBNe, enc1, cJob, cRcp, eqTy_Rcp, eqTy_Sum, rcpEq, List.forall_mem_map]
      (repeat ((with_reducible refine And.intro ?_ ?_); (first | trivial | assumption | omega | (simp; done))))
      refine hK17 _ ?_
      (try clear hK17)
      refine at_cond _ rfl rfl (fun h18 => ?_) (fun h18 => ?_)
      · have r18 := h18
        (try simp only [dB2] at h18)
        refine at_seq fun K19 hK19 => ?_
        refine at_region [It.mk (some 61) none (IK.p (PK.mov (Operand.tmp 12))), It.mk (some 62) none (IK.p (PK.mov (Operand.tmp 14))), It.mk (some 63) none (IK.p (PK.bin BinOp.eql (Operand.tmp 61) (Operand.tmp 62))), It.mk (some 64) none (IK.p (PK.mov (Operand.tmp 63))), It.mk (some 65) (some (64, true)) (IK.p (PK.fAddr (Operand.tmp 11) 3 34)), It.mk (some 66) (some (64, true)) (IK.p (PK.load (Operand.tmp 65) 1 false)), It.mk (some 67) (some (64, true)) (IK.p (PK.len false (Operand.tmp 66))), It.mk (some 68) (some (64, true)) (IK.p (PK.bin BinOp.eql (Operand.tmp 67) (Operand.const (Value.int IntKind.i64 0)))), It.mk (some 69) none (IK.p (PK.pick (Operand.tmp 64) (Operand.tmp 68) (Operand.const (Value.bool false)))), It.mk (some 70) none (IK.p (PK.mov (Operand.tmp 69))), It.mk (some 71) (some (70, true)) (IK.call 60 []), It.mk (some 72) none (IK.p (PK.pick (Operand.tmp 70) (Operand.tmp 71) (Operand.const (Value.bool false)))), It.mk (some 10) none (IK.p (PK.mov (Operand.tmp 72)))] (by kernel_rfl) ?_
        refine apl_cut [_, _, _, _, _, _, _, _, _, _] _ (fun K20 hK20 => ?_)
        simp (maxSteps:=999999) (disch:=omega) only [av1, av2, av3, av4, av5, av6, av7, eq_self, exists_const, forall_const, implies_true, storeOk, thenQ, PK.cond, PK.val, Nat.reduceAdd, Nat.reduceLT, Nat.reduceMul, reduceCtorEq, ↓reduceIte, Nat.reduceEqDiff, Nat.reduceLeDiff, Nat.reduceSub, Nat.reduceBEq, Nat.reduceBNe, Int.reduceLT, Int.reduceEq, Int.reduceAdd, Int.reduceToNat, Int.reduceLE, Int.reduceBEq, Int.reduceBNe, enc1, cJob, cRcp, eqTy_Rcp, eqTy_Sum, rcpEq, List.forall_mem_map]
        (repeat ((with_reducible refine And.intro ?_ ?_); (first | trivial | assumption | omega | (simp; done))))
        refine hK20 _ ?_
        (try clear hK20)
        refine apl_cut [_] _ (fun K21 hK21 => ?_)
        simp (maxSteps:=999999) (disch:=omega) only [av1, av2, av3, av4, av5, av6, av7, eq_self, exists_const, forall_const, implies_true, storeOk, thenQ, PK.cond, PK.val, Nat.reduceAdd, Nat.reduceLT, Nat.reduceMul, reduceCtorEq, ↓reduceIte, Nat.reduceEqDiff, Nat.reduceLeDiff, Nat.reduceSub, Nat.reduceBEq, Nat.reduceBNe, Int.reduceLT, Int.reduceEq, Int.reduceAdd, Int.reduceToNat, Int.reduceLE, Int.reduceBEq, Int.reduceBNe, enc1, cJob, cRcp, eqTy_Rcp, eqTy_Sum, rcpEq, List.forall_mem_map]
        apply Or.inl
        first | refine ⟨[], trivial, ?_⟩ | refine ⟨_, (awake16_ap), ?_⟩ | refine ⟨_, fun _ => (awake16_ap), ?_⟩ | refine ⟨_, fun h => ⟨h, (awake16_ap)⟩, ?_⟩ | refine ⟨_, fun h => ⟨by simp_all, (awake16_ap)⟩, ?_⟩ | refine ⟨[], ?_⟩
        (try simp only [rsAV, List.map_cons, List.map_nil, thenQ])
        refine hK21 _ ?_
        (try clear hK21)
        simp (maxSteps:=999999) (disch:=omega) only [av1, av2, av3, av4, av5, av6, av7, eq_self, exists_const, forall_const, implies_true, storeOk, thenQ, PK.cond, PK.val, Nat.reduceAdd, Nat.reduceLT, Nat.reduceMul, reduceCtorEq, ↓reduceIte, Nat.reduceEqDiff, Nat.reduceLeDiff, Nat.reduceSub, Nat.reduceBEq, Nat.reduceBNe, Int.reduceLT, Int.reduceEq, Int.reduceAdd, Int.reduceToNat, Int.reduceLE, Int.reduceBEq, Int.reduceBNe, enc1, cJob, cRcp, eqTy_Rcp, eqTy_Sum, rcpEq, List.forall_mem_map]
        (repeat ((with_reducible refine And.intro ?_ ?_); (first | trivial | assumption | omega | (simp; done))))
        refine hK19 _ ?_
        (try clear hK19)
        refine at_ret ?_
        simp (maxSteps:=999999) (disch:=omega) only [av1, av2, av3, av4, av5, av6, av7, eq_self, exists_const, forall_const, implies_true, storeOk, thenQ, PK.cond, PK.val, Nat.reduceAdd, Nat.reduceLT, Nat.reduceMul, reduceCtorEq, ↓reduceIte, Nat.reduceEqDiff, Nat.reduceLeDiff, Nat.reduceSub, Nat.reduceBEq, Nat.reduceBNe, Int.reduceLT, Int.reduceEq, Int.reduceAdd, Int.reduceToNat, Int.reduceLE, Int.reduceBEq, Int.reduceBNe, enc1, cJob, cRcp, eqTy_Rcp, eqTy_Sum, rcpEq, List.forall_mem_map, blockQ, retQ, RetOk, ResOk, AV.fin, AV.fins, CV.le, CV.les]
        (first | rfl | (simp; done) | trace_state)
      · have r18 := h18
        (try simp only [dB2] at h18)
        exact absurd (by assumption) he
set_option maxRecDepth 100000 in
set_option maxHeartbeats 4000000 in
theorem jobs3_ap (ch st : Int) (c : List Int) (t : Txx) (rt rc rs : Int) (rh rb : List Int) (hc : ArOk .u8 32 c) (ht : OkTxx t) (hs : smallTx t = true) (h : jobBad ch st = false) (he : coverE t = 0) : AP Try.prog 10 [ic .i64 ch, ic .i64 st, cSum c, cTxx t, cRcp rt rc rs rh rb] [.pv (.bool true)] := by
  refine ap_of (fun _ _ => Try.call10 _ _) Try.func10 rfl Try.ntmps10 (by simp) (zs := [RZ.mk 10 none]) (by kernel_rfl) (fun w F => ?_)
  simp only [List.map_cons, List.map_nil, argT, Nat.reduceAdd]
  refine at_seq fun K1 hK1 => ?_
  refine at_region [It.mk (some 7) none (IK.box (Operand.tmp 2)), It.mk (some 8) none (IK.box (Operand.tmp 3)), It.mk (some 9) none (IK.box (Operand.tmp 4)), It.mk (some 10) none (IK.p (PK.mov (Operand.const (Value.bool false))))] (by kernel_rfl) ?_
  simp (maxSteps:=999999) (disch:=omega) only [av1, av2, av3, av4, av5, av6, av7, eq_self, exists_const, forall_const, implies_true, storeOk, thenQ, PK.cond, PK.val, Nat.reduceAdd, Nat.reduceLT, Nat.reduceMul, reduceCtorEq, ↓reduceIte, Nat.reduceEqDiff, Nat.reduceLeDiff, Nat.reduceSub, Nat.reduceBEq, Nat.reduceBNe, Int.reduceLT, Int.reduceEq, Int.reduceAdd, Int.reduceToNat, Int.reduceLE, Int.reduceBEq, Int.reduceBNe, enc1, cJob, cRcp, eqTy_Rcp, eqTy_Sum, rcpEq, List.forall_mem_map]
  (repeat ((with_reducible refine And.intro ?_ ?_); (first | trivial | assumption | omega | (simp; done))))
  refine hK1 _ ?_
  (try clear hK1)
  refine at_seq fun K2 hK2 => ?_
  refine at_seq fun K3 hK3 => ?_
  refine at_region [It.mk (some 16) none (IK.p (PK.load (Operand.tmp 8) 40 true)), It.mk (some 17) none (IK.call 59 [Operand.tmp 16]), It.mk (some 18) none (IK.p (PK.bin BinOp.neq (Operand.tmp 17) (Operand.const (Value.int IntKind.i64 0))))] (by kernel_rfl) ?_
  refine apl_cut [_] _ (fun K4 hK4 => ?_)
  simp (maxSteps:=999999) (disch:=omega) only [av1, av2, av3, av4, av5, av6, av7, eq_self, exists_const, forall_const, implies_true, storeOk, thenQ, PK.cond, PK.val, Nat.reduceAdd, Nat.reduceLT, Nat.reduceMul, reduceCtorEq, ↓reduceIte, Nat.reduceEqDiff, Nat.reduceLeDiff, Nat.reduceSub, Nat.reduceBEq, Nat.reduceBNe, Int.reduceLT, Int.reduceEq, Int.reduceAdd, Int.reduceToNat, Int.reduceLE, Int.reduceBEq, Int.reduceBNe, enc1, cJob, cRcp, eqTy_Rcp, eqTy_Sum, rcpEq, List.forall_mem_map]
  (repeat ((with_reducible refine And.intro ?_ ?_); (first | trivial | assumption | omega | (simp; done))))
  refine hK4 _ ?_
  (try clear hK4)
  refine apl_cut [_] _ (fun K5 hK5 => ?_)
  simp (maxSteps:=999999) (disch:=omega) only [av1, av2, av3, av4, av5, av6, av7, eq_self, exists_const, forall_const, implies_true, storeOk, thenQ, PK.cond, PK.val, Nat.reduceAdd, Nat.reduceLT, Nat.reduceMul, reduceCtorEq, ↓reduceIte, Nat.reduceEqDiff, Nat.reduceLeDiff, Nat.reduceSub, Nat.reduceBEq, Nat.reduceBNe, Int.reduceLT, Int.reduceEq, Int.reduceAdd, Int.reduceToNat, Int.reduceLE, Int.reduceBEq, Int.reduceBNe, enc1, cJob, cRcp, eqTy_Rcp, eqTy_Sum, rcpEq, List.forall_mem_map]
  apply Or.inl
  first | refine ⟨[], trivial, ?_⟩ | refine ⟨_, (smallTx_ap t ht), ?_⟩ | refine ⟨_, fun _ => (smallTx_ap t ht), ?_⟩ | refine ⟨_, fun h => ⟨h, (smallTx_ap t ht)⟩, ?_⟩ | refine ⟨_, fun h => ⟨by simp_all, (smallTx_ap t ht)⟩, ?_⟩ | refine ⟨[], ?_⟩
  (try simp only [rsAV, List.map_cons, List.map_nil, thenQ])
  refine hK5 _ ?_
  (try clear hK5)
  simp (maxSteps:=999999) (disch:=omega) only [av1, av2, av3, av4, av5, av6, av7, eq_self, exists_const, forall_const, implies_true, storeOk, thenQ, PK.cond, PK.val, Nat.reduceAdd, Nat.reduceLT, Nat.reduceMul, reduceCtorEq, ↓reduceIte, Nat.reduceEqDiff, Nat.reduceLeDiff, Nat.reduceSub, Nat.reduceBEq, Nat.reduceBNe, Int.reduceLT, Int.reduceEq, Int.reduceAdd, Int.reduceToNat, Int.reduceLE, Int.reduceBEq, Int.reduceBNe, enc1, cJob, cRcp, eqTy_Rcp, eqTy_Sum, rcpEq, List.forall_mem_map]
  (repeat ((with_reducible refine And.intro ?_ ?_); (first | trivial | assumption | omega | (simp; done))))
  refine hK3 _ ?_
  (try clear hK3)
  refine at_cond _ rfl rfl (fun h6 => ?_) (fun h6 => ?_)
  · have r6 := h6
    (try simp only [dB2] at h6)
    (rw [hs] at r6; simp at r6)
  · have r6 := h6
    (try simp only [dB2] at h6)
    refine at_skip ?_
    (try simp only [thenQ, blockQ])
    refine hK2 _ ?_
    (try clear hK2)
    refine at_seq fun K7 hK7 => ?_
    refine at_region [It.mk (some 21) none (IK.p (PK.mov (Operand.tmp 0))), It.mk (some 22) none (IK.p (PK.mov (Operand.tmp 1))), It.mk (some 23) none (IK.p (PK.load (Operand.tmp 7) 32 true)), It.mk (some 24) none (IK.p (PK.load (Operand.tmp 8) 40 true)), It.mk (some 25) none (IK.call 61 [Operand.tmp 21, Operand.tmp 22, Operand.tmp 23, Operand.tmp 24]), It.mk (some 20) none (IK.p (PK.mov (Operand.tmp 25))), It.mk (some 26) none (IK.p (PK.ext (Operand.tmp 20) 0)), It.mk (some 27) none (IK.p (PK.ext (Operand.tmp 20) 1)), It.mk (some 11) none (IK.alloc (CV.st [CV.pv (Value.int IntKind.i64 0), CV.pv (Value.int IntKind.i64 0), CV.ar IntKind.u8 32 (List.replicate 32 0), CV.pv (Value.slice none 0 0)])), It.mk none none (IK.store (Operand.tmp 11) (Operand.tmp 26) 35), It.mk (some 12) none (IK.p (PK.mov (Operand.tmp 27)))] (by kernel_rfl) ?_
    refine apl_cut [_, _, _, _] _ (fun K8 hK8 => ?_)
    simp (maxSteps:=999999) (disch:=omega) only [av1, av2, av3, av4, av5, av6, av7, eq_self, exists_const, forall_const, implies_true, storeOk, thenQ, PK.cond, PK.val, Nat.reduceAdd, Nat.reduceLT, Nat.reduceMul, reduceCtorEq, ↓reduceIte, Nat.reduceEqDiff, Nat.reduceLeDiff, Nat.reduceSub, Nat.reduceBEq, Nat.reduceBNe, Int.reduceLT, Int.reduceEq, Int.reduceAdd, Int.reduceToNat, Int.reduceLE, Int.reduceBEq, Int.reduceBNe, enc1, cJob, cRcp, eqTy_Rcp, eqTy_Sum, rcpEq, List.forall_mem_map]
    (repeat ((with_reducible refine And.intro ?_ ?_); (first | trivial | assumption | omega | (simp; done))))
    refine hK8 _ ?_
    (try clear hK8)
    refine apl_cut [_] _ (fun K9 hK9 => ?_)
    simp (maxSteps:=999999) (disch:=omega) only [av1, av2, av3, av4, av5, av6, av7, eq_self, exists_const, forall_const, implies_true, storeOk, thenQ, PK.cond, PK.val, Nat.reduceAdd, Nat.reduceLT, Nat.reduceMul, reduceCtorEq, ↓reduceIte, Nat.reduceEqDiff, Nat.reduceLeDiff, Nat.reduceSub, Nat.reduceBEq, Nat.reduceBNe, Int.reduceLT, Int.reduceEq, Int.reduceAdd, Int.reduceToNat, Int.reduceLE, Int.reduceBEq, Int.reduceBNe, enc1, cJob, cRcp, eqTy_Rcp, eqTy_Sum, rcpEq, List.forall_mem_map]
    apply Or.inl
    first | refine ⟨[], trivial, ?_⟩ | refine ⟨_, (makeOk_ap ch st c t hc ht hs h he), ?_⟩ | refine ⟨_, fun _ => (makeOk_ap ch st c t hc ht hs h he), ?_⟩ | refine ⟨_, fun h => ⟨h, (makeOk_ap ch st c t hc ht hs h he)⟩, ?_⟩ | refine ⟨_, fun h => ⟨by simp_all, (makeOk_ap ch st c t hc ht hs h he)⟩, ?_⟩ | refine ⟨[], ?_⟩
    (try simp only [rsAV, List.map_cons, List.map_nil, thenQ])
    refine hK9 _ ?_
    (try clear hK9)
    simp (maxSteps:=999999) (disch:=omega) only [av1, av2, av3, av4, av5, av6, av7, eq_self, exists_const, forall_const, implies_true, storeOk, thenQ, PK.cond, PK.val, Nat.reduceAdd, Nat.reduceLT, Nat.reduceMul, reduceCtorEq, ↓reduceIte, Nat.reduceEqDiff, Nat.reduceLeDiff, Nat.reduceSub, Nat.reduceBEq, Nat.reduceBNe, Int.reduceLT, Int.reduceEq, Int.reduceAdd, Int.reduceToNat, Int.reduceLE, Int.reduceBEq, Int.reduceBNe, enc1, cJob, cRcp, eqTy_Rcp, eqTy_Sum, rcpEq, List.forall_mem_map]
    (repeat ((with_reducible refine And.intro ?_ ?_); (first | trivial | assumption | omega | (simp; done))))
    refine hK7 _ ?_
    (try clear hK7)
    refine at_seq fun K10 hK10 => ?_
    refine at_region [It.mk (some 29) none (IK.p (PK.load (Operand.tmp 7) 32 true)), It.mk (some 30) none (IK.p (PK.load (Operand.tmp 8) 40 true)), It.mk (some 31) none (IK.call 62 [Operand.tmp 29, Operand.tmp 30]), It.mk (some 28) none (IK.p (PK.mov (Operand.tmp 31))), It.mk (some 32) none (IK.p (PK.ext (Operand.tmp 28) 0)), It.mk (some 33) none (IK.p (PK.ext (Operand.tmp 28) 1)), It.mk (some 13) none (IK.p (PK.mov (Operand.tmp 32))), It.mk (some 14) none (IK.p (PK.mov (Operand.tmp 33)))] (by kernel_rfl) ?_
    refine apl_cut [_, _] _ (fun K11 hK11 => ?_)
    simp (maxSteps:=999999) (disch:=omega) only [av1, av2, av3, av4, av5, av6, av7, eq_self, exists_const, forall_const, implies_true, storeOk, thenQ, PK.cond, PK.val, Nat.reduceAdd, Nat.reduceLT, Nat.reduceMul, reduceCtorEq, ↓reduceIte, Nat.reduceEqDiff, Nat.reduceLeDiff, Nat.reduceSub, Nat.reduceBEq, Nat.reduceBNe, Int.reduceLT, Int.reduceEq, Int.reduceAdd, Int.reduceToNat, Int.reduceLE, Int.reduceBEq, Int.reduceBNe, enc1, cJob, cRcp, eqTy_Rcp, eqTy_Sum, rcpEq, List.forall_mem_map]
    (repeat ((with_reducible refine And.intro ?_ ?_); (first | trivial | assumption | omega | (simp; done))))
    refine hK11 _ ?_
    (try clear hK11)
    refine apl_cut [_] _ (fun K12 hK12 => ?_)
    simp (maxSteps:=999999) (disch:=omega) only [av1, av2, av3, av4, av5, av6, av7, eq_self, exists_const, forall_const, implies_true, storeOk, thenQ, PK.cond, PK.val, Nat.reduceAdd, Nat.reduceLT, Nat.reduceMul, reduceCtorEq, ↓reduceIte, Nat.reduceEqDiff, Nat.reduceLeDiff, Nat.reduceSub, Nat.reduceBEq, Nat.reduceBNe, Int.reduceLT, Int.reduceEq, Int.reduceAdd, Int.reduceToNat, Int.reduceLE, Int.reduceBEq, Int.reduceBNe, enc1, cJob, cRcp, eqTy_Rcp, eqTy_Sum, rcpEq, List.forall_mem_map]
    apply Or.inl
    first | refine ⟨[], trivial, ?_⟩ | refine ⟨_, (cover16_ap c t hc ht hs), ?_⟩ | refine ⟨_, fun _ => (cover16_ap c t hc ht hs), ?_⟩ | refine ⟨_, fun h => ⟨h, (cover16_ap c t hc ht hs)⟩, ?_⟩ | refine ⟨_, fun h => ⟨by simp_all, (cover16_ap c t hc ht hs)⟩, ?_⟩ | refine ⟨[], ?_⟩
    (try simp only [rsAV, List.map_cons, List.map_nil, thenQ])
    refine hK12 _ ?_
    (try clear hK12)
    simp (maxSteps:=999999) (disch:=omega) only [av1, av2, av3, av4, av5, av6, av7, eq_self, exists_const, forall_const, implies_true, storeOk, thenQ, PK.cond, PK.val, Nat.reduceAdd, Nat.reduceLT, Nat.reduceMul, reduceCtorEq, ↓reduceIte, Nat.reduceEqDiff, Nat.reduceLeDiff, Nat.reduceSub, Nat.reduceBEq, Nat.reduceBNe, Int.reduceLT, Int.reduceEq, Int.reduceAdd, Int.reduceToNat, Int.reduceLE, Int.reduceBEq, Int.reduceBNe, enc1, cJob, cRcp, eqTy_Rcp, eqTy_Sum, rcpEq, List.forall_mem_map]
    (repeat ((with_reducible refine And.intro ?_ ?_); (first | trivial | assumption | omega | (simp; done))))
    refine hK10 _ ?_
    (try clear hK10)
    refine at_seq fun K13 hK13 => ?_
    refine at_seq fun K14 hK14 => ?_
    refine at_region [It.mk (some 34) none (IK.p (PK.mov (Operand.tmp 0))), It.mk (some 35) none (IK.p (PK.bin BinOp.lss (Operand.tmp 34) (Operand.const (Value.int IntKind.i64 0)))), It.mk (some 36) none (IK.p (PK.mov (Operand.tmp 35))), It.mk (some 37) (some (36, false)) (IK.p (PK.mov (Operand.tmp 0))), It.mk (some 38) (some (36, false)) (IK.p (PK.bin BinOp.gtr (Operand.tmp 37) (Operand.const (Value.int IntKind.i64 1048576)))), It.mk (some 39) none (IK.p (PK.pick (Operand.tmp 36) (Operand.const (Value.bool true)) (Operand.tmp 38))), It.mk (some 40) none (IK.p (PK.mov (Operand.tmp 39))), It.mk (some 41) (some (40, false)) (IK.p (PK.mov (Operand.tmp 1))), It.mk (some 42) (some (40, false)) (IK.p (PK.bin BinOp.lss (Operand.tmp 41) (Operand.const (Value.int IntKind.i64 0)))), It.mk (some 43) none (IK.p (PK.pick (Operand.tmp 40) (Operand.const (Value.bool true)) (Operand.tmp 42))), It.mk (some 44) none (IK.p (PK.mov (Operand.tmp 43))), It.mk (some 45) (some (44, false)) (IK.p (PK.mov (Operand.tmp 1))), It.mk (some 46) (some (44, false)) (IK.p (PK.bin BinOp.gtr (Operand.tmp 45) (Operand.const (Value.int IntKind.i64 1048576)))), It.mk (some 47) none (IK.p (PK.pick (Operand.tmp 44) (Operand.const (Value.bool true)) (Operand.tmp 46)))] (by kernel_rfl) ?_
    simp (maxSteps:=999999) (disch:=omega) only [av1, av2, av3, av4, av5, av6, av7, eq_self, exists_const, forall_const, implies_true, storeOk, thenQ, PK.cond, PK.val, Nat.reduceAdd, Nat.reduceLT, Nat.reduceMul, reduceCtorEq, ↓reduceIte, Nat.reduceEqDiff, Nat.reduceLeDiff, Nat.reduceSub, Nat.reduceBEq, Nat.reduceBNe, Int.reduceLT, Int.reduceEq, Int.reduceAdd, Int.reduceToNat, Int.reduceLE, Int.reduceBEq, Int.reduceBNe, enc1, cJob, cRcp, eqTy_Rcp, eqTy_Sum, rcpEq, List.forall_mem_map]
    (repeat ((with_reducible refine And.intro ?_ ?_); (first | trivial | assumption | omega | (simp; done))))
    refine hK14 _ ?_
    (try clear hK14)
    refine at_cond _ rfl rfl (fun h15 => ?_) (fun h15 => ?_)
    · have r15 := h15
      (try simp only [dB2] at h15)
      (rw [jobBad, r15] at h; cases h)
    · have r15 := h15
      (try simp only [dB2] at h15)
      refine at_skip ?_
      (try simp only [thenQ, blockQ])
      refine hK13 _ ?_
      (try clear hK13)
      refine at_seq fun K16 hK16 => ?_
      refine at_seq fun K17 hK17 => ?_
      refine at_region [It.mk (some 59) none (IK.p (PK.mov (Operand.tmp 14))), It.mk (some 60) none (IK.p (PK.bin BinOp.neq (Operand.tmp 59) (Operand.const (Value.int IntKind.i64 0))))] (by kernel_rfl) ?_
      simp (maxSteps:=999999) (disch:=omega) only [av1, av2, av3, av4, av5, av6, av7, eq_self, exists_const, forall_const, implies_true, storeOk, thenQ, PK.cond, PK.val, Nat.reduceAdd, Nat.reduceLT, Nat.reduceMul, reduceCtorEq, ↓reduceIte, Nat.reduceEqDiff, Nat.reduceLeDiff, Nat.reduceSub, Nat.reduceBEq, Nat.reduceBNe, Int.reduceLT, Int.reduceEq, Int.reduceAdd, Int.reduceToNat, Int.reduceLE, Int.reduceBEq, Int.reduceBNe, enc1, cJob, cRcp, eqTy_Rcp, eqTy_Sum, rcpEq, List.forall_mem_map]
      (repeat ((with_reducible refine And.intro ?_ ?_); (first | trivial | assumption | omega | (simp; done))))
      refine hK17 _ ?_
      (try clear hK17)
      refine at_cond _ rfl rfl (fun h18 => ?_) (fun h18 => ?_)
      · have r18 := h18
        (try simp only [dB2] at h18)
        exact absurd he (by assumption)
      · have r18 := h18
        (try simp only [dB2] at h18)
        refine at_skip ?_
        (try simp only [thenQ, blockQ])
        refine hK16 _ ?_
        (try clear hK16)
        refine at_seqJ ?_
        apply Exists.intro
        refine And.intro ?_ ?_
        · skip
          refine at_draws [] (by kernel_rfl) ?_
          refine ag_pures (fuel := 5) [0, 1, 2, 3, 4, 6] [It.mk (some 73) none (IK.p (PK.fAddr (Operand.tmp 9) 0 0)), It.mk (some 74) none (IK.p (PK.load (Operand.tmp 73) 1 false)), It.mk (some 75) none (IK.p (PK.mov (Operand.tmp 0))), It.mk (some 76) none (IK.p (PK.mov (Operand.tmp 1))), It.mk (some 77) none (IK.p (PK.load (Operand.tmp 7) 32 true)), It.mk (some 79) none (IK.p (PK.mov (Operand.tmp 13)))] (by kernel_rfl) (by kernel_rfl) (by kernel_rfl) (by kernel_rfl) (hideZ_nil _ 0) (fun K20 hK20 => ?_)
          simp (maxSteps:=999999) (disch:=omega) only [av1, av2, av3, av4, av5, av6, av7, eq_self, exists_const, forall_const, implies_true, storeOk, thenQ, PK.cond, PK.val, Nat.reduceAdd, Nat.reduceLT, Nat.reduceMul, reduceCtorEq, ↓reduceIte, Nat.reduceEqDiff, Nat.reduceLeDiff, Nat.reduceSub, Nat.reduceBEq, Nat.reduceBNe, Int.reduceLT, Int.reduceEq, Int.reduceAdd, Int.reduceToNat, Int.reduceLE, Int.reduceBEq, Int.reduceBNe, enc1, cJob, cRcp, eqTy_Rcp, eqTy_Sum, rcpEq, List.forall_mem_map]
          (repeat ((with_reducible refine And.intro ?_ ?_); (first | trivial | assumption | omega | (simp; done))))
          refine hK20 _ ?_
          (try clear hK20)
          refine ag_two (i := 5) (j := 9) (by kernel_rfl) ?_ ?_
          · refine agi (it := It.mk (some 78) none (IK.call 63 [Operand.tmp 77])) (R' := [6, 3, 2, 1, 0]) (by kernel_rfl) (.inl (by simp only [tgtB, IK.target, av1, av2, av4, Nat.reduceEqDiff, ↓reduceIte, reduceCtorEq, Option.isSome_some, List.all_nil])) (by kernel_rfl) (fun K21 hK21 => ?_)
            simp (maxSteps:=999999) (disch:=omega) only [av1, av2, av3, av4, av5, av6, av7, eq_self, exists_const, forall_const, implies_true, storeOk, thenQ, PK.cond, PK.val, Nat.reduceAdd, Nat.reduceLT, Nat.reduceMul, reduceCtorEq, ↓reduceIte, Nat.reduceEqDiff, Nat.reduceLeDiff, Nat.reduceSub, Nat.reduceBEq, Nat.reduceBNe, Int.reduceLT, Int.reduceEq, Int.reduceAdd, Int.reduceToNat, Int.reduceLE, Int.reduceBEq, Int.reduceBNe, enc1, cJob, cRcp, eqTy_Rcp, eqTy_Sum, rcpEq, List.forall_mem_map]
            apply Or.inl
            first | refine ⟨[], trivial, ?_⟩ | refine ⟨_, (hint_ap c hc), ?_⟩ | refine ⟨_, fun _ => (hint_ap c hc), ?_⟩ | refine ⟨_, fun h => ⟨h, (hint_ap c hc)⟩, ?_⟩ | refine ⟨_, fun h => ⟨by simp_all, (hint_ap c hc)⟩, ?_⟩ | refine ⟨[], ?_⟩
            (try simp only [rsAV, List.map_cons, List.map_nil, thenQ])
            refine hK21 _ ?_
            (try clear hK21)
            refine ag_two (i := 7) (j := 9) (by kernel_rfl) ?_ ?_
            · refine agi (it := It.mk (some 80) none (IK.call 64 [Operand.tmp 79])) (R' := [3, 2, 1, 0]) (by kernel_rfl) (.inl (by simp only [tgtB, IK.target, av1, av2, av4, Nat.reduceEqDiff, ↓reduceIte, reduceCtorEq, Option.isSome_some, List.all_nil])) (by kernel_rfl) (fun K22 hK22 => ?_)
              simp (maxSteps:=999999) (disch:=omega) only [av1, av2, av3, av4, av5, av6, av7, eq_self, exists_const, forall_const, implies_true, storeOk, thenQ, PK.cond, PK.val, Nat.reduceAdd, Nat.reduceLT, Nat.reduceMul, reduceCtorEq, ↓reduceIte, Nat.reduceEqDiff, Nat.reduceLeDiff, Nat.reduceSub, Nat.reduceBEq, Nat.reduceBNe, Int.reduceLT, Int.reduceEq, Int.reduceAdd, Int.reduceToNat, Int.reduceLE, Int.reduceBEq, Int.reduceBNe, enc1, cJob, cRcp, eqTy_Rcp, eqTy_Sum, rcpEq, List.forall_mem_map]
              apply Or.inl
              first | refine ⟨[], trivial, ?_⟩ | refine ⟨_, (mark16_ap (coverV c t) (coverV_fit ht hs).1 (coverV_fit ht hs).2), ?_⟩ | refine ⟨_, fun _ => (mark16_ap (coverV c t) (coverV_fit ht hs).1 (coverV_fit ht hs).2), ?_⟩ | refine ⟨_, fun h => ⟨h, (mark16_ap (coverV c t) (coverV_fit ht hs).1 (coverV_fit ht hs).2)⟩, ?_⟩ | refine ⟨_, fun h => ⟨by simp_all, (mark16_ap (coverV c t) (coverV_fit ht hs).1 (coverV_fit ht hs).2)⟩, ?_⟩ | refine ⟨[], ?_⟩
              (try simp only [rsAV, List.map_cons, List.map_nil, thenQ])
              refine hK22 _ ?_
              (try clear hK22)
              refine ag_pures (fuel := 2) [8] [It.mk (some 81) none (IK.p (PK.bld (CV.st [CV.pv (Value.int IntKind.i64 0), CV.pv (Value.int IntKind.i64 0), CV.pv (Value.int IntKind.i64 0), CV.ar IntKind.u8 32 (List.replicate 32 0), CV.ar IntKind.u8 32 (List.replicate 32 0)]) [(0, 1), (1, 1), (2, 1), (3, 32), (35, 32)] [(0, Operand.tmp 74), (1, Operand.tmp 75), (2, Operand.tmp 76), (3, Operand.tmp 78), (4, Operand.tmp 80)]))] (by kernel_rfl) (by kernel_rfl) (by kernel_rfl) (by kernel_rfl) (hideZ_nil _ 0) (fun K23 hK23 => ?_)
              simp (maxSteps:=999999) (disch:=omega) only [av1, av2, av3, av4, av5, av6, av7, eq_self, exists_const, forall_const, implies_true, storeOk, thenQ, PK.cond, PK.val, Nat.reduceAdd, Nat.reduceLT, Nat.reduceMul, reduceCtorEq, ↓reduceIte, Nat.reduceEqDiff, Nat.reduceLeDiff, Nat.reduceSub, Nat.reduceBEq, Nat.reduceBNe, Int.reduceLT, Int.reduceEq, Int.reduceAdd, Int.reduceToNat, Int.reduceLE, Int.reduceBEq, Int.reduceBNe, enc1, cJob, cRcp, eqTy_Rcp, eqTy_Sum, rcpEq, List.forall_mem_map]
              (repeat ((with_reducible refine And.intro ?_ ?_); (first | trivial | assumption | omega | (simp; done))))
              refine hK23 _ ?_
              (try clear hK23)
              refine ag_one (i:=9) (by kernel_rfl) ?_
              refine agi (it := It.mk (some 15) none (IK.alloc (CV.st [CV.pv (Value.int IntKind.i64 0), CV.pv (Value.int IntKind.i64 0), CV.pv (Value.int IntKind.i64 0), CV.ar IntKind.u8 32 (List.replicate 32 0), CV.ar IntKind.u8 32 (List.replicate 32 0)]))) (R' := [8, 3, 2, 1, 0]) (by kernel_rfl) (.inl rfl) (by kernel_rfl) (fun K24 hK24 => ?_)
              simp (maxSteps:=999999) (disch:=omega) only [av1, av2, av3, av4, av5, av6, av7, eq_self, exists_const, forall_const, implies_true, storeOk, thenQ, PK.cond, PK.val, Nat.reduceAdd, Nat.reduceLT, Nat.reduceMul, reduceCtorEq, ↓reduceIte, Nat.reduceEqDiff, Nat.reduceLeDiff, Nat.reduceSub, Nat.reduceBEq, Nat.reduceBNe, Int.reduceLT, Int.reduceEq, Int.reduceAdd, Int.reduceToNat, Int.reduceLE, Int.reduceBEq, Int.reduceBNe, enc1, cJob, cRcp, eqTy_Rcp, eqTy_Sum, rcpEq, List.forall_mem_map]
              (repeat ((with_reducible refine And.intro ?_ ?_); (first | trivial | assumption | omega | (simp; done))))
              refine hK24 _ ?_
              (try clear hK24)
              refine ag_one (i:=10) (by kernel_rfl) ?_
              refine agi (it := It.mk none none (IK.store (Operand.tmp 15) (Operand.tmp 81) 67)) (R' := []) (by kernel_rfl) (.inr (by kernel_rfl)) (by kernel_rfl) (fun K25 hK25 => ?_)
              simp (maxSteps:=999999) (disch:=omega) only [av1, av2, av3, av4, av5, av6, av7, eq_self, exists_const, forall_const, implies_true, storeOk, thenQ, PK.cond, PK.val, Nat.reduceAdd, Nat.reduceLT, Nat.reduceMul, reduceCtorEq, ↓reduceIte, Nat.reduceEqDiff, Nat.reduceLeDiff, Nat.reduceSub, Nat.reduceBEq, Nat.reduceBNe, Int.reduceLT, Int.reduceEq, Int.reduceAdd, Int.reduceToNat, Int.reduceLE, Int.reduceBEq, Int.reduceBNe, enc1, cJob, cRcp, eqTy_Rcp, eqTy_Sum, rcpEq, List.forall_mem_map]
              (repeat ((with_reducible refine And.intro ?_ ?_); (first | trivial | assumption | omega | (simp; done))))
              refine hK25 _ ?_
              (try clear hK25)
              refine ag_done (by kernel_rfl) ?_
              (try simp only [thenQ])
              exact Le.refl
            · refine agi (it := It.mk (some 15) none (IK.alloc (CV.st [CV.pv (Value.int IntKind.i64 0), CV.pv (Value.int IntKind.i64 0), CV.pv (Value.int IntKind.i64 0), CV.ar IntKind.u8 32 (List.replicate 32 0), CV.ar IntKind.u8 32 (List.replicate 32 0)]))) (R' := [6, 3, 2, 1, 0]) (by kernel_rfl) (.inl rfl) (by kernel_rfl) (fun K26 hK26 => ?_)
              simp (maxSteps:=999999) (disch:=omega) only [av1, av2, av3, av4, av5, av6, av7, eq_self, exists_const, forall_const, implies_true, storeOk, thenQ, PK.cond, PK.val, Nat.reduceAdd, Nat.reduceLT, Nat.reduceMul, reduceCtorEq, ↓reduceIte, Nat.reduceEqDiff, Nat.reduceLeDiff, Nat.reduceSub, Nat.reduceBEq, Nat.reduceBNe, Int.reduceLT, Int.reduceEq, Int.reduceAdd, Int.reduceToNat, Int.reduceLE, Int.reduceBEq, Int.reduceBNe, enc1, cJob, cRcp, eqTy_Rcp, eqTy_Sum, rcpEq, List.forall_mem_map]
              (repeat ((with_reducible refine And.intro ?_ ?_); (first | trivial | assumption | omega | (simp; done))))
              refine hK26 _ ?_
              (try clear hK26)
              refine ag_one (i:=7) (by kernel_rfl) ?_
              refine agi (it := It.mk (some 80) none (IK.call 64 [Operand.tmp 79])) (R' := [3, 2, 1, 0]) (by kernel_rfl) (.inl (by simp only [tgtB, IK.target, av1, av2, av4, Nat.reduceEqDiff, ↓reduceIte, reduceCtorEq, Option.isSome_some, List.all_nil])) (by kernel_rfl) (fun K27 hK27 => ?_)
              simp (maxSteps:=999999) (disch:=omega) only [av1, av2, av3, av4, av5, av6, av7, eq_self, exists_const, forall_const, implies_true, storeOk, thenQ, PK.cond, PK.val, Nat.reduceAdd, Nat.reduceLT, Nat.reduceMul, reduceCtorEq, ↓reduceIte, Nat.reduceEqDiff, Nat.reduceLeDiff, Nat.reduceSub, Nat.reduceBEq, Nat.reduceBNe, Int.reduceLT, Int.reduceEq, Int.reduceAdd, Int.reduceToNat, Int.reduceLE, Int.reduceBEq, Int.reduceBNe, enc1, cJob, cRcp, eqTy_Rcp, eqTy_Sum, rcpEq, List.forall_mem_map]
              apply Or.inl
              first | refine ⟨[], trivial, ?_⟩ | refine ⟨_, (mark16_ap (coverV c t) (coverV_fit ht hs).1 (coverV_fit ht hs).2), ?_⟩ | refine ⟨_, fun _ => (mark16_ap (coverV c t) (coverV_fit ht hs).1 (coverV_fit ht hs).2), ?_⟩ | refine ⟨_, fun h => ⟨h, (mark16_ap (coverV c t) (coverV_fit ht hs).1 (coverV_fit ht hs).2)⟩, ?_⟩ | refine ⟨_, fun h => ⟨by simp_all, (mark16_ap (coverV c t) (coverV_fit ht hs).1 (coverV_fit ht hs).2)⟩, ?_⟩ | refine ⟨[], ?_⟩
              (try simp only [rsAV, List.map_cons, List.map_nil, thenQ])
              refine hK27 _ ?_
              (try clear hK27)
              refine ag_pures (fuel := 1) [8] [It.mk (some 81) none (IK.p (PK.bld (CV.st [CV.pv (Value.int IntKind.i64 0), CV.pv (Value.int IntKind.i64 0), CV.pv (Value.int IntKind.i64 0), CV.ar IntKind.u8 32 (List.replicate 32 0), CV.ar IntKind.u8 32 (List.replicate 32 0)]) [(0, 1), (1, 1), (2, 1), (3, 32), (35, 32)] [(0, Operand.tmp 74), (1, Operand.tmp 75), (2, Operand.tmp 76), (3, Operand.tmp 78), (4, Operand.tmp 80)]))] (by kernel_rfl) (by kernel_rfl) (by kernel_rfl) (by kernel_rfl) (hideZ_nil _ 0) (fun K28 hK28 => ?_)
              simp (maxSteps:=999999) (disch:=omega) only [av1, av2, av3, av4, av5, av6, av7, eq_self, exists_const, forall_const, implies_true, storeOk, thenQ, PK.cond, PK.val, Nat.reduceAdd, Nat.reduceLT, Nat.reduceMul, reduceCtorEq, ↓reduceIte, Nat.reduceEqDiff, Nat.reduceLeDiff, Nat.reduceSub, Nat.reduceBEq, Nat.reduceBNe, Int.reduceLT, Int.reduceEq, Int.reduceAdd, Int.reduceToNat, Int.reduceLE, Int.reduceBEq, Int.reduceBNe, enc1, cJob, cRcp, eqTy_Rcp, eqTy_Sum, rcpEq, List.forall_mem_map]
              (repeat ((with_reducible refine And.intro ?_ ?_); (first | trivial | assumption | omega | (simp; done))))
              refine hK28 _ ?_
              (try clear hK28)
              refine ag_one (i:=10) (by kernel_rfl) ?_
              refine agi (it := It.mk none none (IK.store (Operand.tmp 15) (Operand.tmp 81) 67)) (R' := []) (by kernel_rfl) (.inr (by kernel_rfl)) (by kernel_rfl) (fun K29 hK29 => ?_)
              simp (maxSteps:=999999) (disch:=omega) only [av1, av2, av3, av4, av5, av6, av7, eq_self, exists_const, forall_const, implies_true, storeOk, thenQ, PK.cond, PK.val, Nat.reduceAdd, Nat.reduceLT, Nat.reduceMul, reduceCtorEq, ↓reduceIte, Nat.reduceEqDiff, Nat.reduceLeDiff, Nat.reduceSub, Nat.reduceBEq, Nat.reduceBNe, Int.reduceLT, Int.reduceEq, Int.reduceAdd, Int.reduceToNat, Int.reduceLE, Int.reduceBEq, Int.reduceBNe, enc1, cJob, cRcp, eqTy_Rcp, eqTy_Sum, rcpEq, List.forall_mem_map]
              (repeat ((with_reducible refine And.intro ?_ ?_); (first | trivial | assumption | omega | (simp; done))))
              refine hK29 _ ?_
              (try clear hK29)
              refine ag_done (by kernel_rfl) ?_
              (try simp only [thenQ])
              exact Le.sameL rfl (by repeat (first | exact SubL.nil | refine SubL.cons rfl ?_))
          · refine agi (it := It.mk (some 15) none (IK.alloc (CV.st [CV.pv (Value.int IntKind.i64 0), CV.pv (Value.int IntKind.i64 0), CV.pv (Value.int IntKind.i64 0), CV.ar IntKind.u8 32 (List.replicate 32 0), CV.ar IntKind.u8 32 (List.replicate 32 0)]))) (R' := [6, 4, 3, 2, 1, 0]) (by kernel_rfl) (.inl rfl) (by kernel_rfl) (fun K30 hK30 => ?_)
            simp (maxSteps:=999999) (disch:=omega) only [av1, av2, av3, av4, av5, av6, av7, eq_self, exists_const, forall_const, implies_true, storeOk, thenQ, PK.cond, PK.val, Nat.reduceAdd, Nat.reduceLT, Nat.reduceMul, reduceCtorEq, ↓reduceIte, Nat.reduceEqDiff, Nat.reduceLeDiff, Nat.reduceSub, Nat.reduceBEq, Nat.reduceBNe, Int.reduceLT, Int.reduceEq, Int.reduceAdd, Int.reduceToNat, Int.reduceLE, Int.reduceBEq, Int.reduceBNe, enc1, cJob, cRcp, eqTy_Rcp, eqTy_Sum, rcpEq, List.forall_mem_map]
            (repeat ((with_reducible refine And.intro ?_ ?_); (first | trivial | assumption | omega | (simp; done))))
            refine hK30 _ ?_
            (try clear hK30)
            refine ag_one (i:=5) (by kernel_rfl) ?_
            refine agi (it := It.mk (some 78) none (IK.call 63 [Operand.tmp 77])) (R' := [6, 3, 2, 1, 0]) (by kernel_rfl) (.inl (by simp only [tgtB, IK.target, av1, av2, av4, Nat.reduceEqDiff, ↓reduceIte, reduceCtorEq, Option.isSome_some, List.all_nil])) (by kernel_rfl) (fun K31 hK31 => ?_)
            simp (maxSteps:=999999) (disch:=omega) only [av1, av2, av3, av4, av5, av6, av7, eq_self, exists_const, forall_const, implies_true, storeOk, thenQ, PK.cond, PK.val, Nat.reduceAdd, Nat.reduceLT, Nat.reduceMul, reduceCtorEq, ↓reduceIte, Nat.reduceEqDiff, Nat.reduceLeDiff, Nat.reduceSub, Nat.reduceBEq, Nat.reduceBNe, Int.reduceLT, Int.reduceEq, Int.reduceAdd, Int.reduceToNat, Int.reduceLE, Int.reduceBEq, Int.reduceBNe, enc1, cJob, cRcp, eqTy_Rcp, eqTy_Sum, rcpEq, List.forall_mem_map]
            apply Or.inl
            first | refine ⟨[], trivial, ?_⟩ | refine ⟨_, (hint_ap c hc), ?_⟩ | refine ⟨_, fun _ => (hint_ap c hc), ?_⟩ | refine ⟨_, fun h => ⟨h, (hint_ap c hc)⟩, ?_⟩ | refine ⟨_, fun h => ⟨by simp_all, (hint_ap c hc)⟩, ?_⟩ | refine ⟨[], ?_⟩
            (try simp only [rsAV, List.map_cons, List.map_nil, thenQ])
            refine hK31 _ ?_
            (try clear hK31)
            refine ag_one (i:=7) (by kernel_rfl) ?_
            refine agi (it := It.mk (some 80) none (IK.call 64 [Operand.tmp 79])) (R' := [3, 2, 1, 0]) (by kernel_rfl) (.inl (by simp only [tgtB, IK.target, av1, av2, av4, Nat.reduceEqDiff, ↓reduceIte, reduceCtorEq, Option.isSome_some, List.all_nil])) (by kernel_rfl) (fun K32 hK32 => ?_)
            simp (maxSteps:=999999) (disch:=omega) only [av1, av2, av3, av4, av5, av6, av7, eq_self, exists_const, forall_const, implies_true, storeOk, thenQ, PK.cond, PK.val, Nat.reduceAdd, Nat.reduceLT, Nat.reduceMul, reduceCtorEq, ↓reduceIte, Nat.reduceEqDiff, Nat.reduceLeDiff, Nat.reduceSub, Nat.reduceBEq, Nat.reduceBNe, Int.reduceLT, Int.reduceEq, Int.reduceAdd, Int.reduceToNat, Int.reduceLE, Int.reduceBEq, Int.reduceBNe, enc1, cJob, cRcp, eqTy_Rcp, eqTy_Sum, rcpEq, List.forall_mem_map]
            apply Or.inl
            first | refine ⟨[], trivial, ?_⟩ | refine ⟨_, (mark16_ap (coverV c t) (coverV_fit ht hs).1 (coverV_fit ht hs).2), ?_⟩ | refine ⟨_, fun _ => (mark16_ap (coverV c t) (coverV_fit ht hs).1 (coverV_fit ht hs).2), ?_⟩ | refine ⟨_, fun h => ⟨h, (mark16_ap (coverV c t) (coverV_fit ht hs).1 (coverV_fit ht hs).2)⟩, ?_⟩ | refine ⟨_, fun h => ⟨by simp_all, (mark16_ap (coverV c t) (coverV_fit ht hs).1 (coverV_fit ht hs).2)⟩, ?_⟩ | refine ⟨[], ?_⟩
            (try simp only [rsAV, List.map_cons, List.map_nil, thenQ])
            refine hK32 _ ?_
            (try clear hK32)
            refine ag_pures (fuel := 1) [8] [It.mk (some 81) none (IK.p (PK.bld (CV.st [CV.pv (Value.int IntKind.i64 0), CV.pv (Value.int IntKind.i64 0), CV.pv (Value.int IntKind.i64 0), CV.ar IntKind.u8 32 (List.replicate 32 0), CV.ar IntKind.u8 32 (List.replicate 32 0)]) [(0, 1), (1, 1), (2, 1), (3, 32), (35, 32)] [(0, Operand.tmp 74), (1, Operand.tmp 75), (2, Operand.tmp 76), (3, Operand.tmp 78), (4, Operand.tmp 80)]))] (by kernel_rfl) (by kernel_rfl) (by kernel_rfl) (by kernel_rfl) (hideZ_nil _ 0) (fun K33 hK33 => ?_)
            simp (maxSteps:=999999) (disch:=omega) only [av1, av2, av3, av4, av5, av6, av7, eq_self, exists_const, forall_const, implies_true, storeOk, thenQ, PK.cond, PK.val, Nat.reduceAdd, Nat.reduceLT, Nat.reduceMul, reduceCtorEq, ↓reduceIte, Nat.reduceEqDiff, Nat.reduceLeDiff, Nat.reduceSub, Nat.reduceBEq, Nat.reduceBNe, Int.reduceLT, Int.reduceEq, Int.reduceAdd, Int.reduceToNat, Int.reduceLE, Int.reduceBEq, Int.reduceBNe, enc1, cJob, cRcp, eqTy_Rcp, eqTy_Sum, rcpEq, List.forall_mem_map]
            (repeat ((with_reducible refine And.intro ?_ ?_); (first | trivial | assumption | omega | (simp; done))))
            refine hK33 _ ?_
            (try clear hK33)
            refine ag_one (i:=10) (by kernel_rfl) ?_
            refine agi (it := It.mk none none (IK.store (Operand.tmp 15) (Operand.tmp 81) 67)) (R' := []) (by kernel_rfl) (.inr (by kernel_rfl)) (by kernel_rfl) (fun K34 hK34 => ?_)
            simp (maxSteps:=999999) (disch:=omega) only [av1, av2, av3, av4, av5, av6, av7, eq_self, exists_const, forall_const, implies_true, storeOk, thenQ, PK.cond, PK.val, Nat.reduceAdd, Nat.reduceLT, Nat.reduceMul, reduceCtorEq, ↓reduceIte, Nat.reduceEqDiff, Nat.reduceLeDiff, Nat.reduceSub, Nat.reduceBEq, Nat.reduceBNe, Int.reduceLT, Int.reduceEq, Int.reduceAdd, Int.reduceToNat, Int.reduceLE, Int.reduceBEq, Int.reduceBNe, enc1, cJob, cRcp, eqTy_Rcp, eqTy_Sum, rcpEq, List.forall_mem_map]
            (repeat ((with_reducible refine And.intro ?_ ?_); (first | trivial | assumption | omega | (simp; done))))
            refine hK34 _ ?_
            (try clear hK34)
            refine ag_done (by kernel_rfl) ?_
            (try simp only [thenQ])
            exact Le.sameL rfl (by repeat (first | exact SubL.nil | refine SubL.cons rfl ?_))
        refine at_seqJ ?_
        apply Exists.intro
        refine And.intro ?_ ?_
        · skip
          refine AT.le (Le.keepT [0, 1, 9, 10, 11, 12, 13, 15]) ?_
          simp (maxSteps:=999999) (disch:=omega) only [av1, av2, av3, av4, av5, av6, av7, eq_self, exists_const, forall_const, implies_true, storeOk, thenQ, PK.cond, PK.val, Nat.reduceAdd, Nat.reduceLT, Nat.reduceMul, reduceCtorEq, ↓reduceIte, Nat.reduceEqDiff, Nat.reduceLeDiff, Nat.reduceSub, Nat.reduceBEq, Nat.reduceBNe, Int.reduceLT, Int.reduceEq, Int.reduceAdd, Int.reduceToNat, Int.reduceLE, Int.reduceBEq, Int.reduceBNe, enc1, cJob, cRcp, eqTy_Rcp, eqTy_Sum, rcpEq, List.forall_mem_map]
          refine at_draws [] (by kernel_rfl) ?_
          refine ag_pures (fuel := 21) [0, 1, 2, 3, 4, 5, 6, 7, 8, 9, 10, 11, 12, 13, 14, 15, 16, 17, 18, 19, 20, 21, 22, 23, 24, 25, 26, 27, 28, 29, 30, 31, 32, 34] [It.mk (some 82) none (IK.p (PK.mov (Operand.tmp 12))), It.mk (some 83) none (IK.p (PK.bin BinOp.eql (Operand.tmp 82) (Operand.const (Value.int IntKind.i64 0)))), It.mk (some 84) none (IK.p (PK.mov (Operand.tmp 83))), It.mk (some 85) (some (84, true)) (IK.p (PK.fAddr (Operand.tmp 11) 0 0)), It.mk (some 86) (some (84, true)) (IK.p (PK.load (Operand.tmp 85) 1 false)), It.mk (some 87) (some (84, true)) (IK.p (PK.mov (Operand.tmp 0))), It.mk (some 88) (some (84, true)) (IK.p (PK.bin BinOp.eql (Operand.tmp 86) (Operand.tmp 87))), It.mk (some 89) none (IK.p (PK.pick (Operand.tmp 84) (Operand.tmp 88) (Operand.const (Value.bool false)))), It.mk (some 90) none (IK.p (PK.mov (Operand.tmp 89))), It.mk (some 91) (some (90, true)) (IK.p (PK.fAddr (Operand.tmp 11) 1 1)), It.mk (some 92) (some (90, true)) (IK.p (PK.load (Operand.tmp 91) 1 false)), It.mk (some 93) (some (90, true)) (IK.p (PK.mov (Operand.tmp 1))), It.mk (some 94) (some (90, true)) (IK.p (PK.bin BinOp.eql (Operand.tmp 92) (Operand.tmp 93))), It.mk (some 95) none (IK.p (PK.pick (Operand.tmp 90) (Operand.tmp 94) (Operand.const (Value.bool false)))), It.mk (some 96) none (IK.p (PK.mov (Operand.tmp 95))), It.mk (some 97) (some (96, true)) (IK.p (PK.fAddr (Operand.tmp 11) 2 2)), It.mk (some 98) (some (96, true)) (IK.p (PK.load (Operand.tmp 97) 32 true)), It.mk (some 99) (some (96, true)) (IK.p (PK.fAddr (Operand.tmp 15) 3 3)), It.mk (some 100) (some (96, true)) (IK.p (PK.load (Operand.tmp 99) 32 true)), It.mk (some 101) (some (96, true)) (IK.p (PK.eqA false 24 (Sh.a IntKind.u8 32) (Operand.tmp 98) (Operand.tmp 100))), It.mk (some 102) none (IK.p (PK.pick (Operand.tmp 96) (Operand.tmp 101) (Operand.const (Value.bool false)))), It.mk (some 103) none (IK.p (PK.mov (Operand.tmp 102))), It.mk (some 104) (some (103, true)) (IK.p (PK.fAddr (Operand.tmp 11) 3 34)), It.mk (some 105) (some (103, true)) (IK.p (PK.load (Operand.tmp 104) 1 false)), It.mk (some 106) (some (103, true)) (IK.p (PK.str (Operand.tmp 105))), It.mk (some 107) (some (103, true)) (IK.p (PK.mov (Operand.tmp 13))), It.mk (some 108) (some (103, true)) (IK.p (PK.str (Operand.tmp 107))), It.mk (some 109) (some (103, true)) (IK.p (PK.strEq false (Operand.tmp 106) (Operand.tmp 108))), It.mk (some 110) none (IK.p (PK.pick (Operand.tmp 103) (Operand.tmp 109) (Operand.const (Value.bool false)))), It.mk (some 111) none (IK.p (PK.mov (Operand.tmp 110))), It.mk (some 112) (some (111, true)) (IK.p (PK.load (Operand.tmp 11) 35 true)), It.mk (some 113) (some (111, true)) (IK.p (PK.fAddr (Operand.tmp 9) 0 0)), It.mk (some 114) (some (111, true)) (IK.p (PK.load (Operand.tmp 113) 1 false)), It.mk (some 116) (some (111, true)) (IK.p (PK.load (Operand.tmp 15) 67 true))] (by kernel_rfl) (by kernel_rfl) (by kernel_rfl) (by kernel_rfl) (hideZ_nil _ 0) (fun K36 hK36 => ?_)
          simp (maxSteps:=999999) (disch:=omega) only [av1, av2, av3, av4, av5, av6, av7, eq_self, exists_const, forall_const, implies_true, storeOk, thenQ, PK.cond, PK.val, Nat.reduceAdd, Nat.reduceLT, Nat.reduceMul, reduceCtorEq, ↓reduceIte, Nat.reduceEqDiff, Nat.reduceLeDiff, Nat.reduceSub, Nat.reduceBEq, Nat.reduceBNe, Int.reduceLT, Int.reduceEq, Int.reduceAdd, Int.reduceToNat, Int.reduceLE, Int.reduceBEq, Int.reduceBNe, enc1, cJob, cRcp, eqTy_Rcp, eqTy_Sum, rcpEq, List.forall_mem_map]
          (repeat ((with_reducible refine And.intro ?_ ?_); (first | trivial | assumption | omega | (simp; done))))
          refine hK36 _ ?_
          (try clear hK36)
          refine ag_one (i:=33) (by kernel_rfl) ?_
          refine agi0 (it := It.mk (some 115) (some (111, true)) (IK.call 65 [Operand.tmp 112, Operand.tmp 114])) (by kernel_rfl) (by simp only [tgtB, IK.target, av1, av2, av4, Nat.reduceEqDiff, ↓reduceIte, reduceCtorEq, Option.isSome_some, List.all_nil]) (fun K37 hK37 => ?_)
          simp (maxSteps:=999999) (disch:=omega) only [av1, av2, av3, av4, av5, av6, av7, eq_self, exists_const, forall_const, implies_true, storeOk, thenQ, PK.cond, PK.val, Nat.reduceAdd, Nat.reduceLT, Nat.reduceMul, reduceCtorEq, ↓reduceIte, Nat.reduceEqDiff, Nat.reduceLeDiff, Nat.reduceSub, Nat.reduceBEq, Nat.reduceBNe, Int.reduceLT, Int.reduceEq, Int.reduceAdd, Int.reduceToNat, Int.reduceLE, Int.reduceBEq, Int.reduceBNe, enc1, cJob, cRcp, eqTy_Rcp, eqTy_Sum, rcpEq, List.forall_mem_map]
          apply Or.inl
          first | refine ⟨[], trivial, ?_⟩ | refine ⟨_, (receipt_ap ch st rt (joinF 71 [c]) (coverV c t) (coverV_fit ht hs).1 (coverV_fit ht hs).2), ?_⟩ | refine ⟨_, fun _ => (receipt_ap ch st rt (joinF 71 [c]) (coverV c t) (coverV_fit ht hs).1 (coverV_fit ht hs).2), ?_⟩ | refine ⟨_, fun h => ⟨h, (receipt_ap ch st rt (joinF 71 [c]) (coverV c t) (coverV_fit ht hs).1 (coverV_fit ht hs).2)⟩, ?_⟩ | refine ⟨_, fun h => ⟨by simp_all, (receipt_ap ch st rt (joinF 71 [c]) (coverV c t) (coverV_fit ht hs).1 (coverV_fit ht hs).2)⟩, ?_⟩ | refine ⟨[], ?_⟩
          (try simp only [rsAV, List.map_cons, List.map_nil, thenQ])
          refine hK37 _ ?_
          (try clear hK37)
          refine ag_pures (fuel := 15) [35, 36, 37, 38, 39] [It.mk (some 117) (some (111, true)) (IK.p (PK.eqA false 104 (Sh.st [Sh.i, Sh.i, Sh.i, Sh.a IntKind.u8 32, Sh.a IntKind.u8 32]) (Operand.tmp 115) (Operand.tmp 116))), It.mk (some 118) none (IK.p (PK.pick (Operand.tmp 111) (Operand.tmp 117) (Operand.const (Value.bool false)))), It.mk (some 119) none (IK.p (PK.mov (Operand.tmp 118))), It.mk (some 120) (some (119, true)) (IK.p (PK.load (Operand.tmp 11) 35 true)), It.mk (some 121) (some (119, true)) (IK.p (PK.load (Operand.tmp 15) 67 true))] (by kernel_rfl) (by kernel_rfl) (by kernel_rfl) (by kernel_rfl) (hideZ_nil _ 0) (fun K38 hK38 => ?_)
          simp (maxSteps:=999999) (disch:=omega) only [av1, av2, av3, av4, av5, av6, av7, eq_self, exists_const, forall_const, implies_true, storeOk, thenQ, PK.cond, PK.val, Nat.reduceAdd, Nat.reduceLT, Nat.reduceMul, reduceCtorEq, ↓reduceIte, Nat.reduceEqDiff, Nat.reduceLeDiff, Nat.reduceSub, Nat.reduceBEq, Nat.reduceBNe, Int.reduceLT, Int.reduceEq, Int.reduceAdd, Int.reduceToNat, Int.reduceLE, Int.reduceBEq, Int.reduceBNe, enc1, cJob, cRcp, eqTy_Rcp, eqTy_Sum, rcpEq, List.forall_mem_map]
          (repeat ((with_reducible refine And.intro ?_ ?_); (first | trivial | assumption | omega | (simp; done))))
          refine hK38 _ ?_
          (try clear hK38)
          refine ag_one (i:=40) (by kernel_rfl) ?_
          refine agi0 (it := It.mk (some 122) (some (119, true)) (IK.call 66 [Operand.tmp 120, Operand.tmp 121])) (by kernel_rfl) (by simp only [tgtB, IK.target, av1, av2, av4, Nat.reduceEqDiff, ↓reduceIte, reduceCtorEq, Option.isSome_some, List.all_nil]) (fun K39 hK39 => ?_)
          simp (maxSteps:=999999) (disch:=omega) only [av1, av2, av3, av4, av5, av6, av7, eq_self, exists_const, forall_const, implies_true, storeOk, thenQ, PK.cond, PK.val, Nat.reduceAdd, Nat.reduceLT, Nat.reduceMul, reduceCtorEq, ↓reduceIte, Nat.reduceEqDiff, Nat.reduceLeDiff, Nat.reduceSub, Nat.reduceBEq, Nat.reduceBNe, Int.reduceLT, Int.reduceEq, Int.reduceAdd, Int.reduceToNat, Int.reduceLE, Int.reduceBEq, Int.reduceBNe, enc1, cJob, cRcp, eqTy_Rcp, eqTy_Sum, rcpEq, List.forall_mem_map]
          apply Or.inl
          first | refine ⟨[], trivial, ?_⟩ | refine ⟨_, (fits_ap ch st (joinF 71 [c]) (coverV c t) _ _ _ _ _ (coverV_fit ht hs).1 (coverV_fit ht hs).2), ?_⟩ | refine ⟨_, fun _ => (fits_ap ch st (joinF 71 [c]) (coverV c t) _ _ _ _ _ (coverV_fit ht hs).1 (coverV_fit ht hs).2), ?_⟩ | refine ⟨_, fun h => ⟨h, (fits_ap ch st (joinF 71 [c]) (coverV c t) _ _ _ _ _ (coverV_fit ht hs).1 (coverV_fit ht hs).2)⟩, ?_⟩ | refine ⟨_, fun h => ⟨by simp_all, (fits_ap ch st (joinF 71 [c]) (coverV c t) _ _ _ _ _ (coverV_fit ht hs).1 (coverV_fit ht hs).2)⟩, ?_⟩ | refine ⟨[], ?_⟩
          (try simp only [rsAV, List.map_cons, List.map_nil, thenQ])
          refine hK39 _ ?_
          (try clear hK39)
          refine ag_pures (fuel := 7) [41, 42, 43, 44, 46, 47, 48] [It.mk (some 123) none (IK.p (PK.pick (Operand.tmp 119) (Operand.tmp 122) (Operand.const (Value.bool false)))), It.mk (some 124) none (IK.p (PK.mov (Operand.tmp 123))), It.mk (some 125) (some (124, true)) (IK.p (PK.load (Operand.tmp 11) 35 true)), It.mk (some 126) (some (124, true)) (IK.p (PK.load (Operand.tmp 9) 67 true)), It.mk (some 128) (some (124, true)) (IK.p (PK.load (Operand.tmp 9) 67 true)), It.mk (some 129) (some (124, true)) (IK.p (PK.load (Operand.tmp 15) 67 true)), It.mk (some 130) (some (124, true)) (IK.p (PK.eqA false 104 (Sh.st [Sh.i, Sh.i, Sh.i, Sh.a IntKind.u8 32, Sh.a IntKind.u8 32]) (Operand.tmp 128) (Operand.tmp 129)))] (by kernel_rfl) (by kernel_rfl) (by kernel_rfl) (by kernel_rfl) (hideZ_nil _ 0) (fun K40 hK40 => ?_)
          simp (maxSteps:=999999) (disch:=omega) only [av1, av2, av3, av4, av5, av6, av7, eq_self, exists_const, forall_const, implies_true, storeOk, thenQ, PK.cond, PK.val, Nat.reduceAdd, Nat.reduceLT, Nat.reduceMul, reduceCtorEq, ↓reduceIte, Nat.reduceEqDiff, Nat.reduceLeDiff, Nat.reduceSub, Nat.reduceBEq, Nat.reduceBNe, Int.reduceLT, Int.reduceEq, Int.reduceAdd, Int.reduceToNat, Int.reduceLE, Int.reduceBEq, Int.reduceBNe, enc1, cJob, cRcp, eqTy_Rcp, eqTy_Sum, rcpEq, List.forall_mem_map]
          (repeat ((with_reducible refine And.intro ?_ ?_); (first | trivial | assumption | omega | (simp; done))))
          refine hK40 _ ?_
          (try clear hK40)
          refine ag_one (i:=45) (by kernel_rfl) ?_
          refine agi0 (it := It.mk (some 127) (some (124, true)) (IK.call 66 [Operand.tmp 125, Operand.tmp 126])) (by kernel_rfl) (by simp only [tgtB, IK.target, av1, av2, av4, Nat.reduceEqDiff, ↓reduceIte, reduceCtorEq, Option.isSome_some, List.all_nil]) (fun K41 hK41 => ?_)
          simp (maxSteps:=999999) (disch:=omega) only [av1, av2, av3, av4, av5, av6, av7, eq_self, exists_const, forall_const, implies_true, storeOk, thenQ, PK.cond, PK.val, Nat.reduceAdd, Nat.reduceLT, Nat.reduceMul, reduceCtorEq, ↓reduceIte, Nat.reduceEqDiff, Nat.reduceLeDiff, Nat.reduceSub, Nat.reduceBEq, Nat.reduceBNe, Int.reduceLT, Int.reduceEq, Int.reduceAdd, Int.reduceToNat, Int.reduceLE, Int.reduceBEq, Int.reduceBNe, enc1, cJob, cRcp, eqTy_Rcp, eqTy_Sum, rcpEq, List.forall_mem_map]
          apply Or.inl
          first | refine ⟨[], trivial, ?_⟩ | refine ⟨_, (fits_ap ch st (joinF 71 [c]) (coverV c t) _ _ _ _ _ (coverV_fit ht hs).1 (coverV_fit ht hs).2), ?_⟩ | refine ⟨_, fun _ => (fits_ap ch st (joinF 71 [c]) (coverV c t) _ _ _ _ _ (coverV_fit ht hs).1 (coverV_fit ht hs).2), ?_⟩ | refine ⟨_, fun h => ⟨h, (fits_ap ch st (joinF 71 [c]) (coverV c t) _ _ _ _ _ (coverV_fit ht hs).1 (coverV_fit ht hs).2)⟩, ?_⟩ | refine ⟨_, fun h => ⟨by simp_all, (fits_ap ch st (joinF 71 [c]) (coverV c t) _ _ _ _ _ (coverV_fit ht hs).1 (coverV_fit ht hs).2)⟩, ?_⟩ | refine ⟨[], ?_⟩
          (try simp only [rsAV, List.map_cons, List.map_nil, thenQ])
          refine hK41 _ ?_
          (try clear hK41)
          refine ag_pures (fuel := 3) [49, 50, 51] [It.mk (some 131) (some (124, true)) (IK.p (PK.eqB false (Operand.tmp 127) (Operand.tmp 130))), It.mk (some 132) none (IK.p (PK.pick (Operand.tmp 124) (Operand.tmp 131) (Operand.const (Value.bool false)))), It.mk (some 133) none (IK.p (PK.mov (Operand.tmp 132)))] (by kernel_rfl) (by kernel_rfl) (by kernel_rfl) (by kernel_rfl) (hideZ_nil _ 0) (fun K42 hK42 => ?_)
          simp (maxSteps:=999999) (disch:=omega) only [av1, av2, av3, av4, av5, av6, av7, eq_self, exists_const, forall_const, implies_true, storeOk, thenQ, PK.cond, PK.val, Nat.reduceAdd, Nat.reduceLT, Nat.reduceMul, reduceCtorEq, ↓reduceIte, Nat.reduceEqDiff, Nat.reduceLeDiff, Nat.reduceSub, Nat.reduceBEq, Nat.reduceBNe, Int.reduceLT, Int.reduceEq, Int.reduceAdd, Int.reduceToNat, Int.reduceLE, Int.reduceBEq, Int.reduceBNe, enc1, cJob, cRcp, eqTy_Rcp, eqTy_Sum, rcpEq, List.forall_mem_map]
          (repeat ((with_reducible refine And.intro ?_ ?_); (first | trivial | assumption | omega | (simp; done))))
          refine hK42 _ ?_
          (try clear hK42)
          refine ag_one (i:=52) (by kernel_rfl) ?_
          refine agi0 (it := It.mk (some 134) (some (133, true)) (IK.call 60 [])) (by kernel_rfl) (by simp only [tgtB, IK.target, av1, av2, av4, Nat.reduceEqDiff, ↓reduceIte, reduceCtorEq, Option.isSome_some, List.all_nil]) (fun K43 hK43 => ?_)
          simp (maxSteps:=999999) (disch:=omega) only [av1, av2, av3, av4, av5, av6, av7, eq_self, exists_const, forall_const, implies_true, storeOk, thenQ, PK.cond, PK.val, Nat.reduceAdd, Nat.reduceLT, Nat.reduceMul, reduceCtorEq, ↓reduceIte, Nat.reduceEqDiff, Nat.reduceLeDiff, Nat.reduceSub, Nat.reduceBEq, Nat.reduceBNe, Int.reduceLT, Int.reduceEq, Int.reduceAdd, Int.reduceToNat, Int.reduceLE, Int.reduceBEq, Int.reduceBNe, enc1, cJob, cRcp, eqTy_Rcp, eqTy_Sum, rcpEq, List.forall_mem_map]
          apply Or.inl
          first | refine ⟨[], trivial, ?_⟩ | refine ⟨_, (awake16_ap), ?_⟩ | refine ⟨_, fun _ => (awake16_ap), ?_⟩ | refine ⟨_, fun h => ⟨h, (awake16_ap)⟩, ?_⟩ | refine ⟨_, fun h => ⟨by simp_all, (awake16_ap)⟩, ?_⟩ | refine ⟨[], ?_⟩
          (try simp only [rsAV, List.map_cons, List.map_nil, thenQ])
          refine hK43 _ ?_
          (try clear hK43)
          refine ag_pures (fuel := 0) [53, 54] [It.mk (some 135) none (IK.p (PK.pick (Operand.tmp 133) (Operand.tmp 134) (Operand.const (Value.bool false)))), It.mk (some 10) none (IK.p (PK.mov (Operand.tmp 135)))] (by kernel_rfl) (by kernel_rfl) (by kernel_rfl) (by kernel_rfl) (hideZ_nil _ 0) (fun K44 hK44 => ?_)
          simp (maxSteps:=999999) (disch:=omega) only [av1, av2, av3, av4, av5, av6, av7, eq_self, exists_const, forall_const, implies_true, storeOk, thenQ, PK.cond, PK.val, Nat.reduceAdd, Nat.reduceLT, Nat.reduceMul, reduceCtorEq, ↓reduceIte, Nat.reduceEqDiff, Nat.reduceLeDiff, Nat.reduceSub, Nat.reduceBEq, Nat.reduceBNe, Int.reduceLT, Int.reduceEq, Int.reduceAdd, Int.reduceToNat, Int.reduceLE, Int.reduceBEq, Int.reduceBNe, enc1, cJob, cRcp, eqTy_Rcp, eqTy_Sum, rcpEq, List.forall_mem_map]
          (repeat ((with_reducible refine And.intro ?_ ?_); (first | trivial | assumption | omega | (simp; done))))
          refine hK44 _ ?_
          (try clear hK44)
          refine ag_done (by kernel_rfl) ?_
          (try simp only [thenQ])
          exact Le.refl
        refine at_ret ?_
        simp (maxSteps:=999999) (disch:=omega) only [av1, av2, av3, av4, av5, av6, av7, eq_self, exists_const, forall_const, implies_true, storeOk, thenQ, PK.cond, PK.val, Nat.reduceAdd, Nat.reduceLT, Nat.reduceMul, reduceCtorEq, ↓reduceIte, Nat.reduceEqDiff, Nat.reduceLeDiff, Nat.reduceSub, Nat.reduceBEq, Nat.reduceBNe, Int.reduceLT, Int.reduceEq, Int.reduceAdd, Int.reduceToNat, Int.reduceLE, Int.reduceBEq, Int.reduceBNe, enc1, cJob, cRcp, eqTy_Rcp, eqTy_Sum, rcpEq, List.forall_mem_map, blockQ, retQ, RetOk, ResOk, AV.fin, AV.fins, CV.le, CV.les]
        (first | rfl | (simp; done) | trace_state)
theorem appointJobs_ap (ch st : Int) (c : List Int) (t : Txx) (rt rc rs : Int) (rh rb : List Int) (hc : ArOk .u8 32 c) (ht : OkTxx t) : AP Try.prog 10 [ic .i64 ch, ic .i64 st, cSum c, cTxx t, cRcp rt rc rs rh rb] [.pv (.bool true)] := by
  cases hs : smallTx t with
  | false => exact jobs0_ap ch st c t rt rc rs rh rb hc ht hs
  | true =>
    cases h : jobBad ch st with
    | true => exact jobs1_ap ch st c t rt rc rs rh rb hc ht hs h
    | false =>
      by_cases he : coverE t = 0
      · exact jobs3_ap ch st c t rt rc rs rh rb hc ht hs h he
      · exact jobs2_ap ch st c t rt rc rs rh rb hc ht hs h he
end Go.Proofs.Ytcghjnegaiiieaa
namespace Go.Proofs.Ytcghjnegaiiieaa
open Go.RowKit
theorem inp_flat {w : World} {F : Nat → Prop} {cs : List Value} {t : List Int} {i y : Int} {p : List Int} (h : RCons RRef 33 (RCons (RInt .i64) 1 (RCons (RSl (RInt .u8) 1) 1 RNil)) w F cs ((t, i), y, p, ())) : RInp w F cs ⟨t, i, y, p⟩ := by
  obtain ⟨c, d, rfl, hl, ⟨c1, c2, rfl, hl1, ha, c3, c4, rfl, hl2, hb, hnil⟩, h2⟩ := h
  have hnil : c4 = [] := hnil
  subst hnil
  exact ⟨c1, c3 ++ d, by simp, hl1, ha, c3, d, rfl, hl2, hb, h2⟩
set_option maxRecDepth 100000 in
theorem got_inp : Got Try.prog 96 RInp := fun H enc W m cs x hx => by
  obtain ⟨⟨⟨t, i⟩, y, p, u⟩, h⟩ := got_st Try.underlying96 (by kernel_rfl) (gotF_cons (n := 33) rfl (by kernel_rfl) got_ref (gotF_cons (n := 1) rfl (by kernel_rfl) (got_int Try.underlying3) (gotF_cons (n := 1) rfl (by kernel_rfl) (got_sl Try.underlying27 (size := 1) (by kernel_rfl) (by decide) (got_int Try.underlying5)) (gotF_nil _)))) H enc W m cs x hx
  exact ⟨_, inp_flat h⟩
set_option maxRecDepth 100000 in
theorem got_sgn : Got Try.prog 177 RSgn := by
  unfold RSgn
  exact got_by (got_st Try.underlying177 (by kernel_rfl) (gotF_cons (n := 1) rfl (by kernel_rfl) (got_int Try.underlying3) (gotF_cons (n := 32) rfl (by kernel_rfl) (got_arr Try.underlying24 Try.underlying5 (by kernel_rfl) (by kernel_rfl)) (gotF_nil _)))) (fun x : Sgn => (x.key, x.of_, ())) (fun p => ⟨p.1, p.2.1⟩) (fun _ => rfl)
set_option maxRecDepth 100000 in
theorem got_opx : Got Try.prog 87 ROpx := by
  unfold ROpx
  exact got_by (got_st Try.underlying87 (by kernel_rfl) (gotF_cons (n := 1) rfl (by kernel_rfl) (got_int Try.underlying3) (gotF_cons (n := 1) rfl (by kernel_rfl) (got_int Try.underlying3) (gotF_cons (n := 1) rfl (by kernel_rfl) (got_int Try.underlying3) (gotF_cons (n := 1) rfl (by kernel_rfl) (got_int Try.underlying2) (gotF_cons (n := 32) rfl (by kernel_rfl) (got_arr Try.underlying24 Try.underlying5 (by kernel_rfl) (by kernel_rfl)) (gotF_cons (n := 1) rfl (by kernel_rfl) (got_sl Try.underlying27 (size := 1) (by kernel_rfl) (by decide) (got_int Try.underlying5)) (gotF_nil _)))))))) (fun x : Opx => (x.kind, x.tower, x.channel, x.amount, x.root, x.data, ())) (fun p => ⟨p.1, p.2.1, p.2.2.1, p.2.2.2.1, p.2.2.2.2.1, p.2.2.2.2.2.1⟩) (fun _ => rfl)
set_option maxRecDepth 100000 in
theorem got_tx : Got Try.prog 90 RTxx := by
  unfold RTxx
  exact got_by (got_st Try.underlying90 (by kernel_rfl) (gotF_cons (n := 1) rfl (by kernel_rfl) (got_sl Try.underlying84 (size := 35) (by kernel_rfl) (by decide) got_inp) (gotF_cons (n := 1) rfl (by kernel_rfl) (got_sl Try.underlying85 (size := 2) (by kernel_rfl) (by decide) got_out) (gotF_cons (n := 37) rfl (by kernel_rfl) got_opx (gotF_cons (n := 1) rfl (by kernel_rfl) (got_sl Try.underlying88 (size := 33) (by kernel_rfl) (by decide) got_sgn) (gotF_nil _)))))) (fun t : Txx => (t.ins, t.outs, t.op, t.sgns, ())) (fun p => ⟨p.1, p.2.1, p.2.2.1, p.2.2.2.1⟩) (fun _ => rfl)
end Go.Proofs.Ytcghjnegaiiieaa
namespace Go.Proofs.Ytcghjnegaiiieaa
open Go.RowKit
theorem arr_arg {P : Program} {W : World} {r : Reach} {b n : Nat} {T E : TypeId} {v : Value} (h : P.underlying T = some (.array n E)) (hv : Value.okWide P W r b T v) : v = .agg v.cells.toList.toArray := by
  simp only [Value.okWide, h] at hv
  obtain ⟨cs, rfl, _⟩ := hv
  simp [Value.cells]
structure Rcp where
  tw : Int
  ch : Int
  st : Int
  h : List Int
  b : List Int
structure OkRcp (r : Rcp) : Prop where
  tw : (Lit.int .i64 r.tw).wf = true
  ch : (Lit.int .i64 r.ch).wf = true
  st : (Lit.int .i64 r.st).wf = true
  h : ArOk .u8 32 r.h
  b : ArOk .u8 32 r.b
def RRcp : Rl Rcp := RBy (RCons (RInt .i64) 1 (RCons (RInt .i64) 1 (RCons (RInt .i64) 1 (RCons (RArr .u8 32) 32 (RCons (RArr .u8 32) 32 RNil))))) (fun r => (r.tw, r.ch, r.st, r.h, r.b, ()))
theorem brgRcp : Brg RRcp 67 (fun r : Rcp => cRcp r.tw r.ch r.st r.h r.b) OkRcp :=
  (Brgs.cons (Brg.int .i64) (Brgs.cons (Brg.int .i64) (Brgs.cons (Brg.int .i64) (Brgs.cons (Brg.arr .u8 32) (Brgs.cons (Brg.arr .u8 32) Brgs.nil))))).st _ _ OkRcp 67 (fun x => rfl) (fun x => ⟨fun h => ⟨h.tw, h.ch, h.st, h.h, h.b, trivial⟩, fun h => ⟨h.1, h.2.1, h.2.2.1, h.2.2.2.1, h.2.2.2.2.1⟩⟩) (fun x => rfl)
theorem got_sum : Got Try.prog 24 (RArr .u8 32) := got_arr Try.underlying24 Try.underlying5 (by kernel_rfl) (by kernel_rfl)
set_option maxRecDepth 100000 in
theorem got_rcp : Got Try.prog 104 RRcp := by
  unfold RRcp
  exact got_by (got_st Try.underlying104 (by kernel_rfl) (gotF_cons (n := 1) rfl (by kernel_rfl) (got_int Try.underlying3) (gotF_cons (n := 1) rfl (by kernel_rfl) (got_int Try.underlying3) (gotF_cons (n := 1) rfl (by kernel_rfl) (got_int Try.underlying3) (gotF_cons (n := 32) rfl (by kernel_rfl) got_sum (gotF_cons (n := 32) rfl (by kernel_rfl) got_sum (gotF_nil _))))))) (fun r : Rcp => (r.tw, r.ch, r.st, r.h, r.b, ())) (fun p => ⟨p.1, p.2.1, p.2.2.1, p.2.2.2.1, p.2.2.2.2.1⟩) (fun _ => rfl)
end Go.Proofs.Ytcghjnegaiiieaa
namespace Go.Proofs.Ytcghjnegaiiieaa.appointJobs
open Go.ChangeShapes Go.WideShapes Go.ChangeAt Go.RowKit
open Go.ChangeMaps (open_string shut_string)
theorem own : ownKnob Try.prog.godebug = none := by kernel_rfl
theorem laidOut : laidOutB Try.prog = true := by kernel_rfl
theorem reads : (Try.f10.params.toList.all fun t => Try.prog.readableRec t && decide (t < Try.prog.types.size)) = true := by kernel_rfl
set_option maxRecDepth 100000 in
theorem walk {H : Type} {enc : TypeId × Value → H} (W : World) (base : Nat) (args : Array Value) (ds : List (DataW H)) (ps : List MemPlace)
    (hval : ∀ (j : Nat) t v, Try.f10.params[j]? = some t → args[j]? = some v → Value.okWide Try.prog W .any base t v)
    (hA : DataW.TrodAll enc Try.prog W 0 (fun _ => true) true Try.f10.params.toList args.toList ds ps)
    (hsz : (DataW.weightsEach Try.prog Try.f10.params.toList ds).all (· ≤ reachBytes) = true) :
    Calls Try.prog 10 args W fun e W' => e = .returned (.bool true) ∧ Below W.heap.size W W' := by
  rw [Try.params10] at hA hval hsz
  obtain ⟨v0, vs0, d0, ds0, p0, q0, hargs, rfl, rfl, h0, r0⟩ := trodAll_cons hA
  obtain ⟨v1, vs1, d1, ds1, p1, q1, rfl, rfl, rfl, h1, r1⟩ := trodAll_cons r0
  obtain ⟨v2, vs2, d2, ds2, p2, q2, rfl, rfl, rfl, h2, r2⟩ := trodAll_cons r1
  obtain ⟨v3, vs3, d3, ds3, p3, q3, rfl, rfl, rfl, h3, r3⟩ := trodAll_cons r2
  obtain ⟨v4, vs4, d4, ds4, p4, q4, rfl, rfl, rfl, h4, r4⟩ := trodAll_cons r3
  obtain ⟨rfl, rfl, rfl⟩ := trodAll_nil r4
  obtain rfl : args = #[v0, v1, v2, v3, v4] := by cases args; simp_all
  obtain ⟨ch, rfl, rfl, rfl, w0⟩ := open_int Try.underlying3 (hval 0 3 v0 rfl rfl) h0
  obtain ⟨st, rfl, rfl, rfl, w1⟩ := open_int Try.underlying3 (hval 1 3 v1 rfl rfl) h1
  obtain ⟨c, hc⟩ := got_arg got_sum h2
  obtain ⟨t, ht⟩ := got_arg got_tx h3
  obtain ⟨r, hr⟩ := got_arg got_rcp h4
  obtain ⟨hr2, ok2⟩ := arg_rep (Brg.arr .u8 32) hc (arr_arg Try.underlying24 (hval 2 24 v2 rfl rfl))
  obtain ⟨hr3, ok3⟩ := arg_rep brgTxx ht (agg_arg Try.underlying90 (hval 3 90 v3 rfl rfl))
  obtain ⟨hr4, ok4⟩ := arg_rep brgRcp hr (agg_arg Try.underlying104 (hval 4 104 v4 rfl rfl))
  exact law_of_ap (appointJobs_ap ch st c t r.tw r.ch r.st r.h r.b ok2 ok3) W [.int .i64 ch, .int .i64 st, v2, v3, v4] (by simp only [List.map_cons, List.map_nil, AV.repVs, AV.repV]; exact ⟨_, _, rfl, pv_repV rfl, _, _, rfl, pv_repV rfl, v2, _, rfl, hr2, v3, _, rfl, hr3, v4, _, rfl, hr4, rfl⟩)
theorem lifted (os : Os) (started : os.Started) (H : Type) (enc : TypeId × Value → H) :
    ReturnsInHanded {} Try.checked os 10 .any (Rows.appointJobsSpec.pre6 enc Try.prog Try.f10 Rows.appointJobsRow.domain false) (Rows.appointJobsSpec.post enc Try.prog Try.f10 false true false false) :=
  lawLift (C := Try.checked) own started (by kernel_rfl) Try.func10
    (ChangeSpec.witness6 (enc := enc) (C := Try.checked) false ⟨#[], #[.int .i64 0, .int .i64 0, .agg #[.int .u8 0, .int .u8 0, .int .u8 0, .int .u8 0, .int .u8 0, .int .u8 0, .int .u8 0, .int .u8 0, .int .u8 0, .int .u8 0, .int .u8 0, .int .u8 0, .int .u8 0, .int .u8 0, .int .u8 0, .int .u8 0, .int .u8 0, .int .u8 0, .int .u8 0, .int .u8 0, .int .u8 0, .int .u8 0, .int .u8 0, .int .u8 0, .int .u8 0, .int .u8 0, .int .u8 0, .int .u8 0, .int .u8 0, .int .u8 0, .int .u8 0, .int .u8 0], .agg #[.slice none 0 0, .slice none 0 0, .int .i64 0, .int .i64 0, .int .i64 0, .int .i64 0, .int .u8 0, .int .u8 0, .int .u8 0, .int .u8 0, .int .u8 0, .int .u8 0, .int .u8 0, .int .u8 0, .int .u8 0, .int .u8 0, .int .u8 0, .int .u8 0, .int .u8 0, .int .u8 0, .int .u8 0, .int .u8 0, .int .u8 0, .int .u8 0, .int .u8 0, .int .u8 0, .int .u8 0, .int .u8 0, .int .u8 0, .int .u8 0, .int .u8 0, .int .u8 0, .int .u8 0, .int .u8 0, .int .u8 0, .int .u8 0, .int .u8 0, .int .u8 0, .slice none 0 0, .slice none 0 0], .agg #[.int .i64 0, .int .i64 0, .int .i64 0, .int .u8 0, .int .u8 0, .int .u8 0, .int .u8 0, .int .u8 0, .int .u8 0, .int .u8 0, .int .u8 0, .int .u8 0, .int .u8 0, .int .u8 0, .int .u8 0, .int .u8 0, .int .u8 0, .int .u8 0, .int .u8 0, .int .u8 0, .int .u8 0, .int .u8 0, .int .u8 0, .int .u8 0, .int .u8 0, .int .u8 0, .int .u8 0, .int .u8 0, .int .u8 0, .int .u8 0, .int .u8 0, .int .u8 0, .int .u8 0, .int .u8 0, .int .u8 0, .int .u8 0, .int .u8 0, .int .u8 0, .int .u8 0, .int .u8 0, .int .u8 0, .int .u8 0, .int .u8 0, .int .u8 0, .int .u8 0, .int .u8 0, .int .u8 0, .int .u8 0, .int .u8 0, .int .u8 0, .int .u8 0, .int .u8 0, .int .u8 0, .int .u8 0, .int .u8 0, .int .u8 0, .int .u8 0, .int .u8 0, .int .u8 0, .int .u8 0, .int .u8 0, .int .u8 0, .int .u8 0, .int .u8 0, .int .u8 0, .int .u8 0, .int .u8 0]], []⟩ 64 (by kernel_rfl) (by kernel_rfl) (by kernel_rfl) (by kernel_rfl))
    rfl laidOut reads rfl Try.underlying4 (fun ds h => by match ds, h with | [d0, d1, d2, d3, d4], _ => exact ⟨rfl, rfl, rfl⟩) walk
end Go.Proofs.Ytcghjnegaiiieaa.appointJobs

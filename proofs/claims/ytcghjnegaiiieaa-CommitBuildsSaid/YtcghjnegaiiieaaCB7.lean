/- Part 7 of the texts that LawCommitBuilds needs, pruned and joined. -/
import Derived.Test.YtcghjnegaiiieaaRows
import Derived.Test.YtcghjnegaiiieaaCB6
set_option linter.unusedSimpArgs false
namespace Go.Proofs.Ytcghjnegaiiieaa
open Go.RowKit
def tO (c : Chan) (s : CSt) (o : Int) : Txx := if o = 0 then com0 c s else if o = 1 then com1 c s else zTxx
def eO (o : Int) : Int := if o = 0 ∨ o = 1 then 0 else 1
theorem tO0 (c : Chan) (s : CSt) : tO c s 0 = com0 c s := rfl
theorem tO1 (c : Chan) (s : CSt) : tO c s 1 = com1 c s := rfl
theorem tOX (c : Chan) (s : CSt) {o : Int} (h0 : o ≠ 0) (h1 : o ≠ 1) : tO c s o = zTxx := by simp [tO, h0, h1]
theorem eO0 : eO 0 = 0 := rfl
theorem eO1 : eO 1 = 0 := rfl
theorem eOX {o : Int} (h0 : o ≠ 0) (h1 : o ≠ 1) : eO o = 1 := by simp [eO, h0, h1]
theorem buildO_ap {c : Chan} {s : CSt} (o : Int) (h : cstB c s = true) : AP Try.prog 48 [cChan c, cCSt s, ic .i64 o] [cTxx (tO c s o), ic .i64 (eO o)] := by
  by_cases h0 : o = 0
  · subst h0; exact build0_ap h
  · by_cases h1 : o = 1
    · subst h1; exact build1_ap h
    · rw [tOX c s h0 h1, eOX h0 h1]; exact commitBuildX_ap c s o h0 h1
set_option maxRecDepth 100000 in
set_option maxHeartbeats 4000000 in
theorem commitBuildsOk_ap (c : Chan) (s : CSt) (o : Int) (hc : OkChan c) (hs : OkCSt s) (h : cstB c s = true) : AP Try.prog 9 [cChan c, cCSt s, ic .i64 o] [.pv (.bool true)] := by
  refine ap_of (fun _ _ => Try.call9 _ _) Try.func9 rfl Try.ntmps9 (by simp) (zs := [RZ.mk 6 none]) (by kernel_rfl) (fun w F => ?_)
  simp only [List.map_cons, List.map_nil, argT, Nat.reduceAdd]
  refine at_seq fun K1 hK1 => ?_
  refine at_region [It.mk (some 3) none (IK.box (Operand.tmp 0)), It.mk (some 4) none (IK.box (Operand.tmp 1)), It.mk (some 6) none (IK.p (PK.mov (Operand.const (Value.bool false))))] (by kernel_rfl) ?_
  simp (maxSteps:=999999) (disch:=omega) only [av1, av2, av3, av4, eq_self, exists_const, forall_const, implies_true, storeOk, thenQ, PK.cond, PK.val, Nat.reduceAdd, Nat.reduceLT, Nat.reduceMul, reduceCtorEq, ↓reduceIte, Nat.reduceEqDiff, Nat.reduceLeDiff, Nat.reduceSub, Nat.reduceBEq, Nat.reduceBNe, Int.reduceLT, Int.reduceEq, Int.reduceAdd, Int.reduceToNat, Int.reduceLE, Int.reduceBEq, Int.reduceBNe, enc1, enc2, h, tO0, tO1, eO0, eO1, tOX, eOX]
  (repeat ((with_reducible refine And.intro ?_ ?_); (first | trivial | assumption | omega | (simp; done))))
  refine hK1 _ ?_
  (try clear hK1)
  refine at_seq fun K2 hK2 => ?_
  refine at_region [It.mk (some 14) none (IK.p (PK.load (Operand.tmp 3) 39 true)), It.mk (some 15) none (IK.p (PK.load (Operand.tmp 4) 67 true)), It.mk (some 16) none (IK.p (PK.mov (Operand.tmp 2))), It.mk (some 17) none (IK.call 48 [Operand.tmp 14, Operand.tmp 15, Operand.tmp 16]), It.mk (some 13) none (IK.p (PK.mov (Operand.tmp 17))), It.mk (some 18) none (IK.p (PK.ext (Operand.tmp 13) 0)), It.mk (some 19) none (IK.p (PK.ext (Operand.tmp 13) 1)), It.mk (some 7) none (IK.alloc (CV.st [CV.pv (Value.slice none 0 0), CV.pv (Value.slice none 0 0), CV.st [CV.pv (Value.int IntKind.i64 0), CV.pv (Value.int IntKind.i64 0), CV.pv (Value.int IntKind.i64 0), CV.pv (Value.int IntKind.i64 0), CV.ar IntKind.u8 32 (List.replicate 32 0), CV.pv (Value.slice none 0 0)], CV.pv (Value.slice none 0 0)])), It.mk none none (IK.store (Operand.tmp 7) (Operand.tmp 18) 40), It.mk (some 8) none (IK.p (PK.mov (Operand.tmp 19)))] (by kernel_rfl) ?_
  refine apl_cut [_, _, _] _ (fun K3 hK3 => ?_)
  simp (maxSteps:=999999) (disch:=omega) only [av1, av2, av3, av4, eq_self, exists_const, forall_const, implies_true, storeOk, thenQ, PK.cond, PK.val, Nat.reduceAdd, Nat.reduceLT, Nat.reduceMul, reduceCtorEq, ↓reduceIte, Nat.reduceEqDiff, Nat.reduceLeDiff, Nat.reduceSub, Nat.reduceBEq, Nat.reduceBNe, Int.reduceLT, Int.reduceEq, Int.reduceAdd, Int.reduceToNat, Int.reduceLE, Int.reduceBEq, Int.reduceBNe, enc1, enc2, h, tO0, tO1, eO0, eO1, tOX, eOX]
  (repeat ((with_reducible refine And.intro ?_ ?_); (first | trivial | assumption | omega | (simp; done))))
  refine hK3 _ ?_
  (try clear hK3)
  refine apl_cut [_] _ (fun K4 hK4 => ?_)
  simp (maxSteps:=999999) (disch:=omega) only [av1, av2, av3, av4, eq_self, exists_const, forall_const, implies_true, storeOk, thenQ, PK.cond, PK.val, Nat.reduceAdd, Nat.reduceLT, Nat.reduceMul, reduceCtorEq, ↓reduceIte, Nat.reduceEqDiff, Nat.reduceLeDiff, Nat.reduceSub, Nat.reduceBEq, Nat.reduceBNe, Int.reduceLT, Int.reduceEq, Int.reduceAdd, Int.reduceToNat, Int.reduceLE, Int.reduceBEq, Int.reduceBNe, enc1, enc2, h, tO0, tO1, eO0, eO1, tOX, eOX]
  apply Exists.intro
  apply And.intro
  · first | exact (buildO_ap o h) | exact (fun _ => (buildO_ap o h)) | exact (fun h => ⟨h, (buildO_ap o h)⟩) | exact (fun h => ⟨by simp_all, (buildO_ap o h)⟩)
  (try simp only [rsAV, List.map_cons, List.map_nil, thenQ])
  refine hK4 _ ?_
  (try clear hK4)
  simp (maxSteps:=999999) (disch:=omega) only [av1, av2, av3, av4, eq_self, exists_const, forall_const, implies_true, storeOk, thenQ, PK.cond, PK.val, Nat.reduceAdd, Nat.reduceLT, Nat.reduceMul, reduceCtorEq, ↓reduceIte, Nat.reduceEqDiff, Nat.reduceLeDiff, Nat.reduceSub, Nat.reduceBEq, Nat.reduceBNe, Int.reduceLT, Int.reduceEq, Int.reduceAdd, Int.reduceToNat, Int.reduceLE, Int.reduceBEq, Int.reduceBNe, enc1, enc2, h, tO0, tO1, eO0, eO1, tOX, eOX]
  (repeat ((with_reducible refine And.intro ?_ ?_); (first | trivial | assumption | omega | (simp; done))))
  refine hK2 _ ?_
  (try clear hK2)
  refine at_seq fun K5 hK5 => ?_
  refine at_region [It.mk (some 21) none (IK.p (PK.load (Operand.tmp 3) 39 true)), It.mk (some 22) none (IK.p (PK.load (Operand.tmp 4) 67 true)), It.mk (some 23) none (IK.call 49 [Operand.tmp 21, Operand.tmp 22]), It.mk (some 20) none (IK.p (PK.mov (Operand.tmp 23))), It.mk (some 24) none (IK.p (PK.ext (Operand.tmp 20) 0)), It.mk (some 25) none (IK.p (PK.ext (Operand.tmp 20) 1)), It.mk (some 9) none (IK.alloc (CV.st [CV.pv (Value.slice none 0 0), CV.pv (Value.slice none 0 0), CV.st [CV.pv (Value.int IntKind.i64 0), CV.pv (Value.int IntKind.i64 0), CV.pv (Value.int IntKind.i64 0), CV.pv (Value.int IntKind.i64 0), CV.ar IntKind.u8 32 (List.replicate 32 0), CV.pv (Value.slice none 0 0)], CV.pv (Value.slice none 0 0)])), It.mk none none (IK.store (Operand.tmp 9) (Operand.tmp 24) 40), It.mk (some 10) none (IK.p (PK.mov (Operand.tmp 25)))] (by kernel_rfl) ?_
  refine apl_cut [_, _] _ (fun K6 hK6 => ?_)
  simp (maxSteps:=999999) (disch:=omega) only [av1, av2, av3, av4, eq_self, exists_const, forall_const, implies_true, storeOk, thenQ, PK.cond, PK.val, Nat.reduceAdd, Nat.reduceLT, Nat.reduceMul, reduceCtorEq, ↓reduceIte, Nat.reduceEqDiff, Nat.reduceLeDiff, Nat.reduceSub, Nat.reduceBEq, Nat.reduceBNe, Int.reduceLT, Int.reduceEq, Int.reduceAdd, Int.reduceToNat, Int.reduceLE, Int.reduceBEq, Int.reduceBNe, enc1, enc2, h, tO0, tO1, eO0, eO1, tOX, eOX]
  (repeat ((with_reducible refine And.intro ?_ ?_); (first | trivial | assumption | omega | (simp; done))))
  refine hK6 _ ?_
  (try clear hK6)
  refine apl_cut [_] _ (fun K7 hK7 => ?_)
  simp (maxSteps:=999999) (disch:=omega) only [av1, av2, av3, av4, eq_self, exists_const, forall_const, implies_true, storeOk, thenQ, PK.cond, PK.val, Nat.reduceAdd, Nat.reduceLT, Nat.reduceMul, reduceCtorEq, ↓reduceIte, Nat.reduceEqDiff, Nat.reduceLeDiff, Nat.reduceSub, Nat.reduceBEq, Nat.reduceBNe, Int.reduceLT, Int.reduceEq, Int.reduceAdd, Int.reduceToNat, Int.reduceLE, Int.reduceBEq, Int.reduceBNe, enc1, enc2, h, tO0, tO1, eO0, eO1, tOX, eOX]
  apply Exists.intro
  apply And.intro
  · first | exact (closeOk_ap h) | exact (fun _ => (closeOk_ap h)) | exact (fun h => ⟨h, (closeOk_ap h)⟩) | exact (fun h => ⟨by simp_all, (closeOk_ap h)⟩)
  (try simp only [rsAV, List.map_cons, List.map_nil, thenQ])
  refine hK7 _ ?_
  (try clear hK7)
  simp (maxSteps:=999999) (disch:=omega) only [av1, av2, av3, av4, eq_self, exists_const, forall_const, implies_true, storeOk, thenQ, PK.cond, PK.val, Nat.reduceAdd, Nat.reduceLT, Nat.reduceMul, reduceCtorEq, ↓reduceIte, Nat.reduceEqDiff, Nat.reduceLeDiff, Nat.reduceSub, Nat.reduceBEq, Nat.reduceBNe, Int.reduceLT, Int.reduceEq, Int.reduceAdd, Int.reduceToNat, Int.reduceLE, Int.reduceBEq, Int.reduceBNe, enc1, enc2, h, tO0, tO1, eO0, eO1, tOX, eOX]
  (repeat ((with_reducible refine And.intro ?_ ?_); (first | trivial | assumption | omega | (simp; done))))
  refine hK5 _ ?_
  (try clear hK5)
  refine at_seq fun K8 hK8 => ?_
  refine at_seqJ ?_
  apply Exists.intro
  refine And.intro ?_ ?_
  · skip
    refine at_draws [] (by kernel_rfl) ?_
    refine ag_pures (fuel := 12) [0, 2] [It.mk (some 26) none (IK.p (PK.load (Operand.tmp 3) 39 true)), It.mk (some 28) none (IK.p (PK.load (Operand.tmp 3) 39 true))] (by kernel_rfl) (by kernel_rfl) (by kernel_rfl) (by kernel_rfl) (hideZ_nil _ 0) (fun K10 hK10 => ?_)
    simp (maxSteps:=999999) (disch:=omega) only [av1, av2, av3, av4, eq_self, exists_const, forall_const, implies_true, storeOk, thenQ, PK.cond, PK.val, Nat.reduceAdd, Nat.reduceLT, Nat.reduceMul, reduceCtorEq, ↓reduceIte, Nat.reduceEqDiff, Nat.reduceLeDiff, Nat.reduceSub, Nat.reduceBEq, Nat.reduceBNe, Int.reduceLT, Int.reduceEq, Int.reduceAdd, Int.reduceToNat, Int.reduceLE, Int.reduceBEq, Int.reduceBNe, enc1, enc2, h, tO0, tO1, eO0, eO1, tOX, eOX]
    (repeat ((with_reducible refine And.intro ?_ ?_); (first | trivial | assumption | omega | (simp; done))))
    refine hK10 _ ?_
    (try clear hK10)
    refine ag_one (i:=1) (by kernel_rfl) ?_
    refine agi (it := It.mk (some 27) none (IK.call 50 [Operand.tmp 26])) (R' := [2]) (by kernel_rfl) (.inl rfl) (by kernel_rfl) (fun K11 hK11 => ?_)
    simp (maxSteps:=999999) (disch:=omega) only [av1, av2, av3, av4, eq_self, exists_const, forall_const, implies_true, storeOk, thenQ, PK.cond, PK.val, Nat.reduceAdd, Nat.reduceLT, Nat.reduceMul, reduceCtorEq, ↓reduceIte, Nat.reduceEqDiff, Nat.reduceLeDiff, Nat.reduceSub, Nat.reduceBEq, Nat.reduceBNe, Int.reduceLT, Int.reduceEq, Int.reduceAdd, Int.reduceToNat, Int.reduceLE, Int.reduceBEq, Int.reduceBNe, enc1, enc2, h, tO0, tO1, eO0, eO1, tOX, eOX]
    apply Exists.intro
    apply And.intro
    · first | exact (rightChannel_ap c) | exact (fun _ => (rightChannel_ap c)) | exact (fun h => ⟨h, (rightChannel_ap c)⟩) | exact (fun h => ⟨by simp_all, (rightChannel_ap c)⟩)
    (try simp only [rsAV, List.map_cons, List.map_nil, thenQ])
    refine hK11 _ ?_
    (try clear hK11)
    refine ag_one (i:=3) (by kernel_rfl) ?_
    refine agi (it := It.mk (some 29) none (IK.call 51 [Operand.tmp 28])) (R' := []) (by kernel_rfl) (.inl rfl) (by kernel_rfl) (fun K12 hK12 => ?_)
    simp (maxSteps:=999999) (disch:=omega) only [av1, av2, av3, av4, eq_self, exists_const, forall_const, implies_true, storeOk, thenQ, PK.cond, PK.val, Nat.reduceAdd, Nat.reduceLT, Nat.reduceMul, reduceCtorEq, ↓reduceIte, Nat.reduceEqDiff, Nat.reduceLeDiff, Nat.reduceSub, Nat.reduceBEq, Nat.reduceBNe, Int.reduceLT, Int.reduceEq, Int.reduceAdd, Int.reduceToNat, Int.reduceLE, Int.reduceBEq, Int.reduceBNe, enc1, enc2, h, tO0, tO1, eO0, eO1, tOX, eOX]
    apply Exists.intro
    apply And.intro
    · first | exact (law14Channel_ap c) | exact (fun _ => (law14Channel_ap c)) | exact (fun h => ⟨h, (law14Channel_ap c)⟩) | exact (fun h => ⟨by simp_all, (law14Channel_ap c)⟩)
    (try simp only [rsAV, List.map_cons, List.map_nil, thenQ])
    refine hK12 _ ?_
    (try clear hK12)
    refine ag_pures (fuel := 4) [4, 5, 6, 7, 9, 10] [It.mk (some 30) none (IK.p (PK.eqB true (Operand.tmp 27) (Operand.tmp 29))), It.mk (some 31) none (IK.p (PK.mov (Operand.tmp 30))), It.mk (some 32) (some (31, false)) (IK.p (PK.load (Operand.tmp 3) 39 true)), It.mk (some 33) (some (31, false)) (IK.p (PK.load (Operand.tmp 4) 67 true)), It.mk (some 35) (some (31, false)) (IK.p (PK.load (Operand.tmp 3) 39 true)), It.mk (some 36) (some (31, false)) (IK.p (PK.load (Operand.tmp 4) 67 true))] (by kernel_rfl) (by kernel_rfl) (by kernel_rfl) (by kernel_rfl) (hideZ_nil _ 0) (fun K13 hK13 => ?_)
    simp (maxSteps:=999999) (disch:=omega) only [av1, av2, av3, av4, eq_self, exists_const, forall_const, implies_true, storeOk, thenQ, PK.cond, PK.val, Nat.reduceAdd, Nat.reduceLT, Nat.reduceMul, reduceCtorEq, ↓reduceIte, Nat.reduceEqDiff, Nat.reduceLeDiff, Nat.reduceSub, Nat.reduceBEq, Nat.reduceBNe, Int.reduceLT, Int.reduceEq, Int.reduceAdd, Int.reduceToNat, Int.reduceLE, Int.reduceBEq, Int.reduceBNe, enc1, enc2, h, tO0, tO1, eO0, eO1, tOX, eOX]
    (repeat ((with_reducible refine And.intro ?_ ?_); (first | trivial | assumption | omega | (simp; done))))
    refine hK13 _ ?_
    (try clear hK13)
    refine ag_one (i:=8) (by kernel_rfl) ?_
    refine agi (it := It.mk (some 34) (some (31, false)) (IK.call 52 [Operand.tmp 32, Operand.tmp 33])) (R' := [10, 9]) (by kernel_rfl) (.inl rfl) (by kernel_rfl) (fun K14 hK14 => ?_)
    simp (maxSteps:=999999) (disch:=omega) only [av1, av2, av3, av4, eq_self, exists_const, forall_const, implies_true, storeOk, thenQ, PK.cond, PK.val, Nat.reduceAdd, Nat.reduceLT, Nat.reduceMul, reduceCtorEq, ↓reduceIte, Nat.reduceEqDiff, Nat.reduceLeDiff, Nat.reduceSub, Nat.reduceBEq, Nat.reduceBNe, Int.reduceLT, Int.reduceEq, Int.reduceAdd, Int.reduceToNat, Int.reduceLE, Int.reduceBEq, Int.reduceBNe, enc1, enc2, h, tO0, tO1, eO0, eO1, tOX, eOX]
    apply Exists.intro
    apply And.intro
    · first | exact (commitRight_ap c s) | exact (fun _ => (commitRight_ap c s)) | exact (fun h => ⟨h, (commitRight_ap c s)⟩) | exact (fun h => ⟨by simp_all, (commitRight_ap c s)⟩)
    (try simp only [rsAV, List.map_cons, List.map_nil, thenQ])
    refine hK14 _ ?_
    (try clear hK14)
    refine ag_one (i:=11) (by kernel_rfl) ?_
    refine agi (it := It.mk (some 37) (some (31, false)) (IK.call 53 [Operand.tmp 35, Operand.tmp 36])) (R' := []) (by kernel_rfl) (.inl rfl) (by kernel_rfl) (fun K15 hK15 => ?_)
    simp (maxSteps:=999999) (disch:=omega) only [av1, av2, av3, av4, eq_self, exists_const, forall_const, implies_true, storeOk, thenQ, PK.cond, PK.val, Nat.reduceAdd, Nat.reduceLT, Nat.reduceMul, reduceCtorEq, ↓reduceIte, Nat.reduceEqDiff, Nat.reduceLeDiff, Nat.reduceSub, Nat.reduceBEq, Nat.reduceBNe, Int.reduceLT, Int.reduceEq, Int.reduceAdd, Int.reduceToNat, Int.reduceLE, Int.reduceBEq, Int.reduceBNe, enc1, enc2, h, tO0, tO1, eO0, eO1, tOX, eOX]
    apply Exists.intro
    apply And.intro
    · first | exact (law14Right_ap c s) | exact (fun _ => (law14Right_ap c s)) | exact (fun h => ⟨h, (law14Right_ap c s)⟩) | exact (fun h => ⟨by simp_all, (law14Right_ap c s)⟩)
    (try simp only [rsAV, List.map_cons, List.map_nil, thenQ])
    refine hK15 _ ?_
    (try clear hK15)
    refine ag_pures (fuel := 0) [12, 13] [It.mk (some 38) (some (31, false)) (IK.p (PK.eqB true (Operand.tmp 34) (Operand.tmp 37))), It.mk (some 39) none (IK.p (PK.pick (Operand.tmp 31) (Operand.const (Value.bool true)) (Operand.tmp 38)))] (by kernel_rfl) (by kernel_rfl) (by kernel_rfl) (by kernel_rfl) (hideZ_nil _ 0) (fun K16 hK16 => ?_)
    simp (maxSteps:=999999) (disch:=omega) only [av1, av2, av3, av4, eq_self, exists_const, forall_const, implies_true, storeOk, thenQ, PK.cond, PK.val, Nat.reduceAdd, Nat.reduceLT, Nat.reduceMul, reduceCtorEq, ↓reduceIte, Nat.reduceEqDiff, Nat.reduceLeDiff, Nat.reduceSub, Nat.reduceBEq, Nat.reduceBNe, Int.reduceLT, Int.reduceEq, Int.reduceAdd, Int.reduceToNat, Int.reduceLE, Int.reduceBEq, Int.reduceBNe, enc1, enc2, h, tO0, tO1, eO0, eO1, tOX, eOX]
    (repeat ((with_reducible refine And.intro ?_ ?_); (first | trivial | assumption | omega | (simp; done))))
    refine hK16 _ ?_
    (try clear hK16)
    refine ag_done (by kernel_rfl) ?_
    (try simp only [thenQ])
    exact Le.refl
  refine at_cond _ rfl rfl (fun h17 => ?_) (fun h17 => ?_)
  · have r17 := h17
    (try simp only [dB2] at h17)
    simp at h17
  · have r17 := h17
    (try simp only [dB2] at h17)
    refine at_skip ?_
    (try simp only [thenQ, blockQ])
    refine hK8 _ ?_
    (try clear hK8)
    refine at_seq fun K18 hK18 => ?_
    refine at_seq fun K19 hK19 => ?_
    refine at_region [It.mk (some 40) none (IK.p (PK.load (Operand.tmp 3) 39 true)), It.mk (some 41) none (IK.p (PK.load (Operand.tmp 4) 67 true)), It.mk (some 42) none (IK.call 53 [Operand.tmp 40, Operand.tmp 41]), It.mk (some 43) none (IK.p (PK.not (Operand.tmp 42)))] (by kernel_rfl) ?_
    refine apl_cut [_, _] _ (fun K20 hK20 => ?_)
    simp (maxSteps:=999999) (disch:=omega) only [av1, av2, av3, av4, eq_self, exists_const, forall_const, implies_true, storeOk, thenQ, PK.cond, PK.val, Nat.reduceAdd, Nat.reduceLT, Nat.reduceMul, reduceCtorEq, ↓reduceIte, Nat.reduceEqDiff, Nat.reduceLeDiff, Nat.reduceSub, Nat.reduceBEq, Nat.reduceBNe, Int.reduceLT, Int.reduceEq, Int.reduceAdd, Int.reduceToNat, Int.reduceLE, Int.reduceBEq, Int.reduceBNe, enc1, enc2, h, tO0, tO1, eO0, eO1, tOX, eOX]
    (repeat ((with_reducible refine And.intro ?_ ?_); (first | trivial | assumption | omega | (simp; done))))
    refine hK20 _ ?_
    (try clear hK20)
    refine apl_cut [_] _ (fun K21 hK21 => ?_)
    simp (maxSteps:=999999) (disch:=omega) only [av1, av2, av3, av4, eq_self, exists_const, forall_const, implies_true, storeOk, thenQ, PK.cond, PK.val, Nat.reduceAdd, Nat.reduceLT, Nat.reduceMul, reduceCtorEq, ↓reduceIte, Nat.reduceEqDiff, Nat.reduceLeDiff, Nat.reduceSub, Nat.reduceBEq, Nat.reduceBNe, Int.reduceLT, Int.reduceEq, Int.reduceAdd, Int.reduceToNat, Int.reduceLE, Int.reduceBEq, Int.reduceBNe, enc1, enc2, h, tO0, tO1, eO0, eO1, tOX, eOX]
    apply Exists.intro
    apply And.intro
    · first | exact (law14Right_ap c s) | exact (fun _ => (law14Right_ap c s)) | exact (fun h => ⟨h, (law14Right_ap c s)⟩) | exact (fun h => ⟨by simp_all, (law14Right_ap c s)⟩)
    (try simp only [rsAV, List.map_cons, List.map_nil, thenQ])
    refine hK21 _ ?_
    (try clear hK21)
    simp (maxSteps:=999999) (disch:=omega) only [av1, av2, av3, av4, eq_self, exists_const, forall_const, implies_true, storeOk, thenQ, PK.cond, PK.val, Nat.reduceAdd, Nat.reduceLT, Nat.reduceMul, reduceCtorEq, ↓reduceIte, Nat.reduceEqDiff, Nat.reduceLeDiff, Nat.reduceSub, Nat.reduceBEq, Nat.reduceBNe, Int.reduceLT, Int.reduceEq, Int.reduceAdd, Int.reduceToNat, Int.reduceLE, Int.reduceBEq, Int.reduceBNe, enc1, enc2, h, tO0, tO1, eO0, eO1, tOX, eOX]
    (repeat ((with_reducible refine And.intro ?_ ?_); (first | trivial | assumption | omega | (simp; done))))
    refine hK19 _ ?_
    (try clear hK19)
    refine at_cond _ rfl rfl (fun h22 => ?_) (fun h22 => ?_)
    · have r22 := h22
      (try simp only [dB2] at h22)
      simp at h22
    · have r22 := h22
      (try simp only [dB2] at h22)
      refine at_skip ?_
      (try simp only [thenQ, blockQ])
      refine hK18 _ ?_
      (try clear hK18)
      refine at_seqJ ?_
      apply Exists.intro
      refine And.intro ?_ ?_
      · skip
        refine at_draws [] (by kernel_rfl) ?_
        refine ag_pures (fuel := 7) [0, 1, 2, 4, 5, 6, 7, 9, 10, 11, 12] [It.mk (some 63) none (IK.p (PK.fAddr (Operand.tmp 3) 3 3)), It.mk (some 64) none (IK.p (PK.load (Operand.tmp 63) 33 true)), It.mk (some 65) none (IK.p (PK.bld (CV.st [CV.st [CV.ar IntKind.u8 32 (List.replicate 32 0), CV.pv (Value.int IntKind.i64 0)], CV.pv (Value.int IntKind.i64 0), CV.pv (Value.slice none 0 0)]) [(0, 33), (33, 1), (34, 1)] [(0, Operand.tmp 64)])), It.mk (some 67) none (IK.p (PK.fAddr (Operand.tmp 3) 1 1)), It.mk (some 68) none (IK.p (PK.load (Operand.tmp 67) 1 false)), It.mk (some 69) none (IK.p (PK.fAddr (Operand.tmp 4) 1 1)), It.mk (some 70) none (IK.p (PK.load (Operand.tmp 69) 1 false)), It.mk (some 72) none (IK.p (PK.fAddr (Operand.tmp 3) 2 2)), It.mk (some 73) none (IK.p (PK.load (Operand.tmp 72) 1 false)), It.mk (some 74) none (IK.p (PK.fAddr (Operand.tmp 4) 2 2)), It.mk (some 75) none (IK.p (PK.load (Operand.tmp 74) 1 false))] (by kernel_rfl) (by kernel_rfl) (by kernel_rfl) (by kernel_rfl) (hideZ_nil _ 0) (fun K24 hK24 => ?_)
        simp (maxSteps:=999999) (disch:=omega) only [av1, av2, av3, av4, eq_self, exists_const, forall_const, implies_true, storeOk, thenQ, PK.cond, PK.val, Nat.reduceAdd, Nat.reduceLT, Nat.reduceMul, reduceCtorEq, ↓reduceIte, Nat.reduceEqDiff, Nat.reduceLeDiff, Nat.reduceSub, Nat.reduceBEq, Nat.reduceBNe, Int.reduceLT, Int.reduceEq, Int.reduceAdd, Int.reduceToNat, Int.reduceLE, Int.reduceBEq, Int.reduceBNe, enc1, enc2, h, tO0, tO1, eO0, eO1, tOX, eOX]
        (repeat ((with_reducible refine And.intro ?_ ?_); (first | trivial | assumption | omega | (simp; done))))
        refine hK24 _ ?_
        (try clear hK24)
        refine ag_three (i := 3) (j := 8) (k := 16) (by kernel_rfl) ?_ ?_ ?_
        · refine agi (it := It.mk (some 66) none (IK.lit 35 [Operand.tmp 65])) (R' := [12, 11, 10, 9, 7, 6, 5, 4]) (by kernel_rfl) (.inl rfl) (by kernel_rfl) (fun K25 hK25 => ?_)
          simp (maxSteps:=999999) (disch:=omega) only [av1, av2, av3, av4, eq_self, exists_const, forall_const, implies_true, storeOk, thenQ, PK.cond, PK.val, Nat.reduceAdd, Nat.reduceLT, Nat.reduceMul, reduceCtorEq, ↓reduceIte, Nat.reduceEqDiff, Nat.reduceLeDiff, Nat.reduceSub, Nat.reduceBEq, Nat.reduceBNe, Int.reduceLT, Int.reduceEq, Int.reduceAdd, Int.reduceToNat, Int.reduceLE, Int.reduceBEq, Int.reduceBNe, enc1, enc2, h, tO0, tO1, eO0, eO1, tOX, eOX]
          (repeat ((with_reducible refine And.intro ?_ ?_); (first | trivial | assumption | omega | (simp; done))))
          refine hK25 _ ?_
          (try clear hK25)
          refine ag_two (i := 8) (j := 16) (by kernel_rfl) ?_ ?_
          · refine agi (it := It.mk (some 71) none (IK.call 23 [Operand.tmp 68, Operand.tmp 70])) (R' := [12, 11, 10, 9]) (by kernel_rfl) (.inl rfl) (by kernel_rfl) (fun K26 hK26 => ?_)
            simp (maxSteps:=999999) (disch:=omega) only [av1, av2, av3, av4, eq_self, exists_const, forall_const, implies_true, storeOk, thenQ, PK.cond, PK.val, Nat.reduceAdd, Nat.reduceLT, Nat.reduceMul, reduceCtorEq, ↓reduceIte, Nat.reduceEqDiff, Nat.reduceLeDiff, Nat.reduceSub, Nat.reduceBEq, Nat.reduceBNe, Int.reduceLT, Int.reduceEq, Int.reduceAdd, Int.reduceToNat, Int.reduceLE, Int.reduceBEq, Int.reduceBNe, enc1, enc2, h, tO0, tO1, eO0, eO1, tOX, eOX]
            apply Exists.intro
            apply And.intro
            · first | exact (lockTo_ap _ _) | exact (fun _ => (lockTo_ap _ _)) | exact (fun h => ⟨h, (lockTo_ap _ _)⟩) | exact (fun h => ⟨by simp_all, (lockTo_ap _ _)⟩)
            (try simp only [rsAV, List.map_cons, List.map_nil, thenQ])
            refine hK26 _ ?_
            (try clear hK26)
            refine ag_two (i := 13) (j := 16) (by kernel_rfl) ?_ ?_
            · refine agi (it := It.mk (some 76) none (IK.call 23 [Operand.tmp 73, Operand.tmp 75])) (R' := []) (by kernel_rfl) (.inl rfl) (by kernel_rfl) (fun K27 hK27 => ?_)
              simp (maxSteps:=999999) (disch:=omega) only [av1, av2, av3, av4, eq_self, exists_const, forall_const, implies_true, storeOk, thenQ, PK.cond, PK.val, Nat.reduceAdd, Nat.reduceLT, Nat.reduceMul, reduceCtorEq, ↓reduceIte, Nat.reduceEqDiff, Nat.reduceLeDiff, Nat.reduceSub, Nat.reduceBEq, Nat.reduceBNe, Int.reduceLT, Int.reduceEq, Int.reduceAdd, Int.reduceToNat, Int.reduceLE, Int.reduceBEq, Int.reduceBNe, enc1, enc2, h, tO0, tO1, eO0, eO1, tOX, eOX]
              apply Exists.intro
              apply And.intro
              · first | exact (lockTo_ap _ _) | exact (fun _ => (lockTo_ap _ _)) | exact (fun h => ⟨h, (lockTo_ap _ _)⟩) | exact (fun h => ⟨by simp_all, (lockTo_ap _ _)⟩)
              (try simp only [rsAV, List.map_cons, List.map_nil, thenQ])
              refine hK27 _ ?_
              (try clear hK27)
              refine ag_two (i := 14) (j := 16) (by kernel_rfl) ?_ ?_
              · refine agi (it := It.mk (some 77) none (IK.lit 2 [Operand.tmp 71, Operand.tmp 76])) (R' := []) (by kernel_rfl) (.inl rfl) (by kernel_rfl) (fun K28 hK28 => ?_)
                simp (maxSteps:=999999) (disch:=omega) only [av1, av2, av3, av4, eq_self, exists_const, forall_const, implies_true, storeOk, thenQ, PK.cond, PK.val, Nat.reduceAdd, Nat.reduceLT, Nat.reduceMul, reduceCtorEq, ↓reduceIte, Nat.reduceEqDiff, Nat.reduceLeDiff, Nat.reduceSub, Nat.reduceBEq, Nat.reduceBNe, Int.reduceLT, Int.reduceEq, Int.reduceAdd, Int.reduceToNat, Int.reduceLE, Int.reduceBEq, Int.reduceBNe, enc1, enc2, h, tO0, tO1, eO0, eO1, tOX, eOX]
                (repeat ((with_reducible refine And.intro ?_ ?_); (first | trivial | assumption | omega | (simp; done))))
                refine hK28 _ ?_
                (try clear hK28)
                refine ag_pures (fuel := 2) [15] [It.mk (some 78) none (IK.p (PK.bld (CV.st [CV.pv (Value.slice none 0 0), CV.pv (Value.slice none 0 0), CV.st [CV.pv (Value.int IntKind.i64 0), CV.pv (Value.int IntKind.i64 0), CV.pv (Value.int IntKind.i64 0), CV.pv (Value.int IntKind.i64 0), CV.ar IntKind.u8 32 (List.replicate 32 0), CV.pv (Value.slice none 0 0)], CV.pv (Value.slice none 0 0)]) [(0, 1), (1, 1), (2, 37), (39, 1)] [(0, Operand.tmp 66), (1, Operand.tmp 77)]))] (by kernel_rfl) (by kernel_rfl) (by kernel_rfl) (by kernel_rfl) (hideZ_nil _ 0) (fun K29 hK29 => ?_)
                simp (maxSteps:=999999) (disch:=omega) only [av1, av2, av3, av4, eq_self, exists_const, forall_const, implies_true, storeOk, thenQ, PK.cond, PK.val, Nat.reduceAdd, Nat.reduceLT, Nat.reduceMul, reduceCtorEq, ↓reduceIte, Nat.reduceEqDiff, Nat.reduceLeDiff, Nat.reduceSub, Nat.reduceBEq, Nat.reduceBNe, Int.reduceLT, Int.reduceEq, Int.reduceAdd, Int.reduceToNat, Int.reduceLE, Int.reduceBEq, Int.reduceBNe, enc1, enc2, h, tO0, tO1, eO0, eO1, tOX, eOX]
                (repeat ((with_reducible refine And.intro ?_ ?_); (first | trivial | assumption | omega | (simp; done))))
                refine hK29 _ ?_
                (try clear hK29)
                refine ag_one (i:=16) (by kernel_rfl) ?_
                refine agi (it := It.mk (some 11) none (IK.alloc (CV.st [CV.pv (Value.slice none 0 0), CV.pv (Value.slice none 0 0), CV.st [CV.pv (Value.int IntKind.i64 0), CV.pv (Value.int IntKind.i64 0), CV.pv (Value.int IntKind.i64 0), CV.pv (Value.int IntKind.i64 0), CV.ar IntKind.u8 32 (List.replicate 32 0), CV.pv (Value.slice none 0 0)], CV.pv (Value.slice none 0 0)]))) (R' := [15]) (by kernel_rfl) (.inl rfl) (by kernel_rfl) (fun K30 hK30 => ?_)
                simp (maxSteps:=999999) (disch:=omega) only [av1, av2, av3, av4, eq_self, exists_const, forall_const, implies_true, storeOk, thenQ, PK.cond, PK.val, Nat.reduceAdd, Nat.reduceLT, Nat.reduceMul, reduceCtorEq, ↓reduceIte, Nat.reduceEqDiff, Nat.reduceLeDiff, Nat.reduceSub, Nat.reduceBEq, Nat.reduceBNe, Int.reduceLT, Int.reduceEq, Int.reduceAdd, Int.reduceToNat, Int.reduceLE, Int.reduceBEq, Int.reduceBNe, enc1, enc2, h, tO0, tO1, eO0, eO1, tOX, eOX]
                (repeat ((with_reducible refine And.intro ?_ ?_); (first | trivial | assumption | omega | (simp; done))))
                refine hK30 _ ?_
                (try clear hK30)
                refine ag_one (i:=17) (by kernel_rfl) ?_
                refine agi (it := It.mk none none (IK.store (Operand.tmp 11) (Operand.tmp 78) 40)) (R' := []) (by kernel_rfl) (.inr (by kernel_rfl)) (by kernel_rfl) (fun K31 hK31 => ?_)
                simp (maxSteps:=999999) (disch:=omega) only [av1, av2, av3, av4, eq_self, exists_const, forall_const, implies_true, storeOk, thenQ, PK.cond, PK.val, Nat.reduceAdd, Nat.reduceLT, Nat.reduceMul, reduceCtorEq, ↓reduceIte, Nat.reduceEqDiff, Nat.reduceLeDiff, Nat.reduceSub, Nat.reduceBEq, Nat.reduceBNe, Int.reduceLT, Int.reduceEq, Int.reduceAdd, Int.reduceToNat, Int.reduceLE, Int.reduceBEq, Int.reduceBNe, enc1, enc2, h, tO0, tO1, eO0, eO1, tOX, eOX]
                (repeat ((with_reducible refine And.intro ?_ ?_); (first | trivial | assumption | omega | (simp; done))))
                refine hK31 _ ?_
                (try clear hK31)
                refine ag_done (by kernel_rfl) ?_
                (try simp only [thenQ])
                exact Le.refl
              · refine agi (it := It.mk (some 11) none (IK.alloc (CV.st [CV.pv (Value.slice none 0 0), CV.pv (Value.slice none 0 0), CV.st [CV.pv (Value.int IntKind.i64 0), CV.pv (Value.int IntKind.i64 0), CV.pv (Value.int IntKind.i64 0), CV.pv (Value.int IntKind.i64 0), CV.ar IntKind.u8 32 (List.replicate 32 0), CV.pv (Value.slice none 0 0)], CV.pv (Value.slice none 0 0)]))) (R' := []) (by kernel_rfl) (.inl rfl) (by kernel_rfl) (fun K32 hK32 => ?_)
                simp (maxSteps:=999999) (disch:=omega) only [av1, av2, av3, av4, eq_self, exists_const, forall_const, implies_true, storeOk, thenQ, PK.cond, PK.val, Nat.reduceAdd, Nat.reduceLT, Nat.reduceMul, reduceCtorEq, ↓reduceIte, Nat.reduceEqDiff, Nat.reduceLeDiff, Nat.reduceSub, Nat.reduceBEq, Nat.reduceBNe, Int.reduceLT, Int.reduceEq, Int.reduceAdd, Int.reduceToNat, Int.reduceLE, Int.reduceBEq, Int.reduceBNe, enc1, enc2, h, tO0, tO1, eO0, eO1, tOX, eOX]
                (repeat ((with_reducible refine And.intro ?_ ?_); (first | trivial | assumption | omega | (simp; done))))
                refine hK32 _ ?_
                (try clear hK32)
                refine ag_one (i:=14) (by kernel_rfl) ?_
                refine agi (it := It.mk (some 77) none (IK.lit 2 [Operand.tmp 71, Operand.tmp 76])) (R' := []) (by kernel_rfl) (.inl rfl) (by kernel_rfl) (fun K33 hK33 => ?_)
                simp (maxSteps:=999999) (disch:=omega) only [av1, av2, av3, av4, eq_self, exists_const, forall_const, implies_true, storeOk, thenQ, PK.cond, PK.val, Nat.reduceAdd, Nat.reduceLT, Nat.reduceMul, reduceCtorEq, ↓reduceIte, Nat.reduceEqDiff, Nat.reduceLeDiff, Nat.reduceSub, Nat.reduceBEq, Nat.reduceBNe, Int.reduceLT, Int.reduceEq, Int.reduceAdd, Int.reduceToNat, Int.reduceLE, Int.reduceBEq, Int.reduceBNe, enc1, enc2, h, tO0, tO1, eO0, eO1, tOX, eOX]
                (repeat ((with_reducible refine And.intro ?_ ?_); (first | trivial | assumption | omega | (simp; done))))
                refine hK33 _ ?_
                (try clear hK33)
                refine ag_pures (fuel := 1) [15] [It.mk (some 78) none (IK.p (PK.bld (CV.st [CV.pv (Value.slice none 0 0), CV.pv (Value.slice none 0 0), CV.st [CV.pv (Value.int IntKind.i64 0), CV.pv (Value.int IntKind.i64 0), CV.pv (Value.int IntKind.i64 0), CV.pv (Value.int IntKind.i64 0), CV.ar IntKind.u8 32 (List.replicate 32 0), CV.pv (Value.slice none 0 0)], CV.pv (Value.slice none 0 0)]) [(0, 1), (1, 1), (2, 37), (39, 1)] [(0, Operand.tmp 66), (1, Operand.tmp 77)]))] (by kernel_rfl) (by kernel_rfl) (by kernel_rfl) (by kernel_rfl) (hideZ_nil _ 0) (fun K34 hK34 => ?_)
                simp (maxSteps:=999999) (disch:=omega) only [av1, av2, av3, av4, eq_self, exists_const, forall_const, implies_true, storeOk, thenQ, PK.cond, PK.val, Nat.reduceAdd, Nat.reduceLT, Nat.reduceMul, reduceCtorEq, ↓reduceIte, Nat.reduceEqDiff, Nat.reduceLeDiff, Nat.reduceSub, Nat.reduceBEq, Nat.reduceBNe, Int.reduceLT, Int.reduceEq, Int.reduceAdd, Int.reduceToNat, Int.reduceLE, Int.reduceBEq, Int.reduceBNe, enc1, enc2, h, tO0, tO1, eO0, eO1, tOX, eOX]
                (repeat ((with_reducible refine And.intro ?_ ?_); (first | trivial | assumption | omega | (simp; done))))
                refine hK34 _ ?_
                (try clear hK34)
                refine ag_one (i:=17) (by kernel_rfl) ?_
                refine agi (it := It.mk none none (IK.store (Operand.tmp 11) (Operand.tmp 78) 40)) (R' := []) (by kernel_rfl) (.inr (by kernel_rfl)) (by kernel_rfl) (fun K35 hK35 => ?_)
                simp (maxSteps:=999999) (disch:=omega) only [av1, av2, av3, av4, eq_self, exists_const, forall_const, implies_true, storeOk, thenQ, PK.cond, PK.val, Nat.reduceAdd, Nat.reduceLT, Nat.reduceMul, reduceCtorEq, ↓reduceIte, Nat.reduceEqDiff, Nat.reduceLeDiff, Nat.reduceSub, Nat.reduceBEq, Nat.reduceBNe, Int.reduceLT, Int.reduceEq, Int.reduceAdd, Int.reduceToNat, Int.reduceLE, Int.reduceBEq, Int.reduceBNe, enc1, enc2, h, tO0, tO1, eO0, eO1, tOX, eOX]
                (repeat ((with_reducible refine And.intro ?_ ?_); (first | trivial | assumption | omega | (simp; done))))
                refine hK35 _ ?_
                (try clear hK35)
                refine ag_done (by kernel_rfl) ?_
                (try simp only [thenQ])
                exact Le.sameL rfl (by repeat (first | exact SubL.nil | refine SubL.cons rfl ?_))
            · refine agi (it := It.mk (some 11) none (IK.alloc (CV.st [CV.pv (Value.slice none 0 0), CV.pv (Value.slice none 0 0), CV.st [CV.pv (Value.int IntKind.i64 0), CV.pv (Value.int IntKind.i64 0), CV.pv (Value.int IntKind.i64 0), CV.pv (Value.int IntKind.i64 0), CV.ar IntKind.u8 32 (List.replicate 32 0), CV.pv (Value.slice none 0 0)], CV.pv (Value.slice none 0 0)]))) (R' := [12, 11, 10, 9]) (by kernel_rfl) (.inl rfl) (by kernel_rfl) (fun K36 hK36 => ?_)
              simp (maxSteps:=999999) (disch:=omega) only [av1, av2, av3, av4, eq_self, exists_const, forall_const, implies_true, storeOk, thenQ, PK.cond, PK.val, Nat.reduceAdd, Nat.reduceLT, Nat.reduceMul, reduceCtorEq, ↓reduceIte, Nat.reduceEqDiff, Nat.reduceLeDiff, Nat.reduceSub, Nat.reduceBEq, Nat.reduceBNe, Int.reduceLT, Int.reduceEq, Int.reduceAdd, Int.reduceToNat, Int.reduceLE, Int.reduceBEq, Int.reduceBNe, enc1, enc2, h, tO0, tO1, eO0, eO1, tOX, eOX]
              (repeat ((with_reducible refine And.intro ?_ ?_); (first | trivial | assumption | omega | (simp; done))))
              refine hK36 _ ?_
              (try clear hK36)
              refine ag_one (i:=13) (by kernel_rfl) ?_
              refine agi (it := It.mk (some 76) none (IK.call 23 [Operand.tmp 73, Operand.tmp 75])) (R' := []) (by kernel_rfl) (.inl rfl) (by kernel_rfl) (fun K37 hK37 => ?_)
              simp (maxSteps:=999999) (disch:=omega) only [av1, av2, av3, av4, eq_self, exists_const, forall_const, implies_true, storeOk, thenQ, PK.cond, PK.val, Nat.reduceAdd, Nat.reduceLT, Nat.reduceMul, reduceCtorEq, ↓reduceIte, Nat.reduceEqDiff, Nat.reduceLeDiff, Nat.reduceSub, Nat.reduceBEq, Nat.reduceBNe, Int.reduceLT, Int.reduceEq, Int.reduceAdd, Int.reduceToNat, Int.reduceLE, Int.reduceBEq, Int.reduceBNe, enc1, enc2, h, tO0, tO1, eO0, eO1, tOX, eOX]
              apply Exists.intro
              apply And.intro
              · first | exact (lockTo_ap _ _) | exact (fun _ => (lockTo_ap _ _)) | exact (fun h => ⟨h, (lockTo_ap _ _)⟩) | exact (fun h => ⟨by simp_all, (lockTo_ap _ _)⟩)
              (try simp only [rsAV, List.map_cons, List.map_nil, thenQ])
              refine hK37 _ ?_
              (try clear hK37)
              refine ag_one (i:=14) (by kernel_rfl) ?_
              refine agi (it := It.mk (some 77) none (IK.lit 2 [Operand.tmp 71, Operand.tmp 76])) (R' := []) (by kernel_rfl) (.inl rfl) (by kernel_rfl) (fun K38 hK38 => ?_)
              simp (maxSteps:=999999) (disch:=omega) only [av1, av2, av3, av4, eq_self, exists_const, forall_const, implies_true, storeOk, thenQ, PK.cond, PK.val, Nat.reduceAdd, Nat.reduceLT, Nat.reduceMul, reduceCtorEq, ↓reduceIte, Nat.reduceEqDiff, Nat.reduceLeDiff, Nat.reduceSub, Nat.reduceBEq, Nat.reduceBNe, Int.reduceLT, Int.reduceEq, Int.reduceAdd, Int.reduceToNat, Int.reduceLE, Int.reduceBEq, Int.reduceBNe, enc1, enc2, h, tO0, tO1, eO0, eO1, tOX, eOX]
              (repeat ((with_reducible refine And.intro ?_ ?_); (first | trivial | assumption | omega | (simp; done))))
              refine hK38 _ ?_
              (try clear hK38)
              refine ag_pures (fuel := 1) [15] [It.mk (some 78) none (IK.p (PK.bld (CV.st [CV.pv (Value.slice none 0 0), CV.pv (Value.slice none 0 0), CV.st [CV.pv (Value.int IntKind.i64 0), CV.pv (Value.int IntKind.i64 0), CV.pv (Value.int IntKind.i64 0), CV.pv (Value.int IntKind.i64 0), CV.ar IntKind.u8 32 (List.replicate 32 0), CV.pv (Value.slice none 0 0)], CV.pv (Value.slice none 0 0)]) [(0, 1), (1, 1), (2, 37), (39, 1)] [(0, Operand.tmp 66), (1, Operand.tmp 77)]))] (by kernel_rfl) (by kernel_rfl) (by kernel_rfl) (by kernel_rfl) (hideZ_nil _ 0) (fun K39 hK39 => ?_)
              simp (maxSteps:=999999) (disch:=omega) only [av1, av2, av3, av4, eq_self, exists_const, forall_const, implies_true, storeOk, thenQ, PK.cond, PK.val, Nat.reduceAdd, Nat.reduceLT, Nat.reduceMul, reduceCtorEq, ↓reduceIte, Nat.reduceEqDiff, Nat.reduceLeDiff, Nat.reduceSub, Nat.reduceBEq, Nat.reduceBNe, Int.reduceLT, Int.reduceEq, Int.reduceAdd, Int.reduceToNat, Int.reduceLE, Int.reduceBEq, Int.reduceBNe, enc1, enc2, h, tO0, tO1, eO0, eO1, tOX, eOX]
              (repeat ((with_reducible refine And.intro ?_ ?_); (first | trivial | assumption | omega | (simp; done))))
              refine hK39 _ ?_
              (try clear hK39)
              refine ag_one (i:=17) (by kernel_rfl) ?_
              refine agi (it := It.mk none none (IK.store (Operand.tmp 11) (Operand.tmp 78) 40)) (R' := []) (by kernel_rfl) (.inr (by kernel_rfl)) (by kernel_rfl) (fun K40 hK40 => ?_)
              simp (maxSteps:=999999) (disch:=omega) only [av1, av2, av3, av4, eq_self, exists_const, forall_const, implies_true, storeOk, thenQ, PK.cond, PK.val, Nat.reduceAdd, Nat.reduceLT, Nat.reduceMul, reduceCtorEq, ↓reduceIte, Nat.reduceEqDiff, Nat.reduceLeDiff, Nat.reduceSub, Nat.reduceBEq, Nat.reduceBNe, Int.reduceLT, Int.reduceEq, Int.reduceAdd, Int.reduceToNat, Int.reduceLE, Int.reduceBEq, Int.reduceBNe, enc1, enc2, h, tO0, tO1, eO0, eO1, tOX, eOX]
              (repeat ((with_reducible refine And.intro ?_ ?_); (first | trivial | assumption | omega | (simp; done))))
              refine hK40 _ ?_
              (try clear hK40)
              refine ag_done (by kernel_rfl) ?_
              (try simp only [thenQ])
              exact Le.sameL rfl (by repeat (first | exact SubL.nil | refine SubL.cons rfl ?_))
          · refine agi (it := It.mk (some 11) none (IK.alloc (CV.st [CV.pv (Value.slice none 0 0), CV.pv (Value.slice none 0 0), CV.st [CV.pv (Value.int IntKind.i64 0), CV.pv (Value.int IntKind.i64 0), CV.pv (Value.int IntKind.i64 0), CV.pv (Value.int IntKind.i64 0), CV.ar IntKind.u8 32 (List.replicate 32 0), CV.pv (Value.slice none 0 0)], CV.pv (Value.slice none 0 0)]))) (R' := [12, 11, 10, 9, 7, 6, 5, 4]) (by kernel_rfl) (.inl rfl) (by kernel_rfl) (fun K41 hK41 => ?_)
            simp (maxSteps:=999999) (disch:=omega) only [av1, av2, av3, av4, eq_self, exists_const, forall_const, implies_true, storeOk, thenQ, PK.cond, PK.val, Nat.reduceAdd, Nat.reduceLT, Nat.reduceMul, reduceCtorEq, ↓reduceIte, Nat.reduceEqDiff, Nat.reduceLeDiff, Nat.reduceSub, Nat.reduceBEq, Nat.reduceBNe, Int.reduceLT, Int.reduceEq, Int.reduceAdd, Int.reduceToNat, Int.reduceLE, Int.reduceBEq, Int.reduceBNe, enc1, enc2, h, tO0, tO1, eO0, eO1, tOX, eOX]
            (repeat ((with_reducible refine And.intro ?_ ?_); (first | trivial | assumption | omega | (simp; done))))
            refine hK41 _ ?_
            (try clear hK41)
            refine ag_one (i:=8) (by kernel_rfl) ?_
            refine agi (it := It.mk (some 71) none (IK.call 23 [Operand.tmp 68, Operand.tmp 70])) (R' := [12, 11, 10, 9]) (by kernel_rfl) (.inl rfl) (by kernel_rfl) (fun K42 hK42 => ?_)
            simp (maxSteps:=999999) (disch:=omega) only [av1, av2, av3, av4, eq_self, exists_const, forall_const, implies_true, storeOk, thenQ, PK.cond, PK.val, Nat.reduceAdd, Nat.reduceLT, Nat.reduceMul, reduceCtorEq, ↓reduceIte, Nat.reduceEqDiff, Nat.reduceLeDiff, Nat.reduceSub, Nat.reduceBEq, Nat.reduceBNe, Int.reduceLT, Int.reduceEq, Int.reduceAdd, Int.reduceToNat, Int.reduceLE, Int.reduceBEq, Int.reduceBNe, enc1, enc2, h, tO0, tO1, eO0, eO1, tOX, eOX]
            apply Exists.intro
            apply And.intro
            · first | exact (lockTo_ap _ _) | exact (fun _ => (lockTo_ap _ _)) | exact (fun h => ⟨h, (lockTo_ap _ _)⟩) | exact (fun h => ⟨by simp_all, (lockTo_ap _ _)⟩)
            (try simp only [rsAV, List.map_cons, List.map_nil, thenQ])
            refine hK42 _ ?_
            (try clear hK42)
            refine ag_one (i:=13) (by kernel_rfl) ?_
            refine agi (it := It.mk (some 76) none (IK.call 23 [Operand.tmp 73, Operand.tmp 75])) (R' := []) (by kernel_rfl) (.inl rfl) (by kernel_rfl) (fun K43 hK43 => ?_)
            simp (maxSteps:=999999) (disch:=omega) only [av1, av2, av3, av4, eq_self, exists_const, forall_const, implies_true, storeOk, thenQ, PK.cond, PK.val, Nat.reduceAdd, Nat.reduceLT, Nat.reduceMul, reduceCtorEq, ↓reduceIte, Nat.reduceEqDiff, Nat.reduceLeDiff, Nat.reduceSub, Nat.reduceBEq, Nat.reduceBNe, Int.reduceLT, Int.reduceEq, Int.reduceAdd, Int.reduceToNat, Int.reduceLE, Int.reduceBEq, Int.reduceBNe, enc1, enc2, h, tO0, tO1, eO0, eO1, tOX, eOX]
            apply Exists.intro
            apply And.intro
            · first | exact (lockTo_ap _ _) | exact (fun _ => (lockTo_ap _ _)) | exact (fun h => ⟨h, (lockTo_ap _ _)⟩) | exact (fun h => ⟨by simp_all, (lockTo_ap _ _)⟩)
            (try simp only [rsAV, List.map_cons, List.map_nil, thenQ])
            refine hK43 _ ?_
            (try clear hK43)
            refine ag_one (i:=14) (by kernel_rfl) ?_
            refine agi (it := It.mk (some 77) none (IK.lit 2 [Operand.tmp 71, Operand.tmp 76])) (R' := []) (by kernel_rfl) (.inl rfl) (by kernel_rfl) (fun K44 hK44 => ?_)
            simp (maxSteps:=999999) (disch:=omega) only [av1, av2, av3, av4, eq_self, exists_const, forall_const, implies_true, storeOk, thenQ, PK.cond, PK.val, Nat.reduceAdd, Nat.reduceLT, Nat.reduceMul, reduceCtorEq, ↓reduceIte, Nat.reduceEqDiff, Nat.reduceLeDiff, Nat.reduceSub, Nat.reduceBEq, Nat.reduceBNe, Int.reduceLT, Int.reduceEq, Int.reduceAdd, Int.reduceToNat, Int.reduceLE, Int.reduceBEq, Int.reduceBNe, enc1, enc2, h, tO0, tO1, eO0, eO1, tOX, eOX]
            (repeat ((with_reducible refine And.intro ?_ ?_); (first | trivial | assumption | omega | (simp; done))))
            refine hK44 _ ?_
            (try clear hK44)
            refine ag_pures (fuel := 1) [15] [It.mk (some 78) none (IK.p (PK.bld (CV.st [CV.pv (Value.slice none 0 0), CV.pv (Value.slice none 0 0), CV.st [CV.pv (Value.int IntKind.i64 0), CV.pv (Value.int IntKind.i64 0), CV.pv (Value.int IntKind.i64 0), CV.pv (Value.int IntKind.i64 0), CV.ar IntKind.u8 32 (List.replicate 32 0), CV.pv (Value.slice none 0 0)], CV.pv (Value.slice none 0 0)]) [(0, 1), (1, 1), (2, 37), (39, 1)] [(0, Operand.tmp 66), (1, Operand.tmp 77)]))] (by kernel_rfl) (by kernel_rfl) (by kernel_rfl) (by kernel_rfl) (hideZ_nil _ 0) (fun K45 hK45 => ?_)
            simp (maxSteps:=999999) (disch:=omega) only [av1, av2, av3, av4, eq_self, exists_const, forall_const, implies_true, storeOk, thenQ, PK.cond, PK.val, Nat.reduceAdd, Nat.reduceLT, Nat.reduceMul, reduceCtorEq, ↓reduceIte, Nat.reduceEqDiff, Nat.reduceLeDiff, Nat.reduceSub, Nat.reduceBEq, Nat.reduceBNe, Int.reduceLT, Int.reduceEq, Int.reduceAdd, Int.reduceToNat, Int.reduceLE, Int.reduceBEq, Int.reduceBNe, enc1, enc2, h, tO0, tO1, eO0, eO1, tOX, eOX]
            (repeat ((with_reducible refine And.intro ?_ ?_); (first | trivial | assumption | omega | (simp; done))))
            refine hK45 _ ?_
            (try clear hK45)
            refine ag_one (i:=17) (by kernel_rfl) ?_
            refine agi (it := It.mk none none (IK.store (Operand.tmp 11) (Operand.tmp 78) 40)) (R' := []) (by kernel_rfl) (.inr (by kernel_rfl)) (by kernel_rfl) (fun K46 hK46 => ?_)
            simp (maxSteps:=999999) (disch:=omega) only [av1, av2, av3, av4, eq_self, exists_const, forall_const, implies_true, storeOk, thenQ, PK.cond, PK.val, Nat.reduceAdd, Nat.reduceLT, Nat.reduceMul, reduceCtorEq, ↓reduceIte, Nat.reduceEqDiff, Nat.reduceLeDiff, Nat.reduceSub, Nat.reduceBEq, Nat.reduceBNe, Int.reduceLT, Int.reduceEq, Int.reduceAdd, Int.reduceToNat, Int.reduceLE, Int.reduceBEq, Int.reduceBNe, enc1, enc2, h, tO0, tO1, eO0, eO1, tOX, eOX]
            (repeat ((with_reducible refine And.intro ?_ ?_); (first | trivial | assumption | omega | (simp; done))))
            refine hK46 _ ?_
            (try clear hK46)
            refine ag_done (by kernel_rfl) ?_
            (try simp only [thenQ])
            exact Le.sameL rfl (by repeat (first | exact SubL.nil | refine SubL.cons rfl ?_))
        · refine agi (it := It.mk (some 71) none (IK.call 23 [Operand.tmp 68, Operand.tmp 70])) (R' := [12, 11, 10, 9, 2, 1, 0]) (by kernel_rfl) (.inl rfl) (by kernel_rfl) (fun K47 hK47 => ?_)
          simp (maxSteps:=999999) (disch:=omega) only [av1, av2, av3, av4, eq_self, exists_const, forall_const, implies_true, storeOk, thenQ, PK.cond, PK.val, Nat.reduceAdd, Nat.reduceLT, Nat.reduceMul, reduceCtorEq, ↓reduceIte, Nat.reduceEqDiff, Nat.reduceLeDiff, Nat.reduceSub, Nat.reduceBEq, Nat.reduceBNe, Int.reduceLT, Int.reduceEq, Int.reduceAdd, Int.reduceToNat, Int.reduceLE, Int.reduceBEq, Int.reduceBNe, enc1, enc2, h, tO0, tO1, eO0, eO1, tOX, eOX]
          apply Exists.intro
          apply And.intro
          · first | exact (lockTo_ap _ _) | exact (fun _ => (lockTo_ap _ _)) | exact (fun h => ⟨h, (lockTo_ap _ _)⟩) | exact (fun h => ⟨by simp_all, (lockTo_ap _ _)⟩)
          (try simp only [rsAV, List.map_cons, List.map_nil, thenQ])
          refine hK47 _ ?_
          (try clear hK47)
          refine ag_three (i := 3) (j := 13) (k := 16) (by kernel_rfl) ?_ ?_ ?_
          · refine agi (it := It.mk (some 66) none (IK.lit 35 [Operand.tmp 65])) (R' := [12, 11, 10, 9]) (by kernel_rfl) (.inl rfl) (by kernel_rfl) (fun K48 hK48 => ?_)
            simp (maxSteps:=999999) (disch:=omega) only [av1, av2, av3, av4, eq_self, exists_const, forall_const, implies_true, storeOk, thenQ, PK.cond, PK.val, Nat.reduceAdd, Nat.reduceLT, Nat.reduceMul, reduceCtorEq, ↓reduceIte, Nat.reduceEqDiff, Nat.reduceLeDiff, Nat.reduceSub, Nat.reduceBEq, Nat.reduceBNe, Int.reduceLT, Int.reduceEq, Int.reduceAdd, Int.reduceToNat, Int.reduceLE, Int.reduceBEq, Int.reduceBNe, enc1, enc2, h, tO0, tO1, eO0, eO1, tOX, eOX]
            (repeat ((with_reducible refine And.intro ?_ ?_); (first | trivial | assumption | omega | (simp; done))))
            refine hK48 _ ?_
            (try clear hK48)
            refine ag_two (i := 13) (j := 16) (by kernel_rfl) ?_ ?_
            · refine agi (it := It.mk (some 76) none (IK.call 23 [Operand.tmp 73, Operand.tmp 75])) (R' := []) (by kernel_rfl) (.inl rfl) (by kernel_rfl) (fun K49 hK49 => ?_)
              simp (maxSteps:=999999) (disch:=omega) only [av1, av2, av3, av4, eq_self, exists_const, forall_const, implies_true, storeOk, thenQ, PK.cond, PK.val, Nat.reduceAdd, Nat.reduceLT, Nat.reduceMul, reduceCtorEq, ↓reduceIte, Nat.reduceEqDiff, Nat.reduceLeDiff, Nat.reduceSub, Nat.reduceBEq, Nat.reduceBNe, Int.reduceLT, Int.reduceEq, Int.reduceAdd, Int.reduceToNat, Int.reduceLE, Int.reduceBEq, Int.reduceBNe, enc1, enc2, h, tO0, tO1, eO0, eO1, tOX, eOX]
              apply Exists.intro
              apply And.intro
              · first | exact (lockTo_ap _ _) | exact (fun _ => (lockTo_ap _ _)) | exact (fun h => ⟨h, (lockTo_ap _ _)⟩) | exact (fun h => ⟨by simp_all, (lockTo_ap _ _)⟩)
              (try simp only [rsAV, List.map_cons, List.map_nil, thenQ])
              refine hK49 _ ?_
              (try clear hK49)
              refine ag_two (i := 14) (j := 16) (by kernel_rfl) ?_ ?_
              · refine agi (it := It.mk (some 77) none (IK.lit 2 [Operand.tmp 71, Operand.tmp 76])) (R' := []) (by kernel_rfl) (.inl rfl) (by kernel_rfl) (fun K50 hK50 => ?_)
                simp (maxSteps:=999999) (disch:=omega) only [av1, av2, av3, av4, eq_self, exists_const, forall_const, implies_true, storeOk, thenQ, PK.cond, PK.val, Nat.reduceAdd, Nat.reduceLT, Nat.reduceMul, reduceCtorEq, ↓reduceIte, Nat.reduceEqDiff, Nat.reduceLeDiff, Nat.reduceSub, Nat.reduceBEq, Nat.reduceBNe, Int.reduceLT, Int.reduceEq, Int.reduceAdd, Int.reduceToNat, Int.reduceLE, Int.reduceBEq, Int.reduceBNe, enc1, enc2, h, tO0, tO1, eO0, eO1, tOX, eOX]
                (repeat ((with_reducible refine And.intro ?_ ?_); (first | trivial | assumption | omega | (simp; done))))
                refine hK50 _ ?_
                (try clear hK50)
                refine ag_pures (fuel := 2) [15] [It.mk (some 78) none (IK.p (PK.bld (CV.st [CV.pv (Value.slice none 0 0), CV.pv (Value.slice none 0 0), CV.st [CV.pv (Value.int IntKind.i64 0), CV.pv (Value.int IntKind.i64 0), CV.pv (Value.int IntKind.i64 0), CV.pv (Value.int IntKind.i64 0), CV.ar IntKind.u8 32 (List.replicate 32 0), CV.pv (Value.slice none 0 0)], CV.pv (Value.slice none 0 0)]) [(0, 1), (1, 1), (2, 37), (39, 1)] [(0, Operand.tmp 66), (1, Operand.tmp 77)]))] (by kernel_rfl) (by kernel_rfl) (by kernel_rfl) (by kernel_rfl) (hideZ_nil _ 0) (fun K51 hK51 => ?_)
                simp (maxSteps:=999999) (disch:=omega) only [av1, av2, av3, av4, eq_self, exists_const, forall_const, implies_true, storeOk, thenQ, PK.cond, PK.val, Nat.reduceAdd, Nat.reduceLT, Nat.reduceMul, reduceCtorEq, ↓reduceIte, Nat.reduceEqDiff, Nat.reduceLeDiff, Nat.reduceSub, Nat.reduceBEq, Nat.reduceBNe, Int.reduceLT, Int.reduceEq, Int.reduceAdd, Int.reduceToNat, Int.reduceLE, Int.reduceBEq, Int.reduceBNe, enc1, enc2, h, tO0, tO1, eO0, eO1, tOX, eOX]
                (repeat ((with_reducible refine And.intro ?_ ?_); (first | trivial | assumption | omega | (simp; done))))
                refine hK51 _ ?_
                (try clear hK51)
                refine ag_one (i:=16) (by kernel_rfl) ?_
                refine agi (it := It.mk (some 11) none (IK.alloc (CV.st [CV.pv (Value.slice none 0 0), CV.pv (Value.slice none 0 0), CV.st [CV.pv (Value.int IntKind.i64 0), CV.pv (Value.int IntKind.i64 0), CV.pv (Value.int IntKind.i64 0), CV.pv (Value.int IntKind.i64 0), CV.ar IntKind.u8 32 (List.replicate 32 0), CV.pv (Value.slice none 0 0)], CV.pv (Value.slice none 0 0)]))) (R' := [15]) (by kernel_rfl) (.inl rfl) (by kernel_rfl) (fun K52 hK52 => ?_)
                simp (maxSteps:=999999) (disch:=omega) only [av1, av2, av3, av4, eq_self, exists_const, forall_const, implies_true, storeOk, thenQ, PK.cond, PK.val, Nat.reduceAdd, Nat.reduceLT, Nat.reduceMul, reduceCtorEq, ↓reduceIte, Nat.reduceEqDiff, Nat.reduceLeDiff, Nat.reduceSub, Nat.reduceBEq, Nat.reduceBNe, Int.reduceLT, Int.reduceEq, Int.reduceAdd, Int.reduceToNat, Int.reduceLE, Int.reduceBEq, Int.reduceBNe, enc1, enc2, h, tO0, tO1, eO0, eO1, tOX, eOX]
                (repeat ((with_reducible refine And.intro ?_ ?_); (first | trivial | assumption | omega | (simp; done))))
                refine hK52 _ ?_
                (try clear hK52)
                refine ag_one (i:=17) (by kernel_rfl) ?_
                refine agi (it := It.mk none none (IK.store (Operand.tmp 11) (Operand.tmp 78) 40)) (R' := []) (by kernel_rfl) (.inr (by kernel_rfl)) (by kernel_rfl) (fun K53 hK53 => ?_)
                simp (maxSteps:=999999) (disch:=omega) only [av1, av2, av3, av4, eq_self, exists_const, forall_const, implies_true, storeOk, thenQ, PK.cond, PK.val, Nat.reduceAdd, Nat.reduceLT, Nat.reduceMul, reduceCtorEq, ↓reduceIte, Nat.reduceEqDiff, Nat.reduceLeDiff, Nat.reduceSub, Nat.reduceBEq, Nat.reduceBNe, Int.reduceLT, Int.reduceEq, Int.reduceAdd, Int.reduceToNat, Int.reduceLE, Int.reduceBEq, Int.reduceBNe, enc1, enc2, h, tO0, tO1, eO0, eO1, tOX, eOX]
                (repeat ((with_reducible refine And.intro ?_ ?_); (first | trivial | assumption | omega | (simp; done))))
                refine hK53 _ ?_
                (try clear hK53)
                refine ag_done (by kernel_rfl) ?_
                (try simp only [thenQ])
                exact Le.sameL rfl (by repeat (first | exact SubL.nil | refine SubL.cons rfl ?_))
              · refine agi (it := It.mk (some 11) none (IK.alloc (CV.st [CV.pv (Value.slice none 0 0), CV.pv (Value.slice none 0 0), CV.st [CV.pv (Value.int IntKind.i64 0), CV.pv (Value.int IntKind.i64 0), CV.pv (Value.int IntKind.i64 0), CV.pv (Value.int IntKind.i64 0), CV.ar IntKind.u8 32 (List.replicate 32 0), CV.pv (Value.slice none 0 0)], CV.pv (Value.slice none 0 0)]))) (R' := []) (by kernel_rfl) (.inl rfl) (by kernel_rfl) (fun K54 hK54 => ?_)
                simp (maxSteps:=999999) (disch:=omega) only [av1, av2, av3, av4, eq_self, exists_const, forall_const, implies_true, storeOk, thenQ, PK.cond, PK.val, Nat.reduceAdd, Nat.reduceLT, Nat.reduceMul, reduceCtorEq, ↓reduceIte, Nat.reduceEqDiff, Nat.reduceLeDiff, Nat.reduceSub, Nat.reduceBEq, Nat.reduceBNe, Int.reduceLT, Int.reduceEq, Int.reduceAdd, Int.reduceToNat, Int.reduceLE, Int.reduceBEq, Int.reduceBNe, enc1, enc2, h, tO0, tO1, eO0, eO1, tOX, eOX]
                (repeat ((with_reducible refine And.intro ?_ ?_); (first | trivial | assumption | omega | (simp; done))))
                refine hK54 _ ?_
                (try clear hK54)
                refine ag_one (i:=14) (by kernel_rfl) ?_
                refine agi (it := It.mk (some 77) none (IK.lit 2 [Operand.tmp 71, Operand.tmp 76])) (R' := []) (by kernel_rfl) (.inl rfl) (by kernel_rfl) (fun K55 hK55 => ?_)
                simp (maxSteps:=999999) (disch:=omega) only [av1, av2, av3, av4, eq_self, exists_const, forall_const, implies_true, storeOk, thenQ, PK.cond, PK.val, Nat.reduceAdd, Nat.reduceLT, Nat.reduceMul, reduceCtorEq, ↓reduceIte, Nat.reduceEqDiff, Nat.reduceLeDiff, Nat.reduceSub, Nat.reduceBEq, Nat.reduceBNe, Int.reduceLT, Int.reduceEq, Int.reduceAdd, Int.reduceToNat, Int.reduceLE, Int.reduceBEq, Int.reduceBNe, enc1, enc2, h, tO0, tO1, eO0, eO1, tOX, eOX]
                (repeat ((with_reducible refine And.intro ?_ ?_); (first | trivial | assumption | omega | (simp; done))))
                refine hK55 _ ?_
                (try clear hK55)
                refine ag_pures (fuel := 1) [15] [It.mk (some 78) none (IK.p (PK.bld (CV.st [CV.pv (Value.slice none 0 0), CV.pv (Value.slice none 0 0), CV.st [CV.pv (Value.int IntKind.i64 0), CV.pv (Value.int IntKind.i64 0), CV.pv (Value.int IntKind.i64 0), CV.pv (Value.int IntKind.i64 0), CV.ar IntKind.u8 32 (List.replicate 32 0), CV.pv (Value.slice none 0 0)], CV.pv (Value.slice none 0 0)]) [(0, 1), (1, 1), (2, 37), (39, 1)] [(0, Operand.tmp 66), (1, Operand.tmp 77)]))] (by kernel_rfl) (by kernel_rfl) (by kernel_rfl) (by kernel_rfl) (hideZ_nil _ 0) (fun K56 hK56 => ?_)
                simp (maxSteps:=999999) (disch:=omega) only [av1, av2, av3, av4, eq_self, exists_const, forall_const, implies_true, storeOk, thenQ, PK.cond, PK.val, Nat.reduceAdd, Nat.reduceLT, Nat.reduceMul, reduceCtorEq, ↓reduceIte, Nat.reduceEqDiff, Nat.reduceLeDiff, Nat.reduceSub, Nat.reduceBEq, Nat.reduceBNe, Int.reduceLT, Int.reduceEq, Int.reduceAdd, Int.reduceToNat, Int.reduceLE, Int.reduceBEq, Int.reduceBNe, enc1, enc2, h, tO0, tO1, eO0, eO1, tOX, eOX]
                (repeat ((with_reducible refine And.intro ?_ ?_); (first | trivial | assumption | omega | (simp; done))))
                refine hK56 _ ?_
                (try clear hK56)
                refine ag_one (i:=17) (by kernel_rfl) ?_
                refine agi (it := It.mk none none (IK.store (Operand.tmp 11) (Operand.tmp 78) 40)) (R' := []) (by kernel_rfl) (.inr (by kernel_rfl)) (by kernel_rfl) (fun K57 hK57 => ?_)
                simp (maxSteps:=999999) (disch:=omega) only [av1, av2, av3, av4, eq_self, exists_const, forall_const, implies_true, storeOk, thenQ, PK.cond, PK.val, Nat.reduceAdd, Nat.reduceLT, Nat.reduceMul, reduceCtorEq, ↓reduceIte, Nat.reduceEqDiff, Nat.reduceLeDiff, Nat.reduceSub, Nat.reduceBEq, Nat.reduceBNe, Int.reduceLT, Int.reduceEq, Int.reduceAdd, Int.reduceToNat, Int.reduceLE, Int.reduceBEq, Int.reduceBNe, enc1, enc2, h, tO0, tO1, eO0, eO1, tOX, eOX]
                (repeat ((with_reducible refine And.intro ?_ ?_); (first | trivial | assumption | omega | (simp; done))))
                refine hK57 _ ?_
                (try clear hK57)
                refine ag_done (by kernel_rfl) ?_
                (try simp only [thenQ])
                exact Le.sameL rfl (by repeat (first | exact SubL.nil | refine SubL.cons rfl ?_))
            · refine agi (it := It.mk (some 11) none (IK.alloc (CV.st [CV.pv (Value.slice none 0 0), CV.pv (Value.slice none 0 0), CV.st [CV.pv (Value.int IntKind.i64 0), CV.pv (Value.int IntKind.i64 0), CV.pv (Value.int IntKind.i64 0), CV.pv (Value.int IntKind.i64 0), CV.ar IntKind.u8 32 (List.replicate 32 0), CV.pv (Value.slice none 0 0)], CV.pv (Value.slice none 0 0)]))) (R' := [12, 11, 10, 9]) (by kernel_rfl) (.inl rfl) (by kernel_rfl) (fun K58 hK58 => ?_)
              simp (maxSteps:=999999) (disch:=omega) only [av1, av2, av3, av4, eq_self, exists_const, forall_const, implies_true, storeOk, thenQ, PK.cond, PK.val, Nat.reduceAdd, Nat.reduceLT, Nat.reduceMul, reduceCtorEq, ↓reduceIte, Nat.reduceEqDiff, Nat.reduceLeDiff, Nat.reduceSub, Nat.reduceBEq, Nat.reduceBNe, Int.reduceLT, Int.reduceEq, Int.reduceAdd, Int.reduceToNat, Int.reduceLE, Int.reduceBEq, Int.reduceBNe, enc1, enc2, h, tO0, tO1, eO0, eO1, tOX, eOX]
              (repeat ((with_reducible refine And.intro ?_ ?_); (first | trivial | assumption | omega | (simp; done))))
              refine hK58 _ ?_
              (try clear hK58)
              refine ag_one (i:=13) (by kernel_rfl) ?_
              refine agi (it := It.mk (some 76) none (IK.call 23 [Operand.tmp 73, Operand.tmp 75])) (R' := []) (by kernel_rfl) (.inl rfl) (by kernel_rfl) (fun K59 hK59 => ?_)
              simp (maxSteps:=999999) (disch:=omega) only [av1, av2, av3, av4, eq_self, exists_const, forall_const, implies_true, storeOk, thenQ, PK.cond, PK.val, Nat.reduceAdd, Nat.reduceLT, Nat.reduceMul, reduceCtorEq, ↓reduceIte, Nat.reduceEqDiff, Nat.reduceLeDiff, Nat.reduceSub, Nat.reduceBEq, Nat.reduceBNe, Int.reduceLT, Int.reduceEq, Int.reduceAdd, Int.reduceToNat, Int.reduceLE, Int.reduceBEq, Int.reduceBNe, enc1, enc2, h, tO0, tO1, eO0, eO1, tOX, eOX]
              apply Exists.intro
              apply And.intro
              · first | exact (lockTo_ap _ _) | exact (fun _ => (lockTo_ap _ _)) | exact (fun h => ⟨h, (lockTo_ap _ _)⟩) | exact (fun h => ⟨by simp_all, (lockTo_ap _ _)⟩)
              (try simp only [rsAV, List.map_cons, List.map_nil, thenQ])
              refine hK59 _ ?_
              (try clear hK59)
              refine ag_one (i:=14) (by kernel_rfl) ?_
              refine agi (it := It.mk (some 77) none (IK.lit 2 [Operand.tmp 71, Operand.tmp 76])) (R' := []) (by kernel_rfl) (.inl rfl) (by kernel_rfl) (fun K60 hK60 => ?_)
              simp (maxSteps:=999999) (disch:=omega) only [av1, av2, av3, av4, eq_self, exists_const, forall_const, implies_true, storeOk, thenQ, PK.cond, PK.val, Nat.reduceAdd, Nat.reduceLT, Nat.reduceMul, reduceCtorEq, ↓reduceIte, Nat.reduceEqDiff, Nat.reduceLeDiff, Nat.reduceSub, Nat.reduceBEq, Nat.reduceBNe, Int.reduceLT, Int.reduceEq, Int.reduceAdd, Int.reduceToNat, Int.reduceLE, Int.reduceBEq, Int.reduceBNe, enc1, enc2, h, tO0, tO1, eO0, eO1, tOX, eOX]
              (repeat ((with_reducible refine And.intro ?_ ?_); (first | trivial | assumption | omega | (simp; done))))
              refine hK60 _ ?_
              (try clear hK60)
              refine ag_pures (fuel := 1) [15] [It.mk (some 78) none (IK.p (PK.bld (CV.st [CV.pv (Value.slice none 0 0), CV.pv (Value.slice none 0 0), CV.st [CV.pv (Value.int IntKind.i64 0), CV.pv (Value.int IntKind.i64 0), CV.pv (Value.int IntKind.i64 0), CV.pv (Value.int IntKind.i64 0), CV.ar IntKind.u8 32 (List.replicate 32 0), CV.pv (Value.slice none 0 0)], CV.pv (Value.slice none 0 0)]) [(0, 1), (1, 1), (2, 37), (39, 1)] [(0, Operand.tmp 66), (1, Operand.tmp 77)]))] (by kernel_rfl) (by kernel_rfl) (by kernel_rfl) (by kernel_rfl) (hideZ_nil _ 0) (fun K61 hK61 => ?_)
              simp (maxSteps:=999999) (disch:=omega) only [av1, av2, av3, av4, eq_self, exists_const, forall_const, implies_true, storeOk, thenQ, PK.cond, PK.val, Nat.reduceAdd, Nat.reduceLT, Nat.reduceMul, reduceCtorEq, ↓reduceIte, Nat.reduceEqDiff, Nat.reduceLeDiff, Nat.reduceSub, Nat.reduceBEq, Nat.reduceBNe, Int.reduceLT, Int.reduceEq, Int.reduceAdd, Int.reduceToNat, Int.reduceLE, Int.reduceBEq, Int.reduceBNe, enc1, enc2, h, tO0, tO1, eO0, eO1, tOX, eOX]
              (repeat ((with_reducible refine And.intro ?_ ?_); (first | trivial | assumption | omega | (simp; done))))
              refine hK61 _ ?_
              (try clear hK61)
              refine ag_one (i:=17) (by kernel_rfl) ?_
              refine agi (it := It.mk none none (IK.store (Operand.tmp 11) (Operand.tmp 78) 40)) (R' := []) (by kernel_rfl) (.inr (by kernel_rfl)) (by kernel_rfl) (fun K62 hK62 => ?_)
              simp (maxSteps:=999999) (disch:=omega) only [av1, av2, av3, av4, eq_self, exists_const, forall_const, implies_true, storeOk, thenQ, PK.cond, PK.val, Nat.reduceAdd, Nat.reduceLT, Nat.reduceMul, reduceCtorEq, ↓reduceIte, Nat.reduceEqDiff, Nat.reduceLeDiff, Nat.reduceSub, Nat.reduceBEq, Nat.reduceBNe, Int.reduceLT, Int.reduceEq, Int.reduceAdd, Int.reduceToNat, Int.reduceLE, Int.reduceBEq, Int.reduceBNe, enc1, enc2, h, tO0, tO1, eO0, eO1, tOX, eOX]
              (repeat ((with_reducible refine And.intro ?_ ?_); (first | trivial | assumption | omega | (simp; done))))
              refine hK62 _ ?_
              (try clear hK62)
              refine ag_done (by kernel_rfl) ?_
              (try simp only [thenQ])
              exact Le.sameL rfl (by repeat (first | exact SubL.nil | refine SubL.cons rfl ?_))
          · refine agi (it := It.mk (some 76) none (IK.call 23 [Operand.tmp 73, Operand.tmp 75])) (R' := [2, 1, 0]) (by kernel_rfl) (.inl rfl) (by kernel_rfl) (fun K63 hK63 => ?_)
            simp (maxSteps:=999999) (disch:=omega) only [av1, av2, av3, av4, eq_self, exists_const, forall_const, implies_true, storeOk, thenQ, PK.cond, PK.val, Nat.reduceAdd, Nat.reduceLT, Nat.reduceMul, reduceCtorEq, ↓reduceIte, Nat.reduceEqDiff, Nat.reduceLeDiff, Nat.reduceSub, Nat.reduceBEq, Nat.reduceBNe, Int.reduceLT, Int.reduceEq, Int.reduceAdd, Int.reduceToNat, Int.reduceLE, Int.reduceBEq, Int.reduceBNe, enc1, enc2, h, tO0, tO1, eO0, eO1, tOX, eOX]
            apply Exists.intro
            apply And.intro
            · first | exact (lockTo_ap _ _) | exact (fun _ => (lockTo_ap _ _)) | exact (fun h => ⟨h, (lockTo_ap _ _)⟩) | exact (fun h => ⟨by simp_all, (lockTo_ap _ _)⟩)
            (try simp only [rsAV, List.map_cons, List.map_nil, thenQ])
            refine hK63 _ ?_
            (try clear hK63)
            refine ag_three (i := 3) (j := 14) (k := 16) (by kernel_rfl) ?_ ?_ ?_
            · refine agi (it := It.mk (some 66) none (IK.lit 35 [Operand.tmp 65])) (R' := []) (by kernel_rfl) (.inl rfl) (by kernel_rfl) (fun K64 hK64 => ?_)
              simp (maxSteps:=999999) (disch:=omega) only [av1, av2, av3, av4, eq_self, exists_const, forall_const, implies_true, storeOk, thenQ, PK.cond, PK.val, Nat.reduceAdd, Nat.reduceLT, Nat.reduceMul, reduceCtorEq, ↓reduceIte, Nat.reduceEqDiff, Nat.reduceLeDiff, Nat.reduceSub, Nat.reduceBEq, Nat.reduceBNe, Int.reduceLT, Int.reduceEq, Int.reduceAdd, Int.reduceToNat, Int.reduceLE, Int.reduceBEq, Int.reduceBNe, enc1, enc2, h, tO0, tO1, eO0, eO1, tOX, eOX]
              (repeat ((with_reducible refine And.intro ?_ ?_); (first | trivial | assumption | omega | (simp; done))))
              refine hK64 _ ?_
              (try clear hK64)
              refine ag_two (i := 14) (j := 16) (by kernel_rfl) ?_ ?_
              · refine agi (it := It.mk (some 77) none (IK.lit 2 [Operand.tmp 71, Operand.tmp 76])) (R' := []) (by kernel_rfl) (.inl rfl) (by kernel_rfl) (fun K65 hK65 => ?_)
                simp (maxSteps:=999999) (disch:=omega) only [av1, av2, av3, av4, eq_self, exists_const, forall_const, implies_true, storeOk, thenQ, PK.cond, PK.val, Nat.reduceAdd, Nat.reduceLT, Nat.reduceMul, reduceCtorEq, ↓reduceIte, Nat.reduceEqDiff, Nat.reduceLeDiff, Nat.reduceSub, Nat.reduceBEq, Nat.reduceBNe, Int.reduceLT, Int.reduceEq, Int.reduceAdd, Int.reduceToNat, Int.reduceLE, Int.reduceBEq, Int.reduceBNe, enc1, enc2, h, tO0, tO1, eO0, eO1, tOX, eOX]
                (repeat ((with_reducible refine And.intro ?_ ?_); (first | trivial | assumption | omega | (simp; done))))
                refine hK65 _ ?_
                (try clear hK65)
                refine ag_pures (fuel := 2) [15] [It.mk (some 78) none (IK.p (PK.bld (CV.st [CV.pv (Value.slice none 0 0), CV.pv (Value.slice none 0 0), CV.st [CV.pv (Value.int IntKind.i64 0), CV.pv (Value.int IntKind.i64 0), CV.pv (Value.int IntKind.i64 0), CV.pv (Value.int IntKind.i64 0), CV.ar IntKind.u8 32 (List.replicate 32 0), CV.pv (Value.slice none 0 0)], CV.pv (Value.slice none 0 0)]) [(0, 1), (1, 1), (2, 37), (39, 1)] [(0, Operand.tmp 66), (1, Operand.tmp 77)]))] (by kernel_rfl) (by kernel_rfl) (by kernel_rfl) (by kernel_rfl) (hideZ_nil _ 0) (fun K66 hK66 => ?_)
                simp (maxSteps:=999999) (disch:=omega) only [av1, av2, av3, av4, eq_self, exists_const, forall_const, implies_true, storeOk, thenQ, PK.cond, PK.val, Nat.reduceAdd, Nat.reduceLT, Nat.reduceMul, reduceCtorEq, ↓reduceIte, Nat.reduceEqDiff, Nat.reduceLeDiff, Nat.reduceSub, Nat.reduceBEq, Nat.reduceBNe, Int.reduceLT, Int.reduceEq, Int.reduceAdd, Int.reduceToNat, Int.reduceLE, Int.reduceBEq, Int.reduceBNe, enc1, enc2, h, tO0, tO1, eO0, eO1, tOX, eOX]
                (repeat ((with_reducible refine And.intro ?_ ?_); (first | trivial | assumption | omega | (simp; done))))
                refine hK66 _ ?_
                (try clear hK66)
                refine ag_one (i:=16) (by kernel_rfl) ?_
                refine agi (it := It.mk (some 11) none (IK.alloc (CV.st [CV.pv (Value.slice none 0 0), CV.pv (Value.slice none 0 0), CV.st [CV.pv (Value.int IntKind.i64 0), CV.pv (Value.int IntKind.i64 0), CV.pv (Value.int IntKind.i64 0), CV.pv (Value.int IntKind.i64 0), CV.ar IntKind.u8 32 (List.replicate 32 0), CV.pv (Value.slice none 0 0)], CV.pv (Value.slice none 0 0)]))) (R' := [15]) (by kernel_rfl) (.inl rfl) (by kernel_rfl) (fun K67 hK67 => ?_)
                simp (maxSteps:=999999) (disch:=omega) only [av1, av2, av3, av4, eq_self, exists_const, forall_const, implies_true, storeOk, thenQ, PK.cond, PK.val, Nat.reduceAdd, Nat.reduceLT, Nat.reduceMul, reduceCtorEq, ↓reduceIte, Nat.reduceEqDiff, Nat.reduceLeDiff, Nat.reduceSub, Nat.reduceBEq, Nat.reduceBNe, Int.reduceLT, Int.reduceEq, Int.reduceAdd, Int.reduceToNat, Int.reduceLE, Int.reduceBEq, Int.reduceBNe, enc1, enc2, h, tO0, tO1, eO0, eO1, tOX, eOX]
                (repeat ((with_reducible refine And.intro ?_ ?_); (first | trivial | assumption | omega | (simp; done))))
                refine hK67 _ ?_
                (try clear hK67)
                refine ag_one (i:=17) (by kernel_rfl) ?_
                refine agi (it := It.mk none none (IK.store (Operand.tmp 11) (Operand.tmp 78) 40)) (R' := []) (by kernel_rfl) (.inr (by kernel_rfl)) (by kernel_rfl) (fun K68 hK68 => ?_)
                simp (maxSteps:=999999) (disch:=omega) only [av1, av2, av3, av4, eq_self, exists_const, forall_const, implies_true, storeOk, thenQ, PK.cond, PK.val, Nat.reduceAdd, Nat.reduceLT, Nat.reduceMul, reduceCtorEq, ↓reduceIte, Nat.reduceEqDiff, Nat.reduceLeDiff, Nat.reduceSub, Nat.reduceBEq, Nat.reduceBNe, Int.reduceLT, Int.reduceEq, Int.reduceAdd, Int.reduceToNat, Int.reduceLE, Int.reduceBEq, Int.reduceBNe, enc1, enc2, h, tO0, tO1, eO0, eO1, tOX, eOX]
                (repeat ((with_reducible refine And.intro ?_ ?_); (first | trivial | assumption | omega | (simp; done))))
                refine hK68 _ ?_
                (try clear hK68)
                refine ag_done (by kernel_rfl) ?_
                (try simp only [thenQ])
                exact Le.sameL rfl (by repeat (first | exact SubL.nil | refine SubL.cons rfl ?_))
              · refine agi (it := It.mk (some 11) none (IK.alloc (CV.st [CV.pv (Value.slice none 0 0), CV.pv (Value.slice none 0 0), CV.st [CV.pv (Value.int IntKind.i64 0), CV.pv (Value.int IntKind.i64 0), CV.pv (Value.int IntKind.i64 0), CV.pv (Value.int IntKind.i64 0), CV.ar IntKind.u8 32 (List.replicate 32 0), CV.pv (Value.slice none 0 0)], CV.pv (Value.slice none 0 0)]))) (R' := []) (by kernel_rfl) (.inl rfl) (by kernel_rfl) (fun K69 hK69 => ?_)
                simp (maxSteps:=999999) (disch:=omega) only [av1, av2, av3, av4, eq_self, exists_const, forall_const, implies_true, storeOk, thenQ, PK.cond, PK.val, Nat.reduceAdd, Nat.reduceLT, Nat.reduceMul, reduceCtorEq, ↓reduceIte, Nat.reduceEqDiff, Nat.reduceLeDiff, Nat.reduceSub, Nat.reduceBEq, Nat.reduceBNe, Int.reduceLT, Int.reduceEq, Int.reduceAdd, Int.reduceToNat, Int.reduceLE, Int.reduceBEq, Int.reduceBNe, enc1, enc2, h, tO0, tO1, eO0, eO1, tOX, eOX]
                (repeat ((with_reducible refine And.intro ?_ ?_); (first | trivial | assumption | omega | (simp; done))))
                refine hK69 _ ?_
                (try clear hK69)
                refine ag_one (i:=14) (by kernel_rfl) ?_
                refine agi (it := It.mk (some 77) none (IK.lit 2 [Operand.tmp 71, Operand.tmp 76])) (R' := []) (by kernel_rfl) (.inl rfl) (by kernel_rfl) (fun K70 hK70 => ?_)
                simp (maxSteps:=999999) (disch:=omega) only [av1, av2, av3, av4, eq_self, exists_const, forall_const, implies_true, storeOk, thenQ, PK.cond, PK.val, Nat.reduceAdd, Nat.reduceLT, Nat.reduceMul, reduceCtorEq, ↓reduceIte, Nat.reduceEqDiff, Nat.reduceLeDiff, Nat.reduceSub, Nat.reduceBEq, Nat.reduceBNe, Int.reduceLT, Int.reduceEq, Int.reduceAdd, Int.reduceToNat, Int.reduceLE, Int.reduceBEq, Int.reduceBNe, enc1, enc2, h, tO0, tO1, eO0, eO1, tOX, eOX]
                (repeat ((with_reducible refine And.intro ?_ ?_); (first | trivial | assumption | omega | (simp; done))))
                refine hK70 _ ?_
                (try clear hK70)
                refine ag_pures (fuel := 1) [15] [It.mk (some 78) none (IK.p (PK.bld (CV.st [CV.pv (Value.slice none 0 0), CV.pv (Value.slice none 0 0), CV.st [CV.pv (Value.int IntKind.i64 0), CV.pv (Value.int IntKind.i64 0), CV.pv (Value.int IntKind.i64 0), CV.pv (Value.int IntKind.i64 0), CV.ar IntKind.u8 32 (List.replicate 32 0), CV.pv (Value.slice none 0 0)], CV.pv (Value.slice none 0 0)]) [(0, 1), (1, 1), (2, 37), (39, 1)] [(0, Operand.tmp 66), (1, Operand.tmp 77)]))] (by kernel_rfl) (by kernel_rfl) (by kernel_rfl) (by kernel_rfl) (hideZ_nil _ 0) (fun K71 hK71 => ?_)
                simp (maxSteps:=999999) (disch:=omega) only [av1, av2, av3, av4, eq_self, exists_const, forall_const, implies_true, storeOk, thenQ, PK.cond, PK.val, Nat.reduceAdd, Nat.reduceLT, Nat.reduceMul, reduceCtorEq, ↓reduceIte, Nat.reduceEqDiff, Nat.reduceLeDiff, Nat.reduceSub, Nat.reduceBEq, Nat.reduceBNe, Int.reduceLT, Int.reduceEq, Int.reduceAdd, Int.reduceToNat, Int.reduceLE, Int.reduceBEq, Int.reduceBNe, enc1, enc2, h, tO0, tO1, eO0, eO1, tOX, eOX]
                (repeat ((with_reducible refine And.intro ?_ ?_); (first | trivial | assumption | omega | (simp; done))))
                refine hK71 _ ?_
                (try clear hK71)
                refine ag_one (i:=17) (by kernel_rfl) ?_
                refine agi (it := It.mk none none (IK.store (Operand.tmp 11) (Operand.tmp 78) 40)) (R' := []) (by kernel_rfl) (.inr (by kernel_rfl)) (by kernel_rfl) (fun K72 hK72 => ?_)
                simp (maxSteps:=999999) (disch:=omega) only [av1, av2, av3, av4, eq_self, exists_const, forall_const, implies_true, storeOk, thenQ, PK.cond, PK.val, Nat.reduceAdd, Nat.reduceLT, Nat.reduceMul, reduceCtorEq, ↓reduceIte, Nat.reduceEqDiff, Nat.reduceLeDiff, Nat.reduceSub, Nat.reduceBEq, Nat.reduceBNe, Int.reduceLT, Int.reduceEq, Int.reduceAdd, Int.reduceToNat, Int.reduceLE, Int.reduceBEq, Int.reduceBNe, enc1, enc2, h, tO0, tO1, eO0, eO1, tOX, eOX]
                (repeat ((with_reducible refine And.intro ?_ ?_); (first | trivial | assumption | omega | (simp; done))))
                refine hK72 _ ?_
                (try clear hK72)
                refine ag_done (by kernel_rfl) ?_
                (try simp only [thenQ])
                exact Le.sameL rfl (by repeat (first | exact SubL.nil | refine SubL.cons rfl ?_))
            · refine agi (it := It.mk (some 77) none (IK.lit 2 [Operand.tmp 71, Operand.tmp 76])) (R' := [2, 1, 0]) (by kernel_rfl) (.inl rfl) (by kernel_rfl) (fun K73 hK73 => ?_)
              simp (maxSteps:=999999) (disch:=omega) only [av1, av2, av3, av4, eq_self, exists_const, forall_const, implies_true, storeOk, thenQ, PK.cond, PK.val, Nat.reduceAdd, Nat.reduceLT, Nat.reduceMul, reduceCtorEq, ↓reduceIte, Nat.reduceEqDiff, Nat.reduceLeDiff, Nat.reduceSub, Nat.reduceBEq, Nat.reduceBNe, Int.reduceLT, Int.reduceEq, Int.reduceAdd, Int.reduceToNat, Int.reduceLE, Int.reduceBEq, Int.reduceBNe, enc1, enc2, h, tO0, tO1, eO0, eO1, tOX, eOX]
              (repeat ((with_reducible refine And.intro ?_ ?_); (first | trivial | assumption | omega | (simp; done))))
              refine hK73 _ ?_
              (try clear hK73)
              refine ag_two (i := 3) (j := 16) (by kernel_rfl) ?_ ?_
              · refine agi (it := It.mk (some 66) none (IK.lit 35 [Operand.tmp 65])) (R' := []) (by kernel_rfl) (.inl rfl) (by kernel_rfl) (fun K74 hK74 => ?_)
                simp (maxSteps:=999999) (disch:=omega) only [av1, av2, av3, av4, eq_self, exists_const, forall_const, implies_true, storeOk, thenQ, PK.cond, PK.val, Nat.reduceAdd, Nat.reduceLT, Nat.reduceMul, reduceCtorEq, ↓reduceIte, Nat.reduceEqDiff, Nat.reduceLeDiff, Nat.reduceSub, Nat.reduceBEq, Nat.reduceBNe, Int.reduceLT, Int.reduceEq, Int.reduceAdd, Int.reduceToNat, Int.reduceLE, Int.reduceBEq, Int.reduceBNe, enc1, enc2, h, tO0, tO1, eO0, eO1, tOX, eOX]
                (repeat ((with_reducible refine And.intro ?_ ?_); (first | trivial | assumption | omega | (simp; done))))
                refine hK74 _ ?_
                (try clear hK74)
                refine ag_pures (fuel := 2) [15] [It.mk (some 78) none (IK.p (PK.bld (CV.st [CV.pv (Value.slice none 0 0), CV.pv (Value.slice none 0 0), CV.st [CV.pv (Value.int IntKind.i64 0), CV.pv (Value.int IntKind.i64 0), CV.pv (Value.int IntKind.i64 0), CV.pv (Value.int IntKind.i64 0), CV.ar IntKind.u8 32 (List.replicate 32 0), CV.pv (Value.slice none 0 0)], CV.pv (Value.slice none 0 0)]) [(0, 1), (1, 1), (2, 37), (39, 1)] [(0, Operand.tmp 66), (1, Operand.tmp 77)]))] (by kernel_rfl) (by kernel_rfl) (by kernel_rfl) (by kernel_rfl) (hideZ_nil _ 0) (fun K75 hK75 => ?_)
                simp (maxSteps:=999999) (disch:=omega) only [av1, av2, av3, av4, eq_self, exists_const, forall_const, implies_true, storeOk, thenQ, PK.cond, PK.val, Nat.reduceAdd, Nat.reduceLT, Nat.reduceMul, reduceCtorEq, ↓reduceIte, Nat.reduceEqDiff, Nat.reduceLeDiff, Nat.reduceSub, Nat.reduceBEq, Nat.reduceBNe, Int.reduceLT, Int.reduceEq, Int.reduceAdd, Int.reduceToNat, Int.reduceLE, Int.reduceBEq, Int.reduceBNe, enc1, enc2, h, tO0, tO1, eO0, eO1, tOX, eOX]
                (repeat ((with_reducible refine And.intro ?_ ?_); (first | trivial | assumption | omega | (simp; done))))
                refine hK75 _ ?_
                (try clear hK75)
                refine ag_one (i:=16) (by kernel_rfl) ?_
                refine agi (it := It.mk (some 11) none (IK.alloc (CV.st [CV.pv (Value.slice none 0 0), CV.pv (Value.slice none 0 0), CV.st [CV.pv (Value.int IntKind.i64 0), CV.pv (Value.int IntKind.i64 0), CV.pv (Value.int IntKind.i64 0), CV.pv (Value.int IntKind.i64 0), CV.ar IntKind.u8 32 (List.replicate 32 0), CV.pv (Value.slice none 0 0)], CV.pv (Value.slice none 0 0)]))) (R' := [15]) (by kernel_rfl) (.inl rfl) (by kernel_rfl) (fun K76 hK76 => ?_)
                simp (maxSteps:=999999) (disch:=omega) only [av1, av2, av3, av4, eq_self, exists_const, forall_const, implies_true, storeOk, thenQ, PK.cond, PK.val, Nat.reduceAdd, Nat.reduceLT, Nat.reduceMul, reduceCtorEq, ↓reduceIte, Nat.reduceEqDiff, Nat.reduceLeDiff, Nat.reduceSub, Nat.reduceBEq, Nat.reduceBNe, Int.reduceLT, Int.reduceEq, Int.reduceAdd, Int.reduceToNat, Int.reduceLE, Int.reduceBEq, Int.reduceBNe, enc1, enc2, h, tO0, tO1, eO0, eO1, tOX, eOX]
                (repeat ((with_reducible refine And.intro ?_ ?_); (first | trivial | assumption | omega | (simp; done))))
                refine hK76 _ ?_
                (try clear hK76)
                refine ag_one (i:=17) (by kernel_rfl) ?_
                refine agi (it := It.mk none none (IK.store (Operand.tmp 11) (Operand.tmp 78) 40)) (R' := []) (by kernel_rfl) (.inr (by kernel_rfl)) (by kernel_rfl) (fun K77 hK77 => ?_)
                simp (maxSteps:=999999) (disch:=omega) only [av1, av2, av3, av4, eq_self, exists_const, forall_const, implies_true, storeOk, thenQ, PK.cond, PK.val, Nat.reduceAdd, Nat.reduceLT, Nat.reduceMul, reduceCtorEq, ↓reduceIte, Nat.reduceEqDiff, Nat.reduceLeDiff, Nat.reduceSub, Nat.reduceBEq, Nat.reduceBNe, Int.reduceLT, Int.reduceEq, Int.reduceAdd, Int.reduceToNat, Int.reduceLE, Int.reduceBEq, Int.reduceBNe, enc1, enc2, h, tO0, tO1, eO0, eO1, tOX, eOX]
                (repeat ((with_reducible refine And.intro ?_ ?_); (first | trivial | assumption | omega | (simp; done))))
                refine hK77 _ ?_
                (try clear hK77)
                refine ag_done (by kernel_rfl) ?_
                (try simp only [thenQ])
                exact Le.sameL rfl (by repeat (first | exact SubL.nil | refine SubL.cons rfl ?_))
              · refine agi (it := It.mk (some 11) none (IK.alloc (CV.st [CV.pv (Value.slice none 0 0), CV.pv (Value.slice none 0 0), CV.st [CV.pv (Value.int IntKind.i64 0), CV.pv (Value.int IntKind.i64 0), CV.pv (Value.int IntKind.i64 0), CV.pv (Value.int IntKind.i64 0), CV.ar IntKind.u8 32 (List.replicate 32 0), CV.pv (Value.slice none 0 0)], CV.pv (Value.slice none 0 0)]))) (R' := [2, 1, 0]) (by kernel_rfl) (.inl rfl) (by kernel_rfl) (fun K78 hK78 => ?_)
                simp (maxSteps:=999999) (disch:=omega) only [av1, av2, av3, av4, eq_self, exists_const, forall_const, implies_true, storeOk, thenQ, PK.cond, PK.val, Nat.reduceAdd, Nat.reduceLT, Nat.reduceMul, reduceCtorEq, ↓reduceIte, Nat.reduceEqDiff, Nat.reduceLeDiff, Nat.reduceSub, Nat.reduceBEq, Nat.reduceBNe, Int.reduceLT, Int.reduceEq, Int.reduceAdd, Int.reduceToNat, Int.reduceLE, Int.reduceBEq, Int.reduceBNe, enc1, enc2, h, tO0, tO1, eO0, eO1, tOX, eOX]
                (repeat ((with_reducible refine And.intro ?_ ?_); (first | trivial | assumption | omega | (simp; done))))
                refine hK78 _ ?_
                (try clear hK78)
                refine ag_one (i:=3) (by kernel_rfl) ?_
                refine agi (it := It.mk (some 66) none (IK.lit 35 [Operand.tmp 65])) (R' := []) (by kernel_rfl) (.inl rfl) (by kernel_rfl) (fun K79 hK79 => ?_)
                simp (maxSteps:=999999) (disch:=omega) only [av1, av2, av3, av4, eq_self, exists_const, forall_const, implies_true, storeOk, thenQ, PK.cond, PK.val, Nat.reduceAdd, Nat.reduceLT, Nat.reduceMul, reduceCtorEq, ↓reduceIte, Nat.reduceEqDiff, Nat.reduceLeDiff, Nat.reduceSub, Nat.reduceBEq, Nat.reduceBNe, Int.reduceLT, Int.reduceEq, Int.reduceAdd, Int.reduceToNat, Int.reduceLE, Int.reduceBEq, Int.reduceBNe, enc1, enc2, h, tO0, tO1, eO0, eO1, tOX, eOX]
                (repeat ((with_reducible refine And.intro ?_ ?_); (first | trivial | assumption | omega | (simp; done))))
                refine hK79 _ ?_
                (try clear hK79)
                refine ag_pures (fuel := 1) [15] [It.mk (some 78) none (IK.p (PK.bld (CV.st [CV.pv (Value.slice none 0 0), CV.pv (Value.slice none 0 0), CV.st [CV.pv (Value.int IntKind.i64 0), CV.pv (Value.int IntKind.i64 0), CV.pv (Value.int IntKind.i64 0), CV.pv (Value.int IntKind.i64 0), CV.ar IntKind.u8 32 (List.replicate 32 0), CV.pv (Value.slice none 0 0)], CV.pv (Value.slice none 0 0)]) [(0, 1), (1, 1), (2, 37), (39, 1)] [(0, Operand.tmp 66), (1, Operand.tmp 77)]))] (by kernel_rfl) (by kernel_rfl) (by kernel_rfl) (by kernel_rfl) (hideZ_nil _ 0) (fun K80 hK80 => ?_)
                simp (maxSteps:=999999) (disch:=omega) only [av1, av2, av3, av4, eq_self, exists_const, forall_const, implies_true, storeOk, thenQ, PK.cond, PK.val, Nat.reduceAdd, Nat.reduceLT, Nat.reduceMul, reduceCtorEq, ↓reduceIte, Nat.reduceEqDiff, Nat.reduceLeDiff, Nat.reduceSub, Nat.reduceBEq, Nat.reduceBNe, Int.reduceLT, Int.reduceEq, Int.reduceAdd, Int.reduceToNat, Int.reduceLE, Int.reduceBEq, Int.reduceBNe, enc1, enc2, h, tO0, tO1, eO0, eO1, tOX, eOX]
                (repeat ((with_reducible refine And.intro ?_ ?_); (first | trivial | assumption | omega | (simp; done))))
                refine hK80 _ ?_
                (try clear hK80)
                refine ag_one (i:=17) (by kernel_rfl) ?_
                refine agi (it := It.mk none none (IK.store (Operand.tmp 11) (Operand.tmp 78) 40)) (R' := []) (by kernel_rfl) (.inr (by kernel_rfl)) (by kernel_rfl) (fun K81 hK81 => ?_)
                simp (maxSteps:=999999) (disch:=omega) only [av1, av2, av3, av4, eq_self, exists_const, forall_const, implies_true, storeOk, thenQ, PK.cond, PK.val, Nat.reduceAdd, Nat.reduceLT, Nat.reduceMul, reduceCtorEq, ↓reduceIte, Nat.reduceEqDiff, Nat.reduceLeDiff, Nat.reduceSub, Nat.reduceBEq, Nat.reduceBNe, Int.reduceLT, Int.reduceEq, Int.reduceAdd, Int.reduceToNat, Int.reduceLE, Int.reduceBEq, Int.reduceBNe, enc1, enc2, h, tO0, tO1, eO0, eO1, tOX, eOX]
                (repeat ((with_reducible refine And.intro ?_ ?_); (first | trivial | assumption | omega | (simp; done))))
                refine hK81 _ ?_
                (try clear hK81)
                refine ag_done (by kernel_rfl) ?_
                (try simp only [thenQ])
                exact Le.sameL rfl (by repeat (first | exact SubL.nil | refine SubL.cons rfl ?_))
            · refine agi (it := It.mk (some 11) none (IK.alloc (CV.st [CV.pv (Value.slice none 0 0), CV.pv (Value.slice none 0 0), CV.st [CV.pv (Value.int IntKind.i64 0), CV.pv (Value.int IntKind.i64 0), CV.pv (Value.int IntKind.i64 0), CV.pv (Value.int IntKind.i64 0), CV.ar IntKind.u8 32 (List.replicate 32 0), CV.pv (Value.slice none 0 0)], CV.pv (Value.slice none 0 0)]))) (R' := [2, 1, 0]) (by kernel_rfl) (.inl rfl) (by kernel_rfl) (fun K82 hK82 => ?_)
              simp (maxSteps:=999999) (disch:=omega) only [av1, av2, av3, av4, eq_self, exists_const, forall_const, implies_true, storeOk, thenQ, PK.cond, PK.val, Nat.reduceAdd, Nat.reduceLT, Nat.reduceMul, reduceCtorEq, ↓reduceIte, Nat.reduceEqDiff, Nat.reduceLeDiff, Nat.reduceSub, Nat.reduceBEq, Nat.reduceBNe, Int.reduceLT, Int.reduceEq, Int.reduceAdd, Int.reduceToNat, Int.reduceLE, Int.reduceBEq, Int.reduceBNe, enc1, enc2, h, tO0, tO1, eO0, eO1, tOX, eOX]
              (repeat ((with_reducible refine And.intro ?_ ?_); (first | trivial | assumption | omega | (simp; done))))
              refine hK82 _ ?_
              (try clear hK82)
              refine ag_two (i := 3) (j := 14) (by kernel_rfl) ?_ ?_
              · refine agi (it := It.mk (some 66) none (IK.lit 35 [Operand.tmp 65])) (R' := []) (by kernel_rfl) (.inl rfl) (by kernel_rfl) (fun K83 hK83 => ?_)
                simp (maxSteps:=999999) (disch:=omega) only [av1, av2, av3, av4, eq_self, exists_const, forall_const, implies_true, storeOk, thenQ, PK.cond, PK.val, Nat.reduceAdd, Nat.reduceLT, Nat.reduceMul, reduceCtorEq, ↓reduceIte, Nat.reduceEqDiff, Nat.reduceLeDiff, Nat.reduceSub, Nat.reduceBEq, Nat.reduceBNe, Int.reduceLT, Int.reduceEq, Int.reduceAdd, Int.reduceToNat, Int.reduceLE, Int.reduceBEq, Int.reduceBNe, enc1, enc2, h, tO0, tO1, eO0, eO1, tOX, eOX]
                (repeat ((with_reducible refine And.intro ?_ ?_); (first | trivial | assumption | omega | (simp; done))))
                refine hK83 _ ?_
                (try clear hK83)
                refine ag_one (i:=14) (by kernel_rfl) ?_
                refine agi (it := It.mk (some 77) none (IK.lit 2 [Operand.tmp 71, Operand.tmp 76])) (R' := []) (by kernel_rfl) (.inl rfl) (by kernel_rfl) (fun K84 hK84 => ?_)
                simp (maxSteps:=999999) (disch:=omega) only [av1, av2, av3, av4, eq_self, exists_const, forall_const, implies_true, storeOk, thenQ, PK.cond, PK.val, Nat.reduceAdd, Nat.reduceLT, Nat.reduceMul, reduceCtorEq, ↓reduceIte, Nat.reduceEqDiff, Nat.reduceLeDiff, Nat.reduceSub, Nat.reduceBEq, Nat.reduceBNe, Int.reduceLT, Int.reduceEq, Int.reduceAdd, Int.reduceToNat, Int.reduceLE, Int.reduceBEq, Int.reduceBNe, enc1, enc2, h, tO0, tO1, eO0, eO1, tOX, eOX]
                (repeat ((with_reducible refine And.intro ?_ ?_); (first | trivial | assumption | omega | (simp; done))))
                refine hK84 _ ?_
                (try clear hK84)
                refine ag_pures (fuel := 1) [15] [It.mk (some 78) none (IK.p (PK.bld (CV.st [CV.pv (Value.slice none 0 0), CV.pv (Value.slice none 0 0), CV.st [CV.pv (Value.int IntKind.i64 0), CV.pv (Value.int IntKind.i64 0), CV.pv (Value.int IntKind.i64 0), CV.pv (Value.int IntKind.i64 0), CV.ar IntKind.u8 32 (List.replicate 32 0), CV.pv (Value.slice none 0 0)], CV.pv (Value.slice none 0 0)]) [(0, 1), (1, 1), (2, 37), (39, 1)] [(0, Operand.tmp 66), (1, Operand.tmp 77)]))] (by kernel_rfl) (by kernel_rfl) (by kernel_rfl) (by kernel_rfl) (hideZ_nil _ 0) (fun K85 hK85 => ?_)
                simp (maxSteps:=999999) (disch:=omega) only [av1, av2, av3, av4, eq_self, exists_const, forall_const, implies_true, storeOk, thenQ, PK.cond, PK.val, Nat.reduceAdd, Nat.reduceLT, Nat.reduceMul, reduceCtorEq, ↓reduceIte, Nat.reduceEqDiff, Nat.reduceLeDiff, Nat.reduceSub, Nat.reduceBEq, Nat.reduceBNe, Int.reduceLT, Int.reduceEq, Int.reduceAdd, Int.reduceToNat, Int.reduceLE, Int.reduceBEq, Int.reduceBNe, enc1, enc2, h, tO0, tO1, eO0, eO1, tOX, eOX]
                (repeat ((with_reducible refine And.intro ?_ ?_); (first | trivial | assumption | omega | (simp; done))))
                refine hK85 _ ?_
                (try clear hK85)
                refine ag_one (i:=17) (by kernel_rfl) ?_
                refine agi (it := It.mk none none (IK.store (Operand.tmp 11) (Operand.tmp 78) 40)) (R' := []) (by kernel_rfl) (.inr (by kernel_rfl)) (by kernel_rfl) (fun K86 hK86 => ?_)
                simp (maxSteps:=999999) (disch:=omega) only [av1, av2, av3, av4, eq_self, exists_const, forall_const, implies_true, storeOk, thenQ, PK.cond, PK.val, Nat.reduceAdd, Nat.reduceLT, Nat.reduceMul, reduceCtorEq, ↓reduceIte, Nat.reduceEqDiff, Nat.reduceLeDiff, Nat.reduceSub, Nat.reduceBEq, Nat.reduceBNe, Int.reduceLT, Int.reduceEq, Int.reduceAdd, Int.reduceToNat, Int.reduceLE, Int.reduceBEq, Int.reduceBNe, enc1, enc2, h, tO0, tO1, eO0, eO1, tOX, eOX]
                (repeat ((with_reducible refine And.intro ?_ ?_); (first | trivial | assumption | omega | (simp; done))))
                refine hK86 _ ?_
                (try clear hK86)
                refine ag_done (by kernel_rfl) ?_
                (try simp only [thenQ])
                exact Le.sameL rfl (by repeat (first | exact SubL.nil | refine SubL.cons rfl ?_))
              · refine agi (it := It.mk (some 77) none (IK.lit 2 [Operand.tmp 71, Operand.tmp 76])) (R' := [2, 1, 0]) (by kernel_rfl) (.inl rfl) (by kernel_rfl) (fun K87 hK87 => ?_)
                simp (maxSteps:=999999) (disch:=omega) only [av1, av2, av3, av4, eq_self, exists_const, forall_const, implies_true, storeOk, thenQ, PK.cond, PK.val, Nat.reduceAdd, Nat.reduceLT, Nat.reduceMul, reduceCtorEq, ↓reduceIte, Nat.reduceEqDiff, Nat.reduceLeDiff, Nat.reduceSub, Nat.reduceBEq, Nat.reduceBNe, Int.reduceLT, Int.reduceEq, Int.reduceAdd, Int.reduceToNat, Int.reduceLE, Int.reduceBEq, Int.reduceBNe, enc1, enc2, h, tO0, tO1, eO0, eO1, tOX, eOX]
                (repeat ((with_reducible refine And.intro ?_ ?_); (first | trivial | assumption | omega | (simp; done))))
                refine hK87 _ ?_
                (try clear hK87)
                refine ag_one (i:=3) (by kernel_rfl) ?_
                refine agi (it := It.mk (some 66) none (IK.lit 35 [Operand.tmp 65])) (R' := []) (by kernel_rfl) (.inl rfl) (by kernel_rfl) (fun K88 hK88 => ?_)
                simp (maxSteps:=999999) (disch:=omega) only [av1, av2, av3, av4, eq_self, exists_const, forall_const, implies_true, storeOk, thenQ, PK.cond, PK.val, Nat.reduceAdd, Nat.reduceLT, Nat.reduceMul, reduceCtorEq, ↓reduceIte, Nat.reduceEqDiff, Nat.reduceLeDiff, Nat.reduceSub, Nat.reduceBEq, Nat.reduceBNe, Int.reduceLT, Int.reduceEq, Int.reduceAdd, Int.reduceToNat, Int.reduceLE, Int.reduceBEq, Int.reduceBNe, enc1, enc2, h, tO0, tO1, eO0, eO1, tOX, eOX]
                (repeat ((with_reducible refine And.intro ?_ ?_); (first | trivial | assumption | omega | (simp; done))))
                refine hK88 _ ?_
                (try clear hK88)
                refine ag_pures (fuel := 1) [15] [It.mk (some 78) none (IK.p (PK.bld (CV.st [CV.pv (Value.slice none 0 0), CV.pv (Value.slice none 0 0), CV.st [CV.pv (Value.int IntKind.i64 0), CV.pv (Value.int IntKind.i64 0), CV.pv (Value.int IntKind.i64 0), CV.pv (Value.int IntKind.i64 0), CV.ar IntKind.u8 32 (List.replicate 32 0), CV.pv (Value.slice none 0 0)], CV.pv (Value.slice none 0 0)]) [(0, 1), (1, 1), (2, 37), (39, 1)] [(0, Operand.tmp 66), (1, Operand.tmp 77)]))] (by kernel_rfl) (by kernel_rfl) (by kernel_rfl) (by kernel_rfl) (hideZ_nil _ 0) (fun K89 hK89 => ?_)
                simp (maxSteps:=999999) (disch:=omega) only [av1, av2, av3, av4, eq_self, exists_const, forall_const, implies_true, storeOk, thenQ, PK.cond, PK.val, Nat.reduceAdd, Nat.reduceLT, Nat.reduceMul, reduceCtorEq, ↓reduceIte, Nat.reduceEqDiff, Nat.reduceLeDiff, Nat.reduceSub, Nat.reduceBEq, Nat.reduceBNe, Int.reduceLT, Int.reduceEq, Int.reduceAdd, Int.reduceToNat, Int.reduceLE, Int.reduceBEq, Int.reduceBNe, enc1, enc2, h, tO0, tO1, eO0, eO1, tOX, eOX]
                (repeat ((with_reducible refine And.intro ?_ ?_); (first | trivial | assumption | omega | (simp; done))))
                refine hK89 _ ?_
                (try clear hK89)
                refine ag_one (i:=17) (by kernel_rfl) ?_
                refine agi (it := It.mk none none (IK.store (Operand.tmp 11) (Operand.tmp 78) 40)) (R' := []) (by kernel_rfl) (.inr (by kernel_rfl)) (by kernel_rfl) (fun K90 hK90 => ?_)
                simp (maxSteps:=999999) (disch:=omega) only [av1, av2, av3, av4, eq_self, exists_const, forall_const, implies_true, storeOk, thenQ, PK.cond, PK.val, Nat.reduceAdd, Nat.reduceLT, Nat.reduceMul, reduceCtorEq, ↓reduceIte, Nat.reduceEqDiff, Nat.reduceLeDiff, Nat.reduceSub, Nat.reduceBEq, Nat.reduceBNe, Int.reduceLT, Int.reduceEq, Int.reduceAdd, Int.reduceToNat, Int.reduceLE, Int.reduceBEq, Int.reduceBNe, enc1, enc2, h, tO0, tO1, eO0, eO1, tOX, eOX]
                (repeat ((with_reducible refine And.intro ?_ ?_); (first | trivial | assumption | omega | (simp; done))))
                refine hK90 _ ?_
                (try clear hK90)
                refine ag_done (by kernel_rfl) ?_
                (try simp only [thenQ])
                exact Le.sameL rfl (by repeat (first | exact SubL.nil | refine SubL.cons rfl ?_))
          · refine agi (it := It.mk (some 11) none (IK.alloc (CV.st [CV.pv (Value.slice none 0 0), CV.pv (Value.slice none 0 0), CV.st [CV.pv (Value.int IntKind.i64 0), CV.pv (Value.int IntKind.i64 0), CV.pv (Value.int IntKind.i64 0), CV.pv (Value.int IntKind.i64 0), CV.ar IntKind.u8 32 (List.replicate 32 0), CV.pv (Value.slice none 0 0)], CV.pv (Value.slice none 0 0)]))) (R' := [12, 11, 10, 9, 2, 1, 0]) (by kernel_rfl) (.inl rfl) (by kernel_rfl) (fun K91 hK91 => ?_)
            simp (maxSteps:=999999) (disch:=omega) only [av1, av2, av3, av4, eq_self, exists_const, forall_const, implies_true, storeOk, thenQ, PK.cond, PK.val, Nat.reduceAdd, Nat.reduceLT, Nat.reduceMul, reduceCtorEq, ↓reduceIte, Nat.reduceEqDiff, Nat.reduceLeDiff, Nat.reduceSub, Nat.reduceBEq, Nat.reduceBNe, Int.reduceLT, Int.reduceEq, Int.reduceAdd, Int.reduceToNat, Int.reduceLE, Int.reduceBEq, Int.reduceBNe, enc1, enc2, h, tO0, tO1, eO0, eO1, tOX, eOX]
            (repeat ((with_reducible refine And.intro ?_ ?_); (first | trivial | assumption | omega | (simp; done))))
            refine hK91 _ ?_
            (try clear hK91)
            refine ag_two (i := 3) (j := 13) (by kernel_rfl) ?_ ?_
            · refine agi (it := It.mk (some 66) none (IK.lit 35 [Operand.tmp 65])) (R' := [12, 11, 10, 9]) (by kernel_rfl) (.inl rfl) (by kernel_rfl) (fun K92 hK92 => ?_)
              simp (maxSteps:=999999) (disch:=omega) only [av1, av2, av3, av4, eq_self, exists_const, forall_const, implies_true, storeOk, thenQ, PK.cond, PK.val, Nat.reduceAdd, Nat.reduceLT, Nat.reduceMul, reduceCtorEq, ↓reduceIte, Nat.reduceEqDiff, Nat.reduceLeDiff, Nat.reduceSub, Nat.reduceBEq, Nat.reduceBNe, Int.reduceLT, Int.reduceEq, Int.reduceAdd, Int.reduceToNat, Int.reduceLE, Int.reduceBEq, Int.reduceBNe, enc1, enc2, h, tO0, tO1, eO0, eO1, tOX, eOX]
              (repeat ((with_reducible refine And.intro ?_ ?_); (first | trivial | assumption | omega | (simp; done))))
              refine hK92 _ ?_
              (try clear hK92)
              refine ag_one (i:=13) (by kernel_rfl) ?_
              refine agi (it := It.mk (some 76) none (IK.call 23 [Operand.tmp 73, Operand.tmp 75])) (R' := []) (by kernel_rfl) (.inl rfl) (by kernel_rfl) (fun K93 hK93 => ?_)
              simp (maxSteps:=999999) (disch:=omega) only [av1, av2, av3, av4, eq_self, exists_const, forall_const, implies_true, storeOk, thenQ, PK.cond, PK.val, Nat.reduceAdd, Nat.reduceLT, Nat.reduceMul, reduceCtorEq, ↓reduceIte, Nat.reduceEqDiff, Nat.reduceLeDiff, Nat.reduceSub, Nat.reduceBEq, Nat.reduceBNe, Int.reduceLT, Int.reduceEq, Int.reduceAdd, Int.reduceToNat, Int.reduceLE, Int.reduceBEq, Int.reduceBNe, enc1, enc2, h, tO0, tO1, eO0, eO1, tOX, eOX]
              apply Exists.intro
              apply And.intro
              · first | exact (lockTo_ap _ _) | exact (fun _ => (lockTo_ap _ _)) | exact (fun h => ⟨h, (lockTo_ap _ _)⟩) | exact (fun h => ⟨by simp_all, (lockTo_ap _ _)⟩)
              (try simp only [rsAV, List.map_cons, List.map_nil, thenQ])
              refine hK93 _ ?_
              (try clear hK93)
              refine ag_one (i:=14) (by kernel_rfl) ?_
              refine agi (it := It.mk (some 77) none (IK.lit 2 [Operand.tmp 71, Operand.tmp 76])) (R' := []) (by kernel_rfl) (.inl rfl) (by kernel_rfl) (fun K94 hK94 => ?_)
              simp (maxSteps:=999999) (disch:=omega) only [av1, av2, av3, av4, eq_self, exists_const, forall_const, implies_true, storeOk, thenQ, PK.cond, PK.val, Nat.reduceAdd, Nat.reduceLT, Nat.reduceMul, reduceCtorEq, ↓reduceIte, Nat.reduceEqDiff, Nat.reduceLeDiff, Nat.reduceSub, Nat.reduceBEq, Nat.reduceBNe, Int.reduceLT, Int.reduceEq, Int.reduceAdd, Int.reduceToNat, Int.reduceLE, Int.reduceBEq, Int.reduceBNe, enc1, enc2, h, tO0, tO1, eO0, eO1, tOX, eOX]
              (repeat ((with_reducible refine And.intro ?_ ?_); (first | trivial | assumption | omega | (simp; done))))
              refine hK94 _ ?_
              (try clear hK94)
              refine ag_pures (fuel := 1) [15] [It.mk (some 78) none (IK.p (PK.bld (CV.st [CV.pv (Value.slice none 0 0), CV.pv (Value.slice none 0 0), CV.st [CV.pv (Value.int IntKind.i64 0), CV.pv (Value.int IntKind.i64 0), CV.pv (Value.int IntKind.i64 0), CV.pv (Value.int IntKind.i64 0), CV.ar IntKind.u8 32 (List.replicate 32 0), CV.pv (Value.slice none 0 0)], CV.pv (Value.slice none 0 0)]) [(0, 1), (1, 1), (2, 37), (39, 1)] [(0, Operand.tmp 66), (1, Operand.tmp 77)]))] (by kernel_rfl) (by kernel_rfl) (by kernel_rfl) (by kernel_rfl) (hideZ_nil _ 0) (fun K95 hK95 => ?_)
              simp (maxSteps:=999999) (disch:=omega) only [av1, av2, av3, av4, eq_self, exists_const, forall_const, implies_true, storeOk, thenQ, PK.cond, PK.val, Nat.reduceAdd, Nat.reduceLT, Nat.reduceMul, reduceCtorEq, ↓reduceIte, Nat.reduceEqDiff, Nat.reduceLeDiff, Nat.reduceSub, Nat.reduceBEq, Nat.reduceBNe, Int.reduceLT, Int.reduceEq, Int.reduceAdd, Int.reduceToNat, Int.reduceLE, Int.reduceBEq, Int.reduceBNe, enc1, enc2, h, tO0, tO1, eO0, eO1, tOX, eOX]
              (repeat ((with_reducible refine And.intro ?_ ?_); (first | trivial | assumption | omega | (simp; done))))
              refine hK95 _ ?_
              (try clear hK95)
              refine ag_one (i:=17) (by kernel_rfl) ?_
              refine agi (it := It.mk none none (IK.store (Operand.tmp 11) (Operand.tmp 78) 40)) (R' := []) (by kernel_rfl) (.inr (by kernel_rfl)) (by kernel_rfl) (fun K96 hK96 => ?_)
              simp (maxSteps:=999999) (disch:=omega) only [av1, av2, av3, av4, eq_self, exists_const, forall_const, implies_true, storeOk, thenQ, PK.cond, PK.val, Nat.reduceAdd, Nat.reduceLT, Nat.reduceMul, reduceCtorEq, ↓reduceIte, Nat.reduceEqDiff, Nat.reduceLeDiff, Nat.reduceSub, Nat.reduceBEq, Nat.reduceBNe, Int.reduceLT, Int.reduceEq, Int.reduceAdd, Int.reduceToNat, Int.reduceLE, Int.reduceBEq, Int.reduceBNe, enc1, enc2, h, tO0, tO1, eO0, eO1, tOX, eOX]
              (repeat ((with_reducible refine And.intro ?_ ?_); (first | trivial | assumption | omega | (simp; done))))
              refine hK96 _ ?_
              (try clear hK96)
              refine ag_done (by kernel_rfl) ?_
              (try simp only [thenQ])
              exact Le.sameL rfl (by repeat (first | exact SubL.nil | refine SubL.cons rfl ?_))
            · refine agi (it := It.mk (some 76) none (IK.call 23 [Operand.tmp 73, Operand.tmp 75])) (R' := [2, 1, 0]) (by kernel_rfl) (.inl rfl) (by kernel_rfl) (fun K97 hK97 => ?_)
              simp (maxSteps:=999999) (disch:=omega) only [av1, av2, av3, av4, eq_self, exists_const, forall_const, implies_true, storeOk, thenQ, PK.cond, PK.val, Nat.reduceAdd, Nat.reduceLT, Nat.reduceMul, reduceCtorEq, ↓reduceIte, Nat.reduceEqDiff, Nat.reduceLeDiff, Nat.reduceSub, Nat.reduceBEq, Nat.reduceBNe, Int.reduceLT, Int.reduceEq, Int.reduceAdd, Int.reduceToNat, Int.reduceLE, Int.reduceBEq, Int.reduceBNe, enc1, enc2, h, tO0, tO1, eO0, eO1, tOX, eOX]
              apply Exists.intro
              apply And.intro
              · first | exact (lockTo_ap _ _) | exact (fun _ => (lockTo_ap _ _)) | exact (fun h => ⟨h, (lockTo_ap _ _)⟩) | exact (fun h => ⟨by simp_all, (lockTo_ap _ _)⟩)
              (try simp only [rsAV, List.map_cons, List.map_nil, thenQ])
              refine hK97 _ ?_
              (try clear hK97)
              refine ag_two (i := 3) (j := 14) (by kernel_rfl) ?_ ?_
              · refine agi (it := It.mk (some 66) none (IK.lit 35 [Operand.tmp 65])) (R' := []) (by kernel_rfl) (.inl rfl) (by kernel_rfl) (fun K98 hK98 => ?_)
                simp (maxSteps:=999999) (disch:=omega) only [av1, av2, av3, av4, eq_self, exists_const, forall_const, implies_true, storeOk, thenQ, PK.cond, PK.val, Nat.reduceAdd, Nat.reduceLT, Nat.reduceMul, reduceCtorEq, ↓reduceIte, Nat.reduceEqDiff, Nat.reduceLeDiff, Nat.reduceSub, Nat.reduceBEq, Nat.reduceBNe, Int.reduceLT, Int.reduceEq, Int.reduceAdd, Int.reduceToNat, Int.reduceLE, Int.reduceBEq, Int.reduceBNe, enc1, enc2, h, tO0, tO1, eO0, eO1, tOX, eOX]
                (repeat ((with_reducible refine And.intro ?_ ?_); (first | trivial | assumption | omega | (simp; done))))
                refine hK98 _ ?_
                (try clear hK98)
                refine ag_one (i:=14) (by kernel_rfl) ?_
                refine agi (it := It.mk (some 77) none (IK.lit 2 [Operand.tmp 71, Operand.tmp 76])) (R' := []) (by kernel_rfl) (.inl rfl) (by kernel_rfl) (fun K99 hK99 => ?_)
                simp (maxSteps:=999999) (disch:=omega) only [av1, av2, av3, av4, eq_self, exists_const, forall_const, implies_true, storeOk, thenQ, PK.cond, PK.val, Nat.reduceAdd, Nat.reduceLT, Nat.reduceMul, reduceCtorEq, ↓reduceIte, Nat.reduceEqDiff, Nat.reduceLeDiff, Nat.reduceSub, Nat.reduceBEq, Nat.reduceBNe, Int.reduceLT, Int.reduceEq, Int.reduceAdd, Int.reduceToNat, Int.reduceLE, Int.reduceBEq, Int.reduceBNe, enc1, enc2, h, tO0, tO1, eO0, eO1, tOX, eOX]
                (repeat ((with_reducible refine And.intro ?_ ?_); (first | trivial | assumption | omega | (simp; done))))
                refine hK99 _ ?_
                (try clear hK99)
                refine ag_pures (fuel := 1) [15] [It.mk (some 78) none (IK.p (PK.bld (CV.st [CV.pv (Value.slice none 0 0), CV.pv (Value.slice none 0 0), CV.st [CV.pv (Value.int IntKind.i64 0), CV.pv (Value.int IntKind.i64 0), CV.pv (Value.int IntKind.i64 0), CV.pv (Value.int IntKind.i64 0), CV.ar IntKind.u8 32 (List.replicate 32 0), CV.pv (Value.slice none 0 0)], CV.pv (Value.slice none 0 0)]) [(0, 1), (1, 1), (2, 37), (39, 1)] [(0, Operand.tmp 66), (1, Operand.tmp 77)]))] (by kernel_rfl) (by kernel_rfl) (by kernel_rfl) (by kernel_rfl) (hideZ_nil _ 0) (fun K100 hK100 => ?_)
                simp (maxSteps:=999999) (disch:=omega) only [av1, av2, av3, av4, eq_self, exists_const, forall_const, implies_true, storeOk, thenQ, PK.cond, PK.val, Nat.reduceAdd, Nat.reduceLT, Nat.reduceMul, reduceCtorEq, ↓reduceIte, Nat.reduceEqDiff, Nat.reduceLeDiff, Nat.reduceSub, Nat.reduceBEq, Nat.reduceBNe, Int.reduceLT, Int.reduceEq, Int.reduceAdd, Int.reduceToNat, Int.reduceLE, Int.reduceBEq, Int.reduceBNe, enc1, enc2, h, tO0, tO1, eO0, eO1, tOX, eOX]
                (repeat ((with_reducible refine And.intro ?_ ?_); (first | trivial | assumption | omega | (simp; done))))
                refine hK100 _ ?_
                (try clear hK100)
                refine ag_one (i:=17) (by kernel_rfl) ?_
                refine agi (it := It.mk none none (IK.store (Operand.tmp 11) (Operand.tmp 78) 40)) (R' := []) (by kernel_rfl) (.inr (by kernel_rfl)) (by kernel_rfl) (fun K101 hK101 => ?_)
                simp (maxSteps:=999999) (disch:=omega) only [av1, av2, av3, av4, eq_self, exists_const, forall_const, implies_true, storeOk, thenQ, PK.cond, PK.val, Nat.reduceAdd, Nat.reduceLT, Nat.reduceMul, reduceCtorEq, ↓reduceIte, Nat.reduceEqDiff, Nat.reduceLeDiff, Nat.reduceSub, Nat.reduceBEq, Nat.reduceBNe, Int.reduceLT, Int.reduceEq, Int.reduceAdd, Int.reduceToNat, Int.reduceLE, Int.reduceBEq, Int.reduceBNe, enc1, enc2, h, tO0, tO1, eO0, eO1, tOX, eOX]
                (repeat ((with_reducible refine And.intro ?_ ?_); (first | trivial | assumption | omega | (simp; done))))
                refine hK101 _ ?_
                (try clear hK101)
                refine ag_done (by kernel_rfl) ?_
                (try simp only [thenQ])
                exact Le.sameL rfl (by repeat (first | exact SubL.nil | refine SubL.cons rfl ?_))
              · refine agi (it := It.mk (some 77) none (IK.lit 2 [Operand.tmp 71, Operand.tmp 76])) (R' := [2, 1, 0]) (by kernel_rfl) (.inl rfl) (by kernel_rfl) (fun K102 hK102 => ?_)
                simp (maxSteps:=999999) (disch:=omega) only [av1, av2, av3, av4, eq_self, exists_const, forall_const, implies_true, storeOk, thenQ, PK.cond, PK.val, Nat.reduceAdd, Nat.reduceLT, Nat.reduceMul, reduceCtorEq, ↓reduceIte, Nat.reduceEqDiff, Nat.reduceLeDiff, Nat.reduceSub, Nat.reduceBEq, Nat.reduceBNe, Int.reduceLT, Int.reduceEq, Int.reduceAdd, Int.reduceToNat, Int.reduceLE, Int.reduceBEq, Int.reduceBNe, enc1, enc2, h, tO0, tO1, eO0, eO1, tOX, eOX]
                (repeat ((with_reducible refine And.intro ?_ ?_); (first | trivial | assumption | omega | (simp; done))))
                refine hK102 _ ?_
                (try clear hK102)
                refine ag_one (i:=3) (by kernel_rfl) ?_
                refine agi (it := It.mk (some 66) none (IK.lit 35 [Operand.tmp 65])) (R' := []) (by kernel_rfl) (.inl rfl) (by kernel_rfl) (fun K103 hK103 => ?_)
                simp (maxSteps:=999999) (disch:=omega) only [av1, av2, av3, av4, eq_self, exists_const, forall_const, implies_true, storeOk, thenQ, PK.cond, PK.val, Nat.reduceAdd, Nat.reduceLT, Nat.reduceMul, reduceCtorEq, ↓reduceIte, Nat.reduceEqDiff, Nat.reduceLeDiff, Nat.reduceSub, Nat.reduceBEq, Nat.reduceBNe, Int.reduceLT, Int.reduceEq, Int.reduceAdd, Int.reduceToNat, Int.reduceLE, Int.reduceBEq, Int.reduceBNe, enc1, enc2, h, tO0, tO1, eO0, eO1, tOX, eOX]
                (repeat ((with_reducible refine And.intro ?_ ?_); (first | trivial | assumption | omega | (simp; done))))
                refine hK103 _ ?_
                (try clear hK103)
                refine ag_pures (fuel := 1) [15] [It.mk (some 78) none (IK.p (PK.bld (CV.st [CV.pv (Value.slice none 0 0), CV.pv (Value.slice none 0 0), CV.st [CV.pv (Value.int IntKind.i64 0), CV.pv (Value.int IntKind.i64 0), CV.pv (Value.int IntKind.i64 0), CV.pv (Value.int IntKind.i64 0), CV.ar IntKind.u8 32 (List.replicate 32 0), CV.pv (Value.slice none 0 0)], CV.pv (Value.slice none 0 0)]) [(0, 1), (1, 1), (2, 37), (39, 1)] [(0, Operand.tmp 66), (1, Operand.tmp 77)]))] (by kernel_rfl) (by kernel_rfl) (by kernel_rfl) (by kernel_rfl) (hideZ_nil _ 0) (fun K104 hK104 => ?_)
                simp (maxSteps:=999999) (disch:=omega) only [av1, av2, av3, av4, eq_self, exists_const, forall_const, implies_true, storeOk, thenQ, PK.cond, PK.val, Nat.reduceAdd, Nat.reduceLT, Nat.reduceMul, reduceCtorEq, ↓reduceIte, Nat.reduceEqDiff, Nat.reduceLeDiff, Nat.reduceSub, Nat.reduceBEq, Nat.reduceBNe, Int.reduceLT, Int.reduceEq, Int.reduceAdd, Int.reduceToNat, Int.reduceLE, Int.reduceBEq, Int.reduceBNe, enc1, enc2, h, tO0, tO1, eO0, eO1, tOX, eOX]
                (repeat ((with_reducible refine And.intro ?_ ?_); (first | trivial | assumption | omega | (simp; done))))
                refine hK104 _ ?_
                (try clear hK104)
                refine ag_one (i:=17) (by kernel_rfl) ?_
                refine agi (it := It.mk none none (IK.store (Operand.tmp 11) (Operand.tmp 78) 40)) (R' := []) (by kernel_rfl) (.inr (by kernel_rfl)) (by kernel_rfl) (fun K105 hK105 => ?_)
                simp (maxSteps:=999999) (disch:=omega) only [av1, av2, av3, av4, eq_self, exists_const, forall_const, implies_true, storeOk, thenQ, PK.cond, PK.val, Nat.reduceAdd, Nat.reduceLT, Nat.reduceMul, reduceCtorEq, ↓reduceIte, Nat.reduceEqDiff, Nat.reduceLeDiff, Nat.reduceSub, Nat.reduceBEq, Nat.reduceBNe, Int.reduceLT, Int.reduceEq, Int.reduceAdd, Int.reduceToNat, Int.reduceLE, Int.reduceBEq, Int.reduceBNe, enc1, enc2, h, tO0, tO1, eO0, eO1, tOX, eOX]
                (repeat ((with_reducible refine And.intro ?_ ?_); (first | trivial | assumption | omega | (simp; done))))
                refine hK105 _ ?_
                (try clear hK105)
                refine ag_done (by kernel_rfl) ?_
                (try simp only [thenQ])
                exact Le.sameL rfl (by repeat (first | exact SubL.nil | refine SubL.cons rfl ?_))
        · refine agi (it := It.mk (some 11) none (IK.alloc (CV.st [CV.pv (Value.slice none 0 0), CV.pv (Value.slice none 0 0), CV.st [CV.pv (Value.int IntKind.i64 0), CV.pv (Value.int IntKind.i64 0), CV.pv (Value.int IntKind.i64 0), CV.pv (Value.int IntKind.i64 0), CV.ar IntKind.u8 32 (List.replicate 32 0), CV.pv (Value.slice none 0 0)], CV.pv (Value.slice none 0 0)]))) (R' := [12, 11, 10, 9, 7, 6, 5, 4, 2, 1, 0]) (by kernel_rfl) (.inl rfl) (by kernel_rfl) (fun K106 hK106 => ?_)
          simp (maxSteps:=999999) (disch:=omega) only [av1, av2, av3, av4, eq_self, exists_const, forall_const, implies_true, storeOk, thenQ, PK.cond, PK.val, Nat.reduceAdd, Nat.reduceLT, Nat.reduceMul, reduceCtorEq, ↓reduceIte, Nat.reduceEqDiff, Nat.reduceLeDiff, Nat.reduceSub, Nat.reduceBEq, Nat.reduceBNe, Int.reduceLT, Int.reduceEq, Int.reduceAdd, Int.reduceToNat, Int.reduceLE, Int.reduceBEq, Int.reduceBNe, enc1, enc2, h, tO0, tO1, eO0, eO1, tOX, eOX]
          (repeat ((with_reducible refine And.intro ?_ ?_); (first | trivial | assumption | omega | (simp; done))))
          refine hK106 _ ?_
          (try clear hK106)
          refine ag_two (i := 3) (j := 8) (by kernel_rfl) ?_ ?_
          · refine agi (it := It.mk (some 66) none (IK.lit 35 [Operand.tmp 65])) (R' := [12, 11, 10, 9, 7, 6, 5, 4]) (by kernel_rfl) (.inl rfl) (by kernel_rfl) (fun K107 hK107 => ?_)
            simp (maxSteps:=999999) (disch:=omega) only [av1, av2, av3, av4, eq_self, exists_const, forall_const, implies_true, storeOk, thenQ, PK.cond, PK.val, Nat.reduceAdd, Nat.reduceLT, Nat.reduceMul, reduceCtorEq, ↓reduceIte, Nat.reduceEqDiff, Nat.reduceLeDiff, Nat.reduceSub, Nat.reduceBEq, Nat.reduceBNe, Int.reduceLT, Int.reduceEq, Int.reduceAdd, Int.reduceToNat, Int.reduceLE, Int.reduceBEq, Int.reduceBNe, enc1, enc2, h, tO0, tO1, eO0, eO1, tOX, eOX]
            (repeat ((with_reducible refine And.intro ?_ ?_); (first | trivial | assumption | omega | (simp; done))))
            refine hK107 _ ?_
            (try clear hK107)
            refine ag_one (i:=8) (by kernel_rfl) ?_
            refine agi (it := It.mk (some 71) none (IK.call 23 [Operand.tmp 68, Operand.tmp 70])) (R' := [12, 11, 10, 9]) (by kernel_rfl) (.inl rfl) (by kernel_rfl) (fun K108 hK108 => ?_)
            simp (maxSteps:=999999) (disch:=omega) only [av1, av2, av3, av4, eq_self, exists_const, forall_const, implies_true, storeOk, thenQ, PK.cond, PK.val, Nat.reduceAdd, Nat.reduceLT, Nat.reduceMul, reduceCtorEq, ↓reduceIte, Nat.reduceEqDiff, Nat.reduceLeDiff, Nat.reduceSub, Nat.reduceBEq, Nat.reduceBNe, Int.reduceLT, Int.reduceEq, Int.reduceAdd, Int.reduceToNat, Int.reduceLE, Int.reduceBEq, Int.reduceBNe, enc1, enc2, h, tO0, tO1, eO0, eO1, tOX, eOX]
            apply Exists.intro
            apply And.intro
            · first | exact (lockTo_ap _ _) | exact (fun _ => (lockTo_ap _ _)) | exact (fun h => ⟨h, (lockTo_ap _ _)⟩) | exact (fun h => ⟨by simp_all, (lockTo_ap _ _)⟩)
            (try simp only [rsAV, List.map_cons, List.map_nil, thenQ])
            refine hK108 _ ?_
            (try clear hK108)
            refine ag_one (i:=13) (by kernel_rfl) ?_
            refine agi (it := It.mk (some 76) none (IK.call 23 [Operand.tmp 73, Operand.tmp 75])) (R' := []) (by kernel_rfl) (.inl rfl) (by kernel_rfl) (fun K109 hK109 => ?_)
            simp (maxSteps:=999999) (disch:=omega) only [av1, av2, av3, av4, eq_self, exists_const, forall_const, implies_true, storeOk, thenQ, PK.cond, PK.val, Nat.reduceAdd, Nat.reduceLT, Nat.reduceMul, reduceCtorEq, ↓reduceIte, Nat.reduceEqDiff, Nat.reduceLeDiff, Nat.reduceSub, Nat.reduceBEq, Nat.reduceBNe, Int.reduceLT, Int.reduceEq, Int.reduceAdd, Int.reduceToNat, Int.reduceLE, Int.reduceBEq, Int.reduceBNe, enc1, enc2, h, tO0, tO1, eO0, eO1, tOX, eOX]
            apply Exists.intro
            apply And.intro
            · first | exact (lockTo_ap _ _) | exact (fun _ => (lockTo_ap _ _)) | exact (fun h => ⟨h, (lockTo_ap _ _)⟩) | exact (fun h => ⟨by simp_all, (lockTo_ap _ _)⟩)
            (try simp only [rsAV, List.map_cons, List.map_nil, thenQ])
            refine hK109 _ ?_
            (try clear hK109)
            refine ag_one (i:=14) (by kernel_rfl) ?_
            refine agi (it := It.mk (some 77) none (IK.lit 2 [Operand.tmp 71, Operand.tmp 76])) (R' := []) (by kernel_rfl) (.inl rfl) (by kernel_rfl) (fun K110 hK110 => ?_)
            simp (maxSteps:=999999) (disch:=omega) only [av1, av2, av3, av4, eq_self, exists_const, forall_const, implies_true, storeOk, thenQ, PK.cond, PK.val, Nat.reduceAdd, Nat.reduceLT, Nat.reduceMul, reduceCtorEq, ↓reduceIte, Nat.reduceEqDiff, Nat.reduceLeDiff, Nat.reduceSub, Nat.reduceBEq, Nat.reduceBNe, Int.reduceLT, Int.reduceEq, Int.reduceAdd, Int.reduceToNat, Int.reduceLE, Int.reduceBEq, Int.reduceBNe, enc1, enc2, h, tO0, tO1, eO0, eO1, tOX, eOX]
            (repeat ((with_reducible refine And.intro ?_ ?_); (first | trivial | assumption | omega | (simp; done))))
            refine hK110 _ ?_
            (try clear hK110)
            refine ag_pures (fuel := 1) [15] [It.mk (some 78) none (IK.p (PK.bld (CV.st [CV.pv (Value.slice none 0 0), CV.pv (Value.slice none 0 0), CV.st [CV.pv (Value.int IntKind.i64 0), CV.pv (Value.int IntKind.i64 0), CV.pv (Value.int IntKind.i64 0), CV.pv (Value.int IntKind.i64 0), CV.ar IntKind.u8 32 (List.replicate 32 0), CV.pv (Value.slice none 0 0)], CV.pv (Value.slice none 0 0)]) [(0, 1), (1, 1), (2, 37), (39, 1)] [(0, Operand.tmp 66), (1, Operand.tmp 77)]))] (by kernel_rfl) (by kernel_rfl) (by kernel_rfl) (by kernel_rfl) (hideZ_nil _ 0) (fun K111 hK111 => ?_)
            simp (maxSteps:=999999) (disch:=omega) only [av1, av2, av3, av4, eq_self, exists_const, forall_const, implies_true, storeOk, thenQ, PK.cond, PK.val, Nat.reduceAdd, Nat.reduceLT, Nat.reduceMul, reduceCtorEq, ↓reduceIte, Nat.reduceEqDiff, Nat.reduceLeDiff, Nat.reduceSub, Nat.reduceBEq, Nat.reduceBNe, Int.reduceLT, Int.reduceEq, Int.reduceAdd, Int.reduceToNat, Int.reduceLE, Int.reduceBEq, Int.reduceBNe, enc1, enc2, h, tO0, tO1, eO0, eO1, tOX, eOX]
            (repeat ((with_reducible refine And.intro ?_ ?_); (first | trivial | assumption | omega | (simp; done))))
            refine hK111 _ ?_
            (try clear hK111)
            refine ag_one (i:=17) (by kernel_rfl) ?_
            refine agi (it := It.mk none none (IK.store (Operand.tmp 11) (Operand.tmp 78) 40)) (R' := []) (by kernel_rfl) (.inr (by kernel_rfl)) (by kernel_rfl) (fun K112 hK112 => ?_)
            simp (maxSteps:=999999) (disch:=omega) only [av1, av2, av3, av4, eq_self, exists_const, forall_const, implies_true, storeOk, thenQ, PK.cond, PK.val, Nat.reduceAdd, Nat.reduceLT, Nat.reduceMul, reduceCtorEq, ↓reduceIte, Nat.reduceEqDiff, Nat.reduceLeDiff, Nat.reduceSub, Nat.reduceBEq, Nat.reduceBNe, Int.reduceLT, Int.reduceEq, Int.reduceAdd, Int.reduceToNat, Int.reduceLE, Int.reduceBEq, Int.reduceBNe, enc1, enc2, h, tO0, tO1, eO0, eO1, tOX, eOX]
            (repeat ((with_reducible refine And.intro ?_ ?_); (first | trivial | assumption | omega | (simp; done))))
            refine hK112 _ ?_
            (try clear hK112)
            refine ag_done (by kernel_rfl) ?_
            (try simp only [thenQ])
            exact Le.sameL rfl (by repeat (first | exact SubL.nil | refine SubL.cons rfl ?_))
          · refine agi (it := It.mk (some 71) none (IK.call 23 [Operand.tmp 68, Operand.tmp 70])) (R' := [12, 11, 10, 9, 2, 1, 0]) (by kernel_rfl) (.inl rfl) (by kernel_rfl) (fun K113 hK113 => ?_)
            simp (maxSteps:=999999) (disch:=omega) only [av1, av2, av3, av4, eq_self, exists_const, forall_const, implies_true, storeOk, thenQ, PK.cond, PK.val, Nat.reduceAdd, Nat.reduceLT, Nat.reduceMul, reduceCtorEq, ↓reduceIte, Nat.reduceEqDiff, Nat.reduceLeDiff, Nat.reduceSub, Nat.reduceBEq, Nat.reduceBNe, Int.reduceLT, Int.reduceEq, Int.reduceAdd, Int.reduceToNat, Int.reduceLE, Int.reduceBEq, Int.reduceBNe, enc1, enc2, h, tO0, tO1, eO0, eO1, tOX, eOX]
            apply Exists.intro
            apply And.intro
            · first | exact (lockTo_ap _ _) | exact (fun _ => (lockTo_ap _ _)) | exact (fun h => ⟨h, (lockTo_ap _ _)⟩) | exact (fun h => ⟨by simp_all, (lockTo_ap _ _)⟩)
            (try simp only [rsAV, List.map_cons, List.map_nil, thenQ])
            refine hK113 _ ?_
            (try clear hK113)
            refine ag_two (i := 3) (j := 13) (by kernel_rfl) ?_ ?_
            · refine agi (it := It.mk (some 66) none (IK.lit 35 [Operand.tmp 65])) (R' := [12, 11, 10, 9]) (by kernel_rfl) (.inl rfl) (by kernel_rfl) (fun K114 hK114 => ?_)
              simp (maxSteps:=999999) (disch:=omega) only [av1, av2, av3, av4, eq_self, exists_const, forall_const, implies_true, storeOk, thenQ, PK.cond, PK.val, Nat.reduceAdd, Nat.reduceLT, Nat.reduceMul, reduceCtorEq, ↓reduceIte, Nat.reduceEqDiff, Nat.reduceLeDiff, Nat.reduceSub, Nat.reduceBEq, Nat.reduceBNe, Int.reduceLT, Int.reduceEq, Int.reduceAdd, Int.reduceToNat, Int.reduceLE, Int.reduceBEq, Int.reduceBNe, enc1, enc2, h, tO0, tO1, eO0, eO1, tOX, eOX]
              (repeat ((with_reducible refine And.intro ?_ ?_); (first | trivial | assumption | omega | (simp; done))))
              refine hK114 _ ?_
              (try clear hK114)
              refine ag_one (i:=13) (by kernel_rfl) ?_
              refine agi (it := It.mk (some 76) none (IK.call 23 [Operand.tmp 73, Operand.tmp 75])) (R' := []) (by kernel_rfl) (.inl rfl) (by kernel_rfl) (fun K115 hK115 => ?_)
              simp (maxSteps:=999999) (disch:=omega) only [av1, av2, av3, av4, eq_self, exists_const, forall_const, implies_true, storeOk, thenQ, PK.cond, PK.val, Nat.reduceAdd, Nat.reduceLT, Nat.reduceMul, reduceCtorEq, ↓reduceIte, Nat.reduceEqDiff, Nat.reduceLeDiff, Nat.reduceSub, Nat.reduceBEq, Nat.reduceBNe, Int.reduceLT, Int.reduceEq, Int.reduceAdd, Int.reduceToNat, Int.reduceLE, Int.reduceBEq, Int.reduceBNe, enc1, enc2, h, tO0, tO1, eO0, eO1, tOX, eOX]
              apply Exists.intro
              apply And.intro
              · first | exact (lockTo_ap _ _) | exact (fun _ => (lockTo_ap _ _)) | exact (fun h => ⟨h, (lockTo_ap _ _)⟩) | exact (fun h => ⟨by simp_all, (lockTo_ap _ _)⟩)
              (try simp only [rsAV, List.map_cons, List.map_nil, thenQ])
              refine hK115 _ ?_
              (try clear hK115)
              refine ag_one (i:=14) (by kernel_rfl) ?_
              refine agi (it := It.mk (some 77) none (IK.lit 2 [Operand.tmp 71, Operand.tmp 76])) (R' := []) (by kernel_rfl) (.inl rfl) (by kernel_rfl) (fun K116 hK116 => ?_)
              simp (maxSteps:=999999) (disch:=omega) only [av1, av2, av3, av4, eq_self, exists_const, forall_const, implies_true, storeOk, thenQ, PK.cond, PK.val, Nat.reduceAdd, Nat.reduceLT, Nat.reduceMul, reduceCtorEq, ↓reduceIte, Nat.reduceEqDiff, Nat.reduceLeDiff, Nat.reduceSub, Nat.reduceBEq, Nat.reduceBNe, Int.reduceLT, Int.reduceEq, Int.reduceAdd, Int.reduceToNat, Int.reduceLE, Int.reduceBEq, Int.reduceBNe, enc1, enc2, h, tO0, tO1, eO0, eO1, tOX, eOX]
              (repeat ((with_reducible refine And.intro ?_ ?_); (first | trivial | assumption | omega | (simp; done))))
              refine hK116 _ ?_
              (try clear hK116)
              refine ag_pures (fuel := 1) [15] [It.mk (some 78) none (IK.p (PK.bld (CV.st [CV.pv (Value.slice none 0 0), CV.pv (Value.slice none 0 0), CV.st [CV.pv (Value.int IntKind.i64 0), CV.pv (Value.int IntKind.i64 0), CV.pv (Value.int IntKind.i64 0), CV.pv (Value.int IntKind.i64 0), CV.ar IntKind.u8 32 (List.replicate 32 0), CV.pv (Value.slice none 0 0)], CV.pv (Value.slice none 0 0)]) [(0, 1), (1, 1), (2, 37), (39, 1)] [(0, Operand.tmp 66), (1, Operand.tmp 77)]))] (by kernel_rfl) (by kernel_rfl) (by kernel_rfl) (by kernel_rfl) (hideZ_nil _ 0) (fun K117 hK117 => ?_)
              simp (maxSteps:=999999) (disch:=omega) only [av1, av2, av3, av4, eq_self, exists_const, forall_const, implies_true, storeOk, thenQ, PK.cond, PK.val, Nat.reduceAdd, Nat.reduceLT, Nat.reduceMul, reduceCtorEq, ↓reduceIte, Nat.reduceEqDiff, Nat.reduceLeDiff, Nat.reduceSub, Nat.reduceBEq, Nat.reduceBNe, Int.reduceLT, Int.reduceEq, Int.reduceAdd, Int.reduceToNat, Int.reduceLE, Int.reduceBEq, Int.reduceBNe, enc1, enc2, h, tO0, tO1, eO0, eO1, tOX, eOX]
              (repeat ((with_reducible refine And.intro ?_ ?_); (first | trivial | assumption | omega | (simp; done))))
              refine hK117 _ ?_
              (try clear hK117)
              refine ag_one (i:=17) (by kernel_rfl) ?_
              refine agi (it := It.mk none none (IK.store (Operand.tmp 11) (Operand.tmp 78) 40)) (R' := []) (by kernel_rfl) (.inr (by kernel_rfl)) (by kernel_rfl) (fun K118 hK118 => ?_)
              simp (maxSteps:=999999) (disch:=omega) only [av1, av2, av3, av4, eq_self, exists_const, forall_const, implies_true, storeOk, thenQ, PK.cond, PK.val, Nat.reduceAdd, Nat.reduceLT, Nat.reduceMul, reduceCtorEq, ↓reduceIte, Nat.reduceEqDiff, Nat.reduceLeDiff, Nat.reduceSub, Nat.reduceBEq, Nat.reduceBNe, Int.reduceLT, Int.reduceEq, Int.reduceAdd, Int.reduceToNat, Int.reduceLE, Int.reduceBEq, Int.reduceBNe, enc1, enc2, h, tO0, tO1, eO0, eO1, tOX, eOX]
              (repeat ((with_reducible refine And.intro ?_ ?_); (first | trivial | assumption | omega | (simp; done))))
              refine hK118 _ ?_
              (try clear hK118)
              refine ag_done (by kernel_rfl) ?_
              (try simp only [thenQ])
              exact Le.sameL rfl (by repeat (first | exact SubL.nil | refine SubL.cons rfl ?_))
            · refine agi (it := It.mk (some 76) none (IK.call 23 [Operand.tmp 73, Operand.tmp 75])) (R' := [2, 1, 0]) (by kernel_rfl) (.inl rfl) (by kernel_rfl) (fun K119 hK119 => ?_)
              simp (maxSteps:=999999) (disch:=omega) only [av1, av2, av3, av4, eq_self, exists_const, forall_const, implies_true, storeOk, thenQ, PK.cond, PK.val, Nat.reduceAdd, Nat.reduceLT, Nat.reduceMul, reduceCtorEq, ↓reduceIte, Nat.reduceEqDiff, Nat.reduceLeDiff, Nat.reduceSub, Nat.reduceBEq, Nat.reduceBNe, Int.reduceLT, Int.reduceEq, Int.reduceAdd, Int.reduceToNat, Int.reduceLE, Int.reduceBEq, Int.reduceBNe, enc1, enc2, h, tO0, tO1, eO0, eO1, tOX, eOX]
              apply Exists.intro
              apply And.intro
              · first | exact (lockTo_ap _ _) | exact (fun _ => (lockTo_ap _ _)) | exact (fun h => ⟨h, (lockTo_ap _ _)⟩) | exact (fun h => ⟨by simp_all, (lockTo_ap _ _)⟩)
              (try simp only [rsAV, List.map_cons, List.map_nil, thenQ])
              refine hK119 _ ?_
              (try clear hK119)
              refine ag_two (i := 3) (j := 14) (by kernel_rfl) ?_ ?_
              · refine agi (it := It.mk (some 66) none (IK.lit 35 [Operand.tmp 65])) (R' := []) (by kernel_rfl) (.inl rfl) (by kernel_rfl) (fun K120 hK120 => ?_)
                simp (maxSteps:=999999) (disch:=omega) only [av1, av2, av3, av4, eq_self, exists_const, forall_const, implies_true, storeOk, thenQ, PK.cond, PK.val, Nat.reduceAdd, Nat.reduceLT, Nat.reduceMul, reduceCtorEq, ↓reduceIte, Nat.reduceEqDiff, Nat.reduceLeDiff, Nat.reduceSub, Nat.reduceBEq, Nat.reduceBNe, Int.reduceLT, Int.reduceEq, Int.reduceAdd, Int.reduceToNat, Int.reduceLE, Int.reduceBEq, Int.reduceBNe, enc1, enc2, h, tO0, tO1, eO0, eO1, tOX, eOX]
                (repeat ((with_reducible refine And.intro ?_ ?_); (first | trivial | assumption | omega | (simp; done))))
                refine hK120 _ ?_
                (try clear hK120)
                refine ag_one (i:=14) (by kernel_rfl) ?_
                refine agi (it := It.mk (some 77) none (IK.lit 2 [Operand.tmp 71, Operand.tmp 76])) (R' := []) (by kernel_rfl) (.inl rfl) (by kernel_rfl) (fun K121 hK121 => ?_)
                simp (maxSteps:=999999) (disch:=omega) only [av1, av2, av3, av4, eq_self, exists_const, forall_const, implies_true, storeOk, thenQ, PK.cond, PK.val, Nat.reduceAdd, Nat.reduceLT, Nat.reduceMul, reduceCtorEq, ↓reduceIte, Nat.reduceEqDiff, Nat.reduceLeDiff, Nat.reduceSub, Nat.reduceBEq, Nat.reduceBNe, Int.reduceLT, Int.reduceEq, Int.reduceAdd, Int.reduceToNat, Int.reduceLE, Int.reduceBEq, Int.reduceBNe, enc1, enc2, h, tO0, tO1, eO0, eO1, tOX, eOX]
                (repeat ((with_reducible refine And.intro ?_ ?_); (first | trivial | assumption | omega | (simp; done))))
                refine hK121 _ ?_
                (try clear hK121)
                refine ag_pures (fuel := 1) [15] [It.mk (some 78) none (IK.p (PK.bld (CV.st [CV.pv (Value.slice none 0 0), CV.pv (Value.slice none 0 0), CV.st [CV.pv (Value.int IntKind.i64 0), CV.pv (Value.int IntKind.i64 0), CV.pv (Value.int IntKind.i64 0), CV.pv (Value.int IntKind.i64 0), CV.ar IntKind.u8 32 (List.replicate 32 0), CV.pv (Value.slice none 0 0)], CV.pv (Value.slice none 0 0)]) [(0, 1), (1, 1), (2, 37), (39, 1)] [(0, Operand.tmp 66), (1, Operand.tmp 77)]))] (by kernel_rfl) (by kernel_rfl) (by kernel_rfl) (by kernel_rfl) (hideZ_nil _ 0) (fun K122 hK122 => ?_)
                simp (maxSteps:=999999) (disch:=omega) only [av1, av2, av3, av4, eq_self, exists_const, forall_const, implies_true, storeOk, thenQ, PK.cond, PK.val, Nat.reduceAdd, Nat.reduceLT, Nat.reduceMul, reduceCtorEq, ↓reduceIte, Nat.reduceEqDiff, Nat.reduceLeDiff, Nat.reduceSub, Nat.reduceBEq, Nat.reduceBNe, Int.reduceLT, Int.reduceEq, Int.reduceAdd, Int.reduceToNat, Int.reduceLE, Int.reduceBEq, Int.reduceBNe, enc1, enc2, h, tO0, tO1, eO0, eO1, tOX, eOX]
                (repeat ((with_reducible refine And.intro ?_ ?_); (first | trivial | assumption | omega | (simp; done))))
                refine hK122 _ ?_
                (try clear hK122)
                refine ag_one (i:=17) (by kernel_rfl) ?_
                refine agi (it := It.mk none none (IK.store (Operand.tmp 11) (Operand.tmp 78) 40)) (R' := []) (by kernel_rfl) (.inr (by kernel_rfl)) (by kernel_rfl) (fun K123 hK123 => ?_)
                simp (maxSteps:=999999) (disch:=omega) only [av1, av2, av3, av4, eq_self, exists_const, forall_const, implies_true, storeOk, thenQ, PK.cond, PK.val, Nat.reduceAdd, Nat.reduceLT, Nat.reduceMul, reduceCtorEq, ↓reduceIte, Nat.reduceEqDiff, Nat.reduceLeDiff, Nat.reduceSub, Nat.reduceBEq, Nat.reduceBNe, Int.reduceLT, Int.reduceEq, Int.reduceAdd, Int.reduceToNat, Int.reduceLE, Int.reduceBEq, Int.reduceBNe, enc1, enc2, h, tO0, tO1, eO0, eO1, tOX, eOX]
                (repeat ((with_reducible refine And.intro ?_ ?_); (first | trivial | assumption | omega | (simp; done))))
                refine hK123 _ ?_
                (try clear hK123)
                refine ag_done (by kernel_rfl) ?_
                (try simp only [thenQ])
                exact Le.sameL rfl (by repeat (first | exact SubL.nil | refine SubL.cons rfl ?_))
              · refine agi (it := It.mk (some 77) none (IK.lit 2 [Operand.tmp 71, Operand.tmp 76])) (R' := [2, 1, 0]) (by kernel_rfl) (.inl rfl) (by kernel_rfl) (fun K124 hK124 => ?_)
                simp (maxSteps:=999999) (disch:=omega) only [av1, av2, av3, av4, eq_self, exists_const, forall_const, implies_true, storeOk, thenQ, PK.cond, PK.val, Nat.reduceAdd, Nat.reduceLT, Nat.reduceMul, reduceCtorEq, ↓reduceIte, Nat.reduceEqDiff, Nat.reduceLeDiff, Nat.reduceSub, Nat.reduceBEq, Nat.reduceBNe, Int.reduceLT, Int.reduceEq, Int.reduceAdd, Int.reduceToNat, Int.reduceLE, Int.reduceBEq, Int.reduceBNe, enc1, enc2, h, tO0, tO1, eO0, eO1, tOX, eOX]
                (repeat ((with_reducible refine And.intro ?_ ?_); (first | trivial | assumption | omega | (simp; done))))
                refine hK124 _ ?_
                (try clear hK124)
                refine ag_one (i:=3) (by kernel_rfl) ?_
                refine agi (it := It.mk (some 66) none (IK.lit 35 [Operand.tmp 65])) (R' := []) (by kernel_rfl) (.inl rfl) (by kernel_rfl) (fun K125 hK125 => ?_)
                simp (maxSteps:=999999) (disch:=omega) only [av1, av2, av3, av4, eq_self, exists_const, forall_const, implies_true, storeOk, thenQ, PK.cond, PK.val, Nat.reduceAdd, Nat.reduceLT, Nat.reduceMul, reduceCtorEq, ↓reduceIte, Nat.reduceEqDiff, Nat.reduceLeDiff, Nat.reduceSub, Nat.reduceBEq, Nat.reduceBNe, Int.reduceLT, Int.reduceEq, Int.reduceAdd, Int.reduceToNat, Int.reduceLE, Int.reduceBEq, Int.reduceBNe, enc1, enc2, h, tO0, tO1, eO0, eO1, tOX, eOX]
                (repeat ((with_reducible refine And.intro ?_ ?_); (first | trivial | assumption | omega | (simp; done))))
                refine hK125 _ ?_
                (try clear hK125)
                refine ag_pures (fuel := 1) [15] [It.mk (some 78) none (IK.p (PK.bld (CV.st [CV.pv (Value.slice none 0 0), CV.pv (Value.slice none 0 0), CV.st [CV.pv (Value.int IntKind.i64 0), CV.pv (Value.int IntKind.i64 0), CV.pv (Value.int IntKind.i64 0), CV.pv (Value.int IntKind.i64 0), CV.ar IntKind.u8 32 (List.replicate 32 0), CV.pv (Value.slice none 0 0)], CV.pv (Value.slice none 0 0)]) [(0, 1), (1, 1), (2, 37), (39, 1)] [(0, Operand.tmp 66), (1, Operand.tmp 77)]))] (by kernel_rfl) (by kernel_rfl) (by kernel_rfl) (by kernel_rfl) (hideZ_nil _ 0) (fun K126 hK126 => ?_)
                simp (maxSteps:=999999) (disch:=omega) only [av1, av2, av3, av4, eq_self, exists_const, forall_const, implies_true, storeOk, thenQ, PK.cond, PK.val, Nat.reduceAdd, Nat.reduceLT, Nat.reduceMul, reduceCtorEq, ↓reduceIte, Nat.reduceEqDiff, Nat.reduceLeDiff, Nat.reduceSub, Nat.reduceBEq, Nat.reduceBNe, Int.reduceLT, Int.reduceEq, Int.reduceAdd, Int.reduceToNat, Int.reduceLE, Int.reduceBEq, Int.reduceBNe, enc1, enc2, h, tO0, tO1, eO0, eO1, tOX, eOX]
                (repeat ((with_reducible refine And.intro ?_ ?_); (first | trivial | assumption | omega | (simp; done))))
                refine hK126 _ ?_
                (try clear hK126)
                refine ag_one (i:=17) (by kernel_rfl) ?_
                refine agi (it := It.mk none none (IK.store (Operand.tmp 11) (Operand.tmp 78) 40)) (R' := []) (by kernel_rfl) (.inr (by kernel_rfl)) (by kernel_rfl) (fun K127 hK127 => ?_)
                simp (maxSteps:=999999) (disch:=omega) only [av1, av2, av3, av4, eq_self, exists_const, forall_const, implies_true, storeOk, thenQ, PK.cond, PK.val, Nat.reduceAdd, Nat.reduceLT, Nat.reduceMul, reduceCtorEq, ↓reduceIte, Nat.reduceEqDiff, Nat.reduceLeDiff, Nat.reduceSub, Nat.reduceBEq, Nat.reduceBNe, Int.reduceLT, Int.reduceEq, Int.reduceAdd, Int.reduceToNat, Int.reduceLE, Int.reduceBEq, Int.reduceBNe, enc1, enc2, h, tO0, tO1, eO0, eO1, tOX, eOX]
                (repeat ((with_reducible refine And.intro ?_ ?_); (first | trivial | assumption | omega | (simp; done))))
                refine hK127 _ ?_
                (try clear hK127)
                refine ag_done (by kernel_rfl) ?_
                (try simp only [thenQ])
                exact Le.sameL rfl (by repeat (first | exact SubL.nil | refine SubL.cons rfl ?_))
      refine at_seq fun K128 hK128 => ?_
      refine at_seq fun K129 hK129 => ?_
      refine at_region [It.mk (some 79) none (IK.p (PK.mov (Operand.tmp 10))), It.mk (some 80) none (IK.p (PK.bin BinOp.neq (Operand.tmp 79) (Operand.const (Value.int IntKind.i64 0)))), It.mk (some 81) none (IK.p (PK.mov (Operand.tmp 80))), It.mk (some 82) (some (81, false)) (IK.p (PK.load (Operand.tmp 9) 40 true)), It.mk (some 83) (some (81, false)) (IK.p (PK.load (Operand.tmp 11) 40 true)), It.mk (some 84) (some (81, false)) (IK.call 54 [Operand.tmp 82, Operand.tmp 83]), It.mk (some 85) (some (81, false)) (IK.p (PK.not (Operand.tmp 84))), It.mk (some 86) none (IK.p (PK.pick (Operand.tmp 81) (Operand.const (Value.bool true)) (Operand.tmp 85)))] (by kernel_rfl) ?_
      refine apl_cut [_, _, _, _, _] _ (fun K130 hK130 => ?_)
      simp (maxSteps:=999999) (disch:=omega) only [av1, av2, av3, av4, eq_self, exists_const, forall_const, implies_true, storeOk, thenQ, PK.cond, PK.val, Nat.reduceAdd, Nat.reduceLT, Nat.reduceMul, reduceCtorEq, ↓reduceIte, Nat.reduceEqDiff, Nat.reduceLeDiff, Nat.reduceSub, Nat.reduceBEq, Nat.reduceBNe, Int.reduceLT, Int.reduceEq, Int.reduceAdd, Int.reduceToNat, Int.reduceLE, Int.reduceBEq, Int.reduceBNe, enc1, enc2, h, tO0, tO1, eO0, eO1, tOX, eOX]
      (repeat ((with_reducible refine And.intro ?_ ?_); (first | trivial | assumption | omega | (simp; done))))
      refine hK130 _ ?_
      (try clear hK130)
      refine apl_cut [_] _ (fun K131 hK131 => ?_)
      simp (maxSteps:=999999) (disch:=omega) only [av1, av2, av3, av4, eq_self, exists_const, forall_const, implies_true, storeOk, thenQ, PK.cond, PK.val, Nat.reduceAdd, Nat.reduceLT, Nat.reduceMul, reduceCtorEq, ↓reduceIte, Nat.reduceEqDiff, Nat.reduceLeDiff, Nat.reduceSub, Nat.reduceBEq, Nat.reduceBNe, Int.reduceLT, Int.reduceEq, Int.reduceAdd, Int.reduceToNat, Int.reduceLE, Int.reduceBEq, Int.reduceBNe, enc1, enc2, h, tO0, tO1, eO0, eO1, tOX, eOX]
      apply Exists.intro
      apply And.intro
      · first | exact ((by first | (refine (closeSame_ap hc hs h).le ?_; simp [CV.les, CV.le, closeOf, com0, com1, comTx, cChan, cTxx, cOut, cWay, cInp, cRef, cSum, cOpx, zOpx, toOut, ints, ic] <;> rfl) | (refine (com0Same_ap hc hs h).le ?_; simp [CV.les, CV.le, closeOf, com0, com1, comTx, cChan, cTxx, cOut, cWay, cInp, cRef, cSum, cOpx, zOpx, toOut, ints, ic] <;> rfl) | (refine (com1Same_ap hc hs h).le ?_; simp [CV.les, CV.le, closeOf, com0, com1, comTx, cChan, cTxx, cOut, cWay, cInp, cRef, cSum, cOpx, zOpx, toOut, ints, ic] <;> rfl))) | exact (fun _ => ((by first | (refine (closeSame_ap hc hs h).le ?_; simp [CV.les, CV.le, closeOf, com0, com1, comTx, cChan, cTxx, cOut, cWay, cInp, cRef, cSum, cOpx, zOpx, toOut, ints, ic] <;> rfl) | (refine (com0Same_ap hc hs h).le ?_; simp [CV.les, CV.le, closeOf, com0, com1, comTx, cChan, cTxx, cOut, cWay, cInp, cRef, cSum, cOpx, zOpx, toOut, ints, ic] <;> rfl) | (refine (com1Same_ap hc hs h).le ?_; simp [CV.les, CV.le, closeOf, com0, com1, comTx, cChan, cTxx, cOut, cWay, cInp, cRef, cSum, cOpx, zOpx, toOut, ints, ic] <;> rfl)))) | exact (fun h => ⟨h, ((by first | (refine (closeSame_ap hc hs h).le ?_; simp [CV.les, CV.le, closeOf, com0, com1, comTx, cChan, cTxx, cOut, cWay, cInp, cRef, cSum, cOpx, zOpx, toOut, ints, ic] <;> rfl) | (refine (com0Same_ap hc hs h).le ?_; simp [CV.les, CV.le, closeOf, com0, com1, comTx, cChan, cTxx, cOut, cWay, cInp, cRef, cSum, cOpx, zOpx, toOut, ints, ic] <;> rfl) | (refine (com1Same_ap hc hs h).le ?_; simp [CV.les, CV.le, closeOf, com0, com1, comTx, cChan, cTxx, cOut, cWay, cInp, cRef, cSum, cOpx, zOpx, toOut, ints, ic] <;> rfl)))⟩) | exact (fun h => ⟨by simp_all, ((by first | (refine (closeSame_ap hc hs h).le ?_; simp [CV.les, CV.le, closeOf, com0, com1, comTx, cChan, cTxx, cOut, cWay, cInp, cRef, cSum, cOpx, zOpx, toOut, ints, ic] <;> rfl) | (refine (com0Same_ap hc hs h).le ?_; simp [CV.les, CV.le, closeOf, com0, com1, comTx, cChan, cTxx, cOut, cWay, cInp, cRef, cSum, cOpx, zOpx, toOut, ints, ic] <;> rfl) | (refine (com1Same_ap hc hs h).le ?_; simp [CV.les, CV.le, closeOf, com0, com1, comTx, cChan, cTxx, cOut, cWay, cInp, cRef, cSum, cOpx, zOpx, toOut, ints, ic] <;> rfl)))⟩)
      (try simp only [rsAV, List.map_cons, List.map_nil, thenQ])
      refine hK131 _ ?_
      (try clear hK131)
      simp (maxSteps:=999999) (disch:=omega) only [av1, av2, av3, av4, eq_self, exists_const, forall_const, implies_true, storeOk, thenQ, PK.cond, PK.val, Nat.reduceAdd, Nat.reduceLT, Nat.reduceMul, reduceCtorEq, ↓reduceIte, Nat.reduceEqDiff, Nat.reduceLeDiff, Nat.reduceSub, Nat.reduceBEq, Nat.reduceBNe, Int.reduceLT, Int.reduceEq, Int.reduceAdd, Int.reduceToNat, Int.reduceLE, Int.reduceBEq, Int.reduceBNe, enc1, enc2, h, tO0, tO1, eO0, eO1, tOX, eOX]
      (repeat ((with_reducible refine And.intro ?_ ?_); (first | trivial | assumption | omega | (simp; done))))
      refine hK129 _ ?_
      (try clear hK129)
      refine at_cond _ rfl rfl (fun h132 => ?_) (fun h132 => ?_)
      · have r132 := h132
        (try simp only [dB2] at h132)
        simp at h132
      · have r132 := h132
        (try simp only [dB2] at h132)
        refine at_skip ?_
        (try simp only [thenQ, blockQ])
        refine hK128 _ ?_
        (try clear hK128)
        refine at_seq fun K133 hK133 => ?_
        refine at_seq fun K134 hK134 => ?_
        refine at_region [It.mk (some 87) none (IK.p (PK.mov (Operand.tmp 2))), It.mk (some 88) none (IK.p (PK.bin BinOp.neq (Operand.tmp 87) (Operand.const (Value.int IntKind.i64 0)))), It.mk (some 89) none (IK.p (PK.mov (Operand.tmp 88))), It.mk (some 90) (some (89, true)) (IK.p (PK.mov (Operand.tmp 2))), It.mk (some 91) (some (89, true)) (IK.p (PK.bin BinOp.neq (Operand.tmp 90) (Operand.const (Value.int IntKind.i64 1)))), It.mk (some 92) none (IK.p (PK.pick (Operand.tmp 89) (Operand.tmp 91) (Operand.const (Value.bool false))))] (by kernel_rfl) ?_
        simp (maxSteps:=999999) (disch:=omega) only [av1, av2, av3, av4, eq_self, exists_const, forall_const, implies_true, storeOk, thenQ, PK.cond, PK.val, Nat.reduceAdd, Nat.reduceLT, Nat.reduceMul, reduceCtorEq, ↓reduceIte, Nat.reduceEqDiff, Nat.reduceLeDiff, Nat.reduceSub, Nat.reduceBEq, Nat.reduceBNe, Int.reduceLT, Int.reduceEq, Int.reduceAdd, Int.reduceToNat, Int.reduceLE, Int.reduceBEq, Int.reduceBNe, enc1, enc2, h, tO0, tO1, eO0, eO1, tOX, eOX]
        (repeat ((with_reducible refine And.intro ?_ ?_); (first | trivial | assumption | omega | (simp; done))))
        refine hK134 _ ?_
        (try clear hK134)
        refine at_cond _ rfl rfl (fun h135 => ?_) (fun h135 => ?_)
        · have r135 := h135
          (try simp only [dB2] at h135)
          refine at_seq fun K136 hK136 => ?_
          refine at_region [It.mk (some 93) none (IK.p (PK.mov (Operand.tmp 8))), It.mk (some 94) none (IK.p (PK.bin BinOp.eql (Operand.tmp 93) (Operand.const (Value.int IntKind.i64 1)))), It.mk (some 95) none (IK.p (PK.mov (Operand.tmp 94))), It.mk (some 96) (some (95, true)) (IK.p (PK.fAddr (Operand.tmp 7) 0 0)), It.mk (some 97) (some (95, true)) (IK.p (PK.load (Operand.tmp 96) 1 false)), It.mk (some 98) (some (95, true)) (IK.p (PK.len false (Operand.tmp 97))), It.mk (some 99) (some (95, true)) (IK.p (PK.bin BinOp.eql (Operand.tmp 98) (Operand.const (Value.int IntKind.i64 0)))), It.mk (some 100) none (IK.p (PK.pick (Operand.tmp 95) (Operand.tmp 99) (Operand.const (Value.bool false)))), It.mk (some 101) none (IK.p (PK.mov (Operand.tmp 100))), It.mk (some 102) (some (101, true)) (IK.call 47 []), It.mk (some 103) none (IK.p (PK.pick (Operand.tmp 101) (Operand.tmp 102) (Operand.const (Value.bool false)))), It.mk (some 6) none (IK.p (PK.mov (Operand.tmp 103)))] (by kernel_rfl) ?_
          refine apl_cut [_, _, _, _, _, _, _, _, _] _ (fun K137 hK137 => ?_)
          simp (maxSteps:=999999) (disch:=omega) only [av1, av2, av3, av4, eq_self, exists_const, forall_const, implies_true, storeOk, thenQ, PK.cond, PK.val, Nat.reduceAdd, Nat.reduceLT, Nat.reduceMul, reduceCtorEq, ↓reduceIte, Nat.reduceEqDiff, Nat.reduceLeDiff, Nat.reduceSub, Nat.reduceBEq, Nat.reduceBNe, Int.reduceLT, Int.reduceEq, Int.reduceAdd, Int.reduceToNat, Int.reduceLE, Int.reduceBEq, Int.reduceBNe, enc1, enc2, h, tO0, tO1, eO0, eO1, tOX, eOX]
          (repeat ((with_reducible refine And.intro ?_ ?_); (first | trivial | assumption | omega | (simp; done))))
          refine hK137 _ ?_
          (try clear hK137)
          refine apl_cut [_] _ (fun K138 hK138 => ?_)
          simp (maxSteps:=999999) (disch:=omega) only [av1, av2, av3, av4, eq_self, exists_const, forall_const, implies_true, storeOk, thenQ, PK.cond, PK.val, Nat.reduceAdd, Nat.reduceLT, Nat.reduceMul, reduceCtorEq, ↓reduceIte, Nat.reduceEqDiff, Nat.reduceLeDiff, Nat.reduceSub, Nat.reduceBEq, Nat.reduceBNe, Int.reduceLT, Int.reduceEq, Int.reduceAdd, Int.reduceToNat, Int.reduceLE, Int.reduceBEq, Int.reduceBNe, enc1, enc2, h, tO0, tO1, eO0, eO1, tOX, eOX]
          apply Exists.intro
          apply And.intro
          · first | exact (awake14_ap) | exact (fun _ => (awake14_ap)) | exact (fun h => ⟨h, (awake14_ap)⟩) | exact (fun h => ⟨by simp_all, (awake14_ap)⟩)
          (try simp only [rsAV, List.map_cons, List.map_nil, thenQ])
          refine hK138 _ ?_
          (try clear hK138)
          simp (maxSteps:=999999) (disch:=omega) only [av1, av2, av3, av4, eq_self, exists_const, forall_const, implies_true, storeOk, thenQ, PK.cond, PK.val, Nat.reduceAdd, Nat.reduceLT, Nat.reduceMul, reduceCtorEq, ↓reduceIte, Nat.reduceEqDiff, Nat.reduceLeDiff, Nat.reduceSub, Nat.reduceBEq, Nat.reduceBNe, Int.reduceLT, Int.reduceEq, Int.reduceAdd, Int.reduceToNat, Int.reduceLE, Int.reduceBEq, Int.reduceBNe, enc1, enc2, h, tO0, tO1, eO0, eO1, tOX, eOX]
          (repeat ((with_reducible refine And.intro ?_ ?_); (first | trivial | assumption | omega | (simp; done))))
          refine hK136 _ ?_
          (try clear hK136)
          refine at_ret ?_
          simp (maxSteps:=999999) (disch:=omega) only [av1, av2, av3, av4, eq_self, exists_const, forall_const, implies_true, storeOk, thenQ, PK.cond, PK.val, Nat.reduceAdd, Nat.reduceLT, Nat.reduceMul, reduceCtorEq, ↓reduceIte, Nat.reduceEqDiff, Nat.reduceLeDiff, Nat.reduceSub, Nat.reduceBEq, Nat.reduceBNe, Int.reduceLT, Int.reduceEq, Int.reduceAdd, Int.reduceToNat, Int.reduceLE, Int.reduceBEq, Int.reduceBNe, enc1, enc2, h, tO0, tO1, eO0, eO1, tOX, eOX, blockQ, retQ, RetOk, ResOk, AV.fin, AV.fins, CV.le, CV.les]
          (first | rfl | (simp; done) | trace_state)
        · have r135 := h135
          (try simp only [dB2] at h135)
          refine at_skip ?_
          (try simp only [thenQ, blockQ])
          refine hK133 _ ?_
          (try clear hK133)
          refine at_seq fun K139 hK139 => ?_
          refine at_region [It.mk (some 104) none (IK.p (PK.load (Operand.tmp 3) 39 true)), It.mk (some 105) none (IK.p (PK.fAddr (Operand.tmp 3) 1 1)), It.mk (some 106) none (IK.p (PK.load (Operand.tmp 105) 1 false)), It.mk (some 107) none (IK.p (PK.fAddr (Operand.tmp 3) 2 2)), It.mk (some 108) none (IK.p (PK.load (Operand.tmp 107) 1 false)), It.mk (some 109) none (IK.p (PK.fAddr (Operand.tmp 4) 1 1)), It.mk (some 110) none (IK.p (PK.load (Operand.tmp 109) 1 false)), It.mk (some 111) none (IK.p (PK.fAddr (Operand.tmp 4) 2 2)), It.mk (some 112) none (IK.p (PK.load (Operand.tmp 111) 1 false)), It.mk (some 113) none (IK.p (PK.fAddr (Operand.tmp 4) 3 3)), It.mk (some 114) none (IK.p (PK.iAddrA (Operand.tmp 113) (Operand.const (Value.int IntKind.i64 0)) 2 32)), It.mk (some 115) none (IK.p (PK.load (Operand.tmp 114) 32 true)), It.mk (some 116) none (IK.call 55 [Operand.tmp 104, Operand.tmp 106, Operand.tmp 108, Operand.tmp 110, Operand.tmp 112, Operand.tmp 115]), It.mk (some 12) none (IK.alloc (CV.st [CV.pv (Value.slice none 0 0), CV.pv (Value.slice none 0 0), CV.st [CV.pv (Value.int IntKind.i64 0), CV.pv (Value.int IntKind.i64 0), CV.pv (Value.int IntKind.i64 0), CV.pv (Value.int IntKind.i64 0), CV.ar IntKind.u8 32 (List.replicate 32 0), CV.pv (Value.slice none 0 0)], CV.pv (Value.slice none 0 0)])), It.mk none none (IK.store (Operand.tmp 12) (Operand.tmp 116) 40)] (by kernel_rfl) ?_
          refine apl_cut [_, _, _, _, _, _, _, _, _, _, _, _] _ (fun K140 hK140 => ?_)
          simp (maxSteps:=999999) (disch:=omega) only [av1, av2, av3, av4, eq_self, exists_const, forall_const, implies_true, storeOk, thenQ, PK.cond, PK.val, Nat.reduceAdd, Nat.reduceLT, Nat.reduceMul, reduceCtorEq, ↓reduceIte, Nat.reduceEqDiff, Nat.reduceLeDiff, Nat.reduceSub, Nat.reduceBEq, Nat.reduceBNe, Int.reduceLT, Int.reduceEq, Int.reduceAdd, Int.reduceToNat, Int.reduceLE, Int.reduceBEq, Int.reduceBNe, enc1, enc2, h, tO0, tO1, eO0, eO1, tOX, eOX]
          (repeat ((with_reducible refine And.intro ?_ ?_); (first | trivial | assumption | omega | (simp; done))))
          refine hK140 _ ?_
          (try clear hK140)
          refine apl_cut [_] _ (fun K141 hK141 => ?_)
          simp (maxSteps:=999999) (disch:=omega) only [av1, av2, av3, av4, eq_self, exists_const, forall_const, implies_true, storeOk, thenQ, PK.cond, PK.val, Nat.reduceAdd, Nat.reduceLT, Nat.reduceMul, reduceCtorEq, ↓reduceIte, Nat.reduceEqDiff, Nat.reduceLeDiff, Nat.reduceSub, Nat.reduceBEq, Nat.reduceBNe, Int.reduceLT, Int.reduceEq, Int.reduceAdd, Int.reduceToNat, Int.reduceLE, Int.reduceBEq, Int.reduceBNe, enc1, enc2, h, tO0, tO1, eO0, eO1, tOX, eOX]
          apply Exists.intro
          apply And.intro
          · first | exact (law14Build_ap _ _ _ _ _ _) | exact (fun _ => (law14Build_ap _ _ _ _ _ _)) | exact (fun h => ⟨h, (law14Build_ap _ _ _ _ _ _)⟩) | exact (fun h => ⟨by simp_all, (law14Build_ap _ _ _ _ _ _)⟩)
          (try simp only [rsAV, List.map_cons, List.map_nil, thenQ])
          refine hK141 _ ?_
          (try clear hK141)
          simp (maxSteps:=999999) (disch:=omega) only [av1, av2, av3, av4, eq_self, exists_const, forall_const, implies_true, storeOk, thenQ, PK.cond, PK.val, Nat.reduceAdd, Nat.reduceLT, Nat.reduceMul, reduceCtorEq, ↓reduceIte, Nat.reduceEqDiff, Nat.reduceLeDiff, Nat.reduceSub, Nat.reduceBEq, Nat.reduceBNe, Int.reduceLT, Int.reduceEq, Int.reduceAdd, Int.reduceToNat, Int.reduceLE, Int.reduceBEq, Int.reduceBNe, enc1, enc2, h, tO0, tO1, eO0, eO1, tOX, eOX]
          (repeat ((with_reducible refine And.intro ?_ ?_); (first | trivial | assumption | omega | (simp; done))))
          refine hK139 _ ?_
          (try clear hK139)
          refine at_seq fun K142 hK142 => ?_
          refine at_seq fun K143 hK143 => ?_
          refine at_region [It.mk (some 117) none (IK.p (PK.mov (Operand.tmp 2))), It.mk (some 118) none (IK.p (PK.bin BinOp.eql (Operand.tmp 117) (Operand.const (Value.int IntKind.i64 1))))] (by kernel_rfl) ?_
          simp (maxSteps:=999999) (disch:=omega) only [av1, av2, av3, av4, eq_self, exists_const, forall_const, implies_true, storeOk, thenQ, PK.cond, PK.val, Nat.reduceAdd, Nat.reduceLT, Nat.reduceMul, reduceCtorEq, ↓reduceIte, Nat.reduceEqDiff, Nat.reduceLeDiff, Nat.reduceSub, Nat.reduceBEq, Nat.reduceBNe, Int.reduceLT, Int.reduceEq, Int.reduceAdd, Int.reduceToNat, Int.reduceLE, Int.reduceBEq, Int.reduceBNe, enc1, enc2, h, tO0, tO1, eO0, eO1, tOX, eOX]
          (repeat ((with_reducible refine And.intro ?_ ?_); (first | trivial | assumption | omega | (simp; done))))
          refine hK143 _ ?_
          (try clear hK143)
          refine at_cond _ rfl rfl (fun h144 => ?_) (fun h144 => ?_)
          · have r144 := h144
            (try simp only [dB2] at h144)
            obtain rfl : o = 1 := (by simpa using h144)
            refine at_region [It.mk (some 119) none (IK.p (PK.load (Operand.tmp 3) 39 true)), It.mk (some 120) none (IK.p (PK.fAddr (Operand.tmp 3) 2 2)), It.mk (some 121) none (IK.p (PK.load (Operand.tmp 120) 1 false)), It.mk (some 122) none (IK.p (PK.fAddr (Operand.tmp 3) 1 1)), It.mk (some 123) none (IK.p (PK.load (Operand.tmp 122) 1 false)), It.mk (some 124) none (IK.p (PK.fAddr (Operand.tmp 4) 2 2)), It.mk (some 125) none (IK.p (PK.load (Operand.tmp 124) 1 false)), It.mk (some 126) none (IK.p (PK.fAddr (Operand.tmp 4) 1 1)), It.mk (some 127) none (IK.p (PK.load (Operand.tmp 126) 1 false)), It.mk (some 128) none (IK.p (PK.fAddr (Operand.tmp 4) 3 3)), It.mk (some 129) none (IK.p (PK.iAddrA (Operand.tmp 128) (Operand.const (Value.int IntKind.i64 1)) 2 32)), It.mk (some 130) none (IK.p (PK.load (Operand.tmp 129) 32 true)), It.mk (some 131) none (IK.call 55 [Operand.tmp 119, Operand.tmp 121, Operand.tmp 123, Operand.tmp 125, Operand.tmp 127, Operand.tmp 130]), It.mk none none (IK.store (Operand.tmp 12) (Operand.tmp 131) 40)] (by kernel_rfl) ?_
            refine apl_cut [_, _, _, _, _, _, _, _, _, _, _, _] _ (fun K145 hK145 => ?_)
            simp (maxSteps:=999999) (disch:=omega) only [av1, av2, av3, av4, eq_self, exists_const, forall_const, implies_true, storeOk, thenQ, PK.cond, PK.val, Nat.reduceAdd, Nat.reduceLT, Nat.reduceMul, reduceCtorEq, ↓reduceIte, Nat.reduceEqDiff, Nat.reduceLeDiff, Nat.reduceSub, Nat.reduceBEq, Nat.reduceBNe, Int.reduceLT, Int.reduceEq, Int.reduceAdd, Int.reduceToNat, Int.reduceLE, Int.reduceBEq, Int.reduceBNe, enc1, enc2, h, tO0, tO1, eO0, eO1, tOX, eOX]
            (repeat ((with_reducible refine And.intro ?_ ?_); (first | trivial | assumption | omega | (simp; done))))
            refine hK145 _ ?_
            (try clear hK145)
            refine apl_cut [_] _ (fun K146 hK146 => ?_)
            simp (maxSteps:=999999) (disch:=omega) only [av1, av2, av3, av4, eq_self, exists_const, forall_const, implies_true, storeOk, thenQ, PK.cond, PK.val, Nat.reduceAdd, Nat.reduceLT, Nat.reduceMul, reduceCtorEq, ↓reduceIte, Nat.reduceEqDiff, Nat.reduceLeDiff, Nat.reduceSub, Nat.reduceBEq, Nat.reduceBNe, Int.reduceLT, Int.reduceEq, Int.reduceAdd, Int.reduceToNat, Int.reduceLE, Int.reduceBEq, Int.reduceBNe, enc1, enc2, h, tO0, tO1, eO0, eO1, tOX, eOX]
            apply Exists.intro
            apply And.intro
            · first | exact (law14Build_ap _ _ _ _ _ _) | exact (fun _ => (law14Build_ap _ _ _ _ _ _)) | exact (fun h => ⟨h, (law14Build_ap _ _ _ _ _ _)⟩) | exact (fun h => ⟨by simp_all, (law14Build_ap _ _ _ _ _ _)⟩)
            (try simp only [rsAV, List.map_cons, List.map_nil, thenQ])
            refine hK146 _ ?_
            (try clear hK146)
            simp (maxSteps:=999999) (disch:=omega) only [av1, av2, av3, av4, eq_self, exists_const, forall_const, implies_true, storeOk, thenQ, PK.cond, PK.val, Nat.reduceAdd, Nat.reduceLT, Nat.reduceMul, reduceCtorEq, ↓reduceIte, Nat.reduceEqDiff, Nat.reduceLeDiff, Nat.reduceSub, Nat.reduceBEq, Nat.reduceBNe, Int.reduceLT, Int.reduceEq, Int.reduceAdd, Int.reduceToNat, Int.reduceLE, Int.reduceBEq, Int.reduceBNe, enc1, enc2, h, tO0, tO1, eO0, eO1, tOX, eOX]
            (repeat ((with_reducible refine And.intro ?_ ?_); (first | trivial | assumption | omega | (simp; done))))
            refine hK142 _ ?_
            (try clear hK142)
            refine at_seqJ ?_
            apply Exists.intro
            refine And.intro ?_ ?_
            · skip
              refine at_draws [] (by kernel_rfl) ?_
              refine ag_pures (fuel := 21) [0, 1, 2, 3, 4] [It.mk (some 132) none (IK.p (PK.mov (Operand.tmp 8))), It.mk (some 133) none (IK.p (PK.bin BinOp.eql (Operand.tmp 132) (Operand.const (Value.int IntKind.i64 0)))), It.mk (some 134) none (IK.p (PK.mov (Operand.tmp 133))), It.mk (some 135) (some (134, true)) (IK.p (PK.load (Operand.tmp 7) 40 true)), It.mk (some 136) (some (134, true)) (IK.p (PK.load (Operand.tmp 12) 40 true))] (by kernel_rfl) (by kernel_rfl) (by kernel_rfl) (by kernel_rfl) (hideZ_nil _ 0) (fun K148 hK148 => ?_)
              simp (maxSteps:=999999) (disch:=omega) only [av1, av2, av3, av4, eq_self, exists_const, forall_const, implies_true, storeOk, thenQ, PK.cond, PK.val, Nat.reduceAdd, Nat.reduceLT, Nat.reduceMul, reduceCtorEq, ↓reduceIte, Nat.reduceEqDiff, Nat.reduceLeDiff, Nat.reduceSub, Nat.reduceBEq, Nat.reduceBNe, Int.reduceLT, Int.reduceEq, Int.reduceAdd, Int.reduceToNat, Int.reduceLE, Int.reduceBEq, Int.reduceBNe, enc1, enc2, h, tO0, tO1, eO0, eO1, tOX, eOX]
              (repeat ((with_reducible refine And.intro ?_ ?_); (first | trivial | assumption | omega | (simp; done))))
              refine hK148 _ ?_
              (try clear hK148)
              refine ag_one (i:=5) (by kernel_rfl) ?_
              refine agi (it := It.mk (some 137) (some (134, true)) (IK.call 54 [Operand.tmp 135, Operand.tmp 136])) (R' := []) (by kernel_rfl) (.inl rfl) (by kernel_rfl) (fun K149 hK149 => ?_)
              simp (maxSteps:=999999) (disch:=omega) only [av1, av2, av3, av4, eq_self, exists_const, forall_const, implies_true, storeOk, thenQ, PK.cond, PK.val, Nat.reduceAdd, Nat.reduceLT, Nat.reduceMul, reduceCtorEq, ↓reduceIte, Nat.reduceEqDiff, Nat.reduceLeDiff, Nat.reduceSub, Nat.reduceBEq, Nat.reduceBNe, Int.reduceLT, Int.reduceEq, Int.reduceAdd, Int.reduceToNat, Int.reduceLE, Int.reduceBEq, Int.reduceBNe, enc1, enc2, h, tO0, tO1, eO0, eO1, tOX, eOX]
              apply Exists.intro
              apply And.intro
              · first | exact ((by first | (refine (closeSame_ap hc hs h).le ?_; simp [CV.les, CV.le, closeOf, com0, com1, comTx, cChan, cTxx, cOut, cWay, cInp, cRef, cSum, cOpx, zOpx, toOut, ints, ic] <;> rfl) | (refine (com0Same_ap hc hs h).le ?_; simp [CV.les, CV.le, closeOf, com0, com1, comTx, cChan, cTxx, cOut, cWay, cInp, cRef, cSum, cOpx, zOpx, toOut, ints, ic] <;> rfl) | (refine (com1Same_ap hc hs h).le ?_; simp [CV.les, CV.le, closeOf, com0, com1, comTx, cChan, cTxx, cOut, cWay, cInp, cRef, cSum, cOpx, zOpx, toOut, ints, ic] <;> rfl))) | exact (fun _ => ((by first | (refine (closeSame_ap hc hs h).le ?_; simp [CV.les, CV.le, closeOf, com0, com1, comTx, cChan, cTxx, cOut, cWay, cInp, cRef, cSum, cOpx, zOpx, toOut, ints, ic] <;> rfl) | (refine (com0Same_ap hc hs h).le ?_; simp [CV.les, CV.le, closeOf, com0, com1, comTx, cChan, cTxx, cOut, cWay, cInp, cRef, cSum, cOpx, zOpx, toOut, ints, ic] <;> rfl) | (refine (com1Same_ap hc hs h).le ?_; simp [CV.les, CV.le, closeOf, com0, com1, comTx, cChan, cTxx, cOut, cWay, cInp, cRef, cSum, cOpx, zOpx, toOut, ints, ic] <;> rfl)))) | exact (fun h => ⟨h, ((by first | (refine (closeSame_ap hc hs h).le ?_; simp [CV.les, CV.le, closeOf, com0, com1, comTx, cChan, cTxx, cOut, cWay, cInp, cRef, cSum, cOpx, zOpx, toOut, ints, ic] <;> rfl) | (refine (com0Same_ap hc hs h).le ?_; simp [CV.les, CV.le, closeOf, com0, com1, comTx, cChan, cTxx, cOut, cWay, cInp, cRef, cSum, cOpx, zOpx, toOut, ints, ic] <;> rfl) | (refine (com1Same_ap hc hs h).le ?_; simp [CV.les, CV.le, closeOf, com0, com1, comTx, cChan, cTxx, cOut, cWay, cInp, cRef, cSum, cOpx, zOpx, toOut, ints, ic] <;> rfl)))⟩) | exact (fun h => ⟨by simp_all, ((by first | (refine (closeSame_ap hc hs h).le ?_; simp [CV.les, CV.le, closeOf, com0, com1, comTx, cChan, cTxx, cOut, cWay, cInp, cRef, cSum, cOpx, zOpx, toOut, ints, ic] <;> rfl) | (refine (com0Same_ap hc hs h).le ?_; simp [CV.les, CV.le, closeOf, com0, com1, comTx, cChan, cTxx, cOut, cWay, cInp, cRef, cSum, cOpx, zOpx, toOut, ints, ic] <;> rfl) | (refine (com1Same_ap hc hs h).le ?_; simp [CV.les, CV.le, closeOf, com0, com1, comTx, cChan, cTxx, cOut, cWay, cInp, cRef, cSum, cOpx, zOpx, toOut, ints, ic] <;> rfl)))⟩)
              (try simp only [rsAV, List.map_cons, List.map_nil, thenQ])
              refine hK149 _ ?_
              (try clear hK149)
              refine ag_pures (fuel := 15) [6, 7, 8, 9, 11] [It.mk (some 138) none (IK.p (PK.pick (Operand.tmp 134) (Operand.tmp 137) (Operand.const (Value.bool false)))), It.mk (some 139) none (IK.p (PK.mov (Operand.tmp 138))), It.mk (some 140) (some (139, true)) (IK.p (PK.load (Operand.tmp 3) 39 true)), It.mk (some 141) (some (139, true)) (IK.p (PK.load (Operand.tmp 7) 40 true)), It.mk (some 143) (some (139, true)) (IK.p (PK.mov (Operand.tmp 2)))] (by kernel_rfl) (by kernel_rfl) (by kernel_rfl) (by kernel_rfl) (hideZ_nil _ 0) (fun K150 hK150 => ?_)
              simp (maxSteps:=999999) (disch:=omega) only [av1, av2, av3, av4, eq_self, exists_const, forall_const, implies_true, storeOk, thenQ, PK.cond, PK.val, Nat.reduceAdd, Nat.reduceLT, Nat.reduceMul, reduceCtorEq, ↓reduceIte, Nat.reduceEqDiff, Nat.reduceLeDiff, Nat.reduceSub, Nat.reduceBEq, Nat.reduceBNe, Int.reduceLT, Int.reduceEq, Int.reduceAdd, Int.reduceToNat, Int.reduceLE, Int.reduceBEq, Int.reduceBNe, enc1, enc2, h, tO0, tO1, eO0, eO1, tOX, eOX]
              (repeat ((with_reducible refine And.intro ?_ ?_); (first | trivial | assumption | omega | (simp; done))))
              refine hK150 _ ?_
              (try clear hK150)
              refine ag_one (i:=10) (by kernel_rfl) ?_
              refine agi (it := It.mk (some 142) (some (139, true)) (IK.call 56 [Operand.tmp 140, Operand.tmp 141])) (R' := [11]) (by kernel_rfl) (.inl rfl) (by kernel_rfl) (fun K151 hK151 => ?_)
              simp (maxSteps:=999999) (disch:=omega) only [av1, av2, av3, av4, eq_self, exists_const, forall_const, implies_true, storeOk, thenQ, PK.cond, PK.val, Nat.reduceAdd, Nat.reduceLT, Nat.reduceMul, reduceCtorEq, ↓reduceIte, Nat.reduceEqDiff, Nat.reduceLeDiff, Nat.reduceSub, Nat.reduceBEq, Nat.reduceBNe, Int.reduceLT, Int.reduceEq, Int.reduceAdd, Int.reduceToNat, Int.reduceLE, Int.reduceBEq, Int.reduceBNe, enc1, enc2, h, tO0, tO1, eO0, eO1, tOX, eOX]
              apply Exists.intro
              apply And.intro
              · first | exact ((by first | (refine (owner0_ap hc hs h).le ?_; simp [CV.les, CV.le, closeOf, com0, com1, comTx, cChan, cTxx, cOut, cWay, cInp, cRef, cSum, cOpx, zOpx, toOut, ints, ic] <;> rfl) | (refine (owner1_ap hc hs h).le ?_; simp [CV.les, CV.le, closeOf, com0, com1, comTx, cChan, cTxx, cOut, cWay, cInp, cRef, cSum, cOpx, zOpx, toOut, ints, ic] <;> rfl))) | exact (fun _ => ((by first | (refine (owner0_ap hc hs h).le ?_; simp [CV.les, CV.le, closeOf, com0, com1, comTx, cChan, cTxx, cOut, cWay, cInp, cRef, cSum, cOpx, zOpx, toOut, ints, ic] <;> rfl) | (refine (owner1_ap hc hs h).le ?_; simp [CV.les, CV.le, closeOf, com0, com1, comTx, cChan, cTxx, cOut, cWay, cInp, cRef, cSum, cOpx, zOpx, toOut, ints, ic] <;> rfl)))) | exact (fun h => ⟨h, ((by first | (refine (owner0_ap hc hs h).le ?_; simp [CV.les, CV.le, closeOf, com0, com1, comTx, cChan, cTxx, cOut, cWay, cInp, cRef, cSum, cOpx, zOpx, toOut, ints, ic] <;> rfl) | (refine (owner1_ap hc hs h).le ?_; simp [CV.les, CV.le, closeOf, com0, com1, comTx, cChan, cTxx, cOut, cWay, cInp, cRef, cSum, cOpx, zOpx, toOut, ints, ic] <;> rfl)))⟩) | exact (fun h => ⟨by simp_all, ((by first | (refine (owner0_ap hc hs h).le ?_; simp [CV.les, CV.le, closeOf, com0, com1, comTx, cChan, cTxx, cOut, cWay, cInp, cRef, cSum, cOpx, zOpx, toOut, ints, ic] <;> rfl) | (refine (owner1_ap hc hs h).le ?_; simp [CV.les, CV.le, closeOf, com0, com1, comTx, cChan, cTxx, cOut, cWay, cInp, cRef, cSum, cOpx, zOpx, toOut, ints, ic] <;> rfl)))⟩)
              (try simp only [rsAV, List.map_cons, List.map_nil, thenQ])
              refine hK151 _ ?_
              (try clear hK151)
              refine ag_pures (fuel := 9) [12, 13, 14, 15, 17] [It.mk (some 144) (some (139, true)) (IK.p (PK.bin BinOp.eql (Operand.tmp 142) (Operand.tmp 143))), It.mk (some 145) none (IK.p (PK.pick (Operand.tmp 139) (Operand.tmp 144) (Operand.const (Value.bool false)))), It.mk (some 146) none (IK.p (PK.mov (Operand.tmp 145))), It.mk (some 147) (some (146, true)) (IK.p (PK.load (Operand.tmp 7) 40 true)), It.mk (some 149) (some (146, true)) (IK.p (PK.load (Operand.tmp 12) 40 true))] (by kernel_rfl) (by kernel_rfl) (by kernel_rfl) (by kernel_rfl) (hideZ_nil _ 0) (fun K152 hK152 => ?_)
              simp (maxSteps:=999999) (disch:=omega) only [av1, av2, av3, av4, eq_self, exists_const, forall_const, implies_true, storeOk, thenQ, PK.cond, PK.val, Nat.reduceAdd, Nat.reduceLT, Nat.reduceMul, reduceCtorEq, ↓reduceIte, Nat.reduceEqDiff, Nat.reduceLeDiff, Nat.reduceSub, Nat.reduceBEq, Nat.reduceBNe, Int.reduceLT, Int.reduceEq, Int.reduceAdd, Int.reduceToNat, Int.reduceLE, Int.reduceBEq, Int.reduceBNe, enc1, enc2, h, tO0, tO1, eO0, eO1, tOX, eOX]
              (repeat ((with_reducible refine And.intro ?_ ?_); (first | trivial | assumption | omega | (simp; done))))
              refine hK152 _ ?_
              (try clear hK152)
              refine ag_one (i:=16) (by kernel_rfl) ?_
              refine agi (it := It.mk (some 148) (some (146, true)) (IK.call 57 [Operand.tmp 147])) (R' := [17]) (by kernel_rfl) (.inl rfl) (by kernel_rfl) (fun K153 hK153 => ?_)
              simp (maxSteps:=999999) (disch:=omega) only [av1, av2, av3, av4, eq_self, exists_const, forall_const, implies_true, storeOk, thenQ, PK.cond, PK.val, Nat.reduceAdd, Nat.reduceLT, Nat.reduceMul, reduceCtorEq, ↓reduceIte, Nat.reduceEqDiff, Nat.reduceLeDiff, Nat.reduceSub, Nat.reduceBEq, Nat.reduceBNe, Int.reduceLT, Int.reduceEq, Int.reduceAdd, Int.reduceToNat, Int.reduceLE, Int.reduceBEq, Int.reduceBNe, enc1, enc2, h, tO0, tO1, eO0, eO1, tOX, eOX]
              apply Exists.intro
              apply And.intro
              · first | exact ((by first | (refine (ref_ap (okCom0 hc hs) (small_com _ _ _ _ _ _)).le ?_; simp [CV.les, CV.le, closeOf, com0, com1, comTx, cChan, cTxx, cOut, cWay, cInp, cRef, cSum, cOpx, zOpx, toOut, ints, ic] <;> rfl) | (refine (ref_ap (okCom1 hc hs) (small_com _ _ _ _ _ _)).le ?_; simp [CV.les, CV.le, closeOf, com0, com1, comTx, cChan, cTxx, cOut, cWay, cInp, cRef, cSum, cOpx, zOpx, toOut, ints, ic] <;> rfl))) | exact (fun _ => ((by first | (refine (ref_ap (okCom0 hc hs) (small_com _ _ _ _ _ _)).le ?_; simp [CV.les, CV.le, closeOf, com0, com1, comTx, cChan, cTxx, cOut, cWay, cInp, cRef, cSum, cOpx, zOpx, toOut, ints, ic] <;> rfl) | (refine (ref_ap (okCom1 hc hs) (small_com _ _ _ _ _ _)).le ?_; simp [CV.les, CV.le, closeOf, com0, com1, comTx, cChan, cTxx, cOut, cWay, cInp, cRef, cSum, cOpx, zOpx, toOut, ints, ic] <;> rfl)))) | exact (fun h => ⟨h, ((by first | (refine (ref_ap (okCom0 hc hs) (small_com _ _ _ _ _ _)).le ?_; simp [CV.les, CV.le, closeOf, com0, com1, comTx, cChan, cTxx, cOut, cWay, cInp, cRef, cSum, cOpx, zOpx, toOut, ints, ic] <;> rfl) | (refine (ref_ap (okCom1 hc hs) (small_com _ _ _ _ _ _)).le ?_; simp [CV.les, CV.le, closeOf, com0, com1, comTx, cChan, cTxx, cOut, cWay, cInp, cRef, cSum, cOpx, zOpx, toOut, ints, ic] <;> rfl)))⟩) | exact (fun h => ⟨by simp_all, ((by first | (refine (ref_ap (okCom0 hc hs) (small_com _ _ _ _ _ _)).le ?_; simp [CV.les, CV.le, closeOf, com0, com1, comTx, cChan, cTxx, cOut, cWay, cInp, cRef, cSum, cOpx, zOpx, toOut, ints, ic] <;> rfl) | (refine (ref_ap (okCom1 hc hs) (small_com _ _ _ _ _ _)).le ?_; simp [CV.les, CV.le, closeOf, com0, com1, comTx, cChan, cTxx, cOut, cWay, cInp, cRef, cSum, cOpx, zOpx, toOut, ints, ic] <;> rfl)))⟩)
              (try simp only [rsAV, List.map_cons, List.map_nil, thenQ])
              refine hK153 _ ?_
              (try clear hK153)
              refine ag_one (i:=18) (by kernel_rfl) ?_
              refine agi (it := It.mk (some 150) (some (146, true)) (IK.call 58 [Operand.tmp 149])) (R' := []) (by kernel_rfl) (.inl rfl) (by kernel_rfl) (fun K154 hK154 => ?_)
              simp (maxSteps:=999999) (disch:=omega) only [av1, av2, av3, av4, eq_self, exists_const, forall_const, implies_true, storeOk, thenQ, PK.cond, PK.val, Nat.reduceAdd, Nat.reduceLT, Nat.reduceMul, reduceCtorEq, ↓reduceIte, Nat.reduceEqDiff, Nat.reduceLeDiff, Nat.reduceSub, Nat.reduceBEq, Nat.reduceBNe, Int.reduceLT, Int.reduceEq, Int.reduceAdd, Int.reduceToNat, Int.reduceLE, Int.reduceBEq, Int.reduceBNe, enc1, enc2, h, tO0, tO1, eO0, eO1, tOX, eOX]
              apply Exists.intro
              apply And.intro
              · first | exact ((by first | (refine (sum_ap (okCom0 hc hs) (small_com _ _ _ _ _ _)).le ?_; simp [CV.les, CV.le, closeOf, com0, com1, comTx, cChan, cTxx, cOut, cWay, cInp, cRef, cSum, cOpx, zOpx, toOut, ints, ic] <;> rfl) | (refine (sum_ap (okCom1 hc hs) (small_com _ _ _ _ _ _)).le ?_; simp [CV.les, CV.le, closeOf, com0, com1, comTx, cChan, cTxx, cOut, cWay, cInp, cRef, cSum, cOpx, zOpx, toOut, ints, ic] <;> rfl))) | exact (fun _ => ((by first | (refine (sum_ap (okCom0 hc hs) (small_com _ _ _ _ _ _)).le ?_; simp [CV.les, CV.le, closeOf, com0, com1, comTx, cChan, cTxx, cOut, cWay, cInp, cRef, cSum, cOpx, zOpx, toOut, ints, ic] <;> rfl) | (refine (sum_ap (okCom1 hc hs) (small_com _ _ _ _ _ _)).le ?_; simp [CV.les, CV.le, closeOf, com0, com1, comTx, cChan, cTxx, cOut, cWay, cInp, cRef, cSum, cOpx, zOpx, toOut, ints, ic] <;> rfl)))) | exact (fun h => ⟨h, ((by first | (refine (sum_ap (okCom0 hc hs) (small_com _ _ _ _ _ _)).le ?_; simp [CV.les, CV.le, closeOf, com0, com1, comTx, cChan, cTxx, cOut, cWay, cInp, cRef, cSum, cOpx, zOpx, toOut, ints, ic] <;> rfl) | (refine (sum_ap (okCom1 hc hs) (small_com _ _ _ _ _ _)).le ?_; simp [CV.les, CV.le, closeOf, com0, com1, comTx, cChan, cTxx, cOut, cWay, cInp, cRef, cSum, cOpx, zOpx, toOut, ints, ic] <;> rfl)))⟩) | exact (fun h => ⟨by simp_all, ((by first | (refine (sum_ap (okCom0 hc hs) (small_com _ _ _ _ _ _)).le ?_; simp [CV.les, CV.le, closeOf, com0, com1, comTx, cChan, cTxx, cOut, cWay, cInp, cRef, cSum, cOpx, zOpx, toOut, ints, ic] <;> rfl) | (refine (sum_ap (okCom1 hc hs) (small_com _ _ _ _ _ _)).le ?_; simp [CV.les, CV.le, closeOf, com0, com1, comTx, cChan, cTxx, cOut, cWay, cInp, cRef, cSum, cOpx, zOpx, toOut, ints, ic] <;> rfl)))⟩)
              (try simp only [rsAV, List.map_cons, List.map_nil, thenQ])
              refine hK154 _ ?_
              (try clear hK154)
              refine ag_pures (fuel := 3) [19, 20, 21, 22] [It.mk (some 151) (some (146, true)) (IK.p (PK.bld (CV.st [CV.ar IntKind.u8 32 (List.replicate 32 0), CV.pv (Value.int IntKind.i64 0)]) [(0, 32), (32, 1)] [(0, Operand.tmp 150)])), It.mk (some 152) (some (146, true)) (IK.p (PK.eqA false 62 (Sh.st [Sh.a IntKind.u8 32, Sh.i]) (Operand.tmp 148) (Operand.tmp 151))), It.mk (some 153) none (IK.p (PK.pick (Operand.tmp 146) (Operand.tmp 152) (Operand.const (Value.bool false)))), It.mk (some 154) none (IK.p (PK.mov (Operand.tmp 153)))] (by kernel_rfl) (by kernel_rfl) (by kernel_rfl) (by kernel_rfl) (hideZ_nil _ 0) (fun K155 hK155 => ?_)
              simp (maxSteps:=999999) (disch:=omega) only [av1, av2, av3, av4, eq_self, exists_const, forall_const, implies_true, storeOk, thenQ, PK.cond, PK.val, Nat.reduceAdd, Nat.reduceLT, Nat.reduceMul, reduceCtorEq, ↓reduceIte, Nat.reduceEqDiff, Nat.reduceLeDiff, Nat.reduceSub, Nat.reduceBEq, Nat.reduceBNe, Int.reduceLT, Int.reduceEq, Int.reduceAdd, Int.reduceToNat, Int.reduceLE, Int.reduceBEq, Int.reduceBNe, enc1, enc2, h, tO0, tO1, eO0, eO1, tOX, eOX]
              (repeat ((with_reducible refine And.intro ?_ ?_); (first | trivial | assumption | omega | (simp; done))))
              refine hK155 _ ?_
              (try clear hK155)
              refine ag_one (i:=23) (by kernel_rfl) ?_
              refine agi (it := It.mk (some 155) (some (154, true)) (IK.call 47 [])) (R' := []) (by kernel_rfl) (.inl rfl) (by kernel_rfl) (fun K156 hK156 => ?_)
              simp (maxSteps:=999999) (disch:=omega) only [av1, av2, av3, av4, eq_self, exists_const, forall_const, implies_true, storeOk, thenQ, PK.cond, PK.val, Nat.reduceAdd, Nat.reduceLT, Nat.reduceMul, reduceCtorEq, ↓reduceIte, Nat.reduceEqDiff, Nat.reduceLeDiff, Nat.reduceSub, Nat.reduceBEq, Nat.reduceBNe, Int.reduceLT, Int.reduceEq, Int.reduceAdd, Int.reduceToNat, Int.reduceLE, Int.reduceBEq, Int.reduceBNe, enc1, enc2, h, tO0, tO1, eO0, eO1, tOX, eOX]
              apply Exists.intro
              apply And.intro
              · first | exact (awake14_ap) | exact (fun _ => (awake14_ap)) | exact (fun h => ⟨h, (awake14_ap)⟩) | exact (fun h => ⟨by simp_all, (awake14_ap)⟩)
              (try simp only [rsAV, List.map_cons, List.map_nil, thenQ])
              refine hK156 _ ?_
              (try clear hK156)
              refine ag_pures (fuel := 0) [24, 25] [It.mk (some 156) none (IK.p (PK.pick (Operand.tmp 154) (Operand.tmp 155) (Operand.const (Value.bool false)))), It.mk (some 6) none (IK.p (PK.mov (Operand.tmp 156)))] (by kernel_rfl) (by kernel_rfl) (by kernel_rfl) (by kernel_rfl) (hideZ_nil _ 0) (fun K157 hK157 => ?_)
              simp (maxSteps:=999999) (disch:=omega) only [av1, av2, av3, av4, eq_self, exists_const, forall_const, implies_true, storeOk, thenQ, PK.cond, PK.val, Nat.reduceAdd, Nat.reduceLT, Nat.reduceMul, reduceCtorEq, ↓reduceIte, Nat.reduceEqDiff, Nat.reduceLeDiff, Nat.reduceSub, Nat.reduceBEq, Nat.reduceBNe, Int.reduceLT, Int.reduceEq, Int.reduceAdd, Int.reduceToNat, Int.reduceLE, Int.reduceBEq, Int.reduceBNe, enc1, enc2, h, tO0, tO1, eO0, eO1, tOX, eOX]
              (repeat ((with_reducible refine And.intro ?_ ?_); (first | trivial | assumption | omega | (simp; done))))
              refine hK157 _ ?_
              (try clear hK157)
              refine ag_done (by kernel_rfl) ?_
              (try simp only [thenQ])
              exact Le.refl
            refine at_ret ?_
            simp (maxSteps:=999999) (disch:=omega) only [av1, av2, av3, av4, eq_self, exists_const, forall_const, implies_true, storeOk, thenQ, PK.cond, PK.val, Nat.reduceAdd, Nat.reduceLT, Nat.reduceMul, reduceCtorEq, ↓reduceIte, Nat.reduceEqDiff, Nat.reduceLeDiff, Nat.reduceSub, Nat.reduceBEq, Nat.reduceBNe, Int.reduceLT, Int.reduceEq, Int.reduceAdd, Int.reduceToNat, Int.reduceLE, Int.reduceBEq, Int.reduceBNe, enc1, enc2, h, tO0, tO1, eO0, eO1, tOX, eOX, blockQ, retQ, RetOk, ResOk, AV.fin, AV.fins, CV.le, CV.les]
            (first | rfl | (simp; done) | trace_state)
          · have r144 := h144
            (try simp only [dB2] at h144)
            obtain rfl : o = 0 := (by simp_all <;> omega)
            refine at_skip ?_
            (try simp only [thenQ, blockQ])
            refine hK142 _ ?_
            (try clear hK142)
            refine at_seqJ ?_
            apply Exists.intro
            refine And.intro ?_ ?_
            · skip
              refine at_draws [] (by kernel_rfl) ?_
              refine ag_pures (fuel := 21) [0, 1, 2, 3, 4] [It.mk (some 132) none (IK.p (PK.mov (Operand.tmp 8))), It.mk (some 133) none (IK.p (PK.bin BinOp.eql (Operand.tmp 132) (Operand.const (Value.int IntKind.i64 0)))), It.mk (some 134) none (IK.p (PK.mov (Operand.tmp 133))), It.mk (some 135) (some (134, true)) (IK.p (PK.load (Operand.tmp 7) 40 true)), It.mk (some 136) (some (134, true)) (IK.p (PK.load (Operand.tmp 12) 40 true))] (by kernel_rfl) (by kernel_rfl) (by kernel_rfl) (by kernel_rfl) (hideZ_nil _ 0) (fun K159 hK159 => ?_)
              simp (maxSteps:=999999) (disch:=omega) only [av1, av2, av3, av4, eq_self, exists_const, forall_const, implies_true, storeOk, thenQ, PK.cond, PK.val, Nat.reduceAdd, Nat.reduceLT, Nat.reduceMul, reduceCtorEq, ↓reduceIte, Nat.reduceEqDiff, Nat.reduceLeDiff, Nat.reduceSub, Nat.reduceBEq, Nat.reduceBNe, Int.reduceLT, Int.reduceEq, Int.reduceAdd, Int.reduceToNat, Int.reduceLE, Int.reduceBEq, Int.reduceBNe, enc1, enc2, h, tO0, tO1, eO0, eO1, tOX, eOX]
              (repeat ((with_reducible refine And.intro ?_ ?_); (first | trivial | assumption | omega | (simp; done))))
              refine hK159 _ ?_
              (try clear hK159)
              refine ag_one (i:=5) (by kernel_rfl) ?_
              refine agi (it := It.mk (some 137) (some (134, true)) (IK.call 54 [Operand.tmp 135, Operand.tmp 136])) (R' := []) (by kernel_rfl) (.inl rfl) (by kernel_rfl) (fun K160 hK160 => ?_)
              simp (maxSteps:=999999) (disch:=omega) only [av1, av2, av3, av4, eq_self, exists_const, forall_const, implies_true, storeOk, thenQ, PK.cond, PK.val, Nat.reduceAdd, Nat.reduceLT, Nat.reduceMul, reduceCtorEq, ↓reduceIte, Nat.reduceEqDiff, Nat.reduceLeDiff, Nat.reduceSub, Nat.reduceBEq, Nat.reduceBNe, Int.reduceLT, Int.reduceEq, Int.reduceAdd, Int.reduceToNat, Int.reduceLE, Int.reduceBEq, Int.reduceBNe, enc1, enc2, h, tO0, tO1, eO0, eO1, tOX, eOX]
              apply Exists.intro
              apply And.intro
              · first | exact ((by first | (refine (closeSame_ap hc hs h).le ?_; simp [CV.les, CV.le, closeOf, com0, com1, comTx, cChan, cTxx, cOut, cWay, cInp, cRef, cSum, cOpx, zOpx, toOut, ints, ic] <;> rfl) | (refine (com0Same_ap hc hs h).le ?_; simp [CV.les, CV.le, closeOf, com0, com1, comTx, cChan, cTxx, cOut, cWay, cInp, cRef, cSum, cOpx, zOpx, toOut, ints, ic] <;> rfl) | (refine (com1Same_ap hc hs h).le ?_; simp [CV.les, CV.le, closeOf, com0, com1, comTx, cChan, cTxx, cOut, cWay, cInp, cRef, cSum, cOpx, zOpx, toOut, ints, ic] <;> rfl))) | exact (fun _ => ((by first | (refine (closeSame_ap hc hs h).le ?_; simp [CV.les, CV.le, closeOf, com0, com1, comTx, cChan, cTxx, cOut, cWay, cInp, cRef, cSum, cOpx, zOpx, toOut, ints, ic] <;> rfl) | (refine (com0Same_ap hc hs h).le ?_; simp [CV.les, CV.le, closeOf, com0, com1, comTx, cChan, cTxx, cOut, cWay, cInp, cRef, cSum, cOpx, zOpx, toOut, ints, ic] <;> rfl) | (refine (com1Same_ap hc hs h).le ?_; simp [CV.les, CV.le, closeOf, com0, com1, comTx, cChan, cTxx, cOut, cWay, cInp, cRef, cSum, cOpx, zOpx, toOut, ints, ic] <;> rfl)))) | exact (fun h => ⟨h, ((by first | (refine (closeSame_ap hc hs h).le ?_; simp [CV.les, CV.le, closeOf, com0, com1, comTx, cChan, cTxx, cOut, cWay, cInp, cRef, cSum, cOpx, zOpx, toOut, ints, ic] <;> rfl) | (refine (com0Same_ap hc hs h).le ?_; simp [CV.les, CV.le, closeOf, com0, com1, comTx, cChan, cTxx, cOut, cWay, cInp, cRef, cSum, cOpx, zOpx, toOut, ints, ic] <;> rfl) | (refine (com1Same_ap hc hs h).le ?_; simp [CV.les, CV.le, closeOf, com0, com1, comTx, cChan, cTxx, cOut, cWay, cInp, cRef, cSum, cOpx, zOpx, toOut, ints, ic] <;> rfl)))⟩) | exact (fun h => ⟨by simp_all, ((by first | (refine (closeSame_ap hc hs h).le ?_; simp [CV.les, CV.le, closeOf, com0, com1, comTx, cChan, cTxx, cOut, cWay, cInp, cRef, cSum, cOpx, zOpx, toOut, ints, ic] <;> rfl) | (refine (com0Same_ap hc hs h).le ?_; simp [CV.les, CV.le, closeOf, com0, com1, comTx, cChan, cTxx, cOut, cWay, cInp, cRef, cSum, cOpx, zOpx, toOut, ints, ic] <;> rfl) | (refine (com1Same_ap hc hs h).le ?_; simp [CV.les, CV.le, closeOf, com0, com1, comTx, cChan, cTxx, cOut, cWay, cInp, cRef, cSum, cOpx, zOpx, toOut, ints, ic] <;> rfl)))⟩)
              (try simp only [rsAV, List.map_cons, List.map_nil, thenQ])
              refine hK160 _ ?_
              (try clear hK160)
              refine ag_pures (fuel := 15) [6, 7, 8, 9, 11] [It.mk (some 138) none (IK.p (PK.pick (Operand.tmp 134) (Operand.tmp 137) (Operand.const (Value.bool false)))), It.mk (some 139) none (IK.p (PK.mov (Operand.tmp 138))), It.mk (some 140) (some (139, true)) (IK.p (PK.load (Operand.tmp 3) 39 true)), It.mk (some 141) (some (139, true)) (IK.p (PK.load (Operand.tmp 7) 40 true)), It.mk (some 143) (some (139, true)) (IK.p (PK.mov (Operand.tmp 2)))] (by kernel_rfl) (by kernel_rfl) (by kernel_rfl) (by kernel_rfl) (hideZ_nil _ 0) (fun K161 hK161 => ?_)
              simp (maxSteps:=999999) (disch:=omega) only [av1, av2, av3, av4, eq_self, exists_const, forall_const, implies_true, storeOk, thenQ, PK.cond, PK.val, Nat.reduceAdd, Nat.reduceLT, Nat.reduceMul, reduceCtorEq, ↓reduceIte, Nat.reduceEqDiff, Nat.reduceLeDiff, Nat.reduceSub, Nat.reduceBEq, Nat.reduceBNe, Int.reduceLT, Int.reduceEq, Int.reduceAdd, Int.reduceToNat, Int.reduceLE, Int.reduceBEq, Int.reduceBNe, enc1, enc2, h, tO0, tO1, eO0, eO1, tOX, eOX]
              (repeat ((with_reducible refine And.intro ?_ ?_); (first | trivial | assumption | omega | (simp; done))))
              refine hK161 _ ?_
              (try clear hK161)
              refine ag_one (i:=10) (by kernel_rfl) ?_
              refine agi (it := It.mk (some 142) (some (139, true)) (IK.call 56 [Operand.tmp 140, Operand.tmp 141])) (R' := [11]) (by kernel_rfl) (.inl rfl) (by kernel_rfl) (fun K162 hK162 => ?_)
              simp (maxSteps:=999999) (disch:=omega) only [av1, av2, av3, av4, eq_self, exists_const, forall_const, implies_true, storeOk, thenQ, PK.cond, PK.val, Nat.reduceAdd, Nat.reduceLT, Nat.reduceMul, reduceCtorEq, ↓reduceIte, Nat.reduceEqDiff, Nat.reduceLeDiff, Nat.reduceSub, Nat.reduceBEq, Nat.reduceBNe, Int.reduceLT, Int.reduceEq, Int.reduceAdd, Int.reduceToNat, Int.reduceLE, Int.reduceBEq, Int.reduceBNe, enc1, enc2, h, tO0, tO1, eO0, eO1, tOX, eOX]
              apply Exists.intro
              apply And.intro
              · first | exact ((by first | (refine (owner0_ap hc hs h).le ?_; simp [CV.les, CV.le, closeOf, com0, com1, comTx, cChan, cTxx, cOut, cWay, cInp, cRef, cSum, cOpx, zOpx, toOut, ints, ic] <;> rfl) | (refine (owner1_ap hc hs h).le ?_; simp [CV.les, CV.le, closeOf, com0, com1, comTx, cChan, cTxx, cOut, cWay, cInp, cRef, cSum, cOpx, zOpx, toOut, ints, ic] <;> rfl))) | exact (fun _ => ((by first | (refine (owner0_ap hc hs h).le ?_; simp [CV.les, CV.le, closeOf, com0, com1, comTx, cChan, cTxx, cOut, cWay, cInp, cRef, cSum, cOpx, zOpx, toOut, ints, ic] <;> rfl) | (refine (owner1_ap hc hs h).le ?_; simp [CV.les, CV.le, closeOf, com0, com1, comTx, cChan, cTxx, cOut, cWay, cInp, cRef, cSum, cOpx, zOpx, toOut, ints, ic] <;> rfl)))) | exact (fun h => ⟨h, ((by first | (refine (owner0_ap hc hs h).le ?_; simp [CV.les, CV.le, closeOf, com0, com1, comTx, cChan, cTxx, cOut, cWay, cInp, cRef, cSum, cOpx, zOpx, toOut, ints, ic] <;> rfl) | (refine (owner1_ap hc hs h).le ?_; simp [CV.les, CV.le, closeOf, com0, com1, comTx, cChan, cTxx, cOut, cWay, cInp, cRef, cSum, cOpx, zOpx, toOut, ints, ic] <;> rfl)))⟩) | exact (fun h => ⟨by simp_all, ((by first | (refine (owner0_ap hc hs h).le ?_; simp [CV.les, CV.le, closeOf, com0, com1, comTx, cChan, cTxx, cOut, cWay, cInp, cRef, cSum, cOpx, zOpx, toOut, ints, ic] <;> rfl) | (refine (owner1_ap hc hs h).le ?_; simp [CV.les, CV.le, closeOf, com0, com1, comTx, cChan, cTxx, cOut, cWay, cInp, cRef, cSum, cOpx, zOpx, toOut, ints, ic] <;> rfl)))⟩)
              (try simp only [rsAV, List.map_cons, List.map_nil, thenQ])
              refine hK162 _ ?_
              (try clear hK162)
              refine ag_pures (fuel := 9) [12, 13, 14, 15, 17] [It.mk (some 144) (some (139, true)) (IK.p (PK.bin BinOp.eql (Operand.tmp 142) (Operand.tmp 143))), It.mk (some 145) none (IK.p (PK.pick (Operand.tmp 139) (Operand.tmp 144) (Operand.const (Value.bool false)))), It.mk (some 146) none (IK.p (PK.mov (Operand.tmp 145))), It.mk (some 147) (some (146, true)) (IK.p (PK.load (Operand.tmp 7) 40 true)), It.mk (some 149) (some (146, true)) (IK.p (PK.load (Operand.tmp 12) 40 true))] (by kernel_rfl) (by kernel_rfl) (by kernel_rfl) (by kernel_rfl) (hideZ_nil _ 0) (fun K163 hK163 => ?_)
              simp (maxSteps:=999999) (disch:=omega) only [av1, av2, av3, av4, eq_self, exists_const, forall_const, implies_true, storeOk, thenQ, PK.cond, PK.val, Nat.reduceAdd, Nat.reduceLT, Nat.reduceMul, reduceCtorEq, ↓reduceIte, Nat.reduceEqDiff, Nat.reduceLeDiff, Nat.reduceSub, Nat.reduceBEq, Nat.reduceBNe, Int.reduceLT, Int.reduceEq, Int.reduceAdd, Int.reduceToNat, Int.reduceLE, Int.reduceBEq, Int.reduceBNe, enc1, enc2, h, tO0, tO1, eO0, eO1, tOX, eOX]
              (repeat ((with_reducible refine And.intro ?_ ?_); (first | trivial | assumption | omega | (simp; done))))
              refine hK163 _ ?_
              (try clear hK163)
              refine ag_one (i:=16) (by kernel_rfl) ?_
              refine agi (it := It.mk (some 148) (some (146, true)) (IK.call 57 [Operand.tmp 147])) (R' := [17]) (by kernel_rfl) (.inl rfl) (by kernel_rfl) (fun K164 hK164 => ?_)
              simp (maxSteps:=999999) (disch:=omega) only [av1, av2, av3, av4, eq_self, exists_const, forall_const, implies_true, storeOk, thenQ, PK.cond, PK.val, Nat.reduceAdd, Nat.reduceLT, Nat.reduceMul, reduceCtorEq, ↓reduceIte, Nat.reduceEqDiff, Nat.reduceLeDiff, Nat.reduceSub, Nat.reduceBEq, Nat.reduceBNe, Int.reduceLT, Int.reduceEq, Int.reduceAdd, Int.reduceToNat, Int.reduceLE, Int.reduceBEq, Int.reduceBNe, enc1, enc2, h, tO0, tO1, eO0, eO1, tOX, eOX]
              apply Exists.intro
              apply And.intro
              · first | exact ((by first | (refine (ref_ap (okCom0 hc hs) (small_com _ _ _ _ _ _)).le ?_; simp [CV.les, CV.le, closeOf, com0, com1, comTx, cChan, cTxx, cOut, cWay, cInp, cRef, cSum, cOpx, zOpx, toOut, ints, ic] <;> rfl) | (refine (ref_ap (okCom1 hc hs) (small_com _ _ _ _ _ _)).le ?_; simp [CV.les, CV.le, closeOf, com0, com1, comTx, cChan, cTxx, cOut, cWay, cInp, cRef, cSum, cOpx, zOpx, toOut, ints, ic] <;> rfl))) | exact (fun _ => ((by first | (refine (ref_ap (okCom0 hc hs) (small_com _ _ _ _ _ _)).le ?_; simp [CV.les, CV.le, closeOf, com0, com1, comTx, cChan, cTxx, cOut, cWay, cInp, cRef, cSum, cOpx, zOpx, toOut, ints, ic] <;> rfl) | (refine (ref_ap (okCom1 hc hs) (small_com _ _ _ _ _ _)).le ?_; simp [CV.les, CV.le, closeOf, com0, com1, comTx, cChan, cTxx, cOut, cWay, cInp, cRef, cSum, cOpx, zOpx, toOut, ints, ic] <;> rfl)))) | exact (fun h => ⟨h, ((by first | (refine (ref_ap (okCom0 hc hs) (small_com _ _ _ _ _ _)).le ?_; simp [CV.les, CV.le, closeOf, com0, com1, comTx, cChan, cTxx, cOut, cWay, cInp, cRef, cSum, cOpx, zOpx, toOut, ints, ic] <;> rfl) | (refine (ref_ap (okCom1 hc hs) (small_com _ _ _ _ _ _)).le ?_; simp [CV.les, CV.le, closeOf, com0, com1, comTx, cChan, cTxx, cOut, cWay, cInp, cRef, cSum, cOpx, zOpx, toOut, ints, ic] <;> rfl)))⟩) | exact (fun h => ⟨by simp_all, ((by first | (refine (ref_ap (okCom0 hc hs) (small_com _ _ _ _ _ _)).le ?_; simp [CV.les, CV.le, closeOf, com0, com1, comTx, cChan, cTxx, cOut, cWay, cInp, cRef, cSum, cOpx, zOpx, toOut, ints, ic] <;> rfl) | (refine (ref_ap (okCom1 hc hs) (small_com _ _ _ _ _ _)).le ?_; simp [CV.les, CV.le, closeOf, com0, com1, comTx, cChan, cTxx, cOut, cWay, cInp, cRef, cSum, cOpx, zOpx, toOut, ints, ic] <;> rfl)))⟩)
              (try simp only [rsAV, List.map_cons, List.map_nil, thenQ])
              refine hK164 _ ?_
              (try clear hK164)
              refine ag_one (i:=18) (by kernel_rfl) ?_
              refine agi (it := It.mk (some 150) (some (146, true)) (IK.call 58 [Operand.tmp 149])) (R' := []) (by kernel_rfl) (.inl rfl) (by kernel_rfl) (fun K165 hK165 => ?_)
              simp (maxSteps:=999999) (disch:=omega) only [av1, av2, av3, av4, eq_self, exists_const, forall_const, implies_true, storeOk, thenQ, PK.cond, PK.val, Nat.reduceAdd, Nat.reduceLT, Nat.reduceMul, reduceCtorEq, ↓reduceIte, Nat.reduceEqDiff, Nat.reduceLeDiff, Nat.reduceSub, Nat.reduceBEq, Nat.reduceBNe, Int.reduceLT, Int.reduceEq, Int.reduceAdd, Int.reduceToNat, Int.reduceLE, Int.reduceBEq, Int.reduceBNe, enc1, enc2, h, tO0, tO1, eO0, eO1, tOX, eOX]
              apply Exists.intro
              apply And.intro
              · first | exact ((by first | (refine (sum_ap (okCom0 hc hs) (small_com _ _ _ _ _ _)).le ?_; simp [CV.les, CV.le, closeOf, com0, com1, comTx, cChan, cTxx, cOut, cWay, cInp, cRef, cSum, cOpx, zOpx, toOut, ints, ic] <;> rfl) | (refine (sum_ap (okCom1 hc hs) (small_com _ _ _ _ _ _)).le ?_; simp [CV.les, CV.le, closeOf, com0, com1, comTx, cChan, cTxx, cOut, cWay, cInp, cRef, cSum, cOpx, zOpx, toOut, ints, ic] <;> rfl))) | exact (fun _ => ((by first | (refine (sum_ap (okCom0 hc hs) (small_com _ _ _ _ _ _)).le ?_; simp [CV.les, CV.le, closeOf, com0, com1, comTx, cChan, cTxx, cOut, cWay, cInp, cRef, cSum, cOpx, zOpx, toOut, ints, ic] <;> rfl) | (refine (sum_ap (okCom1 hc hs) (small_com _ _ _ _ _ _)).le ?_; simp [CV.les, CV.le, closeOf, com0, com1, comTx, cChan, cTxx, cOut, cWay, cInp, cRef, cSum, cOpx, zOpx, toOut, ints, ic] <;> rfl)))) | exact (fun h => ⟨h, ((by first | (refine (sum_ap (okCom0 hc hs) (small_com _ _ _ _ _ _)).le ?_; simp [CV.les, CV.le, closeOf, com0, com1, comTx, cChan, cTxx, cOut, cWay, cInp, cRef, cSum, cOpx, zOpx, toOut, ints, ic] <;> rfl) | (refine (sum_ap (okCom1 hc hs) (small_com _ _ _ _ _ _)).le ?_; simp [CV.les, CV.le, closeOf, com0, com1, comTx, cChan, cTxx, cOut, cWay, cInp, cRef, cSum, cOpx, zOpx, toOut, ints, ic] <;> rfl)))⟩) | exact (fun h => ⟨by simp_all, ((by first | (refine (sum_ap (okCom0 hc hs) (small_com _ _ _ _ _ _)).le ?_; simp [CV.les, CV.le, closeOf, com0, com1, comTx, cChan, cTxx, cOut, cWay, cInp, cRef, cSum, cOpx, zOpx, toOut, ints, ic] <;> rfl) | (refine (sum_ap (okCom1 hc hs) (small_com _ _ _ _ _ _)).le ?_; simp [CV.les, CV.le, closeOf, com0, com1, comTx, cChan, cTxx, cOut, cWay, cInp, cRef, cSum, cOpx, zOpx, toOut, ints, ic] <;> rfl)))⟩)
              (try simp only [rsAV, List.map_cons, List.map_nil, thenQ])
              refine hK165 _ ?_
              (try clear hK165)
              refine ag_pures (fuel := 3) [19, 20, 21, 22] [It.mk (some 151) (some (146, true)) (IK.p (PK.bld (CV.st [CV.ar IntKind.u8 32 (List.replicate 32 0), CV.pv (Value.int IntKind.i64 0)]) [(0, 32), (32, 1)] [(0, Operand.tmp 150)])), It.mk (some 152) (some (146, true)) (IK.p (PK.eqA false 62 (Sh.st [Sh.a IntKind.u8 32, Sh.i]) (Operand.tmp 148) (Operand.tmp 151))), It.mk (some 153) none (IK.p (PK.pick (Operand.tmp 146) (Operand.tmp 152) (Operand.const (Value.bool false)))), It.mk (some 154) none (IK.p (PK.mov (Operand.tmp 153)))] (by kernel_rfl) (by kernel_rfl) (by kernel_rfl) (by kernel_rfl) (hideZ_nil _ 0) (fun K166 hK166 => ?_)
              simp (maxSteps:=999999) (disch:=omega) only [av1, av2, av3, av4, eq_self, exists_const, forall_const, implies_true, storeOk, thenQ, PK.cond, PK.val, Nat.reduceAdd, Nat.reduceLT, Nat.reduceMul, reduceCtorEq, ↓reduceIte, Nat.reduceEqDiff, Nat.reduceLeDiff, Nat.reduceSub, Nat.reduceBEq, Nat.reduceBNe, Int.reduceLT, Int.reduceEq, Int.reduceAdd, Int.reduceToNat, Int.reduceLE, Int.reduceBEq, Int.reduceBNe, enc1, enc2, h, tO0, tO1, eO0, eO1, tOX, eOX]
              (repeat ((with_reducible refine And.intro ?_ ?_); (first | trivial | assumption | omega | (simp; done))))
              refine hK166 _ ?_
              (try clear hK166)
              refine ag_one (i:=23) (by kernel_rfl) ?_
              refine agi (it := It.mk (some 155) (some (154, true)) (IK.call 47 [])) (R' := []) (by kernel_rfl) (.inl rfl) (by kernel_rfl) (fun K167 hK167 => ?_)
              simp (maxSteps:=999999) (disch:=omega) only [av1, av2, av3, av4, eq_self, exists_const, forall_const, implies_true, storeOk, thenQ, PK.cond, PK.val, Nat.reduceAdd, Nat.reduceLT, Nat.reduceMul, reduceCtorEq, ↓reduceIte, Nat.reduceEqDiff, Nat.reduceLeDiff, Nat.reduceSub, Nat.reduceBEq, Nat.reduceBNe, Int.reduceLT, Int.reduceEq, Int.reduceAdd, Int.reduceToNat, Int.reduceLE, Int.reduceBEq, Int.reduceBNe, enc1, enc2, h, tO0, tO1, eO0, eO1, tOX, eOX]
              apply Exists.intro
              apply And.intro
              · first | exact (awake14_ap) | exact (fun _ => (awake14_ap)) | exact (fun h => ⟨h, (awake14_ap)⟩) | exact (fun h => ⟨by simp_all, (awake14_ap)⟩)
              (try simp only [rsAV, List.map_cons, List.map_nil, thenQ])
              refine hK167 _ ?_
              (try clear hK167)
              refine ag_pures (fuel := 0) [24, 25] [It.mk (some 156) none (IK.p (PK.pick (Operand.tmp 154) (Operand.tmp 155) (Operand.const (Value.bool false)))), It.mk (some 6) none (IK.p (PK.mov (Operand.tmp 156)))] (by kernel_rfl) (by kernel_rfl) (by kernel_rfl) (by kernel_rfl) (hideZ_nil _ 0) (fun K168 hK168 => ?_)
              simp (maxSteps:=999999) (disch:=omega) only [av1, av2, av3, av4, eq_self, exists_const, forall_const, implies_true, storeOk, thenQ, PK.cond, PK.val, Nat.reduceAdd, Nat.reduceLT, Nat.reduceMul, reduceCtorEq, ↓reduceIte, Nat.reduceEqDiff, Nat.reduceLeDiff, Nat.reduceSub, Nat.reduceBEq, Nat.reduceBNe, Int.reduceLT, Int.reduceEq, Int.reduceAdd, Int.reduceToNat, Int.reduceLE, Int.reduceBEq, Int.reduceBNe, enc1, enc2, h, tO0, tO1, eO0, eO1, tOX, eOX]
              (repeat ((with_reducible refine And.intro ?_ ?_); (first | trivial | assumption | omega | (simp; done))))
              refine hK168 _ ?_
              (try clear hK168)
              refine ag_done (by kernel_rfl) ?_
              (try simp only [thenQ])
              exact Le.refl
            refine at_ret ?_
            simp (maxSteps:=999999) (disch:=omega) only [av1, av2, av3, av4, eq_self, exists_const, forall_const, implies_true, storeOk, thenQ, PK.cond, PK.val, Nat.reduceAdd, Nat.reduceLT, Nat.reduceMul, reduceCtorEq, ↓reduceIte, Nat.reduceEqDiff, Nat.reduceLeDiff, Nat.reduceSub, Nat.reduceBEq, Nat.reduceBNe, Int.reduceLT, Int.reduceEq, Int.reduceAdd, Int.reduceToNat, Int.reduceLE, Int.reduceBEq, Int.reduceBNe, enc1, enc2, h, tO0, tO1, eO0, eO1, tOX, eOX, blockQ, retQ, RetOk, ResOk, AV.fin, AV.fins, CV.le, CV.les]
            (first | rfl | (simp; done) | trace_state)
end Go.Proofs.Ytcghjnegaiiieaa
namespace Go.Proofs.Ytcghjnegaiiieaa
open Go.RowKit
theorem got_arr2 {P : Program} {T E : TypeId} {n : Nat} {α : Type} {R : Rl α} (h : P.underlying T = some (.array 2 E)) (hs : P.cellsOf E = n) (hT : P.cellsOf T = n + n) (hR : Got P E R) : Got P T (RCons R n (RCons R n RNil)) := fun H enc W m cs x hx => by
  obtain ⟨xs, m', _, _, hl, hlen, hf⟩ := DataW.trod_array h hx
  have key : ∀ i, i < 2 → ∃ a, R W (Old W) ((cs.drop (i * n)).take n) a := fun i hi => by
    have h1 := hf i hi
    have h2 : i < xs.length := by omega
    rw [hs, List.getElem?_eq_getElem h2] at h1
    exact hR H enc W _ _ _ h1
  obtain ⟨a, ha⟩ := key 0 (by omega)
  obtain ⟨b, hb⟩ := key 1 (by omega)
  rw [Nat.zero_mul, List.drop_zero] at ha
  rw [Nat.one_mul] at hb
  rw [hT] at hl
  refine ⟨(a, b, ()), cs.take n, cs.drop n, (List.take_append_drop n cs).symm, by rw [List.length_take]; omega, ha, (cs.drop n).take n, [], ?_, by rw [List.length_take, List.length_drop]; omega, hb, rfl⟩
  rw [List.append_nil, List.take_of_length_le (by rw [List.length_drop]; omega)]
def RSums : Rl (List Int × List Int × Unit) := RCons (RArr .u8 32) 32 (RCons (RArr .u8 32) 32 RNil)
theorem brgSums : Brg RSums 64 (fun p => .st [cSum p.1, cSum p.2.1]) (fun p => ArOk .u8 32 p.1 ∧ ArOk .u8 32 p.2.1) :=
  (Brgs.cons (Brg.arr .u8 32) (Brgs.cons (Brg.arr .u8 32) Brgs.nil)).st (fun p => p) _ _ 64 (fun x => rfl) (fun x => ⟨fun h => ⟨h.1, h.2, trivial⟩, fun h => ⟨h.1, h.2.1⟩⟩) (fun x => rfl)
theorem got_sums : Got Try.prog 81 RSums := got_arr2 Try.underlying81 (by kernel_rfl) (by kernel_rfl) (got_arr Try.underlying24 Try.underlying5 (by kernel_rfl) (by kernel_rfl))
def RCSt : Rl CSt := RBy (RCons (RInt .i64) 1 (RCons (RInt .i64) 1 (RCons (RInt .i64) 1 (RCons RSums 64 RNil)))) (fun s => (s.n, s.client, s.peer, (s.h0, s.h1, ()), ()))
theorem brgCSt : Brg RCSt 67 cCSt OkCSt :=
  (Brgs.cons (Brg.int .i64) (Brgs.cons (Brg.int .i64) (Brgs.cons (Brg.int .i64) (Brgs.cons brgSums Brgs.nil)))).st _ cCSt OkCSt 67 (fun x => rfl) (fun x => ⟨fun h => ⟨h.n, h.client, h.peer, ⟨h.h0, h.h1⟩, trivial⟩, fun h => ⟨h.1, h.2.1, h.2.2.1, h.2.2.2.1.1, h.2.2.2.1.2⟩⟩) (fun x => rfl)
set_option maxRecDepth 100000 in
theorem got_cst : Got Try.prog 83 RCSt := by
  unfold RCSt
  exact got_by (got_st Try.underlying83 (by kernel_rfl) (gotF_cons (n := 1) rfl (by kernel_rfl) (got_int Try.underlying3) (gotF_cons (n := 1) rfl (by kernel_rfl) (got_int Try.underlying2) (gotF_cons (n := 1) rfl (by kernel_rfl) (got_int Try.underlying2) (gotF_cons (n := 64) rfl (by kernel_rfl) got_sums (gotF_nil _)))))) (fun s : CSt => (s.n, s.client, s.peer, (s.h0, s.h1, ()), ())) (fun p => ⟨p.1, p.2.1, p.2.2.1, p.2.2.2.1.1, p.2.2.2.1.2.1⟩) (fun _ => rfl)
theorem commitBuilds_ap (c : Chan) (s : CSt) (o : Int) (hc : OkChan c) (hs : OkCSt s) : AP Try.prog 9 [cChan c, cCSt s, ic .i64 o] [.pv (.bool true)] := by
  by_cases h : cstB c s = true
  · exact commitBuildsOk_ap c s o hc hs h
  · have h : cstB c s = false := by simpa using h
    refine commitBuildsBad_ap c s o h ?_
    by_cases h0 : o = 0
    · subst h0
      have g := commitBuild0_ap c s
      obtain ⟨e1, e2⟩ := build_bad (o := 0) h
      rw [e1, e2] at g
      exact g
    · by_cases h1 : o = 1
      · subst h1
        have g := commitBuild1_ap c s
        obtain ⟨e1, e2⟩ := build_bad (o := 1) h
        rw [e1, e2] at g
        exact g
      · exact commitBuildX_ap c s o h0 h1
end Go.Proofs.Ytcghjnegaiiieaa
namespace Go.Proofs.Ytcghjnegaiiieaa.commitBuilds
open Go.ChangeShapes Go.WideShapes Go.ChangeAt Go.RowKit
open Go.ChangeMaps (open_string shut_string)
theorem own : ownKnob Try.prog.godebug = none := by kernel_rfl
theorem laidOut : laidOutB Try.prog = true := by kernel_rfl
theorem reads : (Try.f9.params.toList.all fun t => Try.prog.readableRec t && decide (t < Try.prog.types.size)) = true := by kernel_rfl
set_option maxRecDepth 100000 in
theorem walk {H : Type} {enc : TypeId × Value → H} (W : World) (base : Nat) (args : Array Value) (ds : List (DataW H)) (ps : List MemPlace)
    (hval : ∀ (j : Nat) t v, Try.f9.params[j]? = some t → args[j]? = some v → Value.okWide Try.prog W .any base t v)
    (hA : DataW.TrodAll enc Try.prog W 0 (fun _ => true) true Try.f9.params.toList args.toList ds ps)
    (hsz : (DataW.weightsEach Try.prog Try.f9.params.toList ds).all (· ≤ reachBytes) = true) :
    Calls Try.prog 9 args W fun e W' => e = .returned (.bool true) ∧ Below W.heap.size W W' := by
  rw [Try.params9] at hA hval hsz
  obtain ⟨v0, vs0, d0, ds0, p0, q0, hargs, rfl, rfl, h0, r0⟩ := trodAll_cons hA
  obtain ⟨v1, vs1, d1, ds1, p1, q1, rfl, rfl, rfl, h1, r1⟩ := trodAll_cons r0
  obtain ⟨v2, vs2, d2, ds2, p2, q2, rfl, rfl, rfl, h2, r2⟩ := trodAll_cons r1
  obtain ⟨rfl, rfl, rfl⟩ := trodAll_nil r2
  obtain rfl : args = #[v0, v1, v2] := by cases args; simp_all
  obtain ⟨o, rfl, rfl, rfl, w2⟩ := open_int Try.underlying3 (hval 2 3 v2 rfl rfl) h2
  obtain ⟨c, hc⟩ := got_arg got_chan h0
  obtain ⟨s, hs⟩ := got_arg got_cst h1
  obtain ⟨hr, ok⟩ := arg_rep brgChan hc (agg_arg Try.underlying64 (hval 0 64 v0 rfl rfl))
  obtain ⟨hr2, ok2⟩ := arg_rep brgCSt hs (agg_arg Try.underlying83 (hval 1 83 v1 rfl rfl))
  exact law_of_ap (commitBuilds_ap c s o ok ok2) W [v0, v1, .int .i64 o] (by simp only [List.map_cons, List.map_nil, AV.repVs, AV.repV]; exact ⟨v0, _, rfl, hr, v1, _, rfl, hr2, _, _, rfl, pv_repV rfl, rfl⟩)
theorem lifted (os : Os) (started : os.Started) (H : Type) (enc : TypeId × Value → H) :
    ReturnsInHanded {} Try.checked os 9 .any (Rows.commitBuildsSpec.pre6 enc Try.prog Try.f9 Rows.commitBuildsRow.domain false) (Rows.commitBuildsSpec.post enc Try.prog Try.f9 false true false false) :=
  lawLift (C := Try.checked) own started (by kernel_rfl) Try.func9
    (ChangeSpec.witness6 (enc := enc) (C := Try.checked) false ⟨#[], #[.agg #[.int .i64 0, .int .i64 0, .int .i64 0, .int .u8 0, .int .u8 0, .int .u8 0, .int .u8 0, .int .u8 0, .int .u8 0, .int .u8 0, .int .u8 0, .int .u8 0, .int .u8 0, .int .u8 0, .int .u8 0, .int .u8 0, .int .u8 0, .int .u8 0, .int .u8 0, .int .u8 0, .int .u8 0, .int .u8 0, .int .u8 0, .int .u8 0, .int .u8 0, .int .u8 0, .int .u8 0, .int .u8 0, .int .u8 0, .int .u8 0, .int .u8 0, .int .u8 0, .int .u8 0, .int .u8 0, .int .u8 0, .int .i64 0, .int .i64 0, .int .i64 0, .int .i64 0], .agg #[.int .i64 0, .int .i64 0, .int .i64 0, .int .u8 0, .int .u8 0, .int .u8 0, .int .u8 0, .int .u8 0, .int .u8 0, .int .u8 0, .int .u8 0, .int .u8 0, .int .u8 0, .int .u8 0, .int .u8 0, .int .u8 0, .int .u8 0, .int .u8 0, .int .u8 0, .int .u8 0, .int .u8 0, .int .u8 0, .int .u8 0, .int .u8 0, .int .u8 0, .int .u8 0, .int .u8 0, .int .u8 0, .int .u8 0, .int .u8 0, .int .u8 0, .int .u8 0, .int .u8 0, .int .u8 0, .int .u8 0, .int .u8 0, .int .u8 0, .int .u8 0, .int .u8 0, .int .u8 0, .int .u8 0, .int .u8 0, .int .u8 0, .int .u8 0, .int .u8 0, .int .u8 0, .int .u8 0, .int .u8 0, .int .u8 0, .int .u8 0, .int .u8 0, .int .u8 0, .int .u8 0, .int .u8 0, .int .u8 0, .int .u8 0, .int .u8 0, .int .u8 0, .int .u8 0, .int .u8 0, .int .u8 0, .int .u8 0, .int .u8 0, .int .u8 0, .int .u8 0, .int .u8 0, .int .u8 0], .int .i64 0], []⟩ 64 (by kernel_rfl) (by kernel_rfl) (by kernel_rfl) (by kernel_rfl))
    rfl laidOut reads rfl Try.underlying4 (fun ds h => by match ds, h with | [d0, d1, d2], _ => exact ⟨rfl, rfl, rfl⟩) walk
end Go.Proofs.Ytcghjnegaiiieaa.commitBuilds

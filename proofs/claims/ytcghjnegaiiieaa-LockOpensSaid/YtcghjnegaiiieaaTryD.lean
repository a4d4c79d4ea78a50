/- A try of a way, as an argument hands it. -/
import Derived.Test.YtcghjnegaiiieaaLockG
import Derived.Test.YtcghjnegaiiieaaLock5
namespace Go.Proofs.Ytcghjnegaiiieaa
def RTry : Rl Tr := RBy (RCons (RSl (RInt .i64) 1) 1 (RCons (RSl (RInt .u8) 1) 1 (RCons (RInt .i64) 1 (RCons (RInt .i64) 1 RNil)))) (fun t => (t.keys, t.pre, t.height, t.age, ()))
theorem RTry.good : Good RTry 4 := RBy.good (RCons.good (RSl.good (RInt.good _)) (RCons.good (RSl.good (RInt.good _)) (RCons.good (RInt.good _) (RCons.good (RInt.good _) RNil.good)))) _
theorem RTry.open_ {w : World} {F : Nat → Prop} {cs : List Value} {t : Tr} (h : RTry w F cs t) : ∃ KA kc PA pc, cs = [.slice KA t.keys.length kc, .slice PA t.pre.length pc, .int .i64 t.height, .int .i64 t.age] ∧ Ints w F .i64 KA kc t.keys ∧ Ints w F .u8 PA pc t.pre ∧ (Lit.int .i64 t.height).wf = true ∧ (Lit.int .i64 t.age).wf = true := by
  obtain ⟨c1, d1, rfl, _, h1, c2, d2, rfl, _, h2, c3, d3, rfl, _, ⟨rfl, h4⟩, c4, d4, rfl, _, ⟨rfl, h5⟩, h6⟩ := h
  cases h6
  obtain ⟨KA, kc, rfl, hk⟩ := RSl.ints h1
  obtain ⟨PA, pc, rfl, hp⟩ := RSl.ints h2
  exact ⟨KA, kc, PA, pc, by simp, hk, hp, h4, h5⟩
set_option maxRecDepth 100000 in
theorem got_try : Got Try.prog 29 RTry := by
  unfold RTry
  exact got_by (got_st Try.underlying29 (by kernel_rfl) (gotF_cons (n := 1) rfl (by kernel_rfl) (got_sl Try.underlying22 (size := 1) (by kernel_rfl) (by decide) (got_int Try.underlying3)) (gotF_cons (n := 1) rfl (by kernel_rfl) (got_sl Try.underlying27 (size := 1) (by kernel_rfl) (by decide) (got_int Try.underlying5)) (gotF_cons (n := 1) rfl (by kernel_rfl) (got_int Try.underlying2) (gotF_cons (n := 1) rfl (by kernel_rfl) (got_int Try.underlying2) (gotF_nil _)))))) (fun t : Tr => (t.keys, t.pre, t.height, t.age, ())) (fun p => ⟨p.1, p.2.1, p.2.2.1, p.2.2.2.1⟩) (fun _ => rfl)
end Go.Proofs.Ytcghjnegaiiieaa

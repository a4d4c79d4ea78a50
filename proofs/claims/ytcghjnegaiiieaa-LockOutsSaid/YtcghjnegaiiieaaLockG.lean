/- Ways and outs, as an argument hands them. -/
import Derived.Test.YtcghjnegaiiieaaLockD
namespace Go.Proofs.Ytcghjnegaiiieaa
set_option maxRecDepth 100000 in
theorem got_way : Got Try.prog 26 RWay := by
  unfold RWay
  exact got_by (got_st Try.underlying26 (by kernel_rfl) (gotF_cons (n := 1) rfl (by kernel_rfl) (got_sl Try.underlying22 (size := 1) (by kernel_rfl) (by decide) (got_int Try.underlying3)) (gotF_cons (n := 32) rfl (by kernel_rfl) (got_arr Try.underlying24 Try.underlying5 (by kernel_rfl) (by kernel_rfl)) (gotF_cons (n := 1) rfl (by kernel_rfl) (got_int Try.underlying2) (gotF_cons (n := 1) rfl (by kernel_rfl) (got_int Try.underlying2) (gotF_nil _)))))) (fun x : Way => (x.keys, x.hash, x.after, x.wait, ())) (fun p => ⟨p.1, p.2.1, p.2.2.1, p.2.2.2.1⟩) (fun _ => rfl)
set_option maxRecDepth 100000 in
theorem got_out : Got Try.prog 38 ROut := by
  unfold ROut
  exact got_by (got_st Try.underlying38 (by kernel_rfl) (gotF_cons (n := 1) rfl (by kernel_rfl) (got_int Try.underlying2) (gotF_cons (n := 1) rfl (by kernel_rfl) (got_sl Try.underlying36 (size := 35) (by kernel_rfl) (by decide) got_way) (gotF_nil _)))) (fun o : Out => (o.amount, o.ways, ())) (fun p => ⟨p.1, p.2.1⟩) (fun _ => rfl)
end Go.Proofs.Ytcghjnegaiiieaa

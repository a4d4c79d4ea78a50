/- Keys among keys (layer 7). -/
import Derived.Test.YtcghjnegaiiieaaLock7
import Derived.Test.YtcghjnegaiiieaaCalm3
import Derived.Test.YtcghjnegaiiieaaSha7
import Derived.Outline
namespace Go.Proofs.Ytcghjnegaiiieaa
open Go.RowKit
def memB (xs : List Int) (v : Int) : Bool := xs.any (fun x => x == v)
theorem memB_succ (xs : List Int) (v : Int) (k : Nat) (hk : k < xs.length) : memB (xs.take (k + 1)) v = (memB (xs.take k) v || (xs.getD k 0 == v)) := by
  unfold memB
  rw [List.take_succ_eq_append_getElem hk, List.any_append]
  simp [List.getD_eq_getElem?_getD, hk]
theorem memB_at (xs : List Int) (v : Int) (k : Nat) (hk : k < xs.length) (h : xs.getD k 0 = v) : memB xs v = true := by
  unfold memB
  rw [List.any_eq_true]
  exact ⟨xs[k], List.getElem_mem hk, by simp [List.getD_eq_getElem?_getD, hk] at h; simpa using h⟩
set_option maxRecDepth 100000 in
set_option maxHeartbeats 4000000 in
theorem has_any (A : Option Addr) (c : Nat) (xs : List Int) (v : Int) (w : World) (h : RdInts w .i64 A xs) (hn : xs.length ≤ 100000000) :
    Calls Try.prog 18 #[.slice A xs.length c, .int .i64 v] w fun e w' => e = .returned (.bool (memB xs v)) ∧ w = w' := by
  have HX := hidden h
  clear h
  go_enter Try.func18, Try.ntmps18
  go_wp2
  go_loop [5] (fun i => ∃ k : Nat, k ≤ xs.length ∧ i = .int .i64 k ∧ memB (xs.take k) v = false) (fun i => xs.length - (intOf i).toNat)
  case atStart => exact ⟨0, Nat.zero_le _, rfl, rfl⟩
  case round =>
    obtain ⟨k, hk, rfl, hm⟩ := hrel
    have HM := hidden hm
    clear hm
    by_cases hlt : k < xs.length
    · obtain ⟨ad, rfl, c0⟩ := HX.out k hlt
      have HS := hidden (memB_succ xs v k hlt)
      have HA := hidden (memB_at xs v k hlt)
      generalize xs.getD k 0 = z at c0 HS HA
      by_cases hz : z = v
      · have y0 : (z == v) = true := by simpa using hz
        have HT := hidden (HA.out hz)
        clear hz
        go_wp2
        go_ret
        exact ⟨ret_bool HT.out.symm, rfl⟩
      · have y0 : (z == v) = false := by simpa using hz
        have HT : Hid (memB (xs.take (k + 1)) v = false) := hidden (by rw [HS.out, HM.out, y0]; rfl)
        clear hz
        go_wp2
        go_round
        case rel => exact ⟨k + 1, by omega, by go_num, HT.out⟩
        case measure => simp [intOf]; omega
    · have HE : Hid (memB xs v = false) := hidden (by have := HM.out; rwa [List.take_of_length_le (by omega)] at this)
      go_wp2
      go_ret
      exact ⟨ret_bool HE.out.symm, rfl⟩
def IdxP (xs : List Int) (v : Int) (w : World) (e : Ending) (w' : World) : Prop := (∃ r : Int, e = .returned (.int .i64 r) ∧ decide (0 ≤ r) = memB xs v) ∧ w = w'
set_option maxRecDepth 100000 in
set_option maxHeartbeats 4000000 in
theorem index_any (A : Option Addr) (c : Nat) (xs : List Int) (v : Int) (w : World) (h : RdInts w .i64 A xs) (hn : xs.length ≤ 100000000) :
    Calls Try.prog 124 #[.slice A xs.length c, .int .i64 v] w (IdxP xs v w) := by
  have HX := hidden h
  clear h
  go_enter Try.func124, Try.ntmps124
  go_wp2
  go_loop [5, 8] (fun _ i => ∃ k : Nat, k ≤ xs.length ∧ i = .int .i64 k ∧ memB (xs.take k) v = false) (fun _ i => xs.length - (intOf i).toNat)
  case atStart => exact ⟨0, Nat.zero_le _, rfl, rfl⟩
  case round =>
    obtain ⟨k, hk, rfl, hm⟩ := hrel
    have HM := hidden hm
    clear hm
    by_cases hlt : k < xs.length
    · obtain ⟨ad, rfl, c0⟩ := HX.out k hlt
      have HS := hidden (memB_succ xs v k hlt)
      have HA := hidden (memB_at xs v k hlt)
      generalize xs.getD k 0 = z at c0 HS HA
      by_cases hz : z = v
      · have y0 : (v == z) = true := by rw [hz]; simp
        have HT := hidden (HA.out hz)
        clear hz
        go_wp2
        go_ret
        exact ⟨⟨k, rfl, by rw [HT.out]; simp⟩, rfl⟩
      · have y0 : (v == z) = false := by simpa using fun h => hz h.symm
        have HT : Hid (memB (xs.take (k + 1)) v = false) := hidden (by rw [HS.out, HM.out]; simpa using hz)
        clear hz
        go_wp2
        go_round
        case rel => exact ⟨k + 1, by omega, by go_num, HT.out⟩
        case measure => simp [intOf]; omega
    · have HE : Hid (memB xs v = false) := hidden (by have := HM.out; rwa [List.take_of_length_le (by omega)] at this)
      go_wp2
      go_ret
      exact ⟨⟨-1, rfl, by rw [HE.out]; rfl⟩, rfl⟩
set_option maxRecDepth 100000 in
set_option maxHeartbeats 4000000 in
theorem contains_any (A : Option Addr) (c : Nat) (xs : List Int) (v : Int) (w : World) (h : RdInts w .i64 A xs) (hn : xs.length ≤ 100000000) :
    Calls Try.prog 81 #[.slice A xs.length c, .int .i64 v] w fun e w' => e = .returned (.bool (memB xs v)) ∧ w = w' := by
  have HI := hidden (index_any A c xs v w h hn)
  clear h
  go_enter Try.func81, Try.ntmps81
  go_wp2_with (go_at_call 124; refine HI.out.mono ?_; rintro e w1 ⟨⟨r, rfl, hr⟩, rfl⟩; have HR := hidden hr; clear hr; dsimp only)
  go_ret
  exact ⟨ret_bool HR.out, rfl⟩
/-- What is tried on a way. -/
structure TryD where
  keys : List Int
  pre : List Int
  height : Int
  age : Int
def tryCells (A : Option Addr) (c : Nat) (B : Option Addr) (d : Nat) (t : TryD) : List Value := [.slice A t.keys.length c, .slice B t.pre.length d, .int .i64 t.height, .int .i64 t.age]
/-- Is a way open? -/
noncomputable def opensB (x : Way) (t : TryD) : Bool := x.keys.all (memB t.keys) && (x.hash == zero32 || hashF t.pre == x.hash) && decide (x.after ≤ t.height) && decide (x.wait ≤ t.age)
end Go.Proofs.Ytcghjnegaiiieaa

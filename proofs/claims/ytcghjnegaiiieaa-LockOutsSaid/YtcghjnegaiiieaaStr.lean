/- Bytes as a string. -/
import Derived.Deep.DeepAppendWide
import Derived.Test.YtcghjnegaiiieaaGet2
namespace Go.Proofs.Ytcghjnegaiiieaa
open Go.RowKit
theorem addr_plain {w : World} {ad : Addr} {u : Value} (h : w.cell? ad = some u) : ∃ b o, ad = ⟨b, o, none⟩ := by
  obtain ⟨b, o, sp⟩ := ad
  unfold World.cell? at h
  split at h
  · split at h
    · cases h
    · rename_i hs
      cases sp with
      | none => exact ⟨b, o, rfl⟩
      | some s => simp at hs
  · cases h
theorem plain_add (b o i : Nat) : (⟨b, o, none⟩ : Addr).add i = ⟨b, o + i, none⟩ := by unfold Addr.add; split <;> simp_all
theorem conv_bytes {w : World} {A : Option Addr} {c : Nat} {xs : List Int} (h1 : RdInts w .u8 A xs) (h2 : A = none → xs = []) : (convert 27 9 (.slice A xs.length c)).run Try.prog w = .ok (.string (strOfNums xs)) w := by
  cases A with
  | none =>
    rw [h2 rfl]
    exact run_convert_bytes_nil w _ _ Try.underlying27 Try.underlying5 _ c _ Try.underlying9
  | some ad =>
    by_cases h0 : xs = []
    · subst h0
      rw [run_convert_bytes_string w _ _ _ _ _ _ Try.underlying27 Try.underlying5 Try.underlying9]
      show (Conv.bytesToString (.slice (some ad) 0 c)).run Try.prog w = _
      rw [run_bytesToString w ad 0 c [] (by simpa using run_loadCells_list (P := Try.prog) w ad [] (by simp))]
      rfl
    · have hpos : 0 < xs.length := List.length_pos_iff.2 h0
      obtain ⟨ad', e, hc⟩ := h1 0 hpos
      obtain rfl : ad = ad' := Option.some.inj e
      have hc' : w.cell? ad = some (.int .u8 (xs.getD 0 0)) := hc
      obtain ⟨b, o, e2⟩ := addr_plain hc'
      rw [e2] at h1 ⊢
      exact run_convert_bytes_arg w _ _ Try.underlying27 Try.underlying5 b o xs.length c xs rfl (fun i hi => by
        obtain ⟨ad, e, hc⟩ := h1 i hi
        injection e with e
        subst e
        rw [plain_add] at hc
        exact hc) _ Try.underlying9
theorem Ints.conv {w : World} {F : Nat → Prop} {A : Option Addr} {c : Nat} {xs : List Int} (h : Ints w F .u8 A c xs) : (convert 27 9 (.slice A xs.length c)).run Try.prog w = .ok (.string (strOfNums xs)) w := conv_bytes h.rd (fun e => (h.nil e).1)
end Go.Proofs.Ytcghjnegaiiieaa

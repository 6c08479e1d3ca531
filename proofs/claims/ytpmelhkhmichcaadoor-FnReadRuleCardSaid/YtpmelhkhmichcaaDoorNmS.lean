/- spec.NameValid of any text (the same text stands in XRoA: never import both). -/
import Derived.Test.YtpmelhkhmichcaaDoorAlv
namespace Go.Proofs.YtpmelhkhmichcaaDoor
set_option linter.unusedSimpArgs false
set_option linter.unusedVariables false
open Go.RowKit

set_option maxHeartbeats 1000000 in
theorem specNameValid (s : ByteArray) (hs : s.size ≤ 9223372036854775807) (w : World) :
    Calls Tryd.prog 82 #[.string s] w fun e w' => e = .returned (.bool (nmOk s)) ∧ Below w.heap.size w w' := by
  go_enter Tryd.func82, Tryd.ntmps82
  go_wp2
  go_loopw [3] (fun i wr => ∃ k : Nat, k ≤ s.size ∧ i = .int .i64 k ∧ (∀ j, j < k → nmGood s j = true) ∧ Below w.heap.size w wr) (fun i _ => s.size - (intOf i).toNat)
  case atStart => exact ⟨0, Nat.zero_le _, rfl, fun j h => by omega, Below.refl _ _⟩
  case round =>
    obtain ⟨k, hk, rfl, hgood, hB⟩ := hrel
    have HG := Lib.hid hgood
    clear hgood
    by_cases hlt : k < s.size
    · have hx := byteAt_of hlt
      by_cases h1 : ((s[k]'hlt).toNat : Int) < 97
      · go_wp2
        go_ret
        exact ⟨ret_bool (nmOk_no hlt (by rw [nmGood, inB_false]; omega)), hB⟩
      · by_cases h2 : 122 < ((s[k]'hlt).toNat : Int)
        · go_wp2
          go_ret
          exact ⟨ret_bool (nmOk_no hlt (by rw [nmGood, inB_false]; omega)), hB⟩
        · go_wp2
          go_roundw
          case rel => exact ⟨k + 1, by omega, by go_num, all_succ HG.out (by rw [nmGood, inB_true]; omega), hB⟩
          case measure => simp [intOf]; omega
    · obtain rfl : k = s.size := by omega
      go_wp2_with fail
      refine (l1In_any _ _ _ _).mono ?_
      rintro e w2 ⟨rfl, hB2⟩
      go_wp2
      go_ret
      exact ⟨ret_bool (nmOk_yes HG.out).symm, ext_trans hB hB2⟩
end Go.Proofs.YtpmelhkhmichcaaDoor

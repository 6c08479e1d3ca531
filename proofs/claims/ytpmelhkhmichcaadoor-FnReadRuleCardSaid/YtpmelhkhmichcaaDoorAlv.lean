/- impl.NameValid of any text; alive. -/
import Derived.Test.YtpmelhkhmichcaaDoorBas
namespace Go.Proofs.YtpmelhkhmichcaaDoor
set_option linter.unusedSimpArgs false
set_option linter.unusedVariables false
open Go.RowKit

def byteAt (s : ByteArray) (k : Nat) : Int := if h : k < s.size then (s[k]'h).toNat else 0
theorem byteAt_of {s : ByteArray} {k : Nat} (h : k < s.size) : byteAt s k = ((s[k]'h).toNat : Int) := dif_pos h
def nmGood (s : ByteArray) (k : Nat) : Bool := inB (byteAt s k) 97 122
def nmOk (s : ByteArray) : Bool := decide (∀ k, k < s.size → nmGood s k = true) && inB s.size 1 8
theorem nmOk_no {s : ByteArray} {k : Nat} (hk : k < s.size) (h : nmGood s k = false) : false = nmOk s := by
  have : ¬ ∀ k, k < s.size → nmGood s k = true := fun hh => by rw [hh k hk] at h; cases h
  simp [nmOk, this]
theorem nmOk_yes {s : ByteArray} (h : ∀ k, k < s.size → nmGood s k = true) : nmOk s = inB s.size 1 8 := by
  unfold nmOk
  rw [decide_eq_true h, Bool.true_and]

set_option maxHeartbeats 1000000 in
theorem implNameValid (s : ByteArray) (hs : s.size ≤ 9223372036854775807) (w : World) :
    Calls Tryd.prog 55 #[.string s] w fun e w' => e = .returned (.bool (nmOk s)) ∧ Below w.heap.size w w' := by
  go_enter Tryd.func55, Tryd.ntmps55
  go_wp2
  go_loopw [6] (fun i wr => ∃ k : Nat, k ≤ s.size ∧ i = .int .i64 k ∧ (∀ j, j < k → nmGood s j = true) ∧ Below w.heap.size w wr) (fun i _ => s.size - (intOf i).toNat)
  case atStart => exact ⟨0, Nat.zero_le _, rfl, fun j h => by omega, Below.refl _ _⟩
  case round =>
    obtain ⟨k, hk, rfl, hgood, hB⟩ := hrel
    have HG := Lib.hid hgood
    clear hgood
    by_cases hlt : k < s.size
    · have hx := byteAt_of hlt
      by_cases h1 : ((s[k]'hlt).toNat : Int) < 97
      · go_wp2
        go_ret
        exact ⟨ret_bool (nmOk_no hlt (by rw [nmGood, inB_false]; omega)), hB⟩
      · by_cases h2 : 122 < ((s[k]'hlt).toNat : Int)
        · go_wp2
          go_ret
          exact ⟨ret_bool (nmOk_no hlt (by rw [nmGood, inB_false]; omega)), hB⟩
        · go_wp2
          go_roundw
          case rel => exact ⟨k + 1, by omega, by go_num, all_succ HG.out (by rw [nmGood, inB_true]; omega), hB⟩
          case measure => simp [intOf]; omega
    · obtain rfl : k = s.size := by omega
      go_wp2_with fail
      refine (in_any _ _ _ _).mono ?_
      rintro e w2 ⟨rfl, hB2⟩
      go_wp2
      go_ret
      exact ⟨ret_bool (nmOk_yes HG.out).symm, ext_trans hB hB2⟩
def sA : ByteArray := ⟨#[97]⟩
theorem alive_any (w : World) : Calls Tryd.prog 18 #[] w fun e w' => e = .returned (.bool true) ∧ Below w.heap.size w w' := by
  go_enter Tryd.func18, Tryd.ntmps18
  go_wp2_with fail
  refine (implNameValid sA (by decide) _).mono ?_
  rintro e w2 ⟨rfl, hB2⟩
  go_wp2
  go_ret
  exact ⟨ret_bool (by decide), hB2⟩
end Go.Proofs.YtpmelhkhmichcaaDoor

/- A bit of a small number, by halves. -/
import Derived.Test.YtpmelhkhmichcaaDoorBas
namespace Go.Proofs.YtpmelhkhmichcaaDoor
set_option linter.unusedSimpArgs false
set_option linter.unusedVariables false
open Go.RowKit

def halfN (a : Int) : Nat → Int
  | 0 => a
  | k + 1 => halfN a k / 2
def bitB (a : Int) (d : Int) : Bool := decide (halfN a d.toNat % 2 = 1)
theorem halfN_bounds {a : Int} (h : 0 ≤ a) : ∀ k, 0 ≤ halfN a k ∧ halfN a k ≤ a
  | 0 => ⟨h, Int.le_refl _⟩
  | k + 1 => by have := halfN_bounds h k; simp only [halfN]; omega

theorem halfN_nat (n : Nat) : ∀ k, halfN (n : Int) k = ((n / 2 ^ k : Nat) : Int)
  | 0 => by simp [halfN]
  | k + 1 => by
    simp only [halfN, halfN_nat n k]
    rw [Nat.pow_succ, ← Nat.div_div_eq_div_mul]
    omega
theorem and_one_i64 (n : Nat) (h : n < 9223372036854775808) : bits .and .i64 (n : Int) 1 = ((n % 2 : Nat) : Int) := by
  show IntKind.i64.wrap ((BitVec.ofInt 64 (n : Int) &&& BitVec.ofInt 64 ((1 : Nat) : Int)).toNat : Int) = _
  rw [BitVec.toNat_and, BitVec.ofInt_natCast, BitVec.ofInt_natCast, BitVec.toNat_ofNat, BitVec.toNat_ofNat, Nat.mod_eq_of_lt (by omega), Nat.mod_eq_of_lt (by omega), Nat.and_one_is_mod, IntKind.wrap_i64]
  omega
theorem bitB_eq {a : Int} (d : Int) (h0 : 0 ≤ a) (h1 : a ≤ 1000000) : (bits BinOp.and IntKind.i64 (a / 2 ^ d.toNat) 1 == 1) = bitB a d := by
  obtain ⟨n, rfl⟩ := Int.eq_ofNat_of_zero_le h0
  have e : ((n : Int) / 2 ^ d.toNat) = ((n / 2 ^ d.toNat : Nat) : Int) := by
    rw [Int.natCast_ediv]; congr 1
  have hlt : n / 2 ^ d.toNat ≤ n := Nat.div_le_self _ _
  rw [e, and_one_i64 _ (by omega), bitB, halfN_nat, Bool.eq_iff_iff]
  simp

set_option maxHeartbeats 400000 in
theorem l12Act_any {a d : Int} (w : World) (h0 : 0 ≤ a) (h1 : a ≤ 1000000) (h2 : 0 ≤ d) (h3 : d ≤ 1000000) :
    Calls Tryd.prog 64 #[.int .i64 a, .int .i64 d] w fun e w' => e = .returned (.bool (bitB a d)) ∧ Below w.heap.size w w' := by
  go_enter Tryd.func64, Tryd.ntmps64
  go_wp2
  go_loop [0, 5] (fun x i => ∃ k : Nat, (k : Int) ≤ d ∧ i = .int .i64 k ∧ x = .int .i64 (halfN a k)) (fun _ i => d.toNat - (intOf i).toNat)
  case atStart => exact ⟨0, by omega, rfl, rfl⟩
  case round =>
    obtain ⟨k, hk, rfl, rfl⟩ := hrel
    obtain ⟨b1, b2⟩ := halfN_bounds h0 k
    by_cases hlt : (k : Int) < d
    · go_wp2
      go_round
      case rel => exact ⟨k + 1, by omega, by go_num, rfl⟩
      case measure => simp [intOf]; omega
    · go_wp2
      go_ret
      have e : d.toNat = k := by omega
      exact ⟨ret_bool (by simp only [bitB, e]; rw [Bool.eq_iff_iff]; simp), Below.refl _ _⟩

end Go.Proofs.YtpmelhkhmichcaaDoor

/- An hour of a day in a rule. -/
import Derived.Test.YticiggciigmhaaaHrA
namespace Go.Proofs.Yticiggciigmhaaa
open Go.RowKit

def halfN (a : Int) : Nat → Int
  | 0 => a
  | k + 1 => halfN a k / 2
def bitB (a : Int) (d : Int) : Bool := decide (halfN a d.toNat % 2 = 1)
theorem halfN_bounds {a : Int} (h : 0 ≤ a) : ∀ k, 0 ≤ halfN a k ∧ halfN a k ≤ a
  | 0 => ⟨h, Int.le_refl _⟩
  | k + 1 => by have := halfN_bounds h k; simp only [halfN]; omega

theorem halfN_nat (n : Nat) : ∀ k, halfN (n : Int) k = ((n / 2 ^ k : Nat) : Int)
  | 0 => by simp [halfN]
  | k + 1 => by
    simp only [halfN, halfN_nat n k]
    rw [Nat.pow_succ, ← Nat.div_div_eq_div_mul]
    omega
theorem and_one_i64 (n : Nat) (h : n < 9223372036854775808) : bits .and .i64 (n : Int) 1 = ((n % 2 : Nat) : Int) := by
  show IntKind.i64.wrap ((BitVec.ofInt 64 (n : Int) &&& BitVec.ofInt 64 ((1 : Nat) : Int)).toNat : Int) = _
  rw [BitVec.toNat_and, BitVec.ofInt_natCast, BitVec.ofInt_natCast, BitVec.toNat_ofNat, BitVec.toNat_ofNat, Nat.mod_eq_of_lt (by omega), Nat.mod_eq_of_lt (by omega), Nat.and_one_is_mod, IntKind.wrap_i64]
  omega
theorem bitB_eq {a : Int} (d : Int) (h0 : 0 ≤ a) (h1 : a ≤ 1000000) : (bits BinOp.and IntKind.i64 (a / 2 ^ d.toNat) 1 == 1) = bitB a d := by
  obtain ⟨n, rfl⟩ := Int.eq_ofNat_of_zero_le h0
  have e : ((n : Int) / 2 ^ d.toNat) = ((n / 2 ^ d.toNat : Nat) : Int) := by
    rw [Int.natCast_ediv]; congr 1
  have hlt : n / 2 ^ d.toNat ≤ n := Nat.div_le_self _ _
  rw [e, and_one_i64 _ (by omega), bitB, halfN_nat, Bool.eq_iff_iff]
  simp

set_option maxHeartbeats 400000 in
theorem l12Act_any {a d : Int} (w : World) (h0 : 0 ≤ a) (h1 : a ≤ 1000000) (h2 : 0 ≤ d) (h3 : d ≤ 1000000) :
    Calls Try.prog 34 #[.int .i64 a, .int .i64 d] w fun e w' => e = .returned (.bool (bitB a d)) ∧ Below w.heap.size w w' := by
  go_enter Try.func34, Try.ntmps34
  go_wp2
  go_loop [0, 5] (fun x i => ∃ k : Nat, (k : Int) ≤ d ∧ i = .int .i64 k ∧ x = .int .i64 (halfN a k)) (fun _ i => d.toNat - (intOf i).toNat)
  case atStart => exact ⟨0, by omega, rfl, rfl⟩
  case round =>
    obtain ⟨k, hk, rfl, rfl⟩ := hrel
    obtain ⟨b1, b2⟩ := halfN_bounds h0 k
    by_cases hlt : (k : Int) < d
    · go_wp2
      go_round
      case rel => exact ⟨k + 1, by omega, by go_num, rfl⟩
      case measure => simp [intOf]; omega
    · go_wp2
      go_ret
      have e : d.toNat = k := by omega
      exact ⟨ret_bool (by simp only [bitB, e]; rw [Bool.eq_iff_iff]; simp), Below.refl _ _⟩

/-- A rule has an hour of a day. -/
def hrHas (a f t day hour : Int) : Bool :=
  if f < t then bitB a day && decide (f ≤ hour) && decide (hour < t) else (bitB a day && decide (f ≤ hour)) || (bitB a ((day + 6) % 7) && decide (hour < t))

set_option maxHeartbeats 400000 in
theorem has_any {a f t day hour : Int} (w : World) (h0 : 0 ≤ a) (h1 : a ≤ 1000000) (h2 : 0 ≤ day) (h3 : day ≤ 6) :
    Calls Try.prog 39 #[.agg #[.int .i64 a, .int .i64 f, .int .i64 t], .int .i64 day, .int .i64 hour] w fun e w' => e = .returned (.bool (hrHas a f t day hour)) ∧ Below w.heap.size w w' := by
  go_enter Try.func39, Try.ntmps39
  go_wp2
  all_goals
    go_ret
    refine ⟨ret_bool ?_, ext_alloc (Below.refl _ _) _⟩
    simp only [hrHas, ← bitB_eq day h0 h1, ← bitB_eq ((day + 6) % 7) h0 h1]
    rw [Bool.eq_iff_iff]
    split <;> simp only [Bool.or_eq_true, Bool.and_eq_true, decide_eq_true_eq, beq_iff_eq, Bool.false_eq_true, true_iff, false_iff] <;> omega
end Go.Proofs.Yticiggciigmhaaa

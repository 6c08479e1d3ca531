/- Numbers that ascend: impl.ascends; persons and times. -/
import Derived.Test.YtbimcababidjgaaIlT
import Derived.Test.YtbimcababidjgaaBas
namespace Go.Proofs.Ytbimcababidjgaa
set_option linter.unusedSimpArgs false
set_option linter.unusedVariables false
open Go.RowKit

abbrev IL := List Int
theorem il_get {l : IL} {k : Nat} (hk : k < l.length) : il0 l k = l[k] := il_elem hk
def ascAt (l : IL) (hi : Int) (k : Nat) : Bool := inB (il0 l k) 0 hi && decide (0 < k → il0 l (k - 1) < il0 l k)
def ascB (l : IL) (hi : Int) : Bool := decide (∀ k, k < l.length → ascAt l hi k = true)
theorem ascAt_iff {l : IL} {hi : Int} {k : Nat} : ascAt l hi k = true ↔ (0 ≤ il0 l k ∧ il0 l k ≤ hi) ∧ (0 < k → il0 l (k - 1) < il0 l k) := by
  simp only [ascAt, inB, Bool.and_eq_true, decide_eq_true_eq]
theorem ascB_iff {l : IL} {hi : Int} : ascB l hi = true ↔ ∀ k, k < l.length → ascAt l hi k = true := by simp [ascB]
theorem ascB_no {l : IL} {hi : Int} {k : Nat} (hk : k < l.length) (h : ascAt l hi k = false) : false = ascB l hi := by
  rw [eq_comm]
  simp only [ascB, decide_eq_false_iff_not]
  exact fun hh => by rw [hh k hk] at h; cases h
theorem ascB_yes {l : IL} {hi : Int} (h : ∀ k, k < l.length → ascAt l hi k = true) : true = ascB l hi := (ascB_iff.2 h).symm
/-- The least that may come next. -/
def ascLow (l : IL) : Nat → Int
  | 0 => 0
  | k + 1 => il0 l k + 1
theorem ascLow_bounds {l : IL} {hi : Int} (h0 : -1 ≤ hi) {k : Nat} (h : ∀ j, j < k → ascAt l hi j = true) : 0 ≤ ascLow l k ∧ ascLow l k ≤ hi + 1 := by
  cases k with
  | zero => simp [ascLow]; omega
  | succ k =>
    have := (ascAt_iff.1 (h k (by omega))).1
    simp only [ascLow]; omega
theorem ascLow_at {l : IL} {hi : Int} {k : Nat} (h : ∀ j, j < k → ascAt l hi j = true) : inB (il0 l k) (ascLow l k) hi = ascAt l hi k := by
  rw [Bool.eq_iff_iff, ascAt_iff, inB_true]
  cases k with
  | zero => simp [ascLow]
  | succ k =>
    have := (ascAt_iff.1 (h k (by omega))).1
    simp only [ascLow, Nat.add_sub_cancel]
    constructor
    · intro h; exact ⟨by omega, fun _ => by omega⟩
    · intro h; have := h.2 (by omega); exact ⟨by omega, by omega⟩
theorem ascB_len {l : IL} {hi : Int} (h0 : -1 ≤ hi) (h : ascB l hi = true) : (l.length : Int) ≤ hi + 1 := by
  have hh := ascB_iff.1 h
  have hk : ∀ k, k < l.length → (k : Int) ≤ il0 l k := by
    intro k
    induction k with
    | zero => intro hk; have := (ascAt_iff.1 (hh 0 hk)).1; omega
    | succ k ih =>
      intro hk
      have h1 := ih (by omega)
      have h2 := (ascAt_iff.1 (hh (k + 1) hk)).2 (by omega)
      simp only [Nat.add_sub_cancel] at h2
      omega
  rcases Nat.eq_zero_or_pos l.length with h0 | h0
  · rw [h0]; omega
  · have h1 := hk (l.length - 1) (by omega)
    have h2 := (ascAt_iff.1 (hh (l.length - 1) (by omega))).1
    omega

set_option maxHeartbeats 1000000 in
theorem ascends_any {A : Option Addr} {l : IL} {c : Nat} {hi : Int} {w : World} (hU : ilR w A l) (h0 : -1 ≤ hi) (h1 : hi ≤ 4194304) :
    Calls Try.prog 51 #[.slice A l.length c, .int .i64 0, .int .i64 hi] w fun e w' => e = .returned (.bool (ascB l hi)) ∧ Below w.heap.size w w' := by
  have hl := hU.len
  go_enter Try.func51, Try.ntmps51
  go_wp2
  go_loopw [1, 11] (fun lo i wr => ∃ k : Nat, k ≤ l.length ∧ i = .int .i64 k ∧ lo = .int .i64 (ascLow l k) ∧ (∀ j, j < k → ascAt l hi j = true) ∧ Below w.heap.size w wr) (fun _ i _ => l.length - (intOf i).toNat)
  case atStart => exact ⟨0, Nat.zero_le _, rfl, rfl, fun j h => by omega, Below.refl _ _⟩
  case round =>
    obtain ⟨k, hk, rfl, rfl, hgood, hB⟩ := hrel
    have HG := Lib.hid hgood
    obtain ⟨b1, b2⟩ := ascLow_bounds h0 hgood
    have HA := Lib.hid (ascLow_at hgood)
    have HS : Hid (ascLow l (k + 1) = il0 l k + 1) := Lib.hid rfl
    clear hgood
    by_cases hlt : k < l.length
    · obtain ⟨b, off, rfl, hc⟩ := hU.cells (by omega)
      have c0 := hc k hlt
      have m0 := below_cell hB c0
      clear c0 hc
      cases g : ascAt l hi k
      · go_wp2_with fail
        refine (in_any _ _ _ _).mono ?_
        rintro e w2 ⟨rfl, hB2⟩
        rw [HA.out, g]
        go_wp2
        go_ret
        exact ⟨ret_bool (ascB_no hlt g), ext_trans hB hB2⟩
      · have gb := (ascAt_iff.1 g).1
        go_wp2_with fail
        refine (in_any _ _ _ _).mono ?_
        rintro e w2 ⟨rfl, hB2⟩
        rw [HA.out, g]
        go_wp2
        go_roundw
        case rel => exact ⟨k + 1, by omega, by go_num, by rw [HS.out], all_succ HG.out g, ext_trans hB hB2⟩
        case measure => simp [intOf]; omega
    · obtain rfl : k = l.length := by omega
      go_wp2
      go_ret
      exact ⟨ret_bool (ascB_yes HG.out), hB⟩
end Go.Proofs.Ytbimcababidjgaa

/- The reading of uses, and the contracts of the two UsagesValid. -/
import Derived.Test.YtjiooipoeahdmaaBas
namespace Go.Proofs.Ytjiooipoeahdmaa
open Go.RowKit

def U0 : Int × Int := (0, 0)
def uAt (us : List (Int × Int)) (k : Nat) : Int := (us.getD k U0).1
def uMuch (us : List (Int × Int)) (k : Nat) : Int := (us.getD k U0).2
def usEnc (u : Int × Int) : List Value := [.int .i64 u.1, .int .i64 u.2]
def Us (w : World) (A : Option Addr) (us : List (Int × Int)) : Prop := RdL (Flat usEnc) 2 w A us
theorem Us.below {w w' : World} {A : Option Addr} {us : List (Int × Int)} (h : Us w A us) (hb : Below w.heap.size w w') : Us w' A us := RdL.below (Flat.mono _) h hb
theorem Us.regrown {w : World} {A : Option Addr} {us : List (Int × Int)} (h : Us w A us) (d : Nat) (os : Array Obj) : Us (Sort.grow (redrawn w d) os) A us := RdL.regrown (Flat.mono _) h d os
theorem Us.len {w : World} {A : Option Addr} {us : List (Int × Int)} (h : Us w A us) : us.length ≤ 9223372036854775807 := h.1
theorem Us.cells {w : World} {A : Option Addr} {us : List (Int × Int)} (h : Us w A us) (hn : 0 < us.length) : ∃ b off, A = some ⟨b, off, none⟩ ∧ ∀ k, k < us.length →
    w.cell? ⟨b, off + k * 2, none⟩ = some (.int .i64 (uAt us k)) ∧ w.cell? ⟨b, off + k * 2 + 1, none⟩ = some (.int .i64 (uMuch us k)) := by
  obtain ⟨b, off, e, hc⟩ := h.2 hn
  refine ⟨b, off, e, fun k hk => ?_⟩
  obtain ⟨cs, _, rfl, hv⟩ := hc k hk
  have e : us.getD k U0 = us[k] := by simp [hk]
  simp only [uAt, uMuch, e]
  exact ⟨hv 0 _ rfl, hv 1 _ rfl⟩

def usGood (us : List (Int × Int)) (k : Nat) : Prop :=
  inB (uAt us k) 0 1000 = true ∧ inB (uMuch us k) 1 1000 = true ∧ (0 < k → uAt us (k-1) ≤ uAt us k)
instance (us : List (Int × Int)) (k : Nat) : Decidable (usGood us k) := by unfold usGood; infer_instance
def usOk (us : List (Int × Int)) : Bool := decide (us.length ≤ 20 ∧ ∀ k, k < us.length → usGood us k)
theorem usOk_no {us : List (Int × Int)} {k : Nat} (hk : k < us.length) (h : ¬ usGood us k) : false = usOk us := by
  simp only [usOk, Bool.false_eq, decide_eq_false_iff_not]
  exact fun hh => h (hh.2 k hk)
theorem usOk_yes {us : List (Int × Int)} (h : ∀ k, k < us.length → usGood us k) : decide ((us.length : Int) ≤ 20) = usOk us := by
  simp only [usOk, decide_eq_decide]
  exact ⟨fun hh => ⟨by omega, h⟩, fun hh => by omega⟩
theorem us_cases (us : List (Int × Int)) (k : Nat) : inB (uAt us k) 0 1000 = false ∨ (inB (uAt us k) 0 1000 = true ∧ (inB (uMuch us k) 1 1000 = false ∨ (inB (uMuch us k) 1 1000 = true ∧
    (¬ 0 < k ∨ (0 < k ∧ (uAt us k < uAt us (k-1) ∨ ¬ uAt us k < uAt us (k-1))))))) := by
  cases inB (uAt us k) 0 1000 <;> cases inB (uMuch us k) 1 1000 <;> simp
  omega
set_option maxHeartbeats 400000 in
theorem isTime_any (n : Int) (w : World) :
    Calls Try.prog 27 #[.int .i64 n] w fun e w' => e = .returned (.bool (inB n 0 1000)) ∧ Below w.heap.size w w' := by
  go_enter Try.func27, Try.ntmps27
  go_wp2_with (go_at_call 28; refine (in_any _ _ _ _).mono ?_; rintro e w' ⟨rfl, hB⟩)
  go_ret
  exact ⟨rfl, hB⟩

set_option maxHeartbeats 1000000 in
theorem specUsagesValid {A : Option Addr} {us : List (Int × Int)} {c : Nat} {w : World} (hU : Us w A us) :
    Calls Try.prog 10 #[.slice A us.length c] w fun e w' => e = .returned (.bool (usOk us)) ∧ Below w.heap.size w w' := by
  have hl := hU.len
  go_enter Try.func10, Try.ntmps10
  go_wp2
  go_loopw [3] (fun i wr => ∃ k : Nat, k ≤ us.length ∧ i = .int .i64 k ∧ (∀ j, j < k → usGood us j) ∧ Below w.heap.size w wr) (fun i _ => us.length - (intOf i).toNat)
  case atStart => exact ⟨0, Nat.zero_le _, rfl, fun j h => by omega, Below.refl _ _⟩
  case round =>
    obtain ⟨k, hk, rfl, hgood, hB⟩ := hrel
    have HG := Lib.hid hgood
    clear hgood
    by_cases hlt : k < us.length
    · obtain ⟨b, off, rfl, hc⟩ := hU.cells (by omega)
      obtain ⟨c1, c2⟩ := hc k hlt
      have k1 := cell_regrown (below_cell hB c1)
      have k2 := cell_regrown (below_cell hB c2)
      obtain ⟨c3, _⟩ := hc (k-1) (by omega)
      have k3 := cell_regrown (below_cell hB c3)
      clear c1 c2 c3
      rcases us_cases us k with g1 | ⟨g1, g2 | ⟨g2, g3 | ⟨g3, g4 | g4⟩⟩⟩
      all_goals
        go_wp2
        refine wp_region_quiet_below (by kernel_rfl) (by kernel_rfl) ?_
        repeat (go_big_quiet_step ((go_at_call 26; exact Calls.regrown_of (l1In_any _ _ _ _))))
        refine wpQuiet_nil ?_
        intro w2 hw'regrown
        replace hB := hB.trans (below_of_regrown hw'regrown hB.size)
        clear hw'regrown
        go_wp2
      · go_ret
        exact ⟨ret_bool (usOk_no hlt (by simp [usGood, g1])), hB⟩
      · go_ret
        exact ⟨ret_bool (usOk_no hlt (by simp [usGood, g2])), hB⟩
      · go_round
        case rel => exact ⟨k + 1, by omega, by go_num, all_succ HG.out ⟨g1, g2, fun h => absurd h g3⟩, hB⟩
        case measure => simp [intOf]; omega
      · go_ret
        exact ⟨ret_bool (usOk_no hlt (by simp [usGood]; omega)), hB⟩
      · go_round
        case rel => exact ⟨k + 1, by omega, by go_num, all_succ HG.out ⟨g1, g2, fun h => by omega⟩, hB⟩
        case measure => simp [intOf]; omega
    · go_wp2
      go_ret
      exact ⟨ret_bool (usOk_yes (by obtain rfl : k = us.length := by omega
                                    exact HG.out)), hB⟩
end Go.Proofs.Ytjiooipoeahdmaa

/- conversions and comparisons of uses -/
import Derived.Test.YtjiooipoeahdmaaUsA
namespace Go.Proofs.Ytjiooipoeahdmaa
open Go.RowKit

set_option maxHeartbeats 400000 in
theorem szUsageS_any {A : Option Addr} {us : List (Int × Int)} {c : Nat} {left : Int} {w : World} (hU : Us w A us) (hl : 0 ≤ left) (hl2 : left ≤ 1048576) :
    Calls Try.prog 9 #[.slice A us.length c, .int .i64 left] w fun e w' => e = .returned (.int .i64 (if left < us.length then -1 else left - us.length)) ∧ Below w.heap.size w w' := by
  have hlen := hU.len
  by_cases h1 : left < us.length
  · rw [if_pos h1]
    go_enter Try.func9, Try.ntmps9
    go_wp2
    go_ret
    exact ⟨rfl, Below.refl _ _⟩
  · rw [if_neg h1]
    go_enter Try.func9, Try.ntmps9
    go_wp2
    go_ret
    exact ⟨rfl, Below.refl _ _⟩

set_option maxHeartbeats 400000 in
theorem toUsage_any (x y : Int) (w : World) :
    Calls Try.prog 20 #[.agg #[.int .i64 x, .int .i64 y]] w fun e w' => e = .returned (.agg #[.int .i64 x, .int .i64 y]) ∧ Below w.heap.size w w' := by
  go_enter Try.func20, Try.ntmps20
  go_wp2
  refine bodyPost_ret (v := .agg #[.int .i64 x, .int .i64 y]) (by simp [results, go_sem]) rfl ⟨rfl, ?_⟩
  repeat (first | exact Below.refl _ _ | refine ext_alloc ?_ _)

set_option maxHeartbeats 400000 in
theorem eqUsage_any (x y x' y' : Int) (w : World) :
    Calls Try.prog 29 #[.agg #[.int .i64 x, .int .i64 y], .agg #[.int .i64 x', .int .i64 y']] w fun e w' => e = .returned (.bool (sameB (x, y) (x', y'))) ∧ Below w.heap.size w w' := by
  go_enter Try.func29, Try.ntmps29
  go_wp2
  all_goals
    go_ret
    exact ⟨ret_bool (by simp_all [sameB]), by repeat (first | exact Below.refl _ _ | refine ext_alloc ?_ _)⟩

theorem Try.infoUsage : (Try.prog.info? 32).map (fun i => (i.zero, i.size, i.bytes)) = some (some (.agg #[.int .i64 0, .int .i64 0]), 2, 16) := by kernel_rfl

set_option maxHeartbeats 1000000 in
theorem toUsageS_any {A : Option Addr} {us : List (Int × Int)} {c : Nat} {w : World} (hU : Us w A us) (hn : us.length ≤ 2097152) :
    Calls Try.prog 11 #[.slice A us.length c] w fun e w' => e = .returned (.slice (some ⟨w.heap.size, 0, none⟩) us.length us.length) ∧
      w'.ownsRow w.heap.size 32 2 (.slice (some ⟨w.heap.size, 0, none⟩) us.length us.length) us.length (us.flatMap usEnc) ∧ Below w.heap.size w w' := by
  obtain ⟨i0, hi, hz0, hz1, hz2⟩ := info_parts Try.infoUsage
  obtain ⟨wm, hmk, hown, hgr⟩ := run_make_full (P := Try.prog) w w.heap.size 25 32 i0 _ 2 Try.underlying25 hi hz0 hz1 .i64 .i64 us.length (by rw [hz2]; omega) (by simp only [maxLen]; omega) (Nat.le_refl _)
  have hBm : Below w.heap.size w wm := ext_grown (Below.refl _ _) hgr (by simp)
  clear hgr hi hz0 hz1 hz2
  generalize (madeCells _ _).toList = xs0 at hown
  go_enter Try.func11, Try.ntmps11
  go_wp2
  clear hmk
  go_loopw [4] (fun i wr => ∃ k : Nat, k ≤ us.length ∧ i = .int .i64 k ∧ Below w.heap.size w wr ∧ ∃ xs, wr.ownsRow w.heap.size 32 2 (.slice (some ⟨w.heap.size, 0, none⟩) us.length us.length) us.length xs ∧ xs.take (k * 2) = (us.take k).flatMap usEnc) (fun i _ => us.length - (intOf i).toNat)
  case atStart => exact ⟨0, Nat.zero_le _, rfl, hBm, xs0, hown, by simp⟩
  case round =>
    clear hown hBm
    obtain ⟨k, hk, rfl, hB, xs, hown, htake⟩ := hrel
    have HT := Lib.hid htake
    clear htake
    by_cases hlt : k < us.length
    · obtain ⟨b, off, rfl, hc⟩ := hU.cells (by omega)
      obtain ⟨c1, c2⟩ := hc k hlt
      have m1 := below_cell hB c1
      have m2 := below_cell hB c2
      clear c1 c2 hc
      go_wp2_with (go_at_call 20; refine (toUsage_any _ _ _).mono ?_; rintro e w1 ⟨rfl, hB1⟩; replace hB := ext_trans hB hB1; replace hown := own_below hown hB1; obtain ⟨v0, f0⟩ := own_cell hown (j := k * 2) (by omega); obtain ⟨v1, f1⟩ := own_cell hown (j := k * 2 + 1) (by omega); have z0 := hown.frozenAt (k * 2); have z1 := hown.frozenAt (k * 2 + 1); clear hB1)
      go_roundw
      case rel =>
        obtain ⟨xs', h1, h2⟩ := own_elem [.int .i64 (uAt us k), .int .i64 (uMuch us k)] hown hlt rfl HT.out
        exact ⟨k + 1, by omega, by go_num, setCells_below (Nat.le_refl _) [.int .i64 (uAt us k), .int .i64 (uMuch us k)] (k * 2) hB, xs', h1, by rw [h2, take_succ_enc _ _ _ hlt]; simp [usEnc, uAt, uMuch, hlt]⟩
      case measure => simp [intOf]; omega
    · obtain rfl : k = us.length := by omega
      go_wp2
      go_ret
      refine ⟨rfl, ?_, hB⟩
      have e := HT.out
      rw [List.take_of_length_le (Nat.le_of_eq hown.1), List.take_length] at e
      rw [← e]; exact hown

theorem us_differ {us vs : List (Int × Int)} {k : Nat} (hk : k < us.length) (hk' : k < vs.length) (h : ¬ (uAt us k, uMuch us k) = (uAt vs k, uMuch vs k)) : false = sameB us vs := by
  rw [eq_comm, sameB_false]
  rintro rfl
  exact h rfl
theorem us_same {us vs : List (Int × Int)} (h : us.length = vs.length) (h2 : ∀ k, k < us.length → (uAt us k, uMuch us k) = (uAt vs k, uMuch vs k)) : true = sameB us vs := by
  rw [eq_comm, sameB_true]
  apply List.ext_getElem h
  intro k h3 h4
  have := h2 k h3
  simp only [uAt, uMuch, Prod.mk.injEq] at this
  rw [List.getElem_eq_getD U0, List.getElem_eq_getD U0]
  exact Prod.ext this.1 this.2

set_option maxHeartbeats 1000000 in
theorem eqUsageS_any {A A' : Option Addr} {us vs : List (Int × Int)} {c c' : Nat} {w : World} (hU : Us w A us) (hV : Us w A' vs) :
    Calls Try.prog 13 #[.slice A us.length c, .slice A' vs.length c'] w fun e w' => e = .returned (.bool (sameB us vs)) ∧ Below w.heap.size w w' := by
  have hl := hU.len
  have hl' := hV.len
  by_cases hlen : us.length = vs.length
  · have HL := Lib.hid hlen
    have hlen1 : ((us.length : Int) != vs.length) = false := by simp [hlen]
    clear hlen
    go_enter Try.func13, Try.ntmps13
    go_wp2
    go_loopw [5] (fun i wr => ∃ k : Nat, k ≤ us.length ∧ i = .int .i64 k ∧ Below w.heap.size w wr ∧ (∀ j, j < k → (uAt us j, uMuch us j) = (uAt vs j, uMuch vs j))) (fun i _ => us.length - (intOf i).toNat)
    case atStart => exact ⟨0, Nat.zero_le _, rfl, Below.refl _ _, fun j h => by omega⟩
    case round =>
      obtain ⟨k, hk, rfl, hB, hgood⟩ := hrel
      have HG := Lib.hid hgood
      clear hgood
      by_cases hlt : k < us.length
      · have hlt' : k < vs.length := by rw [← HL.out]; exact hlt
        obtain ⟨b, off, rfl, hc⟩ := hU.cells (by omega)
        obtain ⟨b', off', rfl, hc'⟩ := hV.cells (by omega)
        obtain ⟨c1, c2⟩ := hc k hlt
        obtain ⟨d1, d2⟩ := hc' k hlt'
        have m1 := cell_regrown (below_cell hB c1)
        have m2 := cell_regrown (below_cell hB c2)
        have n1 := cell_regrown (below_cell hB d1)
        have n2 := cell_regrown (below_cell hB d2)
        clear c1 c2 d1 d2 hc hc'
        by_cases g : sameB (uAt us k, uMuch us k) (uAt vs k, uMuch vs k) = true
        all_goals
          try simp only [Bool.not_eq_true] at g
          go_wp2
          refine wp_region_quiet_below (by kernel_rfl) (by kernel_rfl) ?_
          repeat (go_big_quiet_step ((go_at_call 29; exact Calls.regrown_of (eqUsage_any _ _ _ _ _))))
          refine wpQuiet_nil ?_
          intro w2 hw'regrown
          replace hB := ext_trans hB (below_of_regrown hw'regrown (Nat.le_refl _))
          clear hw'regrown
          go_wp2
        · go_roundw
          case rel => exact ⟨k + 1, by omega, by go_num, hB, all_succ HG.out (sameB_true.1 g)⟩
          case measure => simp [intOf]; omega
        · go_ret
          exact ⟨ret_bool (us_differ hlt hlt' (sameB_false.1 g)), hB⟩
      · obtain rfl : k = us.length := by omega
        go_wp2
        go_ret
        exact ⟨ret_bool (us_same HL.out HG.out), hB⟩
  · have hlen1 : ((us.length : Int) != vs.length) = true := by simp; omega
    have HL := Lib.hid hlen
    clear hlen
    go_enter Try.func13, Try.ntmps13
    go_wp2
    go_ret
    exact ⟨ret_bool (by rw [eq_comm, sameB_false]; rintro rfl; exact HL.out rfl), Below.refl _ _⟩
end Go.Proofs.Ytjiooipoeahdmaa

/- Field: how a slice of them reads; conversions, comparison, marks. Printed by gentype.py. -/
import Derived.Test.YtdpiaiblpafglaaFdV
namespace Go.Proofs.Ytdpiaiblpafglaa
set_option linter.unusedSimpArgs false
set_option linter.unusedVariables false
open Go.RowKit

def fdD : ByteArray × Int × Int := (ByteArray.empty, 0, 0)
def fd0 (l : List (ByteArray × Int × Int)) (k : Nat) : ByteArray := (l.getD k fdD).1
def fd1 (l : List (ByteArray × Int × Int)) (k : Nat) : Int := (l.getD k fdD).2.1
def fd2 (l : List (ByteArray × Int × Int)) (k : Nat) : Int := (l.getD k fdD).2.2
def fdEnc (u : ByteArray × Int × Int) : List Value := [.string u.1, .int .i64 u.2.1, .int .i64 u.2.2]
def fdR (w : World) (A : Option Addr) (l : List (ByteArray × Int × Int)) : Prop := RdL (Flat fdEnc) 3 w A l
section
variable {w w' : World} {A : Option Addr} {l : List (ByteArray × Int × Int)}
theorem fdR.below (h : fdR w A l) (hb : Below w.heap.size w w') : fdR w' A l := RdL.below (Flat.mono _) h hb
theorem fdR.regrown (h : fdR w A l) (d : Nat) (os : Array Obj) : fdR (Sort.grow (redrawn w d) os) A l := RdL.regrown (Flat.mono _) h d os
theorem fdR.len (h : fdR w A l) : l.length ≤ 9223372036854775807 := h.1
theorem fdR.cells (h : fdR w A l) (hn : 0 < l.length) : ∃ b off, A = some ⟨b, off, none⟩ ∧ ∀ k, k < l.length →
    w.cell? ⟨b, off + k * 3, none⟩ = some (.string (fd0 l k)) ∧ w.cell? ⟨b, off + k * 3 + 1, none⟩ = some (.int .i64 (fd1 l k)) ∧ w.cell? ⟨b, off + k * 3 + 2, none⟩ = some (.int .i64 (fd2 l k)) := by
  obtain ⟨b, off, e, hc⟩ := h.2 hn
  refine ⟨b, off, e, fun k hk => ?_⟩
  obtain ⟨cs, _, rfl, hv⟩ := hc k hk
  have e : l.getD k fdD = l[k] := by simp [hk]
  simp only [fd0, fd1, fd2, e]
  exact ⟨hv 0 _ rfl, hv 1 _ rfl, hv 2 _ rfl⟩
theorem fdR.own {B n c : Nat} {e : TypeId} (hl : l.length = n) (hb : n ≤ 4194304) (h : w.ownsRow B e 3 (.slice A n c) n (l.flatMap fdEnc)) : fdR w A l :=
  RdL.of_own (fun _ => rfl) hl (by omega) h
theorem fdEnc_one (a : ByteArray × Int × Int) : ∀ u ∈ fdEnc a, u.oneCell' = true := by intro u hu; simp [fdEnc] at hu; rcases hu with rfl | rfl | rfl <;> rfl
theorem fd_elem {k : Nat} (hk : k < l.length) : (fd0 l k, fd1 l k, fd2 l k) = l[k] := by
  have e : l.getD k fdD = l[k] := by simp [hk]
  simp only [fd0, fd1, fd2, e]
end
theorem fd_differ {us vs : List (ByteArray × Int × Int)} {k : Nat} (hk : k < us.length) (hk' : k < vs.length) (h : ¬ (fd0 us k, fd1 us k, fd2 us k) = (fd0 vs k, fd1 vs k, fd2 vs k)) : false = sameB us vs := by
  rw [eq_comm, sameB_false]
  rintro rfl
  exact h rfl
theorem fd_same {us vs : List (ByteArray × Int × Int)} (h : us.length = vs.length) (h2 : ∀ k, k < us.length → (fd0 us k, fd1 us k, fd2 us k) = (fd0 vs k, fd1 vs k, fd2 vs k)) : true = sameB us vs := by
  rw [eq_comm, sameB_true]
  apply List.ext_getElem h
  intro k h3 h4
  rw [← fd_elem h3, ← fd_elem h4]
  exact h2 k h3

theorem Try.infoField : (Try.prog.info? 85).map (fun i => (i.zero, i.size, i.bytes)) = some (some (.agg #[.string ByteArray.empty, .int .i64 0, .int .i64 0]), 3, 32) := by kernel_rfl

set_option maxHeartbeats 1000000 in
theorem toFieldS_any {A : Option Addr} {l : List (ByteArray × Int × Int)} {c : Nat} {w : World} (hU : fdR w A l) (hn : l.length ≤ 2097152) :
    Calls Try.prog 54 #[.slice A l.length c] w fun e w' => e = .returned (.slice (some ⟨w.heap.size, 0, none⟩) l.length l.length) ∧
      w'.ownsRow w.heap.size 85 3 (.slice (some ⟨w.heap.size, 0, none⟩) l.length l.length) l.length (l.flatMap fdEnc) ∧ Below w.heap.size w w' := by
  obtain ⟨i0, hi, hz0, hz1, hz2⟩ := info_parts Try.infoField
  obtain ⟨wm, hmk, hown, hgr⟩ := run_make_full (P := Try.prog) w w.heap.size 23 85 i0 _ 3 Try.underlying23 hi hz0 hz1 .i64 .i64 l.length (by rw [hz2]; omega) (by simp only [maxLen]; omega) (Nat.le_refl _)
  have hBm : Below w.heap.size w wm := ext_grown (Below.refl _ _) hgr (by simp)
  clear hgr hi hz0 hz1 hz2
  generalize (madeCells _ _).toList = xs0 at hown
  go_enter Try.func54, Try.ntmps54
  go_wp2
  clear hmk
  go_loopw [4] (fun i wr => ∃ k : Nat, k ≤ l.length ∧ i = .int .i64 k ∧ Below w.heap.size w wr ∧ ∃ xs, wr.ownsRow w.heap.size 85 3 (.slice (some ⟨w.heap.size, 0, none⟩) l.length l.length) l.length xs ∧ xs.take (k * 3) = (l.take k).flatMap fdEnc) (fun i _ => l.length - (intOf i).toNat)
  case atStart => exact ⟨0, Nat.zero_le _, rfl, hBm, xs0, hown, by simp⟩
  case round =>
    clear hown hBm
    obtain ⟨k, hk, rfl, hB, xs, hown, htake⟩ := hrel
    have HT := Lib.hid htake
    clear htake
    by_cases hlt : k < l.length
    · obtain ⟨b, off, rfl, hc⟩ := hU.cells (by omega)
      obtain ⟨c0, c1, c2⟩ := hc k hlt
      have m0 := below_cell hB c0
      have m1 := below_cell hB c1
      have m2 := below_cell hB c2
      clear c0 c1 c2 hc
      go_wp2_with (go_at_call 61; refine (toField_any _ _ _ _).mono ?_; rintro e w1 ⟨rfl, hB1⟩; replace hB := ext_trans hB hB1; replace hown := own_below hown hB1; obtain ⟨v0, f0⟩ := own_cell hown (j := k * 3) (by omega); obtain ⟨v1, f1⟩ := own_cell hown (j := k * 3 + 1) (by omega); obtain ⟨v2, f2⟩ := own_cell hown (j := k * 3 + 2) (by omega); have z0 := hown.frozenAt (k * 3); have z1 := hown.frozenAt (k * 3 + 1); have z2 := hown.frozenAt (k * 3 + 2); clear hB1)
      go_roundw
      case rel =>
        obtain ⟨xs', h1, h2⟩ := own_elem [.string (fd0 l k), .int .i64 (fd1 l k), .int .i64 (fd2 l k)] hown hlt rfl HT.out
        exact ⟨k + 1, by omega, by go_num, setCells_below (Nat.le_refl _) [.string (fd0 l k), .int .i64 (fd1 l k), .int .i64 (fd2 l k)] (k * 3) hB, xs', h1, by rw [h2, take_succ_enc _ _ _ hlt]; simp [fdEnc, fd0, fd1, fd2, hlt]⟩
      case measure => simp [intOf]; omega
    · obtain rfl : k = l.length := by omega
      go_wp2
      go_ret
      refine ⟨rfl, ?_, hB⟩
      have e := HT.out
      rw [List.take_of_length_le (Nat.le_of_eq hown.1), List.take_length] at e
      rw [← e]; exact hown

set_option maxHeartbeats 1000000 in
theorem eqFieldS_any {A A' : Option Addr} {us vs : List (ByteArray × Int × Int)} {c c' : Nat} {w : World} (hU : fdR w A us) (hV : fdR w A' vs) :
    Calls Try.prog 55 #[.slice A us.length c, .slice A' vs.length c'] w fun e w' => e = .returned (.bool (sameB us vs)) ∧ Below w.heap.size w w' := by
  have hl := hU.len
  have hl' := hV.len
  by_cases hlen : us.length = vs.length
  · have HL := Lib.hid hlen
    have hlen1 : ((us.length : Int) != vs.length) = false := by simp [hlen]
    clear hlen
    go_enter Try.func55, Try.ntmps55
    go_wp2
    go_loopw [5] (fun i wr => ∃ k : Nat, k ≤ us.length ∧ i = .int .i64 k ∧ Below w.heap.size w wr ∧ (∀ j, j < k → (fd0 us j, fd1 us j, fd2 us j) = (fd0 vs j, fd1 vs j, fd2 vs j))) (fun i _ => us.length - (intOf i).toNat)
    case atStart => exact ⟨0, Nat.zero_le _, rfl, Below.refl _ _, fun j h => by omega⟩
    case round =>
      obtain ⟨k, hk, rfl, hB, hgood⟩ := hrel
      have HG := Lib.hid hgood
      clear hgood
      by_cases hlt : k < us.length
      · have hlt' : k < vs.length := by rw [← HL.out]; exact hlt
        obtain ⟨b, off, rfl, hc⟩ := hU.cells (by omega)
        obtain ⟨b', off', rfl, hc'⟩ := hV.cells (by omega)
        obtain ⟨c0, c1, c2⟩ := hc k hlt
        obtain ⟨d0, d1, d2⟩ := hc' k hlt'
        have m0 := cell_regrown (below_cell hB c0)
        have m1 := cell_regrown (below_cell hB c1)
        have m2 := cell_regrown (below_cell hB c2)
        have n0 := cell_regrown (below_cell hB d0)
        have n1 := cell_regrown (below_cell hB d1)
        have n2 := cell_regrown (below_cell hB d2)
        clear c0 d0 c1 d1 c2 d2 hc hc'
        by_cases g : sameB (fd0 us k, fd1 us k, fd2 us k) (fd0 vs k, fd1 vs k, fd2 vs k) = true
        all_goals
          try simp only [Bool.not_eq_true] at g
          go_wp2
          refine wp_region_quiet_below (by kernel_rfl) (by kernel_rfl) ?_
          repeat (go_big_quiet_step ((go_at_call 62; exact Calls.regrown_of (eqField_any _ _ _ _ _ _ _))))
          refine wpQuiet_nil ?_
          intro w2 hw'regrown
          replace hB := ext_trans hB (below_of_regrown hw'regrown (Nat.le_refl _))
          clear hw'regrown
          go_wp2
        · go_roundw
          case rel => exact ⟨k + 1, by omega, by go_num, hB, all_succ HG.out (sameB_true.1 g)⟩
          case measure => simp [intOf]; omega
        · go_ret
          exact ⟨ret_bool (fd_differ hlt hlt' (sameB_false.1 g)), hB⟩
      · obtain rfl : k = us.length := by omega
        go_wp2
        go_ret
        exact ⟨ret_bool (fd_same HL.out HG.out), hB⟩
  · have hlen1 : ((us.length : Int) != vs.length) = true := by simp; omega
    have HL := Lib.hid hlen
    clear hlen
    go_enter Try.func55, Try.ntmps55
    go_wp2
    go_ret
    exact ⟨ret_bool (by rw [eq_comm, sameB_false]; rintro rfl; exact HL.out rfl), Below.refl _ _⟩

end Go.Proofs.Ytdpiaiblpafglaa

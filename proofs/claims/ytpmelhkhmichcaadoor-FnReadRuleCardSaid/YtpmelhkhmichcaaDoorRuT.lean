/- Rule: how a slice of them reads; conversions, comparison, marks. Printed by gentype.py. -/
import Derived.Test.YtpmelhkhmichcaaDoorRuV
namespace Go.Proofs.YtpmelhkhmichcaaDoor
set_option linter.unusedSimpArgs false
set_option linter.unusedVariables false
open Go.RowKit

def ruD : ByteArray × Int × Bool := (ByteArray.empty, 0, false)
def ru0 (l : List (ByteArray × Int × Bool)) (k : Nat) : ByteArray := (l.getD k ruD).1
def ru1 (l : List (ByteArray × Int × Bool)) (k : Nat) : Int := (l.getD k ruD).2.1
def ru2 (l : List (ByteArray × Int × Bool)) (k : Nat) : Bool := (l.getD k ruD).2.2
def ruEnc (u : ByteArray × Int × Bool) : List Value := [.string u.1, .int .i64 u.2.1, .bool u.2.2]
def ruR (w : World) (A : Option Addr) (l : List (ByteArray × Int × Bool)) : Prop := RdL (Flat ruEnc) 3 w A l
section
variable {w w' : World} {A : Option Addr} {l : List (ByteArray × Int × Bool)}
theorem ruR.below (h : ruR w A l) (hb : Below w.heap.size w w') : ruR w' A l := RdL.below (Flat.mono _) h hb
theorem ruR.regrown (h : ruR w A l) (d : Nat) (os : Array Obj) : ruR (Sort.grow (redrawn w d) os) A l := RdL.regrown (Flat.mono _) h d os
theorem ruR.len (h : ruR w A l) : l.length ≤ 9223372036854775807 := h.1
theorem ruR.cells (h : ruR w A l) (hn : 0 < l.length) : ∃ b off, A = some ⟨b, off, none⟩ ∧ ∀ k, k < l.length →
    w.cell? ⟨b, off + k * 3, none⟩ = some (.string (ru0 l k)) ∧ w.cell? ⟨b, off + k * 3 + 1, none⟩ = some (.int .i64 (ru1 l k)) ∧ w.cell? ⟨b, off + k * 3 + 2, none⟩ = some (.bool (ru2 l k)) := by
  obtain ⟨b, off, e, hc⟩ := h.2 hn
  refine ⟨b, off, e, fun k hk => ?_⟩
  obtain ⟨cs, _, rfl, hv⟩ := hc k hk
  have e : l.getD k ruD = l[k] := by simp [hk]
  simp only [ru0, ru1, ru2, e]
  exact ⟨hv 0 _ rfl, hv 1 _ rfl, hv 2 _ rfl⟩
theorem ruR.own {B n c : Nat} {e : TypeId} (hl : l.length = n) (hb : n ≤ 4194304) (h : w.ownsRow B e 3 (.slice A n c) n (l.flatMap ruEnc)) : ruR w A l :=
  RdL.of_own (fun _ => rfl) hl (by omega) h
theorem ruEnc_one (a : ByteArray × Int × Bool) : ∀ u ∈ ruEnc a, u.oneCell' = true := by intro u hu; simp [ruEnc] at hu; rcases hu with rfl | rfl | rfl <;> rfl
theorem ru_elem {k : Nat} (hk : k < l.length) : (ru0 l k, ru1 l k, ru2 l k) = l[k] := by
  have e : l.getD k ruD = l[k] := by simp [hk]
  simp only [ru0, ru1, ru2, e]
end
theorem ru_differ {us vs : List (ByteArray × Int × Bool)} {k : Nat} (hk : k < us.length) (hk' : k < vs.length) (h : ¬ (ru0 us k, ru1 us k, ru2 us k) = (ru0 vs k, ru1 vs k, ru2 vs k)) : false = sameB us vs := by
  rw [eq_comm, sameB_false]
  rintro rfl
  exact h rfl
theorem ru_same {us vs : List (ByteArray × Int × Bool)} (h : us.length = vs.length) (h2 : ∀ k, k < us.length → (ru0 us k, ru1 us k, ru2 us k) = (ru0 vs k, ru1 vs k, ru2 vs k)) : true = sameB us vs := by
  rw [eq_comm, sameB_true]
  apply List.ext_getElem h
  intro k h3 h4
  rw [← ru_elem h3, ← ru_elem h4]
  exact h2 k h3

theorem Tryd.infoRule : (Tryd.prog.info? 25).map (fun i => (i.zero, i.size, i.bytes)) = some (some (.agg #[.string ByteArray.empty, .int .i64 0, .bool false]), 3, 32) := by kernel_rfl

set_option maxHeartbeats 1000000 in
theorem toRuleS_any {A : Option Addr} {l : List (ByteArray × Int × Bool)} {c : Nat} {w : World} (hU : ruR w A l) (hn : l.length ≤ 2097152) :
    Calls Tryd.prog 24 #[.slice A l.length c] w fun e w' => e = .returned (.slice (some ⟨w.heap.size, 0, none⟩) l.length l.length) ∧
      w'.ownsRow w.heap.size 25 3 (.slice (some ⟨w.heap.size, 0, none⟩) l.length l.length) l.length (l.flatMap ruEnc) ∧ Below w.heap.size w w' := by
  obtain ⟨i0, hi, hz0, hz1, hz2⟩ := info_parts Tryd.infoRule
  obtain ⟨wm, hmk, hown, hgr⟩ := run_make_full (P := Tryd.prog) w w.heap.size 31 25 i0 _ 3 Tryd.underlying31 hi hz0 hz1 .i64 .i64 l.length (by rw [hz2]; omega) (by simp only [maxLen]; omega) (Nat.le_refl _)
  have hBm : Below w.heap.size w wm := ext_grown (Below.refl _ _) hgr (by simp)
  clear hgr hi hz0 hz1 hz2
  generalize (madeCells _ _).toList = xs0 at hown
  go_enter Tryd.func24, Tryd.ntmps24
  go_wp2
  clear hmk
  go_loopw [4] (fun i wr => ∃ k : Nat, k ≤ l.length ∧ i = .int .i64 k ∧ Below w.heap.size w wr ∧ ∃ xs, wr.ownsRow w.heap.size 25 3 (.slice (some ⟨w.heap.size, 0, none⟩) l.length l.length) l.length xs ∧ xs.take (k * 3) = (l.take k).flatMap ruEnc) (fun i _ => l.length - (intOf i).toNat)
  case atStart => exact ⟨0, Nat.zero_le _, rfl, hBm, xs0, hown, by simp⟩
  case round =>
    clear hown hBm
    obtain ⟨k, hk, rfl, hB, xs, hown, htake⟩ := hrel
    have HT := Lib.hid htake
    clear htake
    by_cases hlt : k < l.length
    · obtain ⟨b, off, rfl, hc⟩ := hU.cells (by omega)
      obtain ⟨c0, c1, c2⟩ := hc k hlt
      have m0 := below_cell hB c0
      have m1 := below_cell hB c1
      have m2 := below_cell hB c2
      clear c0 c1 c2 hc
      go_wp2_with (go_at_call 44; refine (toRule_any _ _ _ _).mono ?_; rintro e w1 ⟨rfl, hB1⟩; replace hB := ext_trans hB hB1; replace hown := own_below hown hB1; obtain ⟨v0, f0⟩ := own_cell hown (j := k * 3) (by omega); obtain ⟨v1, f1⟩ := own_cell hown (j := k * 3 + 1) (by omega); obtain ⟨v2, f2⟩ := own_cell hown (j := k * 3 + 2) (by omega); have z0 := hown.frozenAt (k * 3); have z1 := hown.frozenAt (k * 3 + 1); have z2 := hown.frozenAt (k * 3 + 2); clear hB1)
      go_roundw
      case rel =>
        obtain ⟨xs', h1, h2⟩ := own_elem [.string (ru0 l k), .int .i64 (ru1 l k), .bool (ru2 l k)] hown hlt rfl HT.out
        exact ⟨k + 1, by omega, by go_num, setCells_below (Nat.le_refl _) [.string (ru0 l k), .int .i64 (ru1 l k), .bool (ru2 l k)] (k * 3) hB, xs', h1, by rw [h2, take_succ_enc _ _ _ hlt]; simp [ruEnc, ru0, ru1, ru2, hlt]⟩
      case measure => simp [intOf]; omega
    · obtain rfl : k = l.length := by omega
      go_wp2
      go_ret
      refine ⟨rfl, ?_, hB⟩
      have e := HT.out
      rw [List.take_of_length_le (Nat.le_of_eq hown.1), List.take_length] at e
      rw [← e]; exact hown

set_option maxHeartbeats 1000000 in
theorem eqRuleS_any {A A' : Option Addr} {us vs : List (ByteArray × Int × Bool)} {c c' : Nat} {w : World} (hU : ruR w A us) (hV : ruR w A' vs) :
    Calls Tryd.prog 25 #[.slice A us.length c, .slice A' vs.length c'] w fun e w' => e = .returned (.bool (sameB us vs)) ∧ Below w.heap.size w w' := by
  have hl := hU.len
  have hl' := hV.len
  by_cases hlen : us.length = vs.length
  · have HL := Lib.hid hlen
    have hlen1 : ((us.length : Int) != vs.length) = false := by simp [hlen]
    clear hlen
    go_enter Tryd.func25, Tryd.ntmps25
    go_wp2
    go_loopw [5] (fun i wr => ∃ k : Nat, k ≤ us.length ∧ i = .int .i64 k ∧ Below w.heap.size w wr ∧ (∀ j, j < k → (ru0 us j, ru1 us j, ru2 us j) = (ru0 vs j, ru1 vs j, ru2 vs j))) (fun i _ => us.length - (intOf i).toNat)
    case atStart => exact ⟨0, Nat.zero_le _, rfl, Below.refl _ _, fun j h => by omega⟩
    case round =>
      obtain ⟨k, hk, rfl, hB, hgood⟩ := hrel
      have HG := Lib.hid hgood
      clear hgood
      by_cases hlt : k < us.length
      · have hlt' : k < vs.length := by rw [← HL.out]; exact hlt
        obtain ⟨b, off, rfl, hc⟩ := hU.cells (by omega)
        obtain ⟨b', off', rfl, hc'⟩ := hV.cells (by omega)
        obtain ⟨c0, c1, c2⟩ := hc k hlt
        obtain ⟨d0, d1, d2⟩ := hc' k hlt'
        have m0 := cell_regrown (below_cell hB c0)
        have m1 := cell_regrown (below_cell hB c1)
        have m2 := cell_regrown (below_cell hB c2)
        have n0 := cell_regrown (below_cell hB d0)
        have n1 := cell_regrown (below_cell hB d1)
        have n2 := cell_regrown (below_cell hB d2)
        clear c0 d0 c1 d1 c2 d2 hc hc'
        by_cases g : sameB (ru0 us k, ru1 us k, ru2 us k) (ru0 vs k, ru1 vs k, ru2 vs k) = true
        all_goals
          try simp only [Bool.not_eq_true] at g
          go_wp2
          refine wp_region_quiet_below (by kernel_rfl) (by kernel_rfl) ?_
          repeat (go_big_quiet_step ((go_at_call 45; exact Calls.regrown_of (eqRule_any _ _ _ _ _ _ _))))
          refine wpQuiet_nil ?_
          intro w2 hw'regrown
          replace hB := ext_trans hB (below_of_regrown hw'regrown (Nat.le_refl _))
          clear hw'regrown
          go_wp2
        · go_roundw
          case rel => exact ⟨k + 1, by omega, by go_num, hB, all_succ HG.out (sameB_true.1 g)⟩
          case measure => simp [intOf]; omega
        · go_ret
          exact ⟨ret_bool (ru_differ hlt hlt' (sameB_false.1 g)), hB⟩
      · obtain rfl : k = us.length := by omega
        go_wp2
        go_ret
        exact ⟨ret_bool (ru_same HL.out HG.out), hB⟩
  · have hlen1 : ((us.length : Int) != vs.length) = true := by simp; omega
    have HL := Lib.hid hlen
    clear hlen
    go_enter Tryd.func25, Tryd.ntmps25
    go_wp2
    go_ret
    exact ⟨ret_bool (by rw [eq_comm, sameB_false]; rintro rfl; exact HL.out rfl), Below.refl _ _⟩

end Go.Proofs.YtpmelhkhmichcaaDoor

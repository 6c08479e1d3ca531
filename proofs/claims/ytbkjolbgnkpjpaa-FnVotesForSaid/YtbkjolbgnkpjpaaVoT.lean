/- Vote: how a slice of them reads; conversions, comparison, marks. Printed by gentype.py. -/
import Derived.Test.YtbkjolbgnkpjpaaKit
namespace Go.Proofs.Ytbkjolbgnkpjpaa
open Go.RowKit

def voD : Int × Bool := (0, false)
def vo0 (l : List (Int × Bool)) (k : Nat) : Int := (l.getD k voD).1
def vo1 (l : List (Int × Bool)) (k : Nat) : Bool := (l.getD k voD).2
def voEnc (u : Int × Bool) : List Value := [.int .i64 u.1, .bool u.2]
def voR (w : World) (A : Option Addr) (l : List (Int × Bool)) : Prop := RdL (Flat voEnc) 2 w A l
section
variable {w w' : World} {A : Option Addr} {l : List (Int × Bool)}
theorem voR.below (h : voR w A l) (hb : Below w.heap.size w w') : voR w' A l := RdL.below (Flat.mono _) h hb
theorem voR.regrown (h : voR w A l) (d : Nat) (os : Array Obj) : voR (Sort.grow (redrawn w d) os) A l := RdL.regrown (Flat.mono _) h d os
theorem voR.len (h : voR w A l) : l.length ≤ 9223372036854775807 := h.1
theorem voR.cells (h : voR w A l) (hn : 0 < l.length) : ∃ b off, A = some ⟨b, off, none⟩ ∧ ∀ k, k < l.length →
    w.cell? ⟨b, off + k * 2, none⟩ = some (.int .i64 (vo0 l k)) ∧ w.cell? ⟨b, off + k * 2 + 1, none⟩ = some (.bool (vo1 l k)) := by
  obtain ⟨b, off, e, hc⟩ := h.2 hn
  refine ⟨b, off, e, fun k hk => ?_⟩
  obtain ⟨cs, _, rfl, hv⟩ := hc k hk
  have e : l.getD k voD = l[k] := by simp [hk]
  simp only [vo0, vo1, e]
  exact ⟨hv 0 _ rfl, hv 1 _ rfl⟩
theorem voR.own {B n c : Nat} {e : TypeId} (hl : l.length = n) (hb : n ≤ 4194304) (h : w.ownsRow B e 2 (.slice A n c) n (l.flatMap voEnc)) : voR w A l :=
  RdL.of_own (fun _ => rfl) hl (by omega) h
theorem voEnc_one (a : Int × Bool) : ∀ u ∈ voEnc a, u.oneCell' = true := by intro u hu; simp [voEnc] at hu; rcases hu with rfl | rfl <;> rfl
theorem vo_elem {k : Nat} (hk : k < l.length) : (vo0 l k, vo1 l k) = l[k] := by
  have e : l.getD k voD = l[k] := by simp [hk]
  simp only [vo0, vo1, e]
end
theorem vo_differ {us vs : List (Int × Bool)} {k : Nat} (hk : k < us.length) (hk' : k < vs.length) (h : ¬ (vo0 us k, vo1 us k) = (vo0 vs k, vo1 vs k)) : false = sameB us vs := by
  rw [eq_comm, sameB_false]
  rintro rfl
  exact h rfl
theorem vo_same {us vs : List (Int × Bool)} (h : us.length = vs.length) (h2 : ∀ k, k < us.length → (vo0 us k, vo1 us k) = (vo0 vs k, vo1 vs k)) : true = sameB us vs := by
  rw [eq_comm, sameB_true]
  apply List.ext_getElem h
  intro k h3 h4
  rw [← vo_elem h3, ← vo_elem h4]
  exact h2 k h3

set_option maxHeartbeats 400000 in
theorem szVoteS_any {A : Option Addr} {l : List (Int × Bool)} {c : Nat} {left : Int} {w : World} (hU : voR w A l) (hl : 0 ≤ left) (hl2 : left ≤ 1048576) :
    Calls Try.prog 28 #[.slice A l.length c, .int .i64 left] w fun e w' => e = .returned (.int .i64 (if left < l.length then -1 else left - l.length)) ∧ Below w.heap.size w w' := by
  have hlen := hU.len
  by_cases h1 : left < l.length
  · rw [if_pos h1]
    go_enter Try.func28, Try.ntmps28
    go_wp2
    go_ret
    exact ⟨rfl, Below.refl _ _⟩
  · rw [if_neg h1]
    go_enter Try.func28, Try.ntmps28
    go_wp2
    go_ret
    exact ⟨rfl, Below.refl _ _⟩

set_option maxHeartbeats 400000 in
theorem toVote_any (x0 : Int) (x1 : Bool) (w : World) :
    Calls Try.prog 47 #[.agg #[.int .i64 x0, .bool x1]] w fun e w' => e = .returned (.agg #[.int .i64 x0, .bool x1]) ∧ Below w.heap.size w w' := by
  go_enter Try.func47, Try.ntmps47
  go_wp2
  refine bodyPost_ret (v := .agg #[.int .i64 x0, .bool x1]) (by simp [results, go_sem]) rfl ⟨rfl, ?_⟩
  repeat (first | exact Below.refl _ _ | refine ext_alloc ?_ _)

set_option maxHeartbeats 400000 in
theorem eqVote_any (x0 : Int) (x1 : Bool) (x0' : Int) (x1' : Bool) (w : World) :
    Calls Try.prog 48 #[.agg #[.int .i64 x0, .bool x1], .agg #[.int .i64 x0', .bool x1']] w fun e w' => e = .returned (.bool (sameB (x0, x1) (x0', x1'))) ∧ Below w.heap.size w w' := by
  go_enter Try.func48, Try.ntmps48
  go_wp2
  all_goals
    go_ret
    exact ⟨ret_bool (by simp_all [sameB]), by repeat (first | exact Below.refl _ _ | refine ext_alloc ?_ _)⟩

theorem Try.infoVote : (Try.prog.info? 42).map (fun i => (i.zero, i.size, i.bytes)) = some (some (.agg #[.int .i64 0, .bool false]), 2, 16) := by kernel_rfl

set_option maxHeartbeats 1000000 in
theorem toVoteS_any {A : Option Addr} {l : List (Int × Bool)} {c : Nat} {w : World} (hU : voR w A l) (hn : l.length ≤ 2097152) :
    Calls Try.prog 29 #[.slice A l.length c] w fun e w' => e = .returned (.slice (some ⟨w.heap.size, 0, none⟩) l.length l.length) ∧
      w'.ownsRow w.heap.size 42 2 (.slice (some ⟨w.heap.size, 0, none⟩) l.length l.length) l.length (l.flatMap voEnc) ∧ Below w.heap.size w w' := by
  obtain ⟨i0, hi, hz0, hz1, hz2⟩ := info_parts Try.infoVote
  obtain ⟨wm, hmk, hown, hgr⟩ := run_make_full (P := Try.prog) w w.heap.size 35 42 i0 _ 2 Try.underlying35 hi hz0 hz1 .i64 .i64 l.length (by rw [hz2]; omega) (by simp only [maxLen]; omega) (Nat.le_refl _)
  have hBm : Below w.heap.size w wm := ext_grown (Below.refl _ _) hgr (by simp)
  clear hgr hi hz0 hz1 hz2
  generalize (madeCells _ _).toList = xs0 at hown
  go_enter Try.func29, Try.ntmps29
  go_wp2
  clear hmk
  go_loopw [4] (fun i wr => ∃ k : Nat, k ≤ l.length ∧ i = .int .i64 k ∧ Below w.heap.size w wr ∧ ∃ xs, wr.ownsRow w.heap.size 42 2 (.slice (some ⟨w.heap.size, 0, none⟩) l.length l.length) l.length xs ∧ xs.take (k * 2) = (l.take k).flatMap voEnc) (fun i _ => l.length - (intOf i).toNat)
  case atStart => exact ⟨0, Nat.zero_le _, rfl, hBm, xs0, hown, by simp⟩
  case round =>
    clear hown hBm
    obtain ⟨k, hk, rfl, hB, xs, hown, htake⟩ := hrel
    have HT := Lib.hid htake
    clear htake
    by_cases hlt : k < l.length
    · obtain ⟨b, off, rfl, hc⟩ := hU.cells (by omega)
      obtain ⟨c0, c1⟩ := hc k hlt
      have m0 := below_cell hB c0
      have m1 := below_cell hB c1
      clear c0 c1 hc
      go_wp2_with (go_at_call 47; refine (toVote_any _ _ _).mono ?_; rintro e w1 ⟨rfl, hB1⟩; replace hB := ext_trans hB hB1; replace hown := own_below hown hB1; obtain ⟨v0, f0⟩ := own_cell hown (j := k * 2) (by omega); obtain ⟨v1, f1⟩ := own_cell hown (j := k * 2 + 1) (by omega); have z0 := hown.frozenAt (k * 2); have z1 := hown.frozenAt (k * 2 + 1); clear hB1)
      go_roundw
      case rel =>
        obtain ⟨xs', h1, h2⟩ := own_elem [.int .i64 (vo0 l k), .bool (vo1 l k)] hown hlt rfl HT.out
        exact ⟨k + 1, by omega, by go_num, setCells_below (Nat.le_refl _) [.int .i64 (vo0 l k), .bool (vo1 l k)] (k * 2) hB, xs', h1, by rw [h2, take_succ_enc _ _ _ hlt]; simp [voEnc, vo0, vo1, hlt]⟩
      case measure => simp [intOf]; omega
    · obtain rfl : k = l.length := by omega
      go_wp2
      go_ret
      refine ⟨rfl, ?_, hB⟩
      have e := HT.out
      rw [List.take_of_length_le (Nat.le_of_eq hown.1), List.take_length] at e
      rw [← e]; exact hown

set_option maxHeartbeats 1000000 in
theorem eqVoteS_any {A A' : Option Addr} {us vs : List (Int × Bool)} {c c' : Nat} {w : World} (hU : voR w A us) (hV : voR w A' vs) :
    Calls Try.prog 30 #[.slice A us.length c, .slice A' vs.length c'] w fun e w' => e = .returned (.bool (sameB us vs)) ∧ Below w.heap.size w w' := by
  have hl := hU.len
  have hl' := hV.len
  by_cases hlen : us.length = vs.length
  · have HL := Lib.hid hlen
    have hlen1 : ((us.length : Int) != vs.length) = false := by simp [hlen]
    clear hlen
    go_enter Try.func30, Try.ntmps30
    go_wp2
    go_loopw [5] (fun i wr => ∃ k : Nat, k ≤ us.length ∧ i = .int .i64 k ∧ Below w.heap.size w wr ∧ (∀ j, j < k → (vo0 us j, vo1 us j) = (vo0 vs j, vo1 vs j))) (fun i _ => us.length - (intOf i).toNat)
    case atStart => exact ⟨0, Nat.zero_le _, rfl, Below.refl _ _, fun j h => by omega⟩
    case round =>
      obtain ⟨k, hk, rfl, hB, hgood⟩ := hrel
      have HG := Lib.hid hgood
      clear hgood
      by_cases hlt : k < us.length
      · have hlt' : k < vs.length := by rw [← HL.out]; exact hlt
        obtain ⟨b, off, rfl, hc⟩ := hU.cells (by omega)
        obtain ⟨b', off', rfl, hc'⟩ := hV.cells (by omega)
        obtain ⟨c0, c1⟩ := hc k hlt
        obtain ⟨d0, d1⟩ := hc' k hlt'
        have m0 := cell_regrown (below_cell hB c0)
        have m1 := cell_regrown (below_cell hB c1)
        have n0 := cell_regrown (below_cell hB d0)
        have n1 := cell_regrown (below_cell hB d1)
        clear c0 d0 c1 d1 hc hc'
        by_cases g : sameB (vo0 us k, vo1 us k) (vo0 vs k, vo1 vs k) = true
        all_goals
          try simp only [Bool.not_eq_true] at g
          go_wp2
          refine wp_region_quiet_below (by kernel_rfl) (by kernel_rfl) ?_
          repeat (go_big_quiet_step ((go_at_call 48; exact Calls.regrown_of (eqVote_any _ _ _ _ _))))
          refine wpQuiet_nil ?_
          intro w2 hw'regrown
          replace hB := ext_trans hB (below_of_regrown hw'regrown (Nat.le_refl _))
          clear hw'regrown
          go_wp2
        · go_roundw
          case rel => exact ⟨k + 1, by omega, by go_num, hB, all_succ HG.out (sameB_true.1 g)⟩
          case measure => simp [intOf]; omega
        · go_ret
          exact ⟨ret_bool (vo_differ hlt hlt' (sameB_false.1 g)), hB⟩
      · obtain rfl : k = us.length := by omega
        go_wp2
        go_ret
        exact ⟨ret_bool (vo_same HL.out HG.out), hB⟩
  · have hlen1 : ((us.length : Int) != vs.length) = true := by simp; omega
    have HL := Lib.hid hlen
    clear hlen
    go_enter Try.func30, Try.ntmps30
    go_wp2
    go_ret
    exact ⟨ret_bool (by rw [eq_comm, sameB_false]; rintro rfl; exact HL.out rfl), Below.refl _ _⟩

def voMark (k : Int) (n : Nat) : List (Int × Bool) := (List.range n).map fun (i : Nat) => (k + 2 * (i : Int), decide ((k + 2 * (i : Int) + 1) % 3 = 0))
theorem voMark_length (k : Int) (n : Nat) : (voMark k n).length = n := by simp [voMark]
theorem voMark_at (k : Int) (n j : Nat) (h : j < n) : vo0 (voMark k n) j = k + 2 * j ∧ vo1 (voMark k n) j = decide ((k + 2 * j + 1) % 3 = 0) := by
  simp [vo0, vo1, voMark, h]
theorem voMark_succ (k : Int) (j : Nat) : (voMark k (j + 1)).flatMap voEnc = (voMark k j).flatMap voEnc ++ [.int .i64 (k + 2 * j), .bool (decide ((k + 2 * j + 1) % 3 = 0))] := by
  simp [voMark, List.range_succ, voEnc]

set_option maxHeartbeats 1000000 in
theorem markVoteS_any {A : Option Addr} {l : List (Int × Bool)} {B c : Nat} {k0 : Int} {w : World} (ho : w.ownsRow B 42 2 (.slice A l.length c) l.length (l.flatMap voEnc)) (hn : l.length ≤ 4194304) (hk0 : 0 ≤ k0) (hk1 : k0 ≤ 100000000) :
    Calls Try.prog 33 #[.slice A l.length c, .int .i64 k0] w fun e w' => e = .returned (.int .i64 (k0 + 2 * l.length)) ∧
      w'.ownsRow B 42 2 (.slice A l.length c) l.length ((voMark k0 l.length).flatMap voEnc) ∧ w.grownBy w' (Value.slice A l.length c).ownBlock := by
  go_enter Try.func33, Try.ntmps33
  go_wp2
  go_loopw [1, 5] (fun kk i wr => ∃ j : Nat, j ≤ l.length ∧ i = .int .i64 j ∧ kk = .int .i64 (k0 + 2 * j) ∧ w.grownBy wr (Value.slice A l.length c).ownBlock ∧ ∃ xs, wr.ownsRow B 42 2 (.slice A l.length c) l.length xs ∧ xs.take (j * 2) = (voMark k0 j).flatMap voEnc) (fun _ i _ => l.length - (intOf i).toNat)
  case atStart => exact ⟨0, Nat.zero_le _, rfl, by simp, World.grownBy.refl _ _, _, ho, by simp [voMark]⟩
  case round =>
    clear ho
    obtain ⟨j, hj, rfl, rfl, hG, xs, hown, htake⟩ := hrel
    have HT := Lib.hid htake
    clear htake
    by_cases hlt : j < l.length
    · obtain ⟨g, cap, hv, hBg, hglt⟩ := hown.form (by omega)
      simp only [Value.slice.injEq, true_and] at hv
      obtain ⟨rfl, rfl⟩ := hv
      obtain ⟨v0, f0⟩ := own_cell hown (j := j * 2) (by omega)
      obtain ⟨v1, f1⟩ := own_cell hown (j := j * 2 + 1) (by omega)
      have z0 := hown.frozenAt (j * 2)
      have z1 := hown.frozenAt (j * 2 + 1)
      go_wp2
      go_roundw
      case rel =>
        obtain ⟨xs', h1, h2⟩ := own_elem [.int .i64 (k0 + 2 * j), .bool (decide ((k0 + 2 * j + 1) % 3 = 0))] hown hlt rfl HT.out
        exact ⟨j + 1, by omega, by go_num, by congr 1; omega, grown_trans_ hG (setCells_grown _ [.int .i64 (k0 + 2 * j), .bool (decide ((k0 + 2 * j + 1) % 3 = 0))] _ (j * 2)), xs', h1, by rw [h2, voMark_succ]⟩
      case measure => simp [intOf]; omega
    · obtain rfl : j = l.length := by omega
      go_wp2
      go_ret
      refine ⟨rfl, ?_, hG⟩
      have e := HT.out
      rw [List.take_of_length_le (Nat.le_of_eq hown.1)] at e
      rw [← e]; exact hown

end Go.Proofs.Ytbkjolbgnkpjpaa

/- Visit: how a slice of them reads; conversions, comparison, marks. Printed by gentype.py. -/
import Derived.Test.YtflhmkpabhedjaaKit
namespace Go.Proofs.Ytflhmkpabhedjaa
open Go.RowKit

def viD : Int × Int × Int := (0, 0, 0)
def vi0 (l : List (Int × Int × Int)) (k : Nat) : Int := (l.getD k viD).1
def vi1 (l : List (Int × Int × Int)) (k : Nat) : Int := (l.getD k viD).2.1
def vi2 (l : List (Int × Int × Int)) (k : Nat) : Int := (l.getD k viD).2.2
def viEnc (u : Int × Int × Int) : List Value := [.int .i64 u.1, .int .i64 u.2.1, .int .i64 u.2.2]
def viR (w : World) (A : Option Addr) (l : List (Int × Int × Int)) : Prop := RdL (Flat viEnc) 3 w A l
section
variable {w w' : World} {A : Option Addr} {l : List (Int × Int × Int)}
theorem viR.below (h : viR w A l) (hb : Below w.heap.size w w') : viR w' A l := RdL.below (Flat.mono _) h hb
theorem viR.regrown (h : viR w A l) (d : Nat) (os : Array Obj) : viR (Sort.grow (redrawn w d) os) A l := RdL.regrown (Flat.mono _) h d os
theorem viR.len (h : viR w A l) : l.length ≤ 9223372036854775807 := h.1
theorem viR.cells (h : viR w A l) (hn : 0 < l.length) : ∃ b off, A = some ⟨b, off, none⟩ ∧ ∀ k, k < l.length →
    w.cell? ⟨b, off + k * 3, none⟩ = some (.int .i64 (vi0 l k)) ∧ w.cell? ⟨b, off + k * 3 + 1, none⟩ = some (.int .i64 (vi1 l k)) ∧ w.cell? ⟨b, off + k * 3 + 2, none⟩ = some (.int .i64 (vi2 l k)) := by
  obtain ⟨b, off, e, hc⟩ := h.2 hn
  refine ⟨b, off, e, fun k hk => ?_⟩
  obtain ⟨cs, _, rfl, hv⟩ := hc k hk
  have e : l.getD k viD = l[k] := by simp [hk]
  simp only [vi0, vi1, vi2, e]
  exact ⟨hv 0 _ rfl, hv 1 _ rfl, hv 2 _ rfl⟩
theorem viR.own {B n c : Nat} {e : TypeId} (hl : l.length = n) (hb : n ≤ 4194304) (h : w.ownsRow B e 3 (.slice A n c) n (l.flatMap viEnc)) : viR w A l :=
  RdL.of_own (fun _ => rfl) hl (by omega) h
theorem viEnc_one (a : Int × Int × Int) : ∀ u ∈ viEnc a, u.oneCell' = true := by intro u hu; simp [viEnc] at hu; rcases hu with rfl | rfl | rfl <;> rfl
theorem vi_elem {k : Nat} (hk : k < l.length) : (vi0 l k, vi1 l k, vi2 l k) = l[k] := by
  have e : l.getD k viD = l[k] := by simp [hk]
  simp only [vi0, vi1, vi2, e]
end
theorem vi_differ {us vs : List (Int × Int × Int)} {k : Nat} (hk : k < us.length) (hk' : k < vs.length) (h : ¬ (vi0 us k, vi1 us k, vi2 us k) = (vi0 vs k, vi1 vs k, vi2 vs k)) : false = sameB us vs := by
  rw [eq_comm, sameB_false]
  rintro rfl
  exact h rfl
theorem vi_same {us vs : List (Int × Int × Int)} (h : us.length = vs.length) (h2 : ∀ k, k < us.length → (vi0 us k, vi1 us k, vi2 us k) = (vi0 vs k, vi1 vs k, vi2 vs k)) : true = sameB us vs := by
  rw [eq_comm, sameB_true]
  apply List.ext_getElem h
  intro k h3 h4
  rw [← vi_elem h3, ← vi_elem h4]
  exact h2 k h3

set_option maxHeartbeats 400000 in
theorem szVisitS_any {A : Option Addr} {l : List (Int × Int × Int)} {c : Nat} {left : Int} {w : World} (hU : viR w A l) (hl : 0 ≤ left) (hl2 : left ≤ 1048576) :
    Calls Try.prog 11 #[.slice A l.length c, .int .i64 left] w fun e w' => e = .returned (.int .i64 (if left < l.length then -1 else left - l.length)) ∧ Below w.heap.size w w' := by
  have hlen := hU.len
  by_cases h1 : left < l.length
  · rw [if_pos h1]
    go_enter Try.func11, Try.ntmps11
    go_wp2
    go_ret
    exact ⟨rfl, Below.refl _ _⟩
  · rw [if_neg h1]
    go_enter Try.func11, Try.ntmps11
    go_wp2
    go_ret
    exact ⟨rfl, Below.refl _ _⟩

set_option maxHeartbeats 400000 in
theorem toVisit_any (x0 : Int) (x1 : Int) (x2 : Int) (w : World) :
    Calls Try.prog 32 #[.agg #[.int .i64 x0, .int .i64 x1, .int .i64 x2]] w fun e w' => e = .returned (.agg #[.int .i64 x0, .int .i64 x1, .int .i64 x2]) ∧ Below w.heap.size w w' := by
  go_enter Try.func32, Try.ntmps32
  go_wp2
  refine bodyPost_ret (v := .agg #[.int .i64 x0, .int .i64 x1, .int .i64 x2]) (by simp [results, go_sem]) rfl ⟨rfl, ?_⟩
  repeat (first | exact Below.refl _ _ | refine ext_alloc ?_ _)

set_option maxHeartbeats 400000 in
theorem eqVisit_any (x0 : Int) (x1 : Int) (x2 : Int) (x0' : Int) (x1' : Int) (x2' : Int) (w : World) :
    Calls Try.prog 36 #[.agg #[.int .i64 x0, .int .i64 x1, .int .i64 x2], .agg #[.int .i64 x0', .int .i64 x1', .int .i64 x2']] w fun e w' => e = .returned (.bool (sameB (x0, x1, x2) (x0', x1', x2'))) ∧ Below w.heap.size w w' := by
  go_enter Try.func36, Try.ntmps36
  go_wp2
  all_goals
    go_ret
    exact ⟨ret_bool (by simp_all [sameB]), by repeat (first | exact Below.refl _ _ | refine ext_alloc ?_ _)⟩

theorem Try.infoVisit : (Try.prog.info? 38).map (fun i => (i.zero, i.size, i.bytes)) = some (some (.agg #[.int .i64 0, .int .i64 0, .int .i64 0]), 3, 24) := by kernel_rfl

set_option maxHeartbeats 1000000 in
theorem toVisitS_any {A : Option Addr} {l : List (Int × Int × Int)} {c : Nat} {w : World} (hU : viR w A l) (hn : l.length ≤ 2097152) :
    Calls Try.prog 14 #[.slice A l.length c] w fun e w' => e = .returned (.slice (some ⟨w.heap.size, 0, none⟩) l.length l.length) ∧
      w'.ownsRow w.heap.size 38 3 (.slice (some ⟨w.heap.size, 0, none⟩) l.length l.length) l.length (l.flatMap viEnc) ∧ Below w.heap.size w w' := by
  obtain ⟨i0, hi, hz0, hz1, hz2⟩ := info_parts Try.infoVisit
  obtain ⟨wm, hmk, hown, hgr⟩ := run_make_full (P := Try.prog) w w.heap.size 29 38 i0 _ 3 Try.underlying29 hi hz0 hz1 .i64 .i64 l.length (by rw [hz2]; omega) (by simp only [maxLen]; omega) (Nat.le_refl _)
  have hBm : Below w.heap.size w wm := ext_grown (Below.refl _ _) hgr (by simp)
  clear hgr hi hz0 hz1 hz2
  generalize (madeCells _ _).toList = xs0 at hown
  go_enter Try.func14, Try.ntmps14
  go_wp2
  clear hmk
  go_loopw [4] (fun i wr => ∃ k : Nat, k ≤ l.length ∧ i = .int .i64 k ∧ Below w.heap.size w wr ∧ ∃ xs, wr.ownsRow w.heap.size 38 3 (.slice (some ⟨w.heap.size, 0, none⟩) l.length l.length) l.length xs ∧ xs.take (k * 3) = (l.take k).flatMap viEnc) (fun i _ => l.length - (intOf i).toNat)
  case atStart => exact ⟨0, Nat.zero_le _, rfl, hBm, xs0, hown, by simp⟩
  case round =>
    clear hown hBm
    obtain ⟨k, hk, rfl, hB, xs, hown, htake⟩ := hrel
    have HT := Lib.hid htake
    clear htake
    by_cases hlt : k < l.length
    · obtain ⟨b, off, rfl, hc⟩ := hU.cells (by omega)
      obtain ⟨c0, c1, c2⟩ := hc k hlt
      have m0 := below_cell hB c0
      have m1 := below_cell hB c1
      have m2 := below_cell hB c2
      clear c0 c1 c2 hc
      go_wp2_with (go_at_call 32; refine (toVisit_any _ _ _ _).mono ?_; rintro e w1 ⟨rfl, hB1⟩; replace hB := ext_trans hB hB1; replace hown := own_below hown hB1; obtain ⟨v0, f0⟩ := own_cell hown (j := k * 3) (by omega); obtain ⟨v1, f1⟩ := own_cell hown (j := k * 3 + 1) (by omega); obtain ⟨v2, f2⟩ := own_cell hown (j := k * 3 + 2) (by omega); have z0 := hown.frozenAt (k * 3); have z1 := hown.frozenAt (k * 3 + 1); have z2 := hown.frozenAt (k * 3 + 2); clear hB1)
      go_roundw
      case rel =>
        obtain ⟨xs', h1, h2⟩ := own_elem [.int .i64 (vi0 l k), .int .i64 (vi1 l k), .int .i64 (vi2 l k)] hown hlt rfl HT.out
        exact ⟨k + 1, by omega, by go_num, setCells_below (Nat.le_refl _) [.int .i64 (vi0 l k), .int .i64 (vi1 l k), .int .i64 (vi2 l k)] (k * 3) hB, xs', h1, by rw [h2, take_succ_enc _ _ _ hlt]; simp [viEnc, vi0, vi1, vi2, hlt]⟩
      case measure => simp [intOf]; omega
    · obtain rfl : k = l.length := by omega
      go_wp2
      go_ret
      refine ⟨rfl, ?_, hB⟩
      have e := HT.out
      rw [List.take_of_length_le (Nat.le_of_eq hown.1), List.take_length] at e
      rw [← e]; exact hown

set_option maxHeartbeats 1000000 in
theorem eqVisitS_any {A A' : Option Addr} {us vs : List (Int × Int × Int)} {c c' : Nat} {w : World} (hU : viR w A us) (hV : viR w A' vs) :
    Calls Try.prog 16 #[.slice A us.length c, .slice A' vs.length c'] w fun e w' => e = .returned (.bool (sameB us vs)) ∧ Below w.heap.size w w' := by
  have hl := hU.len
  have hl' := hV.len
  by_cases hlen : us.length = vs.length
  · have HL := Lib.hid hlen
    have hlen1 : ((us.length : Int) != vs.length) = false := by simp [hlen]
    clear hlen
    go_enter Try.func16, Try.ntmps16
    go_wp2
    go_loopw [5] (fun i wr => ∃ k : Nat, k ≤ us.length ∧ i = .int .i64 k ∧ Below w.heap.size w wr ∧ (∀ j, j < k → (vi0 us j, vi1 us j, vi2 us j) = (vi0 vs j, vi1 vs j, vi2 vs j))) (fun i _ => us.length - (intOf i).toNat)
    case atStart => exact ⟨0, Nat.zero_le _, rfl, Below.refl _ _, fun j h => by omega⟩
    case round =>
      obtain ⟨k, hk, rfl, hB, hgood⟩ := hrel
      have HG := Lib.hid hgood
      clear hgood
      by_cases hlt : k < us.length
      · have hlt' : k < vs.length := by rw [← HL.out]; exact hlt
        obtain ⟨b, off, rfl, hc⟩ := hU.cells (by omega)
        obtain ⟨b', off', rfl, hc'⟩ := hV.cells (by omega)
        obtain ⟨c0, c1, c2⟩ := hc k hlt
        obtain ⟨d0, d1, d2⟩ := hc' k hlt'
        have m0 := cell_regrown (below_cell hB c0)
        have m1 := cell_regrown (below_cell hB c1)
        have m2 := cell_regrown (below_cell hB c2)
        have n0 := cell_regrown (below_cell hB d0)
        have n1 := cell_regrown (below_cell hB d1)
        have n2 := cell_regrown (below_cell hB d2)
        clear c0 d0 c1 d1 c2 d2 hc hc'
        by_cases g : sameB (vi0 us k, vi1 us k, vi2 us k) (vi0 vs k, vi1 vs k, vi2 vs k) = true
        all_goals
          try simp only [Bool.not_eq_true] at g
          go_wp2
          refine wp_region_quiet_below (by kernel_rfl) (by kernel_rfl) ?_
          repeat (go_big_quiet_step ((go_at_call 36; exact Calls.regrown_of (eqVisit_any _ _ _ _ _ _ _))))
          refine wpQuiet_nil ?_
          intro w2 hw'regrown
          replace hB := ext_trans hB (below_of_regrown hw'regrown (Nat.le_refl _))
          clear hw'regrown
          go_wp2
        · go_roundw
          case rel => exact ⟨k + 1, by omega, by go_num, hB, all_succ HG.out (sameB_true.1 g)⟩
          case measure => simp [intOf]; omega
        · go_ret
          exact ⟨ret_bool (vi_differ hlt hlt' (sameB_false.1 g)), hB⟩
      · obtain rfl : k = us.length := by omega
        go_wp2
        go_ret
        exact ⟨ret_bool (vi_same HL.out HG.out), hB⟩
  · have hlen1 : ((us.length : Int) != vs.length) = true := by simp; omega
    have HL := Lib.hid hlen
    clear hlen
    go_enter Try.func16, Try.ntmps16
    go_wp2
    go_ret
    exact ⟨ret_bool (by rw [eq_comm, sameB_false]; rintro rfl; exact HL.out rfl), Below.refl _ _⟩

def viMark (k : Int) (n : Nat) : List (Int × Int × Int) := (List.range n).map fun (i : Nat) => (k + 3 * (i : Int), k + 3 * (i : Int) + 1, k + 3 * (i : Int) + 1 + 1)
theorem viMark_length (k : Int) (n : Nat) : (viMark k n).length = n := by simp [viMark]
theorem viMark_at (k : Int) (n j : Nat) (h : j < n) : vi0 (viMark k n) j = k + 3 * j ∧ vi1 (viMark k n) j = k + 3 * j + 1 ∧ vi2 (viMark k n) j = k + 3 * j + 1 + 1 := by
  simp [vi0, vi1, vi2, viMark, h]
theorem viMark_succ (k : Int) (j : Nat) : (viMark k (j + 1)).flatMap viEnc = (viMark k j).flatMap viEnc ++ [.int .i64 (k + 3 * j), .int .i64 (k + 3 * j + 1), .int .i64 (k + 3 * j + 1 + 1)] := by
  simp [viMark, List.range_succ, viEnc]

set_option maxHeartbeats 1000000 in
theorem markVisitS_any {A : Option Addr} {l : List (Int × Int × Int)} {B c : Nat} {k0 : Int} {w : World} (ho : w.ownsRow B 38 3 (.slice A l.length c) l.length (l.flatMap viEnc)) (hn : l.length ≤ 4194304) (hk0 : 0 ≤ k0) (hk1 : k0 ≤ 100000000) :
    Calls Try.prog 21 #[.slice A l.length c, .int .i64 k0] w fun e w' => e = .returned (.int .i64 (k0 + 3 * l.length)) ∧
      w'.ownsRow B 38 3 (.slice A l.length c) l.length ((viMark k0 l.length).flatMap viEnc) ∧ w.grownBy w' (Value.slice A l.length c).ownBlock := by
  go_enter Try.func21, Try.ntmps21
  go_wp2
  go_loopw [1, 5] (fun kk i wr => ∃ j : Nat, j ≤ l.length ∧ i = .int .i64 j ∧ kk = .int .i64 (k0 + 3 * j) ∧ w.grownBy wr (Value.slice A l.length c).ownBlock ∧ ∃ xs, wr.ownsRow B 38 3 (.slice A l.length c) l.length xs ∧ xs.take (j * 3) = (viMark k0 j).flatMap viEnc) (fun _ i _ => l.length - (intOf i).toNat)
  case atStart => exact ⟨0, Nat.zero_le _, rfl, by simp, World.grownBy.refl _ _, _, ho, by simp [viMark]⟩
  case round =>
    clear ho
    obtain ⟨j, hj, rfl, rfl, hG, xs, hown, htake⟩ := hrel
    have HT := Lib.hid htake
    clear htake
    by_cases hlt : j < l.length
    · obtain ⟨g, cap, hv, hBg, hglt⟩ := hown.form (by omega)
      simp only [Value.slice.injEq, true_and] at hv
      obtain ⟨rfl, rfl⟩ := hv
      obtain ⟨v0, f0⟩ := own_cell hown (j := j * 3) (by omega)
      obtain ⟨v1, f1⟩ := own_cell hown (j := j * 3 + 1) (by omega)
      obtain ⟨v2, f2⟩ := own_cell hown (j := j * 3 + 2) (by omega)
      have z0 := hown.frozenAt (j * 3)
      have z1 := hown.frozenAt (j * 3 + 1)
      have z2 := hown.frozenAt (j * 3 + 2)
      go_wp2
      go_roundw
      case rel =>
        obtain ⟨xs', h1, h2⟩ := own_elem [.int .i64 (k0 + 3 * j), .int .i64 (k0 + 3 * j + 1), .int .i64 (k0 + 3 * j + 1 + 1)] hown hlt rfl HT.out
        exact ⟨j + 1, by omega, by go_num, by congr 1; omega, grown_trans_ hG (setCells_grown _ [.int .i64 (k0 + 3 * j), .int .i64 (k0 + 3 * j + 1), .int .i64 (k0 + 3 * j + 1 + 1)] _ (j * 3)), xs', h1, by rw [h2, viMark_succ]⟩
      case measure => simp [intOf]; omega
    · obtain rfl : j = l.length := by omega
      go_wp2
      go_ret
      refine ⟨rfl, ?_, hG⟩
      have e := HT.out
      rw [List.take_of_length_le (Nat.le_of_eq hown.1)] at e
      rw [← e]; exact hown

set_option maxHeartbeats 1000000 in
theorem heldVisitS_any {A : Option Addr} {l : List (Int × Int × Int)} {c : Nat} {k0 : Int} {w : World} (hU : viR w A l) (hm : l = viMark k0 l.length) (hn : l.length ≤ 4194304) (hk0 : 0 ≤ k0) (hk1 : k0 ≤ 100000000) :
    Calls Try.prog 22 #[.slice A l.length c, .int .i64 k0] w fun e w' => e = .returned (.int .i64 (k0 + 3 * l.length)) ∧ Below w.heap.size w w' := by
  have HM := Lib.hid hm
  clear hm
  go_enter Try.func22, Try.ntmps22
  go_wp2
  go_loopw [1, 5] (fun kk i wr => ∃ j : Nat, j ≤ l.length ∧ i = .int .i64 j ∧ kk = .int .i64 (k0 + 3 * j) ∧ Below w.heap.size w wr) (fun _ i _ => l.length - (intOf i).toNat)
  case atStart => exact ⟨0, Nat.zero_le _, rfl, by simp, Below.refl _ _⟩
  case round =>
    obtain ⟨j, hj, rfl, rfl, hB⟩ := hrel
    by_cases hlt : j < l.length
    · obtain ⟨b, off, rfl, hc⟩ := hU.cells (by omega)
      have e := viMark_at k0 l.length j hlt
      rw [← HM.out] at e
      obtain ⟨c0, c1, c2⟩ := hc j hlt
      obtain ⟨e0, e1, e2⟩ := e
      rw [e0] at c0
      rw [e1] at c1
      rw [e2] at c2
      have m0 := below_cell hB c0
      have m1 := below_cell hB c1
      have m2 := below_cell hB c2
      clear c0 e0 c1 e1 c2 e2 hc
      go_wp2
      go_roundw
      case rel => exact ⟨j + 1, by omega, by go_num, by congr 1; omega, hB⟩
      case measure => simp [intOf]; omega
    · obtain rfl : j = l.length := by omega
      go_wp2
      go_ret
      exact ⟨rfl, hB⟩
theorem heldVisitS_m {A : Option Addr} {n c : Nat} {k0 : Int} {w : World} (hU : viR w A (viMark k0 n)) (hn : n ≤ 4194304) (hk0 : 0 ≤ k0) (hk1 : k0 ≤ 100000000) :
    Calls Try.prog 22 #[.slice A n c, .int .i64 k0] w fun e w' => e = .returned (.int .i64 (k0 + 3 * n)) ∧ Below w.heap.size w w' := by
  have := heldVisitS_any (c := c) hU (by rw [viMark_length]) (by rw [viMark_length]; exact hn) hk0 hk1
  rwa [viMark_length] at this

end Go.Proofs.Ytflhmkpabhedjaa

/- Fields of a record: marks, and what is held of them. -/
import Derived.Test.YtdpiaiblpafglaaMkF
import Derived.Test.YtdpiaiblpafglaaRcI
import Derived.Test.YtdpiaiblpafglaaDrk
namespace Go.Proofs.Ytdpiaiblpafglaa
set_option linter.unusedSimpArgs false
set_option linter.unusedVariables false
open Go.RowKit

def fdMk (k : Int) (n : Nat) : FdL := (List.range n).map fun (i : Nat) => (mkT (k + 3 * (i : Int)), k + 3 * (i : Int) + 1, k + 3 * (i : Int) + 1 + 1)
theorem fdMk_len (k : Int) (n : Nat) : (fdMk k n).length = n := by simp [fdMk]
theorem fdMk_succ (k : Int) (j : Nat) : (fdMk k (j + 1)).flatMap fdEnc = (fdMk k j).flatMap fdEnc ++ [.string (mkT (k + 3 * j)), .int .i64 (k + 3 * j + 1), .int .i64 (k + 3 * j + 1 + 1)] := by
  simp [fdMk, List.range_succ, fdEnc]
theorem fdMk_at (k : Int) {n j : Nat} (h : j < n) : fd0 (fdMk k n) j = mkT (k + 3 * j) ∧ fd1 (fdMk k n) j = k + 3 * j + 1 ∧ fd2 (fdMk k n) j = k + 3 * j + 1 + 1 := by
  have e : (fdMk k n).getD j fdD = (mkT (k + 3 * (j : Int)), k + 3 * (j : Int) + 1, k + 3 * (j : Int) + 1 + 1) := by
    rw [fdMk, List.getD_eq_getElem?_getD, List.getElem?_map, List.getElem?_range h]; rfl
  simp only [fd0, fd1, fd2, e, and_self]
set_option maxRecDepth 100000 in
set_option maxHeartbeats 4000000 in
theorem markFieldS_any {A : Option Addr} {l : FdL} {B c : Nat} {k0 : Int} {w : World} (ho : w.ownsRow B 85 3 (.slice A l.length c) l.length (l.flatMap fdEnc)) (hn : l.length ≤ 4194304) (hk0 : 0 ≤ k0) (hk1 : k0 ≤ 100000000000000) :
    Calls Try.prog 56 #[.slice A l.length c, .int .i64 k0] w fun e w' => e = .returned (.int .i64 (k0 + 3 * l.length)) ∧
      w'.ownsRow B 85 3 (.slice A l.length c) l.length ((fdMk k0 l.length).flatMap fdEnc) ∧ w.grownBy w' (Value.slice A l.length c).ownBlock := by
  go_enter Try.func56, Try.ntmps56
  go_wp2
  go_loopw [1, 5] (fun kk i wr => ∃ j : Nat, j ≤ l.length ∧ i = .int .i64 j ∧ kk = .int .i64 (k0 + 3 * j) ∧ w.grownBy wr (Value.slice A l.length c).ownBlock ∧ ∃ xs, wr.ownsRow B 85 3 (.slice A l.length c) l.length xs ∧ xs.take (j * 3) = (fdMk k0 j).flatMap fdEnc) (fun _ i _ => l.length - (intOf i).toNat)
  case atStart => exact ⟨0, Nat.zero_le _, rfl, by simp, World.grownBy.refl _ _, _, ho, by simp [fdMk]⟩
  case round =>
    clear ho
    obtain ⟨j, hj, rfl, rfl, hG, xs, hown, htake⟩ := hrel
    have HT := Lib.hid htake
    clear htake
    by_cases hlt : j < l.length
    · obtain ⟨g, cap, hv, hBg, hglt⟩ := hown.form (by omega)
      simp only [Value.slice.injEq, true_and] at hv
      obtain ⟨rfl, rfl⟩ := hv
      go_wp2_with fail
      refine (markText_any _ (by omega)).mono ?_
      rintro e w1 ⟨rfl, hb⟩
      replace hG := grown_trans_ hG (grown_of_below hb (some g))
      replace hown := own_below hown hb
      replace hglt := Nat.lt_of_lt_of_le hglt hb.size
      clear hb
      obtain ⟨v0, f0⟩ := own_cell hown (j := j * 3) (by omega)
      obtain ⟨v1, f1⟩ := own_cell hown (j := j * 3 + 1) (by omega)
      obtain ⟨v2, f2⟩ := own_cell hown (j := j * 3 + 2) (by omega)
      have z0 := hown.frozenAt (j * 3)
      have z1 := hown.frozenAt (j * 3 + 1)
      have z2 := hown.frozenAt (j * 3 + 2)
      go_wp2
      go_roundw
      case rel =>
        obtain ⟨xs', h1, h2⟩ := own_elem [.string (mkT (k0 + 3 * j)), .int .i64 (k0 + 3 * j + 1), .int .i64 (k0 + 3 * j + 1 + 1)] hown hlt rfl HT.out
        exact ⟨j + 1, by omega, by go_num, by congr 1; omega, grown_trans_ hG (setCells_grown _ [.string (mkT (k0 + 3 * j)), .int .i64 (k0 + 3 * j + 1), .int .i64 (k0 + 3 * j + 1 + 1)] _ (j * 3)), xs', h1, by rw [h2, fdMk_succ]⟩
      case measure => simp [intOf]; omega
    · obtain rfl : j = l.length := by omega
      go_wp2
      go_ret
      refine ⟨rfl, ?_, hG⟩
      have e := HT.out
      rw [List.take_of_length_le (Nat.le_of_eq hown.1)] at e
      rw [← e]; exact hown
set_option maxRecDepth 100000 in
set_option maxHeartbeats 4000000 in
theorem heldFieldS_any {A : Option Addr} {n c : Nat} {k0 : Int} {w : World} (hU : fdR w A (fdMk k0 n)) (hn : n ≤ 4194304) (hk0 : 0 ≤ k0) (hk1 : k0 ≤ 100000000000000) :
    Calls Try.prog 57 #[.slice A n c, .int .i64 k0] w fun e w' => e = .returned (.int .i64 (k0 + 3 * n)) ∧ Below w.heap.size w w' := by
  go_enter Try.func57, Try.ntmps57
  go_wp2
  go_loopw [1, 5] (fun kk i wr => ∃ j : Nat, j ≤ n ∧ i = .int .i64 j ∧ kk = .int .i64 (k0 + 3 * j) ∧ Below w.heap.size w wr) (fun _ i _ => n - (intOf i).toNat)
  case atStart => exact ⟨0, Nat.zero_le _, rfl, by simp, Below.refl _ _⟩
  case round =>
    obtain ⟨j, hj, rfl, rfl, hB⟩ := hrel
    by_cases hlt : j < n
    · obtain ⟨b, off, rfl, hc⟩ := hU.cells (by rw [fdMk_len]; omega)
      obtain ⟨c0, c1, c2⟩ := hc j (by rw [fdMk_len]; exact hlt)
      obtain ⟨e0, e1, e2⟩ := fdMk_at k0 hlt
      rw [e0] at c0
      rw [e1] at c1
      rw [e2] at c2
      clear e0 e1 e2 hc
      replace c0 := below_cell hB c0
      replace c1 := below_cell hB c1
      replace c2 := below_cell hB c2
      have q0 := cell_regrown c0
      have HB := Lib.hid hB
      have H1 := Lib.hid c1
      have H2 := Lib.hid c2
      clear c0 c1 c2 hB
      have HE := Lib.hid (fun (w : World) => markText_any (k := k0 + 3 * j) w (by omega))
      go_wp2
      refine wp_region_quiet_below (by kernel_rfl) (by kernel_rfl) ?_
      repeat (go_big_quiet_step ((go_at_call 63; (with_reducible exact Calls.regrown_of (HE.out _)))))
      refine wpQuiet_nil ?_
      intro w2 hw'regrown
      have hbr := below_of_regrown hw'regrown (Nat.le_refl _)
      have c1 := below_cell hbr H1.out
      have c2 := below_cell hbr H2.out
      replace hB := ext_trans HB.out hbr
      clear hw'regrown hbr q0 H1 H2 HB
      go_wp2
      go_roundw
      case rel => exact ⟨j + 1, by omega, by go_num, by congr 1; omega, hB⟩
      case measure => simp [intOf]; omega
    · obtain rfl : j = n := by omega
      go_wp2
      go_ret
      exact ⟨rfl, hB⟩
set_option maxRecDepth 100000 in
set_option maxHeartbeats 4000000 in
theorem markRequest_any {A : Option Addr} {l : FdL} {B c : Nat} {k0 who act what : Int} {w : World} (ho : w.ownsRow B 85 3 (.slice A l.length c) l.length (l.flatMap fdEnc)) (hn : l.length ≤ 4194304) (hk0 : 0 ≤ k0) (hk1 : k0 ≤ 100000000000000) :
    Calls Try.prog 36 #[.agg #[.int .i64 who, .int .i64 act, .int .i64 what, .slice A l.length c], .int .i64 k0] w fun e w' => e = .returned (.int .i64 (k0 + 3 * l.length)) ∧ ∃ wa, Below w.heap.size w wa ∧ wa.grownBy w' (Value.slice A l.length c).ownBlock := by
  go_enter Try.func36, Try.ntmps36
  go_wp2_with fail
  refine (markFieldS_any (own_below ho (by (repeat (first | exact Below.refl _ _ | refine ext_alloc ?_ _ | refine Below.setCell ?_ (by simp) _)))) hn hk0 hk1).mono ?_
  rintro e w1 ⟨rfl, _, hg⟩
  go_wp2
  go_ret
  exact ⟨rfl, _, by (repeat (first | exact Below.refl _ _ | refine ext_alloc ?_ _ | refine Below.setCell ?_ (by simp) _)), hg⟩
end Go.Proofs.Ytdpiaiblpafglaa

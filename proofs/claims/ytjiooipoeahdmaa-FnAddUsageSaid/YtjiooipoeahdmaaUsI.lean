/- uses: marked, and held against the marks -/
import Derived.Test.YtjiooipoeahdmaaUsD
namespace Go.Proofs.Ytjiooipoeahdmaa
open Go.RowKit

def markU (k : Int) (n : Nat) : List (Int × Int) := (List.range n).map fun (i : Nat) => (k + 2 * (i : Int), k + 2 * (i : Int) + 1)
theorem markU_length (k : Int) (n : Nat) : (markU k n).length = n := by simp [markU]
theorem markU_at (k : Int) (n j : Nat) (h : j < n) : uAt (markU k n) j = k + 2 * j ∧ uMuch (markU k n) j = k + 2 * j + 1 := by
  simp [uAt, uMuch, markU, h]
theorem markU_succ (k : Int) (j : Nat) : (markU k (j + 1)).flatMap usEnc = (markU k j).flatMap usEnc ++ [.int .i64 (k + 2 * j), .int .i64 (k + 2 * j + 1)] := by
  simp [markU, List.range_succ, usEnc]

set_option maxHeartbeats 1000000 in
theorem markUsageS_any {A : Option Addr} {us : List (Int × Int)} {B c : Nat} {k0 : Int} {w : World} (ho : w.ownsRow B 32 2 (.slice A us.length c) us.length (us.flatMap usEnc)) (hn : us.length ≤ 4194304) (hk0 : 0 ≤ k0) (hk1 : k0 ≤ 100000000) :
    Calls Try.prog 22 #[.slice A us.length c, .int .i64 k0] w fun e w' => e = .returned (.int .i64 (k0 + 2 * us.length)) ∧
      w'.ownsRow B 32 2 (.slice A us.length c) us.length ((markU k0 us.length).flatMap usEnc) ∧ w.grownBy w' (Value.slice A us.length c).ownBlock := by
  go_enter Try.func22, Try.ntmps22
  go_wp2
  go_loopw [1, 5] (fun kk i wr => ∃ j : Nat, j ≤ us.length ∧ i = .int .i64 j ∧ kk = .int .i64 (k0 + 2 * j) ∧ w.grownBy wr (Value.slice A us.length c).ownBlock ∧ ∃ xs, wr.ownsRow B 32 2 (.slice A us.length c) us.length xs ∧ xs.take (j * 2) = (markU k0 j).flatMap usEnc) (fun _ i _ => us.length - (intOf i).toNat)
  case atStart => exact ⟨0, Nat.zero_le _, rfl, by simp, World.grownBy.refl _ _, _, ho, by simp [markU]⟩
  case round =>
    clear ho
    obtain ⟨j, hj, rfl, rfl, hG, xs, hown, htake⟩ := hrel
    have HT := Lib.hid htake
    clear htake
    by_cases hlt : j < us.length
    · obtain ⟨g, cap, hv, hBg, hglt⟩ := hown.form (by omega)
      simp only [Value.slice.injEq, true_and] at hv
      obtain ⟨rfl, rfl⟩ := hv
      obtain ⟨v0, f0⟩ := own_cell hown (j := j * 2) (by omega)
      obtain ⟨v1, f1⟩ := own_cell hown (j := j * 2 + 1) (by omega)
      have z0 := hown.frozenAt (j * 2)
      have z1 := hown.frozenAt (j * 2 + 1)
      go_wp2
      go_roundw
      case rel =>
        obtain ⟨xs', h1, h2⟩ := own_elem [.int .i64 (k0 + 2 * j), .int .i64 (k0 + 2 * j + 1)] hown hlt rfl HT.out
        exact ⟨j + 1, by omega, by go_num, by congr 1; omega, grown_trans_ hG (setCells_grown _ [.int .i64 (k0 + 2 * j), .int .i64 (k0 + 2 * j + 1)] _ (j * 2)), xs', h1, by rw [h2, markU_succ]⟩
      case measure => simp [intOf]; omega
    · obtain rfl : j = us.length := by omega
      go_wp2
      go_ret
      refine ⟨rfl, ?_, hG⟩
      have e := HT.out
      rw [List.take_of_length_le (Nat.le_of_eq hown.1)] at e
      rw [← e]; exact hown

set_option maxHeartbeats 1000000 in
theorem heldUsageS_any {A : Option Addr} {us : List (Int × Int)} {c : Nat} {k0 : Int} {w : World} (hU : Us w A us) (hm : us = markU k0 us.length) (hn : us.length ≤ 4194304) (hk0 : 0 ≤ k0) (hk1 : k0 ≤ 100000000) :
    Calls Try.prog 23 #[.slice A us.length c, .int .i64 k0] w fun e w' => e = .returned (.int .i64 (k0 + 2 * us.length)) ∧ Below w.heap.size w w' := by
  have HM := Lib.hid hm
  clear hm
  go_enter Try.func23, Try.ntmps23
  go_wp2
  go_loopw [1, 5] (fun kk i wr => ∃ j : Nat, j ≤ us.length ∧ i = .int .i64 j ∧ kk = .int .i64 (k0 + 2 * j) ∧ Below w.heap.size w wr) (fun _ i _ => us.length - (intOf i).toNat)
  case atStart => exact ⟨0, Nat.zero_le _, rfl, by simp, Below.refl _ _⟩
  case round =>
    obtain ⟨j, hj, rfl, rfl, hB⟩ := hrel
    by_cases hlt : j < us.length
    · obtain ⟨b, off, rfl, hc⟩ := hU.cells (by omega)
      obtain ⟨c1, c2⟩ := hc j hlt
      have e := markU_at k0 us.length j hlt
      rw [← HM.out] at e
      rw [e.1] at c1
      rw [e.2] at c2
      have m1 := below_cell hB c1
      have m2 := below_cell hB c2
      clear c1 c2 hc e
      go_wp2
      go_roundw
      case rel => exact ⟨j + 1, by omega, by go_num, by congr 1; omega, hB⟩
      case measure => simp [intOf]; omega
    · obtain rfl : j = us.length := by omega
      go_wp2
      go_ret
      exact ⟨rfl, hB⟩
theorem heldUsageS_m {A : Option Addr} {n c : Nat} {k0 : Int} {w : World} (hU : Us w A (markU k0 n)) (hn : n ≤ 4194304) (hk0 : 0 ≤ k0) (hk1 : k0 ≤ 100000000) :
    Calls Try.prog 23 #[.slice A n c, .int .i64 k0] w fun e w' => e = .returned (.int .i64 (k0 + 2 * n)) ∧ Below w.heap.size w w' := by
  have := heldUsageS_any (c := c) hU (by rw [markU_length]) (by rw [markU_length]; exact hn) hk0 hk1
  rwa [markU_length] at this
end Go.Proofs.Ytjiooipoeahdmaa

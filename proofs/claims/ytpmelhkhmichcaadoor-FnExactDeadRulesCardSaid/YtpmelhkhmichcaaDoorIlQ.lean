/- Int: how a slice of them reads; conversions, comparison, marks. Printed by gentype.py. -/
import Derived.Test.YtpmelhkhmichcaaDoorKit
namespace Go.Proofs.YtpmelhkhmichcaaDoor
set_option linter.unusedSimpArgs false
set_option linter.unusedVariables false
open Go.RowKit

def ilD : Int := 0
def il0 (l : List (Int)) (k : Nat) : Int := (l.getD k ilD)
def ilEnc (u : Int) : List Value := [.int .i64 u]
def ilR (w : World) (A : Option Addr) (l : List (Int)) : Prop := RdL (Flat ilEnc) 1 w A l
section
variable {w w' : World} {A : Option Addr} {l : List (Int)}
theorem ilR.below (h : ilR w A l) (hb : Below w.heap.size w w') : ilR w' A l := RdL.below (Flat.mono _) h hb
theorem ilR.regrown (h : ilR w A l) (d : Nat) (os : Array Obj) : ilR (Sort.grow (redrawn w d) os) A l := RdL.regrown (Flat.mono _) h d os
theorem ilR.len (h : ilR w A l) : l.length ≤ 9223372036854775807 := h.1
theorem ilR.cells (h : ilR w A l) (hn : 0 < l.length) : ∃ b off, A = some ⟨b, off, none⟩ ∧ ∀ k, k < l.length →
    w.cell? ⟨b, off + k, none⟩ = some (.int .i64 (il0 l k)) := by
  obtain ⟨b, off, e, hc⟩ := h.2 hn
  refine ⟨b, off, e, fun k hk => ?_⟩
  obtain ⟨cs, _, rfl, hv⟩ := hc k hk
  have e : l.getD k ilD = l[k] := by simp [hk]
  simp only [il0, e]
  have := hv 0 _ rfl
  simpa using this
theorem ilR.own {B n c : Nat} {e : TypeId} (hl : l.length = n) (hb : n ≤ 4194304) (h : w.ownsRow B e 1 (.slice A n c) n (l.flatMap ilEnc)) : ilR w A l :=
  RdL.of_own (fun _ => rfl) hl (by omega) h
theorem ilEnc_one (a : Int) : ∀ u ∈ ilEnc a, u.oneCell' = true := by intro u hu; simp [ilEnc] at hu; subst hu; rfl
theorem il_elem {k : Nat} (hk : k < l.length) : il0 l k = l[k] := by
  have e : l.getD k ilD = l[k] := by simp [hk]
  simp only [il0, e]
end
theorem il_differ {us vs : List (Int)} {k : Nat} (hk : k < us.length) (hk' : k < vs.length) (h : ¬ il0 us k = il0 vs k) : false = sameB us vs := by
  rw [eq_comm, sameB_false]
  rintro rfl
  exact h rfl
theorem il_same {us vs : List (Int)} (h : us.length = vs.length) (h2 : ∀ k, k < us.length → il0 us k = il0 vs k) : true = sameB us vs := by
  rw [eq_comm, sameB_true]
  apply List.ext_getElem h
  intro k h3 h4
  rw [← il_elem h3, ← il_elem h4]
  exact h2 k h3

theorem Tryd.infoInt : (Tryd.prog.info? 3).map (fun i => (i.zero, i.size, i.bytes)) = some (some (.int .i64 0), 1, 8) := by kernel_rfl

set_option maxHeartbeats 1000000 in
theorem eqIntS_any {A A' : Option Addr} {us vs : List (Int)} {c c' : Nat} {w : World} (hU : ilR w A us) (hV : ilR w A' vs) :
    Calls Tryd.prog 38 #[.slice A us.length c, .slice A' vs.length c'] w fun e w' => e = .returned (.bool (sameB us vs)) ∧ Below w.heap.size w w' := by
  have hl := hU.len
  have hl' := hV.len
  by_cases hlen : us.length = vs.length
  · have HL := Lib.hid hlen
    have hlen1 : ((us.length : Int) != vs.length) = false := by simp [hlen]
    clear hlen
    go_enter Tryd.func38, Tryd.ntmps38
    go_wp2
    go_loopw [5] (fun i wr => ∃ k : Nat, k ≤ us.length ∧ i = .int .i64 k ∧ Below w.heap.size w wr ∧ (∀ j, j < k → il0 us j = il0 vs j)) (fun i _ => us.length - (intOf i).toNat)
    case atStart => exact ⟨0, Nat.zero_le _, rfl, Below.refl _ _, fun j h => by omega⟩
    case round =>
      obtain ⟨k, hk, rfl, hB, hgood⟩ := hrel
      have HG := Lib.hid hgood
      clear hgood
      by_cases hlt : k < us.length
      · have hlt' : k < vs.length := by rw [← HL.out]; exact hlt
        obtain ⟨b, off, rfl, hc⟩ := hU.cells (by omega)
        obtain ⟨b', off', rfl, hc'⟩ := hV.cells (by omega)
        have c0 := hc k hlt
        have d0 := hc' k hlt'
        have m0 := cell_regrown (below_cell hB c0)
        have n0 := cell_regrown (below_cell hB d0)
        clear c0 d0 hc hc'
        by_cases g : (il0 us k != il0 vs k) = true
        all_goals
          try simp only [Bool.not_eq_true] at g
          go_wp2
          refine wp_region_quiet_below (by kernel_rfl) (by kernel_rfl) ?_
          repeat (go_big_quiet_step (fail))
          refine wpQuiet_nil ?_
          intro w2 hw'regrown
          replace hB := ext_trans hB (below_of_regrown hw'regrown (Nat.le_refl _))
          clear hw'regrown
          go_wp2
        · go_ret
          exact ⟨ret_bool (il_differ hlt hlt' (by simpa using g)), hB⟩
        · go_roundw
          case rel => exact ⟨k + 1, by omega, by go_num, hB, all_succ HG.out (by simpa using g)⟩
          case measure => simp [intOf]; omega
      · obtain rfl : k = us.length := by omega
        go_wp2
        go_ret
        exact ⟨ret_bool (il_same HL.out HG.out), hB⟩
  · have hlen1 : ((us.length : Int) != vs.length) = true := by simp; omega
    have HL := Lib.hid hlen
    clear hlen
    go_enter Tryd.func38, Tryd.ntmps38
    go_wp2
    go_ret
    exact ⟨ret_bool (by rw [eq_comm, sameB_false]; rintro rfl; exact HL.out rfl), Below.refl _ _⟩

def ilMark (k : Int) (n : Nat) : List (Int) := (List.range n).map fun (i : Nat) => (k + (i : Int))
theorem ilMark_length (k : Int) (n : Nat) : (ilMark k n).length = n := by simp [ilMark]
theorem ilMark_at (k : Int) (n j : Nat) (h : j < n) : il0 (ilMark k n) j = k + j := by
  simp [il0, ilMark, h]
theorem ilMark_succ (k : Int) (j : Nat) : (ilMark k (j + 1)).flatMap ilEnc = (ilMark k j).flatMap ilEnc ++ [.int .i64 (k + j)] := by
  simp [ilMark, List.range_succ, ilEnc]

set_option maxHeartbeats 1000000 in
theorem markIntS_any {A : Option Addr} {l : List (Int)} {B c : Nat} {k0 : Int} {w : World} (ho : w.ownsRow B 3 1 (.slice A l.length c) l.length (l.flatMap ilEnc)) (hn : l.length ≤ 4194304) (hk0 : 0 ≤ k0) (hk1 : k0 ≤ 4611686018427387904) :
    Calls Tryd.prog 40 #[.slice A l.length c, .int .i64 k0] w fun e w' => e = .returned (.int .i64 (k0 + l.length)) ∧
      w'.ownsRow B 3 1 (.slice A l.length c) l.length ((ilMark k0 l.length).flatMap ilEnc) ∧ w.grownBy w' (Value.slice A l.length c).ownBlock := by
  go_enter Tryd.func40, Tryd.ntmps40
  go_wp2
  go_loopw [1, 5] (fun kk i wr => ∃ j : Nat, j ≤ l.length ∧ i = .int .i64 j ∧ kk = .int .i64 (k0 + j) ∧ w.grownBy wr (Value.slice A l.length c).ownBlock ∧ ∃ xs, wr.ownsRow B 3 1 (.slice A l.length c) l.length xs ∧ xs.take (j * 1) = (ilMark k0 j).flatMap ilEnc) (fun _ i _ => l.length - (intOf i).toNat)
  case atStart => exact ⟨0, Nat.zero_le _, rfl, by simp, World.grownBy.refl _ _, _, ho, by simp [ilMark]⟩
  case round =>
    clear ho
    obtain ⟨j, hj, rfl, rfl, hG, xs, hown, htake⟩ := hrel
    have HT := Lib.hid htake
    clear htake
    by_cases hlt : j < l.length
    · obtain ⟨g, cap, hv, hBg, hglt⟩ := hown.form (by omega)
      simp only [Value.slice.injEq, true_and] at hv
      obtain ⟨rfl, rfl⟩ := hv
      obtain ⟨v0, f0⟩ := own_cell hown (j := j) (by omega)
      have z0 := hown.frozenAt (j)
      go_wp2
      go_roundw
      case rel =>
        obtain ⟨xs', h1, h2⟩ := own_elem [.int .i64 (k0 + j)] hown hlt rfl HT.out
        exact ⟨j + 1, by omega, by go_num, by congr 1; omega, (by have := grown_trans_ hG (setCells_grown _ [.int .i64 (k0 + j)] _ (j * 1)); rw [Nat.mul_one] at this; exact this), xs', (by rw [Nat.mul_one] at h1; exact h1), by rw [h2, ilMark_succ]⟩
      case measure => simp [intOf]; omega
    · obtain rfl : j = l.length := by omega
      go_wp2
      go_ret
      refine ⟨rfl, ?_, hG⟩
      have e := HT.out
      rw [List.take_of_length_le (Nat.le_of_eq hown.1)] at e
      rw [← e]; exact hown

set_option maxHeartbeats 1000000 in
theorem heldIntS_any {A : Option Addr} {l : List (Int)} {c : Nat} {k0 : Int} {w : World} (hU : ilR w A l) (hm : l = ilMark k0 l.length) (hn : l.length ≤ 4194304) (hk0 : 0 ≤ k0) (hk1 : k0 ≤ 4611686018427387904) :
    Calls Tryd.prog 41 #[.slice A l.length c, .int .i64 k0] w fun e w' => e = .returned (.int .i64 (k0 + l.length)) ∧ Below w.heap.size w w' := by
  have HM := Lib.hid hm
  clear hm
  go_enter Tryd.func41, Tryd.ntmps41
  go_wp2
  go_loopw [1, 5] (fun kk i wr => ∃ j : Nat, j ≤ l.length ∧ i = .int .i64 j ∧ kk = .int .i64 (k0 + j) ∧ Below w.heap.size w wr) (fun _ i _ => l.length - (intOf i).toNat)
  case atStart => exact ⟨0, Nat.zero_le _, rfl, by simp, Below.refl _ _⟩
  case round =>
    obtain ⟨j, hj, rfl, rfl, hB⟩ := hrel
    by_cases hlt : j < l.length
    · obtain ⟨b, off, rfl, hc⟩ := hU.cells (by omega)
      have e := ilMark_at k0 l.length j hlt
      rw [← HM.out] at e
      have c0 := hc j hlt
      have e0 := e
      rw [e0] at c0
      have m0 := below_cell hB c0
      clear c0 e0 hc e
      go_wp2
      go_roundw
      case rel => exact ⟨j + 1, by omega, by go_num, by congr 1; omega, hB⟩
      case measure => simp [intOf]; omega
    · obtain rfl : j = l.length := by omega
      go_wp2
      go_ret
      exact ⟨rfl, hB⟩
theorem heldIntS_m {A : Option Addr} {n c : Nat} {k0 : Int} {w : World} (hU : ilR w A (ilMark k0 n)) (hn : n ≤ 4194304) (hk0 : 0 ≤ k0) (hk1 : k0 ≤ 4611686018427387904) :
    Calls Tryd.prog 41 #[.slice A n c, .int .i64 k0] w fun e w' => e = .returned (.int .i64 (k0 + n)) ∧ Below w.heap.size w w' := by
  have := heldIntS_any (c := c) hU (by rw [ilMark_length]) (by rw [ilMark_length]; exact hn) hk0 hk1
  rwa [ilMark_length] at this

end Go.Proofs.YtpmelhkhmichcaaDoor

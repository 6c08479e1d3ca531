/- Int: how a slice of them reads; conversions, comparison, marks. Printed by gentype.py. Rules that never decide: plain; by the program. Rules that never decide: by the reference. -/
import Derived.Test.YtpmelhkhmichcaaDoorKit
import Derived.Test.YtpmelhkhmichcaaDoorPcB
import Derived.Test.YtpmelhkhmichcaaDoorFrA
import Derived.Test.YtpmelhkhmichcaaDoorFrB
namespace Go.Proofs.YtpmelhkhmichcaaDoor
set_option linter.unusedSimpArgs false
set_option linter.unusedVariables false
open Go.RowKit

def ilD : Int := 0
def il0 (l : List (Int)) (k : Nat) : Int := (l.getD k ilD)
def ilEnc (u : Int) : List Value := [.int .i64 u]
def ilR (w : World) (A : Option Addr) (l : List (Int)) : Prop := RdL (Flat ilEnc) 1 w A l
section
variable {w w' : World} {A : Option Addr} {l : List (Int)}
theorem ilR.below (h : ilR w A l) (hb : Below w.heap.size w w') : ilR w' A l := RdL.below (Flat.mono _) h hb
theorem ilR.regrown (h : ilR w A l) (d : Nat) (os : Array Obj) : ilR (Sort.grow (redrawn w d) os) A l := RdL.regrown (Flat.mono _) h d os
theorem ilR.len (h : ilR w A l) : l.length ≤ 9223372036854775807 := h.1
theorem ilR.cells (h : ilR w A l) (hn : 0 < l.length) : ∃ b off, A = some ⟨b, off, none⟩ ∧ ∀ k, k < l.length →
    w.cell? ⟨b, off + k, none⟩ = some (.int .i64 (il0 l k)) := by
  obtain ⟨b, off, e, hc⟩ := h.2 hn
  refine ⟨b, off, e, fun k hk => ?_⟩
  obtain ⟨cs, _, rfl, hv⟩ := hc k hk
  have e : l.getD k ilD = l[k] := by simp [hk]
  simp only [il0, e]
  have := hv 0 _ rfl
  simpa using this
theorem ilR.own {B n c : Nat} {e : TypeId} (hl : l.length = n) (hb : n ≤ 4194304) (h : w.ownsRow B e 1 (.slice A n c) n (l.flatMap ilEnc)) : ilR w A l :=
  RdL.of_own (fun _ => rfl) hl (by omega) h
theorem ilEnc_one (a : Int) : ∀ u ∈ ilEnc a, u.oneCell' = true := by intro u hu; simp [ilEnc] at hu; subst hu; rfl
theorem il_elem {k : Nat} (hk : k < l.length) : il0 l k = l[k] := by
  have e : l.getD k ilD = l[k] := by simp [hk]
  simp only [il0, e]
end
theorem il_differ {us vs : List (Int)} {k : Nat} (hk : k < us.length) (hk' : k < vs.length) (h : ¬ il0 us k = il0 vs k) : false = sameB us vs := by
  rw [eq_comm, sameB_false]
  rintro rfl
  exact h rfl
theorem il_same {us vs : List (Int)} (h : us.length = vs.length) (h2 : ∀ k, k < us.length → il0 us k = il0 vs k) : true = sameB us vs := by
  rw [eq_comm, sameB_true]
  apply List.ext_getElem h
  intro k h3 h4
  rw [← il_elem h3, ← il_elem h4]
  exact h2 k h3

theorem Tryd.infoInt : (Tryd.prog.info? 3).map (fun i => (i.zero, i.size, i.bytes)) = some (some (.int .i64 0), 1, 8) := by kernel_rfl

set_option maxHeartbeats 1000000 in
theorem eqIntS_any {A A' : Option Addr} {us vs : List (Int)} {c c' : Nat} {w : World} (hU : ilR w A us) (hV : ilR w A' vs) :
    Calls Tryd.prog 38 #[.slice A us.length c, .slice A' vs.length c'] w fun e w' => e = .returned (.bool (sameB us vs)) ∧ Below w.heap.size w w' := by
  have hl := hU.len
  have hl' := hV.len
  by_cases hlen : us.length = vs.length
  · have HL := Lib.hid hlen
    have hlen1 : ((us.length : Int) != vs.length) = false := by simp [hlen]
    clear hlen
    go_enter Tryd.func38, Tryd.ntmps38
    go_wp2
    go_loopw [5] (fun i wr => ∃ k : Nat, k ≤ us.length ∧ i = .int .i64 k ∧ Below w.heap.size w wr ∧ (∀ j, j < k → il0 us j = il0 vs j)) (fun i _ => us.length - (intOf i).toNat)
    case atStart => exact ⟨0, Nat.zero_le _, rfl, Below.refl _ _, fun j h => by omega⟩
    case round =>
      obtain ⟨k, hk, rfl, hB, hgood⟩ := hrel
      have HG := Lib.hid hgood
      clear hgood
      by_cases hlt : k < us.length
      · have hlt' : k < vs.length := by rw [← HL.out]; exact hlt
        obtain ⟨b, off, rfl, hc⟩ := hU.cells (by omega)
        obtain ⟨b', off', rfl, hc'⟩ := hV.cells (by omega)
        have c0 := hc k hlt
        have d0 := hc' k hlt'
        have m0 := cell_regrown (below_cell hB c0)
        have n0 := cell_regrown (below_cell hB d0)
        clear c0 d0 hc hc'
        by_cases g : (il0 us k != il0 vs k) = true
        all_goals
          try simp only [Bool.not_eq_true] at g
          go_wp2
          refine wp_region_quiet_below (by kernel_rfl) (by kernel_rfl) ?_
          repeat (go_big_quiet_step (fail))
          refine wpQuiet_nil ?_
          intro w2 hw'regrown
          replace hB := ext_trans hB (below_of_regrown hw'regrown (Nat.le_refl _))
          clear hw'regrown
          go_wp2
        · go_ret
          exact ⟨ret_bool (il_differ hlt hlt' (by simpa using g)), hB⟩
        · go_roundw
          case rel => exact ⟨k + 1, by omega, by go_num, hB, all_succ HG.out (by simpa using g)⟩
          case measure => simp [intOf]; omega
      · obtain rfl : k = us.length := by omega
        go_wp2
        go_ret
        exact ⟨ret_bool (il_same HL.out HG.out), hB⟩
  · have hlen1 : ((us.length : Int) != vs.length) = true := by simp; omega
    have HL := Lib.hid hlen
    clear hlen
    go_enter Tryd.func38, Tryd.ntmps38
    go_wp2
    go_ret
    exact ⟨ret_bool (by rw [eq_comm, sameB_false]; rintro rfl; exact HL.out rfl), Below.refl _ _⟩

def ilMark (k : Int) (n : Nat) : List (Int) := (List.range n).map fun (i : Nat) => (k + (i : Int))
theorem ilMark_length (k : Int) (n : Nat) : (ilMark k n).length = n := by simp [ilMark]
theorem ilMark_at (k : Int) (n j : Nat) (h : j < n) : il0 (ilMark k n) j = k + j := by
  simp [il0, ilMark, h]
theorem ilMark_succ (k : Int) (j : Nat) : (ilMark k (j + 1)).flatMap ilEnc = (ilMark k j).flatMap ilEnc ++ [.int .i64 (k + j)] := by
  simp [ilMark, List.range_succ, ilEnc]

set_option maxHeartbeats 1000000 in
theorem markIntS_any {A : Option Addr} {l : List (Int)} {B c : Nat} {k0 : Int} {w : World} (ho : w.ownsRow B 3 1 (.slice A l.length c) l.length (l.flatMap ilEnc)) (hn : l.length ≤ 4194304) (hk0 : 0 ≤ k0) (hk1 : k0 ≤ 4611686018427387904) :
    Calls Tryd.prog 40 #[.slice A l.length c, .int .i64 k0] w fun e w' => e = .returned (.int .i64 (k0 + l.length)) ∧
      w'.ownsRow B 3 1 (.slice A l.length c) l.length ((ilMark k0 l.length).flatMap ilEnc) ∧ w.grownBy w' (Value.slice A l.length c).ownBlock := by
  go_enter Tryd.func40, Tryd.ntmps40
  go_wp2
  go_loopw [1, 5] (fun kk i wr => ∃ j : Nat, j ≤ l.length ∧ i = .int .i64 j ∧ kk = .int .i64 (k0 + j) ∧ w.grownBy wr (Value.slice A l.length c).ownBlock ∧ ∃ xs, wr.ownsRow B 3 1 (.slice A l.length c) l.length xs ∧ xs.take (j * 1) = (ilMark k0 j).flatMap ilEnc) (fun _ i _ => l.length - (intOf i).toNat)
  case atStart => exact ⟨0, Nat.zero_le _, rfl, by simp, World.grownBy.refl _ _, _, ho, by simp [ilMark]⟩
  case round =>
    clear ho
    obtain ⟨j, hj, rfl, rfl, hG, xs, hown, htake⟩ := hrel
    have HT := Lib.hid htake
    clear htake
    by_cases hlt : j < l.length
    · obtain ⟨g, cap, hv, hBg, hglt⟩ := hown.form (by omega)
      simp only [Value.slice.injEq, true_and] at hv
      obtain ⟨rfl, rfl⟩ := hv
      obtain ⟨v0, f0⟩ := own_cell hown (j := j) (by omega)
      have z0 := hown.frozenAt (j)
      go_wp2
      go_roundw
      case rel =>
        obtain ⟨xs', h1, h2⟩ := own_elem [.int .i64 (k0 + j)] hown hlt rfl HT.out
        exact ⟨j + 1, by omega, by go_num, by congr 1; omega, (by have := grown_trans_ hG (setCells_grown _ [.int .i64 (k0 + j)] _ (j * 1)); rw [Nat.mul_one] at this; exact this), xs', (by rw [Nat.mul_one] at h1; exact h1), by rw [h2, ilMark_succ]⟩
      case measure => simp [intOf]; omega
    · obtain rfl : j = l.length := by omega
      go_wp2
      go_ret
      refine ⟨rfl, ?_, hG⟩
      have e := HT.out
      rw [List.take_of_length_le (Nat.le_of_eq hown.1)] at e
      rw [← e]; exact hown

set_option maxHeartbeats 1000000 in
theorem heldIntS_any {A : Option Addr} {l : List (Int)} {c : Nat} {k0 : Int} {w : World} (hU : ilR w A l) (hm : l = ilMark k0 l.length) (hn : l.length ≤ 4194304) (hk0 : 0 ≤ k0) (hk1 : k0 ≤ 4611686018427387904) :
    Calls Tryd.prog 41 #[.slice A l.length c, .int .i64 k0] w fun e w' => e = .returned (.int .i64 (k0 + l.length)) ∧ Below w.heap.size w w' := by
  have HM := Lib.hid hm
  clear hm
  go_enter Tryd.func41, Tryd.ntmps41
  go_wp2
  go_loopw [1, 5] (fun kk i wr => ∃ j : Nat, j ≤ l.length ∧ i = .int .i64 j ∧ kk = .int .i64 (k0 + j) ∧ Below w.heap.size w wr) (fun _ i _ => l.length - (intOf i).toNat)
  case atStart => exact ⟨0, Nat.zero_le _, rfl, by simp, Below.refl _ _⟩
  case round =>
    obtain ⟨j, hj, rfl, rfl, hB⟩ := hrel
    by_cases hlt : j < l.length
    · obtain ⟨b, off, rfl, hc⟩ := hU.cells (by omega)
      have e := ilMark_at k0 l.length j hlt
      rw [← HM.out] at e
      have c0 := hc j hlt
      have e0 := e
      rw [e0] at c0
      have m0 := below_cell hB c0
      clear c0 e0 hc e
      go_wp2
      go_roundw
      case rel => exact ⟨j + 1, by omega, by go_num, by congr 1; omega, hB⟩
      case measure => simp [intOf]; omega
    · obtain rfl : j = l.length := by omega
      go_wp2
      go_ret
      exact ⟨rfl, hB⟩
theorem heldIntS_m {A : Option Addr} {n c : Nat} {k0 : Int} {w : World} (hU : ilR w A (ilMark k0 n)) (hn : n ≤ 4194304) (hk0 : 0 ≤ k0) (hk1 : k0 ≤ 4611686018427387904) :
    Calls Tryd.prog 41 #[.slice A n c, .int .i64 k0] w fun e w' => e = .returned (.int .i64 (k0 + n)) ∧ Below w.heap.size w w' := by
  have := heldIntS_any (c := c) hU (by rw [ilMark_length]) (by rw [ilMark_length]; exact hn) hk0 hk1
  rwa [ilMark_length] at this
theorem andNot_small : ∀ x y : Fin 16, (0 ≤ bits .andNot .i64 (x.1 : Int) (y.1 : Int) ∧ bits .andNot .i64 (x.1 : Int) (y.1 : Int) ≤ 15) ∧ ∀ d : Fin 4, bitB (bits .andNot .i64 (x.1 : Int) (y.1 : Int)) (d.1 : Int) = (bitB (x.1 : Int) (d.1 : Int) && !bitB (y.1 : Int) (d.1 : Int)) := by decide +kernel
theorem zero_small : ∀ x : Fin 16, ((x.1 : Int) == 0) = decide (∀ d : Fin 4, bitB (x.1 : Int) (d.1 : Int) = false) := by decide +kernel
theorem andNot_le {x y : Int} (hx : 0 ≤ x) (hx1 : x ≤ 15) (hy : 0 ≤ y) (hy1 : y ≤ 15) : (0 ≤ bits .andNot .i64 x y ∧ bits .andNot .i64 x y ≤ 15) ∧ ∀ d : Nat, d < 4 → bitB (bits .andNot .i64 x y) d = (bitB x d && !bitB y d) := by
  have h := andNot_small ⟨x.toNat, by omega⟩ ⟨y.toNat, by omega⟩
  have ex : ((x.toNat : Nat) : Int) = x := by omega
  have ey : ((y.toNat : Nat) : Int) = y := by omega
  simp only [ex, ey] at h
  exact ⟨h.1, fun d hd => h.2 ⟨d, hd⟩⟩
theorem zero_le {x : Int} (hx : 0 ≤ x) (hx1 : x ≤ 15) : (x == 0) = decide (∀ d : Nat, d < 4 → bitB x d = false) := by
  have h := zero_small ⟨x.toNat, by omega⟩
  have ex : ((x.toNat : Nat) : Int) = x := by omega
  simp only [ex] at h
  rw [h]
  exact decide_eq_decide.2 ⟨fun h d hd => h ⟨d, hd⟩, fun h d => h d.1 d.2⟩
/-- A rule before has the act and its pattern covers. -/
def covD (l : RuL) (k d j : Nat) : Bool := bitB (ru1 l j) d && pcB (ru0 l j) (ru0 l k)
def covA (l : RuL) (k d : Nat) : Bool := !bitB (ru1 l k) d || (List.range k).any (covD l k d)
def deadB (l : RuL) (k : Nat) : Bool := (List.range 4).all (covA l k)
def deadL (l : RuL) (n : Nat) : List Int := ((List.range n).filter (deadB l)).map (fun k : Nat => (k : Int))
def deV (l : RuL) : List Int := if ruOk l = true then deadL l l.length else []
theorem deadL_succ (l : RuL) (n : Nat) : deadL l (n + 1) = if deadB l n = true then deadL l n ++ [(n : Int)] else deadL l n := by
  rw [deadL, List.range_succ, List.filter_append]
  by_cases h : deadB l n = true
  · rw [if_pos h]; simp [h, deadL]
  · rw [if_neg h]; simp [h, deadL]
theorem deadL_len (l : RuL) (n : Nat) : (deadL l n).length ≤ n := by
  rw [deadL, List.length_map]
  have := List.length_filter_le (deadB l) (List.range n)
  simpa using this
/-- What is left of a rule's acts behind the first j before it. -/
def leftK (l : RuL) (k : Nat) : Nat → Int
  | 0 => ru1 l k
  | j + 1 => if pcB (ru0 l j) (ru0 l k) = true then bits .andNot .i64 (leftK l k j) (ru1 l j) else leftK l k j
theorem left_ok {l : RuL} (h : ∀ k, k < l.length → 1 ≤ ru1 l k ∧ ru1 l k ≤ 15) {k : Nat} (hk : k < l.length) : ∀ j, j ≤ k → (0 ≤ leftK l k j ∧ leftK l k j ≤ 15) ∧ ∀ d : Nat, d < 4 → bitB (leftK l k j) d = (bitB (ru1 l k) d && !(List.range j).any (covD l k d))
  | 0, _ => by
    have := h k hk
    refine ⟨by rw [leftK]; omega, fun d _ => ?_⟩
    rw [leftK]; simp
  | j + 1, hj => by
    obtain ⟨h1, h2⟩ := left_ok h hk j (by omega)
    have h3 := h j (by omega)
    rw [leftK]
    by_cases hp : pcB (ru0 l j) (ru0 l k) = true
    · rw [if_pos hp]
      obtain ⟨h4, h5⟩ := andNot_le h1.1 h1.2 (by omega : 0 ≤ ru1 l j) (by omega)
      refine ⟨h4, fun d hd => ?_⟩
      rw [h5 d hd, h2 d hd, List.range_succ, List.any_append]
      simp only [List.any_cons, List.any_nil, Bool.or_false, covD, hp, Bool.and_true, Bool.not_or, Bool.and_assoc]
    · rw [if_neg hp]
      refine ⟨h1, fun d hd => ?_⟩
      rw [h2 d hd, List.range_succ, List.any_append]
      simp [covD, hp]
theorem left_dead {l : RuL} (h : ∀ k, k < l.length → 1 ≤ ru1 l k ∧ ru1 l k ≤ 15) {k : Nat} (hk : k < l.length) : (leftK l k k == 0) = deadB l k := by
  obtain ⟨h1, h2⟩ := left_ok h hk k (Nat.le_refl _)
  rw [zero_le h1.1 h1.2, deadB, Bool.eq_iff_iff, decide_eq_true_eq, List.all_eq_true]
  constructor
  · intro hh d hd
    have hd4 := List.mem_range.1 hd
    have := hh d hd4
    rw [h2 d hd4] at this
    rw [covA]
    cases hb : bitB (ru1 l k) d
    · rfl
    · rw [hb] at this
      simp only [Bool.true_and, Bool.not_eq_false'] at this
      rw [this]; rfl
  · intro hh d hd
    have := hh d (List.mem_range.2 hd)
    rw [covA] at this
    rw [h2 d hd]
    cases hb : bitB (ru1 l k) d
    · rfl
    · rw [hb] at this
      simp only [Bool.not_true, Bool.false_or] at this
      rw [this]; rfl
theorem ruOk_acts {l : RuL} (h : ruOk l = true) : ∀ k, k < l.length → 1 ≤ ru1 l k ∧ ru1 l k ≤ 15 := fun k hk => (ruOk_at h hk).2
theorem ruOk_len {l : RuL} (h : ruOk l = true) : l.length ≤ 8 := by
  simp only [ruOk, Bool.and_eq_true, decide_eq_true_eq] at h
  exact h.1
theorem implPatternCovers_v {a b : ByteArray} {q : Bool} (hq : pcB a b = q) (ha : a.size ≤ 2097152) (hb : b.size ≤ 2097152) (w : World) :
    Calls Tryd.prog 73 #[.string a, .string b] w fun e w' => e = .returned (.bool q) ∧ Below w.heap.size w w' := hq ▸ implPatternCovers ha hb
theorem specPatternCovers_v {a b : ByteArray} {q : Bool} (hq : pcB a b = q) (ha : a.size ≤ 2097152) (hb : b.size ≤ 2097152) (w : World) :
    Calls Tryd.prog 74 #[.string a, .string b] w fun e w' => e = .returned (.bool q) ∧ Below w.heap.size w w' := by
  rw [← hq, pc_same]; exact specPatternCovers ha hb
set_option maxRecDepth 100000 in
set_option maxHeartbeats 8000000 in
theorem implDeadRules {A : Option Addr} {l : RuL} {c : Nat} {w : World} (hU : ruR w A l) (hf : FewP l) (hcap : l.length ≤ c) :
    Calls Tryd.prog 35 #[.slice A l.length c] w fun e w' => ∃ v, e = .returned v ∧ OwnA w.heap.size 3 1 ilEnc w' v (deV l) ∧ Below w.heap.size w w' := by
  have hlen := hU.len
  cases hok : ruOk l
  · have HD : Hid (deV l = []) := Lib.hid (by rw [deV, hok]; rfl)
    go_enter Tryd.func35, Tryd.ntmps35
    go_wp2_with fail
    refine (implRulesValid hU hf).mono ?_
    rintro e w1 ⟨rfl, hB⟩
    rw [hok]
    go_wp2
    go_ret
    exact ⟨_, rfl, by rw [HD.out]; exact OwnA.nil, hB⟩
  · have HD : Hid (deV l = deadL l l.length) := Lib.hid (by rw [deV, hok]; rfl)
    have HACT := Lib.hid (ruOk_acts hok)
    have h8 := ruOk_len hok
    go_enter Tryd.func35, Tryd.ntmps35
    go_wp2_with fail
    refine (implRulesValid hU hf).mono ?_
    rintro e w1 ⟨rfl, hB⟩
    rw [hok]
    replace hU := hU.below hB
    have HB1 := Lib.hid hB
    clear hB hok
    go_wp2
    go_loopw [3, 4, 5, 6, 8, 14] (fun ov _ _ _ _ iv wr => ∃ k : Nat, k ≤ l.length ∧ iv = .int .i64 k ∧ OwnA w1.heap.size 3 1 ilEnc wr ov (deadL l k) ∧ Below w1.heap.size w1 wr) (fun _ _ _ _ _ iv _ => l.length - (intOf iv).toNat)
    case atStart => exact ⟨0, Nat.zero_le _, rfl, OwnA.nil, Below.refl _ _⟩
    case round =>
      obtain ⟨k, hk, rfl, hO, hB⟩ := hrel
      by_cases hlt : k < l.length
      · obtain ⟨b, off, rfl, hc⟩ := hU.cells (by omega)
        obtain ⟨c0, c1, c2⟩ := hc k hlt
        replace c0 := below_cell hB c0
        replace c1 := below_cell hB c1
        replace c2 := below_cell hB c2
        have hsk := hf k hlt
        obtain ⟨Y, hY⟩ : ∃ Y, Y = wr.alloc (.cells #[.string (ru0 l k), .int .i64 (ru1 l k), .bool (ru2 l k)] 25) := ⟨_, rfl⟩
        obtain ⟨g, hg⟩ : ∃ g, g = wr.heap.size := ⟨_, rfl⟩
        have hBY : Below wr.heap.size wr Y := by rw [hY]; (repeat (first | exact Below.refl _ _ | refine ext_alloc ?_ _ | refine Below.setCell ?_ (by simp) _))
        have r0 : Y.cell? ⟨g, 0, none⟩ = some (.string (ru0 l k)) := by rw [hY, hg]; exact box_cell wr _ _ 0 _ rfl
        have r1 : Y.cell? ⟨g, 1, none⟩ = some (.int .i64 (ru1 l k)) := by rw [hY, hg]; exact box_cell wr _ _ 1 _ rfl
        have HR0 := Lib.hid r0
        have HO := Lib.hid (hO.below hBY)
        have HBY := Lib.hid (ext_trans hB hBY)
        have HY := Lib.hid hY
        have HG := Lib.hid hg
        have HC := Lib.hid hc
        have HLD := Lib.hid (left_dead HACT.out hlt)
        clear hc hY hg hBY hO hB
        go_wp2
        rw [← HY.out, ← HG.out]
        go_loopw [6, 8, 25] (fun lv _ iv wi => ∃ j : Nat, j ≤ k ∧ iv = .int .i64 j ∧ lv = .int .i64 (leftK l k j) ∧ Below Y.heap.size Y wi) (fun _ _ iv _ => k - (intOf iv).toNat)
        case atStart => exact ⟨0, Nat.zero_le _, rfl, rfl, Below.refl _ _⟩
        case round =>
          obtain ⟨j, hj, rfl, rfl, hI⟩ := hrel
          by_cases hjk : j < k
          · obtain ⟨d0, d1, _⟩ := HC.out j (by omega)
            have hIW := ext_trans HBY.out hI
            replace d0 := below_cell hIW d0
            replace d1 := below_cell hIW d1
            have d2 := below_cell hIW (HC.out j (by omega)).2.2
            have e0 := below_cell hI HR0.out
            have hgl := block_lt_of_cell e0
            have hsj := hf j (by omega)
            clear r0 r1 c0 c1 c2
            have HI := Lib.hid hI
            clear hIW
            cases hp : pcB (ru0 l j) (ru0 l k)
            · have HL := Lib.hid (show leftK l k (j + 1) = leftK l k j by rw [leftK, hp]; rfl)
              go_wp2_with fail
              refine (implPatternCovers_v hp (by omega) (by omega) _).mono ?_
              rintro e w3 ⟨rfl, hb⟩
              replace hI := ext_trans (ext_alloc hI _) hb
              clear hb
              go_wp2
              go_roundw
              case rel => exact ⟨j + 1, by omega, by go_num, by rw [HL.out], hI⟩
              case measure => simp [intOf]; omega
            · have HL := Lib.hid (show leftK l k (j + 1) = bits .andNot .i64 (leftK l k j) (ru1 l j) by rw [leftK, if_pos hp])
              go_wp2_with fail
              refine (implPatternCovers_v hp (by omega) (by omega) _).mono ?_
              rintro e w3 ⟨rfl, hb⟩
              have q1 : w3.cell? ⟨wr.heap.size, 1, none⟩ = some (.int .i64 (ru1 l j)) := below_cell hb (box_cell wr _ _ 1 _ rfl)
              replace hI := ext_trans (ext_alloc hI _) hb
              clear hb
              go_wp2
              go_roundw
              case rel => exact ⟨j + 1, by omega, by go_num, by rw [HL.out], hI⟩
              case measure => simp [intOf]; omega
          · obtain rfl : j = k := by omega
            have hld := HLD.out
            have hB := ext_trans HBY.out hI
            have hO := HO.out.below hI
            cases hd : deadB l j
            · rw [hd] at hld
              have HS := Lib.hid (show deadL l (j + 1) = deadL l j by rw [deadL_succ, hd]; rfl)
              have HO1 := Lib.hid hO
              clear hO hd
              go_wp2
              go_roundw
              case rel => exact ⟨j + 1, by omega, by go_num, by rw [HS.out]; exact HO1.out, hB⟩
              case measure => simp [intOf]; omega
            · rw [hd] at hld
              have HS := Lib.hid (show deadL l (j + 1) = deadL l j ++ [(j : Int)] by rw [deadL_succ, if_pos hd])
              have hle := deadL_len l j
              clear hd
              go_wp2_with (at_builtin; go_must (refine wpList_push (enc := ilEnc) ((j : Int)) rfl (.tmp 41) (.tmp 43) 46 3 _ 1 8 rfl Tryd.underlying46 Tryd.infoInt rfl (by decide) (fun _ => rfl) ilEnc_one (hO.below (by (repeat (first | exact Below.refl _ _ | refine ext_alloc ?_ _ | refine Below.setCell ?_ (by simp) _)))) rfl (heap_alloc_at (by simp)) (by rfl) (by omega) (by omega) (Nat.le_trans hB.size (show Below _ _ _ by (repeat (first | exact Below.refl _ _ | refine ext_alloc ?_ _ | refine Below.setCell ?_ (by simp) _))).size) ?_); intro v_ wq1 ho_ hb_ hg_)
              replace hB := (ext_trans hB (by (repeat (first | exact Below.refl _ _ | refine ext_alloc ?_ _ | refine Below.setCell ?_ (by simp) _)))).trans hb_
              replace hO := ho_
              clear ho_ hb_ hg_
              go_wp2
              go_roundw
              case rel => exact ⟨j + 1, by omega, by go_num, by rw [HS.out]; exact hO, hB⟩
              case measure => simp [intOf]; omega
      · obtain rfl : k = l.length := by omega
        have HO := Lib.hid hO
        clear hO
        go_wp2
        go_ret
        exact ⟨_, rfl, by rw [HD.out]; exact HO.out.lower HB1.out.size, ext_trans HB1.out hB⟩
/-- Covered by the first j before. -/
def covJ (l : RuL) (k d j : Nat) : Bool := !bitB (ru1 l k) d || (List.range j).any (covD l k d)
theorem covJ_succ (l : RuL) (k d j : Nat) : covJ l k d (j + 1) = (covJ l k d j || covD l k d j) := by
  rw [covJ, covJ, List.range_succ, List.any_append]
  simp [Bool.or_assoc]
def deadJ (l : RuL) (k d : Nat) : Bool := (List.range d).all (covA l k)
theorem deadJ_succ (l : RuL) (k d : Nat) : deadJ l k (d + 1) = (deadJ l k d && covA l k d) := by
  rw [deadJ, deadJ, List.range_succ, List.all_append]
  simp
theorem deV_zero {l : RuL} (h : l.length = 0) : deV l = deadL l 0 := by
  have : l = [] := List.length_eq_zero_iff.1 h
  subst this; rfl
set_option maxRecDepth 100000 in
set_option maxHeartbeats 8000000 in
theorem specDeadRules {A : Option Addr} {l : RuL} {c : Nat} {w : World} (hU : ruR w A l) (hf : FewP l) :
    Calls Tryd.prog 37 #[.slice A l.length c] w fun e w' => ∃ v, e = .returned v ∧ OwnA w.heap.size 3 1 ilEnc w' v (deV l) ∧ Below w.heap.size w w' := by
  have hlen := hU.len
  go_enter Tryd.func37, Tryd.ntmps37
  go_wp2
  go_loopw [3, 4, 5, 6, 7, 8] (fun ov kv _ _ _ _ wr => ∃ k : Nat, k ≤ l.length ∧ kv = .int .i64 k ∧ Hid (k = 0 ∨ ruOk l = true) ∧ OwnA w.heap.size 3 1 ilEnc wr ov (deadL l k) ∧ Below w.heap.size w wr) (fun _ kv _ _ _ _ _ => l.length - (intOf kv).toNat)
  case atStart => exact ⟨0, Nat.zero_le _, rfl, Lib.hid (.inl rfl), OwnA.empty (Nat.le_refl _), by (repeat (first | exact Below.refl _ _ | refine ext_alloc ?_ _ | refine Below.setCell ?_ (by simp) _))⟩
  case round =>
    obtain ⟨k, hk, rfl, HK0, hO, hB⟩ := hrel
    by_cases hlt : k < l.length
    · cases hok : ruOk l
      · have HD : Hid (deV l = []) := Lib.hid (by rw [deV, hok]; rfl)
        have hk0 : k = 0 := HK0.out.resolve_right (by rw [hok]; simp)
        subst hk0
        go_wp2_with fail
        refine (specRulesValid_v hok (hU.below hB) hf).mono ?_
        rintro e w1 ⟨rfl, hb⟩
        replace hO := hO.below hb
        replace hB := ext_trans hB hb
        clear hb
        have HO := Lib.hid hO
        clear hO
        go_wp2
        go_ret
        exact ⟨_, rfl, by rw [HD.out]; exact HO.out, hB⟩
      · have HOK := Lib.hid hok
        have h8 := ruOk_len hok
        have hk1 := ruOk_acts hok k hlt
        have hsk := hf k hlt
        go_wp2_with fail
        refine (specRulesValid_v hok (hU.below hB) hf).mono ?_
        rintro e w1 ⟨rfl, hb⟩
        replace hO := hO.below hb
        replace hB := ext_trans hB hb
        clear hb
        obtain ⟨b, off, rfl, hc⟩ := hU.cells (by omega)
        have HC := Lib.hid hc
        have HB := Lib.hid hB
        have HO := Lib.hid hO
        clear hc hO hB hok
        go_wp2
        go_loopw [5, 6, 7, 8] (fun dv av _ _ wi => ∃ d : Nat, d ≤ 4 ∧ av = .int .i64 d ∧ dv = .bool (deadJ l k d) ∧ Below w1.heap.size w1 wi) (fun _ av _ _ _ => 4 - (intOf av).toNat)
        case atStart => exact ⟨0, by omega, rfl, rfl, Below.refl _ _⟩
        case round =>
          obtain ⟨d, hd, rfl, rfl, hI⟩ := hrel
          by_cases hd4 : d < 4
          · obtain ⟨_, c1, _⟩ := HC.out k hlt
            replace c1 := below_cell (ext_trans HB.out hI) c1
            have HI := Lib.hid hI
            clear hI
            go_wp2_with fail
            refine (l12Act_any _ (by omega) (by omega) (by omega) (by omega)).mono ?_
            rintro e w3 ⟨rfl, hb⟩
            have HI3 := Lib.hid (ext_trans HI.out hb)
            clear hb c1
            go_wp2
            go_loopw [7, 8] (fun cv jv wj => ∃ j : Nat, j ≤ k ∧ jv = .int .i64 j ∧ cv = .bool (covJ l k d j) ∧ Below w3.heap.size w3 wj) (fun _ jv _ => k - (intOf jv).toNat)
            case atStart => exact ⟨0, by omega, rfl, by rw [covJ]; simp, Below.refl _ _⟩
            case round =>
              obtain ⟨j, hj, rfl, rfl, hJ⟩ := hrel
              by_cases hjk : j < k
              · have hIW := ext_trans HB.out (ext_trans HI3.out hJ)
                obtain ⟨d0, d1, _⟩ := HC.out j (by omega)
                replace d0 := cell_regrown (below_cell hIW d0)
                replace d1 := cell_regrown (below_cell hIW d1)
                obtain ⟨e0, _, _⟩ := HC.out k hlt
                replace e0 := cell_regrown (below_cell hIW e0)
                have hj1 := ruOk_acts HOK.out j (by omega)
                have hsj := hf j (by omega)
                have HS := Lib.hid (covJ_succ l k d j)
                obtain ⟨q, hq⟩ : ∃ q, covJ l k d j = q := ⟨_, rfl⟩
                obtain ⟨x, hx⟩ : ∃ x, bitB (ru1 l j) d = x := ⟨_, rfl⟩
                obtain ⟨p, hp⟩ : ∃ p, pcB (ru0 l j) (ru0 l k) = p := ⟨_, rfl⟩
                have HE := Lib.hid (show covD l k d j = (x && p) by rw [covD, hx, hp])
                have HQ := Lib.hid hq
                have HX := Lib.hid hx
                have HP := Lib.hid hp
                rw [hq]
                clear hx hp hq hIW
                have HJ := Lib.hid hJ
                clear hJ
                cases q <;> cases x <;> cases p
                all_goals
                  go_wp2
                  refine wp_region_quiet_below (by kernel_rfl) (by kernel_rfl) ?_
                  repeat (go_big_quiet_step (first | (go_at_call 64; (with_reducible exact Calls.regrown_of (l12Act_v HX.out _ (by omega) (by omega) (by omega) (by omega)))) | (go_at_call 74; (with_reducible exact Calls.regrown_of (specPatternCovers_v HP.out (by omega) (by omega) _)))))
                  refine wpQuiet_nil ?_
                  intro w2 hw'regrown
                  have hJ := ext_trans HJ.out (below_of_regrown hw'regrown (Nat.le_refl _))
                  clear hw'regrown
                  go_wp2
                  go_roundw
                  case rel => exact ⟨j + 1, by omega, by go_num, by rw [HS.out, HQ.out, HE.out]; rfl, hJ⟩
                  case measure => simp [intOf]; omega
              · obtain rfl : j = k := by omega
                have HS := Lib.hid (deadJ_succ l j d)
                have HCA : Hid (covA l j d = covJ l j d j) := Lib.hid rfl
                have hI := ext_trans HI3.out hJ
                clear hJ
                obtain ⟨q, hq⟩ : ∃ q, deadJ l j d = q := ⟨_, rfl⟩
                have HQ := Lib.hid hq
                rw [hq]
                clear hq
                cases q
                all_goals
                  go_wp2
                  go_roundw
                  case rel => exact ⟨d + 1, by omega, by go_num, by rw [HS.out, HCA.out, HQ.out]; rfl, hI⟩
                  case measure => simp [intOf]; omega
          · obtain rfl : d = 4 := by omega
            have hB := ext_trans HB.out hI
            have hO := HO.out.below hI
            have HDB : Hid (deadB l k = deadJ l k 4) := Lib.hid rfl
            obtain ⟨q, hq⟩ : ∃ q, deadJ l k 4 = q := ⟨_, rfl⟩
            have HQ := Lib.hid hq
            rw [hq]
            clear hI hq
            cases q
            · have HS := Lib.hid (show deadL l (k + 1) = deadL l k by rw [deadL_succ, HDB.out, HQ.out]; rfl)
              have HO1 := Lib.hid hO
              clear hO
              go_wp2
              go_roundw
              case rel => exact ⟨k + 1, by omega, by go_num, Lib.hid (.inr (by first | exact HOK.out | trivial)), by rw [HS.out]; exact HO1.out, hB⟩
              case measure => simp [intOf]; omega
            · have HS := Lib.hid (show deadL l (k + 1) = deadL l k ++ [(k : Int)] by rw [deadL_succ, HDB.out, HQ.out]; rfl)
              have hle := deadL_len l k
              go_wp2_with (at_builtin; go_must (refine wpList_push (enc := ilEnc) ((k : Int)) rfl (.tmp 65) (.tmp 67) 46 3 _ 1 8 rfl Tryd.underlying46 Tryd.infoInt rfl (by decide) (fun _ => rfl) ilEnc_one (hO.below (by (repeat (first | exact Below.refl _ _ | refine ext_alloc ?_ _ | refine Below.setCell ?_ (by simp) _)))) rfl (heap_alloc_at (by simp)) (by rfl) (by omega) (by omega) (Nat.le_trans hB.size (show Below _ _ _ by (repeat (first | exact Below.refl _ _ | refine ext_alloc ?_ _ | refine Below.setCell ?_ (by simp) _))).size) ?_); intro v_ wq2 ho_ hb_ hg_)
              replace hB := (ext_trans hB (by (repeat (first | exact Below.refl _ _ | refine ext_alloc ?_ _ | refine Below.setCell ?_ (by simp) _)))).trans hb_
              replace hO := ho_
              clear ho_ hb_ hg_
              go_wp2
              go_roundw
              case rel => exact ⟨k + 1, by omega, by go_num, Lib.hid (.inr (by first | exact HOK.out | trivial)), by rw [HS.out]; exact hO, hB⟩
              case measure => simp [intOf]; omega
    · obtain rfl : k = l.length := by omega
      have HO := Lib.hid hO
      have HD : Hid (deV l = deadL l l.length) := by
        rcases HK0.out with h | h
        · exact Lib.hid (by rw [deV_zero h, h])
        · exact Lib.hid (by rw [deV, h]; rfl)
      clear hO
      go_wp2
      go_ret
      exact ⟨_, rfl, by rw [HD.out]; exact HO.out, hB⟩
end Go.Proofs.YtpmelhkhmichcaaDoor

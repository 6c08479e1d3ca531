/- Rules that never decide: plain; by the program. -/
import Derived.Test.YtpmelhkhmichcaaDoorPcB
import Derived.Test.YtpmelhkhmichcaaDoorFrA
import Derived.Test.YtpmelhkhmichcaaDoorIlQ
namespace Go.Proofs.YtpmelhkhmichcaaDoor
set_option linter.unusedSimpArgs false
set_option linter.unusedVariables false
open Go.RowKit

theorem andNot_small : ∀ x y : Fin 16, (0 ≤ bits .andNot .i64 (x.1 : Int) (y.1 : Int) ∧ bits .andNot .i64 (x.1 : Int) (y.1 : Int) ≤ 15) ∧ ∀ d : Fin 4, bitB (bits .andNot .i64 (x.1 : Int) (y.1 : Int)) (d.1 : Int) = (bitB (x.1 : Int) (d.1 : Int) && !bitB (y.1 : Int) (d.1 : Int)) := by decide +kernel
theorem zero_small : ∀ x : Fin 16, ((x.1 : Int) == 0) = decide (∀ d : Fin 4, bitB (x.1 : Int) (d.1 : Int) = false) := by decide +kernel
theorem andNot_le {x y : Int} (hx : 0 ≤ x) (hx1 : x ≤ 15) (hy : 0 ≤ y) (hy1 : y ≤ 15) : (0 ≤ bits .andNot .i64 x y ∧ bits .andNot .i64 x y ≤ 15) ∧ ∀ d : Nat, d < 4 → bitB (bits .andNot .i64 x y) d = (bitB x d && !bitB y d) := by
  have h := andNot_small ⟨x.toNat, by omega⟩ ⟨y.toNat, by omega⟩
  have ex : ((x.toNat : Nat) : Int) = x := by omega
  have ey : ((y.toNat : Nat) : Int) = y := by omega
  simp only [ex, ey] at h
  exact ⟨h.1, fun d hd => h.2 ⟨d, hd⟩⟩
theorem zero_le {x : Int} (hx : 0 ≤ x) (hx1 : x ≤ 15) : (x == 0) = decide (∀ d : Nat, d < 4 → bitB x d = false) := by
  have h := zero_small ⟨x.toNat, by omega⟩
  have ex : ((x.toNat : Nat) : Int) = x := by omega
  simp only [ex] at h
  rw [h]
  exact decide_eq_decide.2 ⟨fun h d hd => h ⟨d, hd⟩, fun h d => h d.1 d.2⟩
/-- A rule before has the act and its pattern covers. -/
def covD (l : RuL) (k d j : Nat) : Bool := bitB (ru1 l j) d && pcB (ru0 l j) (ru0 l k)
def covA (l : RuL) (k d : Nat) : Bool := !bitB (ru1 l k) d || (List.range k).any (covD l k d)
def deadB (l : RuL) (k : Nat) : Bool := (List.range 4).all (covA l k)
def deadL (l : RuL) (n : Nat) : List Int := ((List.range n).filter (deadB l)).map (fun k : Nat => (k : Int))
def deV (l : RuL) : List Int := if ruOk l = true then deadL l l.length else []
theorem deadL_succ (l : RuL) (n : Nat) : deadL l (n + 1) = if deadB l n = true then deadL l n ++ [(n : Int)] else deadL l n := by
  rw [deadL, List.range_succ, List.filter_append]
  by_cases h : deadB l n = true
  · rw [if_pos h]; simp [h, deadL]
  · rw [if_neg h]; simp [h, deadL]
theorem deadL_len (l : RuL) (n : Nat) : (deadL l n).length ≤ n := by
  rw [deadL, List.length_map]
  have := List.length_filter_le (deadB l) (List.range n)
  simpa using this
/-- What is left of a rule's acts behind the first j before it. -/
def leftK (l : RuL) (k : Nat) : Nat → Int
  | 0 => ru1 l k
  | j + 1 => if pcB (ru0 l j) (ru0 l k) = true then bits .andNot .i64 (leftK l k j) (ru1 l j) else leftK l k j
theorem left_ok {l : RuL} (h : ∀ k, k < l.length → 1 ≤ ru1 l k ∧ ru1 l k ≤ 15) {k : Nat} (hk : k < l.length) : ∀ j, j ≤ k → (0 ≤ leftK l k j ∧ leftK l k j ≤ 15) ∧ ∀ d : Nat, d < 4 → bitB (leftK l k j) d = (bitB (ru1 l k) d && !(List.range j).any (covD l k d))
  | 0, _ => by
    have := h k hk
    refine ⟨by rw [leftK]; omega, fun d _ => ?_⟩
    rw [leftK]; simp
  | j + 1, hj => by
    obtain ⟨h1, h2⟩ := left_ok h hk j (by omega)
    have h3 := h j (by omega)
    rw [leftK]
    by_cases hp : pcB (ru0 l j) (ru0 l k) = true
    · rw [if_pos hp]
      obtain ⟨h4, h5⟩ := andNot_le h1.1 h1.2 (by omega : 0 ≤ ru1 l j) (by omega)
      refine ⟨h4, fun d hd => ?_⟩
      rw [h5 d hd, h2 d hd, List.range_succ, List.any_append]
      simp only [List.any_cons, List.any_nil, Bool.or_false, covD, hp, Bool.and_true, Bool.not_or, Bool.and_assoc]
    · rw [if_neg hp]
      refine ⟨h1, fun d hd => ?_⟩
      rw [h2 d hd, List.range_succ, List.any_append]
      simp [covD, hp]
theorem left_dead {l : RuL} (h : ∀ k, k < l.length → 1 ≤ ru1 l k ∧ ru1 l k ≤ 15) {k : Nat} (hk : k < l.length) : (leftK l k k == 0) = deadB l k := by
  obtain ⟨h1, h2⟩ := left_ok h hk k (Nat.le_refl _)
  rw [zero_le h1.1 h1.2, deadB, Bool.eq_iff_iff, decide_eq_true_eq, List.all_eq_true]
  constructor
  · intro hh d hd
    have hd4 := List.mem_range.1 hd
    have := hh d hd4
    rw [h2 d hd4] at this
    rw [covA]
    cases hb : bitB (ru1 l k) d
    · rfl
    · rw [hb] at this
      simp only [Bool.true_and, Bool.not_eq_false'] at this
      rw [this]; rfl
  · intro hh d hd
    have := hh d (List.mem_range.2 hd)
    rw [covA] at this
    rw [h2 d hd]
    cases hb : bitB (ru1 l k) d
    · rfl
    · rw [hb] at this
      simp only [Bool.not_true, Bool.false_or] at this
      rw [this]; rfl
theorem ruOk_acts {l : RuL} (h : ruOk l = true) : ∀ k, k < l.length → 1 ≤ ru1 l k ∧ ru1 l k ≤ 15 := fun k hk => (ruOk_at h hk).2
theorem ruOk_len {l : RuL} (h : ruOk l = true) : l.length ≤ 8 := by
  simp only [ruOk, Bool.and_eq_true, decide_eq_true_eq] at h
  exact h.1
theorem implPatternCovers_v {a b : ByteArray} {q : Bool} (hq : pcB a b = q) (ha : a.size ≤ 2097152) (hb : b.size ≤ 2097152) (w : World) :
    Calls Tryd.prog 73 #[.string a, .string b] w fun e w' => e = .returned (.bool q) ∧ Below w.heap.size w w' := hq ▸ implPatternCovers ha hb
theorem specPatternCovers_v {a b : ByteArray} {q : Bool} (hq : pcB a b = q) (ha : a.size ≤ 2097152) (hb : b.size ≤ 2097152) (w : World) :
    Calls Tryd.prog 74 #[.string a, .string b] w fun e w' => e = .returned (.bool q) ∧ Below w.heap.size w w' := by
  rw [← hq, pc_same]; exact specPatternCovers ha hb
set_option maxRecDepth 100000 in
set_option maxHeartbeats 8000000 in
theorem implDeadRules {A : Option Addr} {l : RuL} {c : Nat} {w : World} (hU : ruR w A l) (hf : FewP l) (hcap : l.length ≤ c) :
    Calls Tryd.prog 35 #[.slice A l.length c] w fun e w' => ∃ v, e = .returned v ∧ OwnA w.heap.size 3 1 ilEnc w' v (deV l) ∧ Below w.heap.size w w' := by
  have hlen := hU.len
  cases hok : ruOk l
  · have HD : Hid (deV l = []) := Lib.hid (by rw [deV, hok]; rfl)
    go_enter Tryd.func35, Tryd.ntmps35
    go_wp2_with fail
    refine (implRulesValid hU hf).mono ?_
    rintro e w1 ⟨rfl, hB⟩
    rw [hok]
    go_wp2
    go_ret
    exact ⟨_, rfl, by rw [HD.out]; exact OwnA.nil, hB⟩
  · have HD : Hid (deV l = deadL l l.length) := Lib.hid (by rw [deV, hok]; rfl)
    have HACT := Lib.hid (ruOk_acts hok)
    have h8 := ruOk_len hok
    go_enter Tryd.func35, Tryd.ntmps35
    go_wp2_with fail
    refine (implRulesValid hU hf).mono ?_
    rintro e w1 ⟨rfl, hB⟩
    rw [hok]
    replace hU := hU.below hB
    have HB1 := Lib.hid hB
    clear hB hok
    go_wp2
    go_loopw [3, 4, 5, 6, 8, 14] (fun ov _ _ _ _ iv wr => ∃ k : Nat, k ≤ l.length ∧ iv = .int .i64 k ∧ OwnA w1.heap.size 3 1 ilEnc wr ov (deadL l k) ∧ Below w1.heap.size w1 wr) (fun _ _ _ _ _ iv _ => l.length - (intOf iv).toNat)
    case atStart => exact ⟨0, Nat.zero_le _, rfl, OwnA.nil, Below.refl _ _⟩
    case round =>
      obtain ⟨k, hk, rfl, hO, hB⟩ := hrel
      by_cases hlt : k < l.length
      · obtain ⟨b, off, rfl, hc⟩ := hU.cells (by omega)
        obtain ⟨c0, c1, c2⟩ := hc k hlt
        replace c0 := below_cell hB c0
        replace c1 := below_cell hB c1
        replace c2 := below_cell hB c2
        have hsk := hf k hlt
        obtain ⟨Y, hY⟩ : ∃ Y, Y = wr.alloc (.cells #[.string (ru0 l k), .int .i64 (ru1 l k), .bool (ru2 l k)] 25) := ⟨_, rfl⟩
        obtain ⟨g, hg⟩ : ∃ g, g = wr.heap.size := ⟨_, rfl⟩
        have hBY : Below wr.heap.size wr Y := by rw [hY]; (repeat (first | exact Below.refl _ _ | refine ext_alloc ?_ _ | refine Below.setCell ?_ (by simp) _))
        have r0 : Y.cell? ⟨g, 0, none⟩ = some (.string (ru0 l k)) := by rw [hY, hg]; exact box_cell wr _ _ 0 _ rfl
        have r1 : Y.cell? ⟨g, 1, none⟩ = some (.int .i64 (ru1 l k)) := by rw [hY, hg]; exact box_cell wr _ _ 1 _ rfl
        have HR0 := Lib.hid r0
        have HO := Lib.hid (hO.below hBY)
        have HBY := Lib.hid (ext_trans hB hBY)
        have HY := Lib.hid hY
        have HG := Lib.hid hg
        have HC := Lib.hid hc
        have HLD := Lib.hid (left_dead HACT.out hlt)
        clear hc hY hg hBY hO hB
        go_wp2
        rw [← HY.out, ← HG.out]
        go_loopw [6, 8, 25] (fun lv _ iv wi => ∃ j : Nat, j ≤ k ∧ iv = .int .i64 j ∧ lv = .int .i64 (leftK l k j) ∧ Below Y.heap.size Y wi) (fun _ _ iv _ => k - (intOf iv).toNat)
        case atStart => exact ⟨0, Nat.zero_le _, rfl, rfl, Below.refl _ _⟩
        case round =>
          obtain ⟨j, hj, rfl, rfl, hI⟩ := hrel
          by_cases hjk : j < k
          · obtain ⟨d0, d1, _⟩ := HC.out j (by omega)
            have hIW := ext_trans HBY.out hI
            replace d0 := below_cell hIW d0
            replace d1 := below_cell hIW d1
            have d2 := below_cell hIW (HC.out j (by omega)).2.2
            have e0 := below_cell hI HR0.out
            have hgl := block_lt_of_cell e0
            have hsj := hf j (by omega)
            clear r0 r1 c0 c1 c2
            have HI := Lib.hid hI
            clear hIW
            cases hp : pcB (ru0 l j) (ru0 l k)
            · have HL := Lib.hid (show leftK l k (j + 1) = leftK l k j by rw [leftK, hp]; rfl)
              go_wp2_with fail
              refine (implPatternCovers_v hp (by omega) (by omega) _).mono ?_
              rintro e w3 ⟨rfl, hb⟩
              replace hI := ext_trans (ext_alloc hI _) hb
              clear hb
              go_wp2
              go_roundw
              case rel => exact ⟨j + 1, by omega, by go_num, by rw [HL.out], hI⟩
              case measure => simp [intOf]; omega
            · have HL := Lib.hid (show leftK l k (j + 1) = bits .andNot .i64 (leftK l k j) (ru1 l j) by rw [leftK, if_pos hp])
              go_wp2_with fail
              refine (implPatternCovers_v hp (by omega) (by omega) _).mono ?_
              rintro e w3 ⟨rfl, hb⟩
              have q1 : w3.cell? ⟨wr.heap.size, 1, none⟩ = some (.int .i64 (ru1 l j)) := below_cell hb (box_cell wr _ _ 1 _ rfl)
              replace hI := ext_trans (ext_alloc hI _) hb
              clear hb
              go_wp2
              go_roundw
              case rel => exact ⟨j + 1, by omega, by go_num, by rw [HL.out], hI⟩
              case measure => simp [intOf]; omega
          · obtain rfl : j = k := by omega
            have hld := HLD.out
            have hB := ext_trans HBY.out hI
            have hO := HO.out.below hI
            cases hd : deadB l j
            · rw [hd] at hld
              have HS := Lib.hid (show deadL l (j + 1) = deadL l j by rw [deadL_succ, hd]; rfl)
              have HO1 := Lib.hid hO
              clear hO hd
              go_wp2
              go_roundw
              case rel => exact ⟨j + 1, by omega, by go_num, by rw [HS.out]; exact HO1.out, hB⟩
              case measure => simp [intOf]; omega
            · rw [hd] at hld
              have HS := Lib.hid (show deadL l (j + 1) = deadL l j ++ [(j : Int)] by rw [deadL_succ, if_pos hd])
              have hle := deadL_len l j
              clear hd
              go_wp2_with (at_builtin; go_must (refine wpList_push (enc := ilEnc) ((j : Int)) rfl (.tmp 41) (.tmp 43) 46 3 _ 1 8 rfl Tryd.underlying46 Tryd.infoInt rfl (by decide) (fun _ => rfl) ilEnc_one (hO.below (by (repeat (first | exact Below.refl _ _ | refine ext_alloc ?_ _ | refine Below.setCell ?_ (by simp) _)))) rfl (heap_alloc_at (by simp)) (by rfl) (by omega) (by omega) (Nat.le_trans hB.size (show Below _ _ _ by (repeat (first | exact Below.refl _ _ | refine ext_alloc ?_ _ | refine Below.setCell ?_ (by simp) _))).size) ?_); intro v_ wq1 ho_ hb_ hg_)
              replace hB := (ext_trans hB (by (repeat (first | exact Below.refl _ _ | refine ext_alloc ?_ _ | refine Below.setCell ?_ (by simp) _)))).trans hb_
              replace hO := ho_
              clear ho_ hb_ hg_
              go_wp2
              go_roundw
              case rel => exact ⟨j + 1, by omega, by go_num, by rw [HS.out]; exact hO, hB⟩
              case measure => simp [intOf]; omega
      · obtain rfl : k = l.length := by omega
        have HO := Lib.hid hO
        clear hO
        go_wp2
        go_ret
        exact ⟨_, rfl, by rw [HD.out]; exact HO.out.lower HB1.out.size, ext_trans HB1.out hB⟩
end Go.Proofs.YtpmelhkhmichcaaDoor

/- Rules on roles: validity. -/
import Derived.Test.YtbimcababidjgaaApT
import Derived.Test.YtbimcababidjgaaIlB
namespace Go.Proofs.Ytbimcababidjgaa
set_option linter.unusedSimpArgs false
set_option linter.unusedVariables false
open Go.RowKit

def apGood (many : Int) (a : Ap) : Bool := ascB (apf0 a) (many - 1) && inB (apf1 a) 1 ((apf0 a).length - 1)
def apAll (many : Int) (l : ApL) : Bool := decide (∀ k, k < l.length → apGood many (apAt l k) = true)
def apOk (many : Int) (l : ApL) : Bool := apAll many l && (inB many 1 8 && decide (l.length ≤ 5))
theorem apOk_no {many : Int} {l : ApL} {k : Nat} (hk : k < l.length) (h : apGood many (apAt l k) = false) : false = apOk many l := by
  have : apAll many l = false := by
    simp only [apAll, decide_eq_false_iff_not]
    exact fun hh => by rw [hh k hk] at h; cases h
  simp [apOk, this]
theorem apOk_yes {many : Int} {l : ApL} (h : ∀ k, k < l.length → apGood many (apAt l k) = true) : apOk many l = (inB many 1 8 && decide (l.length ≤ 5)) := by
  have : apAll many l = true := by simpa only [apAll, decide_eq_true_eq] using h
  simp [apOk, this]
theorem apOk_out {many : Int} {l : ApL} (h : inB many 1 8 = false) : false = apOk many l := by simp [apOk, h]
theorem apOk_good {many : Int} {l : ApL} (h : apOk many l = true) : (1 ≤ many ∧ many ≤ 8) ∧ l.length ≤ 5 ∧ ∀ k, k < l.length → apGood many (apAt l k) = true := by
  simp only [apOk, apAll, Bool.and_eq_true, decide_eq_true_eq] at h
  exact ⟨inB_true.1 h.2.1, h.2.2, h.1⟩
/-- A truth, whichever. -/
def SomeB (w : World) (e : Ending) (w' : World) : Prop := ∃ b, e = .returned (.bool b) ∧ Below w.heap.size w w'
set_option maxHeartbeats 1000000 in
theorem ascends_some {A : Option Addr} {l : IL} {c : Nat} {lo hi : Int} {w : World} (hU : ilR w A l) :
    Calls Try.prog 51 #[.slice A l.length c, .int .i64 lo, .int .i64 hi] w (SomeB w) := by
  have hl := hU.len
  go_enter Try.func51, Try.ntmps51
  go_wp2
  go_loopw [1, 11] (fun lv i wr => ∃ (k : Nat) (x : Int), k ≤ l.length ∧ i = .int .i64 k ∧ lv = .int .i64 x ∧ Below w.heap.size w wr) (fun _ i _ => l.length - (intOf i).toNat)
  case atStart => exact ⟨0, lo, Nat.zero_le _, rfl, rfl, Below.refl _ _⟩
  case round =>
    obtain ⟨k, x, hk, rfl, rfl, hB⟩ := hrel
    by_cases hlt : k < l.length
    · obtain ⟨b, off, rfl, hc⟩ := hU.cells (by omega)
      have c0 := hc k hlt
      have m0 := below_cell hB c0
      clear c0 hc
      cases g : inB (il0 l k) x hi
      all_goals
        have HG := Lib.hid g
        clear g
        go_wp2_with fail
        refine (in_any _ _ _ _).mono ?_
        rintro e w2 ⟨rfl, hB2⟩
        rw [HG.out]
        go_wp2
      · go_ret
        exact ⟨false, rfl, ext_trans hB hB2⟩
      · go_roundw
        case rel => exact ⟨k + 1, _, by omega, by go_num, rfl, ext_trans hB hB2⟩
        case measure => simp [intOf]; omega
    · obtain rfl : k = l.length := by omega
      go_wp2
      go_ret
      exact ⟨true, rfl, hB⟩
set_option maxRecDepth 100000 in
set_option maxHeartbeats 2000000 in
theorem implApartValid_in {A : Option Addr} {l : ApL} {c : Nat} {many : Int} {w : World} (hU : apR w A l) (hm0 : 1 ≤ many) (hm1 : many ≤ 8) :
    Calls Try.prog 31 #[.int .i64 many, .slice A l.length c] w fun e w' => e = .returned (.bool (apOk many l)) ∧ Below w.heap.size w w' := by
  have hl := hU.len
  go_enter Try.func31, Try.ntmps31
  go_wp2
  go_loopw [9] (fun i wr => ∃ k : Nat, k ≤ l.length ∧ i = .int .i64 k ∧ (∀ j, j < k → apGood many (apAt l j) = true) ∧ Below w.heap.size w wr) (fun i _ => l.length - (intOf i).toNat)
  case atStart => exact ⟨0, Nat.zero_le _, rfl, fun j h => by omega, Below.refl _ _⟩
  case round =>
    obtain ⟨k, hk, rfl, hgood, hB⟩ := hrel
    have HG := Lib.hid hgood
    clear hgood
    by_cases hlt : k < l.length
    · obtain ⟨b, off, rfl, hc⟩ := apR.cells hU (by omega)
      obtain ⟨A', c', hfd, c0, c1⟩ := hc k hlt
      replace c0 := below_cell hB c0
      replace c1 := below_cell hB c1
      replace hfd := hfd.below hB
      have hll := hfd.len
      clear hc
      cases g1 : ascB (ap0 l k) (many - 1) <;> cases g2 : inB (ap1 l k) 1 ((ap0 l k).length - 1)
      all_goals
        have HG1 := Lib.hid g1
        have HG2 := Lib.hid g2
        have HGD : Hid (apGood many (apAt l k) = (ascB (ap0 l k) (many - 1) && inB (ap1 l k) 1 ((ap0 l k).length - 1))) := Lib.hid rfl
        clear g1 g2
        go_wp2_with fail
        refine (ascends_any (hi := many - 1) (hfd.below (by (repeat (first | exact Below.refl _ _ | refine ext_alloc ?_ _ | refine Below.setCell ?_ (by simp) _)))) (by omega) (by omega)).mono ?_
        rintro e w1 ⟨rfl, hb⟩
        rw [HG1.out]
        obtain ⟨hcc, hff⟩ := bcell hb
        have hz := hb.size
        simp at hz
        have hs1 : wr.heap.size < w1.heap.size := by omega
        replace hB := ext_trans (ext_alloc hB _) hb
        clear hb
      · go_wp2
        go_ret
        exact ⟨ret_bool (apOk_no hlt (by rw [HGD.out, HG1.out]; rfl)), hB⟩
      · go_wp2
        go_ret
        exact ⟨ret_bool (apOk_no hlt (by rw [HGD.out, HG1.out]; rfl)), hB⟩
      · go_wp2_with fail
        refine (in_any _ _ _ _).mono ?_
        rintro e w2 ⟨rfl, hb2⟩
        rw [HG2.out]
        replace hB := ext_trans hB hb2
        go_wp2
        go_ret
        exact ⟨ret_bool (apOk_no hlt (by rw [HGD.out, HG1.out, HG2.out]; rfl)), hB⟩
      · have HGS : Hid (∀ j, j < k + 1 → apGood many (apAt l j) = true) := Lib.hid (all_succ HG.out (by rw [HGD.out, HG1.out, HG2.out]; rfl))
        go_wp2_with fail
        refine (in_any _ _ _ _).mono ?_
        rintro e w2 ⟨rfl, hb2⟩
        rw [HG2.out]
        replace hB := ext_trans hB hb2
        go_wp2
        go_roundw
        case rel => exact ⟨k + 1, by omega, by go_num, HGS.out, hB⟩
        case measure => simp [intOf]; omega
    · obtain rfl : k = l.length := by omega
      have hin : inB many 1 8 = true := inB_true.2 ⟨hm0, hm1⟩
      have HO := Lib.hid (apOk_yes HG.out)
      have HI := Lib.hid hin
      clear hin
      go_wp2_with fail
      refine (in_any _ _ _ _).mono ?_
      rintro e w2 ⟨rfl, hb2⟩
      rw [HI.out]
      replace hB := ext_trans hB hb2
      go_wp2
      go_ret
      exact ⟨ret_bool (by rw [HO.out, HI.out]; simp; try omega), hB⟩
set_option maxRecDepth 100000 in
set_option maxHeartbeats 2000000 in
theorem implApartValid_out {A : Option Addr} {l : ApL} {c : Nat} {many : Int} {w : World} (hU : apR w A l) (hm : inB many 1 8 = false) :
    Calls Try.prog 31 #[.int .i64 many, .slice A l.length c] w fun e w' => e = .returned (.bool false) ∧ Below w.heap.size w w' := by
  have hl := hU.len
  have HM := Lib.hid hm
  clear hm
  go_enter Try.func31, Try.ntmps31
  go_wp2
  go_loopw [9] (fun i wr => ∃ k : Nat, k ≤ l.length ∧ i = .int .i64 k ∧ Below w.heap.size w wr) (fun i _ => l.length - (intOf i).toNat)
  case atStart => exact ⟨0, Nat.zero_le _, rfl, Below.refl _ _⟩
  case round =>
    obtain ⟨k, hk, rfl, hB⟩ := hrel
    by_cases hlt : k < l.length
    · obtain ⟨b, off, rfl, hc⟩ := apR.cells hU (by omega)
      obtain ⟨A', c', hfd, c0, c1⟩ := hc k hlt
      replace c0 := below_cell hB c0
      replace c1 := below_cell hB c1
      replace hfd := hfd.below hB
      have hll := hfd.len
      clear hc
      cases g2 : inB (ap1 l k) 1 ((ap0 l k).length - 1)
      all_goals
        have HG2 := Lib.hid g2
        clear g2
        go_wp2_with fail
        refine (ascends_some (hfd.below (by (repeat (first | exact Below.refl _ _ | refine ext_alloc ?_ _ | refine Below.setCell ?_ (by simp) _))))).mono ?_
        rintro e w1 ⟨x, rfl, hb⟩
        obtain ⟨hcc, hff⟩ := bcell hb
        have hz := hb.size
        simp at hz
        have hs1 : wr.heap.size < w1.heap.size := by omega
        replace hB := ext_trans (ext_alloc hB _) hb
        clear hb
        cases x
        · go_wp2
          go_ret
          exact ⟨rfl, hB⟩
      · go_wp2_with fail
        refine (in_any _ _ _ _).mono ?_
        rintro e w2 ⟨rfl, hb2⟩
        rw [HG2.out]
        replace hB := ext_trans hB hb2
        go_wp2
        go_ret
        exact ⟨rfl, hB⟩
      · go_wp2_with fail
        refine (in_any _ _ _ _).mono ?_
        rintro e w2 ⟨rfl, hb2⟩
        rw [HG2.out]
        replace hB := ext_trans hB hb2
        go_wp2
        go_roundw
        case rel => exact ⟨k + 1, by omega, by go_num, hB⟩
        case measure => simp [intOf]; omega
    · obtain rfl : k = l.length := by omega
      go_wp2_with fail
      refine (in_any _ _ _ _).mono ?_
      rintro e w2 ⟨rfl, hb2⟩
      rw [HM.out]
      replace hB := ext_trans hB hb2
      go_wp2
      go_ret
      exact ⟨rfl, hB⟩
theorem implApartValid {A : Option Addr} {l : ApL} {c : Nat} {many : Int} {w : World} (hU : apR w A l) :
    Calls Try.prog 31 #[.int .i64 many, .slice A l.length c] w fun e w' => e = .returned (.bool (apOk many l)) ∧ Below w.heap.size w w' := by
  cases h : inB many 1 8
  · rw [← apOk_out h]; exact implApartValid_out hU h
  · exact implApartValid_in hU (inB_true.1 h).1 (inB_true.1 h).2
end Go.Proofs.Ytbimcababidjgaa

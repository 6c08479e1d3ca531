/- Valid rules of a list, by the program and by the reference. -/
import Derived.Test.YtpmelhkhmichcaaDoorRuI
import Derived.Test.YtpmelhkhmichcaaDoorRuS
import Derived.Test.YtpmelhkhmichcaaDoorPaE
import Derived.Test.YtpmelhkhmichcaaDoorBas
namespace Go.Proofs.YtpmelhkhmichcaaDoor
set_option linter.unusedSimpArgs false
set_option linter.unusedVariables false
open Go.RowKit

def ruGood (l : RuL) (k : Nat) : Bool := patOk (ru0 l k) && inB (ru1 l k) 1 15
def ruOk (l : RuL) : Bool := decide (l.length ≤ 8) && decide (∀ k, k < l.length → ruGood l k = true)
theorem implPatternValid_v {s : ByteArray} {b : Bool} (hb : patOk s = b) (hs : s.size ≤ 2097152) (w : World) :
    Calls Tryd.prog 59 #[.string s] w fun e w' => e = .returned (.bool b) ∧ Below w.heap.size w w' := hb ▸ implPatternValid hs
theorem specPatternValid_v {s : ByteArray} {b : Bool} (hb : patOk s = b) (hs : s.size ≤ 2097152) (w : World) :
    Calls Tryd.prog 61 #[.string s] w fun e w' => e = .returned (.bool b) ∧ Below w.heap.size w w' := hb ▸ specPatternValid hs
theorem in_v {n lo hi : Int} {b : Bool} (hb : inB n lo hi = b) (w : World) :
    Calls Tryd.prog 60 #[.int .i64 n, .int .i64 lo, .int .i64 hi] w fun e w' => e = .returned (.bool b) ∧ Below w.heap.size w w' := hb ▸ in_any _ _ _ _
theorem l1In_v {n lo hi : Int} {b : Bool} (hb : inB n lo hi = b) (w : World) :
    Calls Tryd.prog 62 #[.int .i64 n, .int .i64 lo, .int .i64 hi] w fun e w' => e = .returned (.bool b) ∧ Below w.heap.size w w' := hb ▸ l1In_any _ _ _ _
set_option maxHeartbeats 1000000 in
theorem ruV1_any {s : ByteArray} {a : Int} {b : Bool} {w : World} (hs : s.size ≤ 2097152) :
    Calls Tryd.prog 58 #[.agg #[.string s, .int .i64 a, .bool b]] w fun e w' => e = .returned (.bool (!(patOk s && inB a 1 15))) ∧ Below w.heap.size w w' := by
  obtain ⟨W, hW⟩ : ∃ W, W = w.alloc (.cells #[.string s, .int .i64 a, .bool b] 25) := ⟨_, rfl⟩
  have hB : Below w.heap.size w W := by rw [hW]; (repeat (first | exact Below.refl _ _ | refine ext_alloc ?_ _ | refine Below.setCell ?_ (by simp) _))
  have b0 : W.cell? ⟨w.heap.size, 0, none⟩ = some (.string s) := by rw [hW]; exact box_cell w _ _ 0 _ rfl
  have b1 : W.cell? ⟨w.heap.size, 1, none⟩ = some (.int .i64 a) := by rw [hW]; exact box_cell w _ _ 1 _ rfl
  have HW := Lib.hid hW
  clear hW
  cases hp : patOk s
  · go_enter Tryd.func58, Tryd.ntmps58
    go_wp2_with fail
    rw [← HW.out]
    refine (implPatternValid_v hp hs _).mono ?_
    rintro e w1 ⟨rfl, hb⟩
    replace hB := ext_trans hB hb
    go_wp2
    go_ret
    exact ⟨rfl, hB⟩
  · cases hi : inB a 1 15
    all_goals
      go_enter Tryd.func58, Tryd.ntmps58
      go_wp2_with fail
      rw [← HW.out]
      refine (implPatternValid_v hp hs _).mono ?_
      rintro e w1 ⟨rfl, hb⟩
      replace hB := ext_trans hB hb
      replace b0 := below_cell hb b0
      replace b1 := below_cell hb b1
      clear hb
      go_wp2_with fail
      refine (in_v hi _).mono ?_
      rintro e w2 ⟨rfl, hb⟩
      replace hB := ext_trans hB hb
      go_wp2
      go_ret
      exact ⟨rfl, hB⟩
theorem enters_ruV1 : ∀ args w, (callFunc 58 args).run Tryd.prog w = .ok (.enter 58 args) w := enters_of Tryd.func58 (by kernel_rfl) rfl
set_option maxHeartbeats 1000000 in
theorem implRulesValid {A : Option Addr} {l : RuL} {c : Nat} {w : World} (hU : ruR w A l) (hf : FewP l) :
    Calls Tryd.prog 21 #[.slice A l.length c] w fun e w' => e = .returned (.bool (ruOk l)) ∧ Below w.heap.size w w' := by
  have hlen := hU.len
  obtain ⟨q, hq⟩ : ∃ q, decide (∀ k, k < l.length → ruGood l k = true) = q := ⟨_, rfl⟩
  have hq2 : (List.range l.length).any (fun k => !ruGood l k) = !q := by rw [← hq, ← any_not]; simp
  have hcon := containsFunc_ru (A := A) (c := c) (w := w) (p := fun k => !ruGood l k) (lb := #[]) enters_ruV1 hU (fun k hk X _ => ruV1_any (by have := hf k hk; omega)) hq2
  have HC := Lib.hid hcon
  have HQ := Lib.hid hq
  clear hcon hq hq2
  by_cases h8 : l.length ≤ 8
  · have HR : Hid (ruOk l = q) := Lib.hid (by rw [ruOk, decide_eq_true h8, HQ.out]; rfl)
    go_enter Tryd.func21, Tryd.ntmps21
    go_wp2_with fail
    refine HC.out.mono ?_
    rintro e w1 ⟨rfl, hB⟩
    go_wp2
    go_ret
    exact ⟨by rw [HR.out]; cases q <;> rfl, hB⟩
  · have HR : Hid (ruOk l = false) := Lib.hid (by rw [ruOk, decide_eq_false h8]; rfl)
    go_enter Tryd.func21, Tryd.ntmps21
    go_wp2
    go_ret
    exact ⟨by rw [HR.out]; rfl, Below.refl _ _⟩
theorem ruOk_no {l : RuL} {k : Nat} (hk : k < l.length) (h : ruGood l k = false) : ruOk l = false := by
  rw [ruOk, Bool.and_eq_false_iff]
  right
  rw [decide_eq_false_iff_not]
  intro hh
  rw [hh k hk] at h
  cases h
theorem ruOk_yes {l : RuL} (h : ∀ k, k < l.length → ruGood l k = true) : ruOk l = decide ((l.length : Int) ≤ 8) := by
  rw [ruOk, decide_eq_true h, Bool.and_true]
  exact decide_eq_decide.2 (by omega)
set_option maxRecDepth 100000 in
set_option maxHeartbeats 2000000 in
theorem specRulesValid {A : Option Addr} {l : RuL} {c : Nat} {w : World} (hU : ruR w A l) (hf : FewP l) :
    Calls Tryd.prog 22 #[.slice A l.length c] w fun e w' => e = .returned (.bool (ruOk l)) ∧ Below w.heap.size w w' := by
  have hlen := hU.len
  go_enter Tryd.func22, Tryd.ntmps22
  go_wp2
  go_loopw [3] (fun iv wr => ∃ k : Nat, k ≤ l.length ∧ iv = .int .i64 k ∧ Hid (∀ j, j < k → ruGood l j = true) ∧ Below w.heap.size w wr) (fun iv _ => l.length - (intOf iv).toNat)
  case atStart => exact ⟨0, Nat.zero_le _, rfl, Lib.hid (fun j h => by omega), Below.refl _ _⟩
  case round =>
    obtain ⟨k, hk, rfl, HG, hB⟩ := hrel
    by_cases hlt : k < l.length
    · obtain ⟨b, off, rfl, hc⟩ := hU.cells (by omega)
      obtain ⟨c0, c1, _⟩ := hc k hlt
      replace c0 := below_cell hB c0
      replace c1 := below_cell hB c1
      have hs := hf k hlt
      clear hc
      cases hp : patOk (ru0 l k)
      · have HN := Lib.hid (ruOk_no hlt (by rw [ruGood, hp]; rfl))
        go_wp2_with fail
        refine (specPatternValid_v hp (by omega) _).mono ?_
        rintro e w1 ⟨rfl, hb⟩
        replace hB := ext_trans hB hb
        clear hb c0 c1
        go_wp2
        go_ret
        exact ⟨by rw [HN.out]; rfl, hB⟩
      · cases hi : inB (ru1 l k) 1 15
        · have HN := Lib.hid (ruOk_no hlt (by rw [ruGood, hp, hi]; rfl))
          go_wp2_with fail
          refine (specPatternValid_v hp (by omega) _).mono ?_
          rintro e w1 ⟨rfl, hb⟩
          replace hB := ext_trans hB hb
          replace c1 := below_cell hb c1
          clear hb c0
          go_wp2_with fail
          refine (l1In_v hi _).mono ?_
          rintro e w2 ⟨rfl, hb⟩
          replace hB := ext_trans hB hb
          clear hb c1
          go_wp2
          go_ret
          exact ⟨by rw [HN.out]; rfl, hB⟩
        · have HN := Lib.hid (show ruGood l k = true by rw [ruGood, hp, hi]; rfl)
          go_wp2_with fail
          refine (specPatternValid_v hp (by omega) _).mono ?_
          rintro e w1 ⟨rfl, hb⟩
          replace hB := ext_trans hB hb
          replace c1 := below_cell hb c1
          clear hb c0
          go_wp2_with fail
          refine (l1In_v hi _).mono ?_
          rintro e w2 ⟨rfl, hb⟩
          replace hB := ext_trans hB hb
          clear hb c1
          go_wp2
          go_roundw
          case rel => exact ⟨k + 1, by omega, by go_num, Lib.hid (all_succ HG.out HN.out), hB⟩
          case measure => simp [intOf]; omega
    · obtain rfl : k = l.length := by omega
      have HY := Lib.hid (ruOk_yes HG.out)
      go_wp2
      go_ret
      exact ⟨by rw [HY.out]; rfl, hB⟩
end Go.Proofs.YtpmelhkhmichcaaDoor

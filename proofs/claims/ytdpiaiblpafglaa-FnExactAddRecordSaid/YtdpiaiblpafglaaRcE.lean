/- Refused requests. -/
import Derived.Test.YtdpiaiblpafglaaRcD
namespace Go.Proofs.Ytdpiaiblpafglaa
set_option linter.unusedSimpArgs false
set_option linter.unusedVariables false
open Go.RowKit

def rcRefP (who : Int) (r : Rc) : Bool := decide (rwho r = who) && !ral r
def rcCnt (l : RcL) (who : Int) (k : Nat) : Int := (((l.take k).filter (rcRefP who)).length : Int)
def rcRefBy (l : RcL) (who : Int) : Int := if rcRight l = -1 then ((l.filter (rcRefP who)).length : Int) else -1
theorem rcRight_ge (l : RcL) : -2 ≤ rcRight l := by
  unfold rcRight
  split
  · omega
  · rcases firstOf_cases (p := rcBad l) l.length 0 with ⟨h, _⟩ | h <;> omega
theorem rcCnt_succ (l : RcL) (who : Int) {k : Nat} (hk : k < l.length) : rcCnt l who (k + 1) = if rc1 l k = who ∧ rc5 l k = false then rcCnt l who k + 1 else rcCnt l who k := by
  have e : rcRefP who l[k] = (decide (rc1 l k = who) && !rc5 l k) := by rw [← rcAt_eq hk]; rfl
  unfold rcCnt
  rw [List.take_succ_eq_append_getElem hk, List.filter_append]
  by_cases h1 : rc1 l k = who
  · cases h2 : rc5 l k
    · simp [List.filter_cons, e, h1, h2]
    · simp [List.filter_cons, e, h1, h2]
  · simp [List.filter_cons, e, h1]

set_option maxRecDepth 100000 in
set_option maxHeartbeats 4000000 in
theorem implRefusedBy {A : Option Addr} {l : RcL} {c : Nat} {who : Int} {w : World} (hU : rcR w A l) :
    Calls Try.prog 22 #[.slice A l.length c, .int .i64 who] w fun e w' => e = .returned (.int .i64 (rcRefBy l who)) ∧ Below w.heap.size w w' := by
  have hl := hU.len
  have hn := rcRight_ge l
  by_cases g2 : rcRight l = -1
  · have HA : Hid (rcRefBy l who = rcCnt l who l.length) := Lib.hid (by rw [rcRefBy, if_pos g2, rcCnt, List.take_length])
    have HR : Hid (rcRight l = -1) := Lib.hid g2
    clear g2
    go_enter Try.func22, Try.ntmps22
    go_wp2_with fail
    refine (implRecordsRight hU).mono ?_
    rintro e w1 ⟨rfl, hb⟩
    rw [HR.out]
    replace hU := hU.below hb
    obtain ⟨W, hW⟩ : ∃ W, W = w1 := ⟨_, rfl⟩
    rw [← hW] at hb hU
    have HW := Lib.hid hW
    have HB := Lib.hid hb
    clear hW hb hn HR
    go_wp2
    go_loopw [5, 13] (fun nv iv wr => ∃ (k : Nat) (n : Int), k ≤ l.length ∧ iv = .int .i64 k ∧ nv = .int .i64 n ∧ n = rcCnt l who k ∧ (0 ≤ n ∧ n ≤ k) ∧ Below W.heap.size W wr) (fun _ iv _ => l.length - (intOf iv).toNat)
    case atStart => exact ⟨0, 0, by omega, rfl, rfl, rfl, by omega, by rw [HW.out]; exact Below.refl _ _⟩
    case round =>
      obtain ⟨k, n, hk, rfl, rfl, hn, ⟨n0, n1⟩, hC⟩ := hrel
      have HN := Lib.hid hn
      clear hn
      by_cases hlt : k < l.length
      · have HST := Lib.hid (rcCnt_succ l who hlt)
        obtain ⟨bb, off, rfl, hc⟩ := hU.cells (by omega)
        obtain ⟨A', c', _, c0, c1, c2, c3, c4, c5, c6⟩ := hc k hlt
        replace c0 := below_cell hC c0
        replace c1 := below_cell hC c1
        replace c2 := below_cell hC c2
        replace c3 := below_cell hC c3
        replace c4 := below_cell hC c4
        replace c5 := below_cell hC c5
        replace c6 := below_cell hC c6
        clear hc
        by_cases g1 : rc1 l k = who
        · have g3 : (rc1 l k == who) = true := by simp [g1]
          cases g5 : rc5 l k
          · rw [g5] at c5
            have HG5 := Lib.hid g5
            have HG1 := Lib.hid g1
            clear g1 g5
            go_wp2
            go_roundw
            case rel => exact ⟨k + 1, n + 1, by omega, by go_num, by go_num, by rw [HST.out, if_pos ⟨HG1.out, HG5.out⟩, HN.out], by omega, ext_alloc hC _⟩
            case measure => simp [intOf]; omega
          · rw [g5] at c5
            have HG5 := Lib.hid g5
            clear g1 g5
            go_wp2
            go_roundw
            case rel => exact ⟨k + 1, n, by omega, by go_num, rfl, by rw [HST.out, if_neg (by rw [HG5.out]; simp), HN.out], by omega, ext_alloc hC _⟩
            case measure => simp [intOf]; omega
        · have g3 : (rc1 l k == who) = false := by simp [g1]
          have HG1 := Lib.hid g1
          clear g1
          go_wp2
          go_roundw
          case rel => exact ⟨k + 1, n, by omega, by go_num, rfl, by rw [HST.out, if_neg (fun h => HG1.out h.1), HN.out], by omega, ext_alloc hC _⟩
          case measure => simp [intOf]; omega
      · obtain rfl : k = l.length := by omega
        go_wp2
        go_ret
        exact ⟨ret_int (by rw [HA.out, HN.out]), ext_trans HB.out hC⟩
  · have HA : Hid (rcRefBy l who = -1) := Lib.hid (by rw [rcRefBy, if_neg g2])
    obtain ⟨n, hnn⟩ : ∃ n, n = rcRight l := ⟨_, rfl⟩
    have g3 : (n != -1) = true := by rw [hnn]; simp [g2]
    have HN := Lib.hid hnn
    clear g2 hn hnn
    go_enter Try.func22, Try.ntmps22
    go_wp2_with fail
    refine (implRecordsRight hU).mono ?_
    rintro e w1 ⟨rfl, hb⟩
    rw [← HN.out]
    go_wp2
    go_ret
    exact ⟨ret_int HA.out.symm, hb⟩

set_option maxRecDepth 100000 in
set_option maxHeartbeats 4000000 in
theorem specRefusedBy {A : Option Addr} {l : RcL} {c : Nat} {who : Int} {w : World} (hU : rcR w A l) :
    Calls Try.prog 23 #[.slice A l.length c, .int .i64 who] w fun e w' => e = .returned (.int .i64 (rcRefBy l who)) ∧ Below w.heap.size w w' := by
  have hl := hU.len
  have hn := rcRight_ge l
  by_cases g2 : rcRight l = -1
  · have HA : Hid (rcRefBy l who = rcCnt l who l.length) := Lib.hid (by rw [rcRefBy, if_pos g2, rcCnt, List.take_length])
    have HR : Hid (rcRight l = -1) := Lib.hid g2
    clear g2
    go_enter Try.func23, Try.ntmps23
    go_wp2_with fail
    refine (specRecordsRight hU).mono ?_
    rintro e w1 ⟨rfl, hb⟩
    rw [HR.out]
    replace hU := hU.below hb
    obtain ⟨W, hW⟩ : ∃ W, W = w1 := ⟨_, rfl⟩
    rw [← hW] at hb hU
    have HW := Lib.hid hW
    have HB := Lib.hid hb
    clear hW hb hn HR
    go_wp2
    go_loopw [5, 6] (fun nv iv wr => ∃ (k : Nat) (n : Int), k ≤ l.length ∧ iv = .int .i64 k ∧ nv = .int .i64 n ∧ n = rcCnt l who k ∧ (0 ≤ n ∧ n ≤ k) ∧ Below W.heap.size W wr) (fun _ iv _ => l.length - (intOf iv).toNat)
    case atStart => exact ⟨0, 0, by omega, rfl, rfl, rfl, by omega, by rw [HW.out]; exact Below.refl _ _⟩
    case round =>
      obtain ⟨k, n, hk, rfl, rfl, hn, ⟨n0, n1⟩, hC⟩ := hrel
      have HN := Lib.hid hn
      clear hn
      by_cases hlt : k < l.length
      · have HST := Lib.hid (rcCnt_succ l who hlt)
        obtain ⟨bb, off, rfl, hc⟩ := hU.cells (by omega)
        obtain ⟨A', c', _, c0, c1, c2, c3, c4, c5, c6⟩ := hc k hlt
        replace c0 := below_cell hC c0
        replace c1 := below_cell hC c1
        replace c2 := below_cell hC c2
        replace c3 := below_cell hC c3
        replace c4 := below_cell hC c4
        replace c5 := below_cell hC c5
        replace c6 := below_cell hC c6
        clear hc
        by_cases g1 : rc1 l k = who
        · have g3 : (rc1 l k == who) = true := by simp [g1]
          cases g5 : rc5 l k
          · rw [g5] at c5
            have HG5 := Lib.hid g5
            have HG1 := Lib.hid g1
            clear g1 g5
            go_wp2
            go_roundw
            case rel => exact ⟨k + 1, n + 1, by omega, by go_num, by go_num, by rw [HST.out, if_pos ⟨HG1.out, HG5.out⟩, HN.out], by omega, hC⟩
            case measure => simp [intOf]; omega
          · rw [g5] at c5
            have HG5 := Lib.hid g5
            clear g1 g5
            go_wp2
            go_roundw
            case rel => exact ⟨k + 1, n, by omega, by go_num, rfl, by rw [HST.out, if_neg (by rw [HG5.out]; simp), HN.out], by omega, hC⟩
            case measure => simp [intOf]; omega
        · have g3 : (rc1 l k == who) = false := by simp [g1]
          have HG1 := Lib.hid g1
          clear g1
          go_wp2
          go_roundw
          case rel => exact ⟨k + 1, n, by omega, by go_num, rfl, by rw [HST.out, if_neg (fun h => HG1.out h.1), HN.out], by omega, hC⟩
          case measure => simp [intOf]; omega
      · obtain rfl : k = l.length := by omega
        go_wp2
        go_ret
        exact ⟨ret_int (by rw [HA.out, HN.out]), ext_trans HB.out hC⟩
  · have HA : Hid (rcRefBy l who = -1) := Lib.hid (by rw [rcRefBy, if_neg g2])
    obtain ⟨n, hnn⟩ : ∃ n, n = rcRight l := ⟨_, rfl⟩
    have g3 : (n != -1) = true := by rw [hnn]; simp [g2]
    have HN := Lib.hid hnn
    clear g2 hn hnn
    go_enter Try.func23, Try.ntmps23
    go_wp2_with fail
    refine (specRecordsRight hU).mono ?_
    rintro e w1 ⟨rfl, hb⟩
    rw [← HN.out]
    go_wp2
    go_ret
    exact ⟨ret_int HA.out.symm, hb⟩

end Go.Proofs.Ytdpiaiblpafglaa

/- VisitsValid of the program. -/
import Derived.Test.YtflhmkpabhedjaaViA
import Derived.Test.YtflhmkpabhedjaaPer
import Derived.Test.YtflhmkpabhedjaaTim
import Derived.Test.YtflhmkpabhedjaaMap
import Derived.Deep.DeepMust
namespace Go.Proofs.Ytflhmkpabhedjaa
open Go.RowKit

def viSeen (l : ViL) (k : Nat) (z : Int) : Bool := decide (∃ j, j < k ∧ vi0 l j = z)
theorem viSeen_zero (l : ViL) (z : Int) : (fun _ => false : Int → Bool) z = viSeen l 0 z := by simp [viSeen]
theorem viSeen_succ (l : ViL) (k : Nat) (z : Int) : (if z = vi0 l k then true else viSeen l k z) = viSeen l (k + 1) z := by
  rw [Bool.eq_iff_iff]
  by_cases e : z = vi0 l k
  · rw [if_pos e]; simp only [viSeen, decide_eq_true_eq, true_iff]; exact ⟨k, by omega, e.symm⟩
  · rw [if_neg e]
    simp only [viSeen, decide_eq_true_eq]
    constructor
    · rintro ⟨j, h1, h2⟩; exact ⟨j, by omega, h2⟩
    · rintro ⟨j, h1, h2⟩
      by_cases e2 : j = k
      · subst e2; exact absurd h2.symm e
      · exact ⟨j, by omega, h2⟩
theorem viSeen_new (l : ViL) (k : Nat) : viNew l k = !viSeen l k (vi0 l k) := by
  rw [Bool.eq_iff_iff]
  simp [viNew, viSeen]

set_option maxRecDepth 100000 in
set_option maxHeartbeats 4000000 in
theorem implVisitsValid {A : Option Addr} {l : ViL} {c : Nat} {long idle : Int} {w : World} (hU : viR w A l) :
    Calls Try.prog 15 #[.agg #[.int .i64 long, .int .i64 idle], .slice A l.length c] w fun e w' => e = .returned (.bool (viOk long idle l)) ∧ Below w.heap.size w w' := by
  have hmm := @run_makeMap Try.prog
  have hl := hU.len
  obtain ⟨W, hW⟩ : ∃ W, W = w.alloc (.cells #[.int .i64 long, .int .i64 idle] 27) := ⟨_, rfl⟩
  have q0 : W.cell? ⟨w.heap.size, 0, none⟩ = some (.int .i64 long) := by rw [hW]; exact box_cell w #[.int .i64 long, .int .i64 idle] 27 0 (.int .i64 long) rfl
  have q1 : W.cell? ⟨w.heap.size, 1, none⟩ = some (.int .i64 idle) := by rw [hW]; exact box_cell w #[.int .i64 long, .int .i64 idle] 27 1 (.int .i64 idle) rfl
  have hB0 : Below w.heap.size w W := by rw [hW]; exact below_alloc _ _
  replace hU := hU.below hB0
  have hsz : W.heap.size = w.heap.size + 1 := by rw [hW]; simp
  have hM0 := MapB.made W
  rw [hsz] at hM0
  obtain ⟨bm, hbm⟩ : ∃ b, b = w.heap.size + 1 := ⟨_, rfl⟩
  rw [← hbm] at hM0 hsz
  have hWb : W.heap.size ≤ bm := by omega
  have HW := Lib.hid hW
  have HB := Lib.hid hbm
  have HM0 := Lib.hid hM0
  clear hW hbm hsz hM0
  go_enter Try.func15, Try.ntmps15
  go_wp2_with fail
  rw [← HW.out, ← HB.out]
  go_loopw [11] (fun i wr => ∃ k : Nat, k ≤ l.length ∧ i = .int .i64 k ∧ (∀ j, j < k → viGood l j = true) ∧ MapB wr bm k (viSeen l k) ∧ Below W.heap.size W wr) (fun i _ => l.length - (intOf i).toNat)
  case atStart => exact ⟨0, Nat.zero_le _, rfl, fun j h => by omega, HM0.out.ext (viSeen_zero l), below_alloc _ _⟩
  case round =>
    clear HM0
    obtain ⟨k, hk, rfl, hgood, hM, hC⟩ := hrel
    have HG := Lib.hid hgood
    clear hgood
    have p0 := below_cell hC q0
    have p1 := below_cell hC q1
    by_cases hlt : k < l.length
    · obtain ⟨b, off, rfl, hc⟩ := hU.cells (by omega)
      obtain ⟨c0, c1, c2⟩ := hc k hlt
      have m0 := below_cell hC c0
      have m1 := below_cell hC c1
      have m2 := below_cell hC c2
      clear c0 c1 c2 hc p0 p1
      have y0 := box_cell wr #[.int .i64 (vi0 l k), .int .i64 (vi1 l k), .int .i64 (vi2 l k)] 38 0 (.int .i64 (vi0 l k)) rfl
      have y1 := box_cell wr #[.int .i64 (vi0 l k), .int .i64 (vi1 l k), .int .i64 (vi2 l k)] 38 1 (.int .i64 (vi1 l k)) rfl
      have y2 := box_cell wr #[.int .i64 (vi0 l k), .int .i64 (vi1 l k), .int .i64 (vi2 l k)] 38 2 (.int .i64 (vi2 l k)) rfl
      replace hC := ext_alloc hC (.cells #[.int .i64 (vi0 l k), .int .i64 (vi1 l k), .int .i64 (vi2 l k)] 38)
      replace hM := hM.below (below_alloc wr (.cells #[.int .i64 (vi0 l k), .int .i64 (vi1 l k), .int .i64 (vi2 l k)] 38))
      cases g1 : inB (vi0 l k) 0 6
      · go_wp2_with fail
        refine (isPerson_any _ _).mono ?_
        rintro e w1 ⟨rfl, hBc⟩
        replace hC := ext_trans hC hBc
        go_wp2
        go_ret
        exact ⟨ret_bool (viOk_no hlt (by simp [viGood, viOne, g1])).symm, hB0.trans (hC.mono hB0.size)⟩
      · have hwf : (Lit.int .i64 (vi0 l k)).wf = true := by have := inB_true.1 g1; exact WalkArith.wf_i64 (by omega)
        cases g2 : viSeen l k (vi0 l k)
        · cases g3 : inB (vi1 l k) 0 1000
          · go_wp2_with fail
            refine (isPerson_any _ _).mono ?_
            rintro e w1 ⟨rfl, hBc⟩
            replace hC := ext_trans hC hBc
            replace hM := hM.below hBc
            replace y0 := below_cell hBc y0
            replace y1 := below_cell hBc y1
            clear hBc
            have hlk := hM.look hwf
            go_wp2_with fail
            clear hlk
            refine (isTime_any _ _).mono ?_
            rintro e w2 ⟨rfl, hBc⟩
            replace hC := ext_trans hC hBc
            go_wp2
            go_ret
            exact ⟨ret_bool (viOk_no hlt (by simp [viGood, viOne, g3])).symm, hB0.trans (hC.mono hB0.size)⟩
          · cases g4 : inB (vi2 l k) (vi1 l k) 1000
            · go_wp2_with fail
              refine (isPerson_any _ _).mono ?_
              rintro e w1 ⟨rfl, hBc⟩
              replace hC := ext_trans hC hBc
              replace hM := hM.below hBc
              replace y0 := below_cell hBc y0
              replace y1 := below_cell hBc y1
              replace y2 := below_cell hBc y2
              clear hBc
              have hlk := hM.look hwf
              go_wp2_with fail
              clear hlk
              refine (isTime_any _ _).mono ?_
              rintro e w2 ⟨rfl, hBc⟩
              replace hC := ext_trans hC hBc
              replace y1 := below_cell hBc y1
              replace y2 := below_cell hBc y2
              clear hBc
              go_wp2_with fail
              refine (in_any _ _ _ _).mono ?_
              rintro e w3 ⟨rfl, hBc⟩
              replace hC := ext_trans hC hBc
              go_wp2
              go_ret
              exact ⟨ret_bool (viOk_no hlt (by simp [viGood, viOne, g4])).symm, hB0.trans (hC.mono hB0.size)⟩
            · have HO : Hid (viGood l k = true) := Lib.hid (by simp [viGood, viOne, g1, g3, g4, viSeen_new, g2])
              go_wp2_with fail
              refine (isPerson_any _ _).mono ?_
              rintro e w1 ⟨rfl, hBc⟩
              replace hC := ext_trans hC hBc
              replace hM := hM.below hBc
              replace y0 := below_cell hBc y0
              replace y1 := below_cell hBc y1
              replace y2 := below_cell hBc y2
              clear hBc
              have hlk := hM.look hwf
              go_wp2_with fail
              clear hlk
              refine (isTime_any _ _).mono ?_
              rintro e w2 ⟨rfl, hBc⟩
              replace hC := ext_trans hC hBc
              replace hM := hM.below hBc
              replace y0 := below_cell hBc y0
              replace y1 := below_cell hBc y1
              replace y2 := below_cell hBc y2
              clear hBc
              go_wp2_with fail
              refine (in_any _ _ _ _).mono ?_
              rintro e w3 ⟨rfl, hBc⟩
              replace hC := ext_trans hC hBc
              replace hM := hM.below hBc
              replace y0 := below_cell hBc y0
              clear hBc y1 y2
              have hS := viSeen_succ l k
              have HS := Lib.hid hS
              clear hS
              go_wp2_with (at_mapUpdate; go_must (refine wpList_put_mapB rfl (.tmp 39) (.tmp 41) (.const (.bool true)) rfl hM rfl rfl rfl hwf (by omega) ?_); intro w4 hM4 hg4)
              have hC4 := ext_grown hC hg4 (fun k e => by cases e; exact hWb)
              clear hg4
              go_roundw
              case rel => exact ⟨k + 1, by omega, by go_num, all_succ HG.out HO.out, hM4.ext HS.out, hC4⟩
              case measure => simp [intOf]; omega
        · go_wp2_with fail
          refine (isPerson_any _ _).mono ?_
          rintro e w1 ⟨rfl, hBc⟩
          replace hC := ext_trans hC hBc
          replace hM := hM.below hBc
          replace y0 := below_cell hBc y0
          clear hBc
          have hlk := hM.look hwf
          go_wp2_with fail
          clear hlk
          go_ret
          exact ⟨ret_bool (viOk_no hlt (by simp [viGood, viSeen_new, g2])).symm, hB0.trans (hC.mono hB0.size)⟩
    · obtain rfl : k = l.length := by omega
      have HE : Hid (viOk long idle l = viEnds long idle l) := Lib.hid (viOk_yes HG.out)
      by_cases g0 : l.length ≤ 6
      · cases g1 : inB long 1 1000
        · go_wp2_with fail
          refine (in_any _ _ _ _).mono ?_
          rintro e w1 ⟨rfl, hBc⟩
          replace hC := ext_trans hC hBc
          go_wp2
          go_ret
          exact ⟨ret_bool (by rw [HE.out]; simp [viEnds, g1]), hB0.trans (hC.mono hB0.size)⟩
        · go_wp2_with fail
          refine (in_any _ _ _ _).mono ?_
          rintro e w1 ⟨rfl, hBc⟩
          replace hC := ext_trans hC hBc
          replace p1 := below_cell hBc p1
          clear hBc
          go_wp2_with fail
          refine (in_any _ _ _ _).mono ?_
          rintro e w2 ⟨rfl, hBc⟩
          replace hC := ext_trans hC hBc
          go_wp2
          go_ret
          exact ⟨ret_bool (by rw [HE.out]; simp [viEnds, g1, g0]), hB0.trans (hC.mono hB0.size)⟩
      · go_wp2
        go_ret
        exact ⟨ret_bool (by rw [HE.out]; simp [viEnds, g0]), hB0.trans (hC.mono hB0.size)⟩
end Go.Proofs.Ytflhmkpabhedjaa

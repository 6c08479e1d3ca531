/- Fields, worlds and requests: whether they are valid, by the reference. -/
import Derived.Test.YtodjokdaofefdaaQ9
namespace Go.Proofs.Ytodjokdaofefdaa
set_option linter.unusedSimpArgs false
set_option linter.unusedVariables false
open Go.RowKit

theorem ascCases (l : IL) (hi : Int) (k : Nat) : (inB (il0 l k) 0 hi = false ∧ ascAt l hi k = false) ∨ (inB (il0 l k) 0 hi = true ∧ (¬ 0 < k ∧ ascAt l hi k = true ∨ 0 < k ∧ (il0 l k ≤ il0 l (k - 1) ∧ ascAt l hi k = false ∨ il0 l (k - 1) < il0 l k ∧ ascAt l hi k = true))) := by
  have h := ascAt_iff (l := l) (hi := hi) (k := k)
  cases g : inB (il0 l k) 0 hi
  · left
    refine ⟨rfl, ?_⟩
    rw [Bool.eq_false_iff]
    intro hh
    rw [inB_true.2 (h.1 hh).1] at g
    cases g
  · right
    have gb := inB_true.1 g
    refine ⟨rfl, ?_⟩
    by_cases hk : 0 < k
    · right
      refine ⟨hk, ?_⟩
      by_cases hl : il0 l (k - 1) < il0 l k
      · right; exact ⟨hl, h.2 ⟨gb, fun _ => hl⟩⟩
      · left
        refine ⟨by omega, ?_⟩
        rw [Bool.eq_false_iff]
        exact fun hh => hl ((h.1 hh).2 hk)
    · left; exact ⟨hk, h.2 ⟨gb, fun hh => absurd hh hk⟩⟩
set_option maxRecDepth 100000 in
set_option maxHeartbeats 4000000 in
theorem specFields {A : Option Addr} {l : FdL} {c many : Nat} {w : World} (hU : fdR w A l) (hw : WfFd l) :
    Calls Try.prog 138 #[.slice A l.length c, .int .i64 many] w fun e w' => e = .returned (.bool (fdsOk many l)) ∧ Below w.heap.size w w' := by
  have hlen := hU.len
  have HW := Lib.hid hw
  clear hw
  go_enter Try.func138, Try.ntmps138
  go_wp2
  go_loopw [5] (fun i wr => ∃ k : Nat, k ≤ l.length ∧ i = .int .i64 k ∧ Hid (∀ j, j < k → FdP many l j) ∧ Below w.heap.size w wr) (fun i _ => l.length - (intOf i).toNat)
  case atStart => exact ⟨0, Nat.zero_le _, rfl, Lib.hid (fun j h => by omega), Below.refl _ _⟩
  case round =>
    obtain ⟨k, hk, rfl, HG, hB⟩ := hrel
    by_cases hlt : k < l.length
    · obtain ⟨b, off, rfl, hc⟩ := hU.cells (by omega)
      obtain ⟨c0, c1, c2⟩ := hc k hlt
      have m0 := below_cell hB c0
      have m1 := below_cell hB c1
      have m2 := below_cell hB c2
      have HC := Lib.hid (fun k hk => (hc k hk).1)
      have HS := Lib.hid (HW.out.at hlt)
      clear c0 c1 c2 hc
      cases g1 : nmOk (fd0 l k)
      · have HE : Hid (fdsOk many l = false) := Lib.hid (fds_no hlt (fun h => by rw [h.1] at g1; cases g1))
        go_wp2_with fail
        refine (specNameValid _ HS.out _).mono ?_
        rintro e w1 ⟨rfl, hb⟩
        rw [g1]
        replace hB := ext_trans hB hb
        clear hb m0 m1 m2
        go_wp2
        go_ret
        exact ⟨by rw [HE.out]; rfl, hB⟩
      · cases g2 : vlB (fd1 l k) (fd2 l k) many
        · have HE : Hid (fdsOk many l = false) := Lib.hid (fds_no hlt (fun h => by rw [h.2.1] at g2; cases g2))
          go_wp2_with fail
          refine (specNameValid _ HS.out _).mono ?_
          rintro e w1 ⟨rfl, hb⟩
          rw [g1]
          replace hB := ext_trans hB hb
          replace m1 := below_cell hb m1
          replace m2 := below_cell hb m2
          clear hb m0
          go_wp2_with fail
          refine (specValueValid _ _ _ _).mono ?_
          rintro e w2 ⟨rfl, hb⟩
          rw [g2]
          replace hB := ext_trans hB hb
          clear hb m1 m2
          go_wp2
          go_ret
          exact ⟨by rw [HE.out]; rfl, hB⟩
        · go_wp2_with fail
          refine (specNameValid _ HS.out _).mono ?_
          rintro e w1 ⟨rfl, hb⟩
          rw [g1]
          replace hB := ext_trans hB hb
          replace m1 := below_cell hb m1
          replace m2 := below_cell hb m2
          clear hb m0
          go_wp2_with fail
          refine (specValueValid _ _ _ _).mono ?_
          rintro e w2 ⟨rfl, hb⟩
          rw [g2]
          replace hB := ext_trans hB hb
          clear hb m1 m2
          have H1 := Lib.hid g1
          have H2 := Lib.hid g2
          clear g1 g2
          go_wp2
          go_loopw [6] (fun i w3 => ∃ j : Nat, j ≤ k ∧ i = .int .i64 j ∧ Hid (∀ i, i < j → fd0 l i ≠ fd0 l k) ∧ Below w2.heap.size w2 w3) (fun i _ => k - (intOf i).toNat)
          case atStart => exact ⟨0, Nat.zero_le _, rfl, Lib.hid (fun j h => by omega), Below.refl _ _⟩
          case round =>
            obtain ⟨j, hj, rfl, HN, hD⟩ := hrel
            by_cases hjk : j < k
            · have d0 := HC.out j (by omega)
              have e0 := HC.out k hlt
              have m0 := cell_regrown (below_cell hD (below_cell hB d0))
              have z0 := cell_regrown (below_cell hD (below_cell hB e0))
              clear d0 e0
              by_cases g : fd0 l j = fd0 l k
              · have gb := strB_yes g
                have HE : Hid (fdsOk many l = false) := Lib.hid (fds_no hlt (fun h => h.2.2 j hjk g))
                clear g
                go_wp2
                refine wp_region_quiet_below (by kernel_rfl) (by kernel_rfl) ?_
                repeat (go_big_quiet_step (fail))
                refine wpQuiet_nil ?_
                intro w4 hw'regrown
                replace hD := ext_trans hD (below_of_regrown hw'regrown (Nat.le_refl _))
                clear hw'regrown
                go_wp2
                go_ret
                exact ⟨by rw [HE.out]; rfl, ext_trans hB hD⟩
              · have gb := strB_no g
                have HN2 := Lib.hid (all_succ (p := fun i => fd0 l i ≠ fd0 l k) HN.out g)
                clear g
                go_wp2
                refine wp_region_quiet_below (by kernel_rfl) (by kernel_rfl) ?_
                repeat (go_big_quiet_step (fail))
                refine wpQuiet_nil ?_
                intro w4 hw'regrown
                replace hD := ext_trans hD (below_of_regrown hw'regrown (Nat.le_refl _))
                clear hw'regrown
                go_wp2
                go_roundw
                case rel => exact ⟨j + 1, by omega, by go_num, HN2, hD⟩
                case measure => simp [intOf]; omega
            · obtain rfl : j = k := by omega
              go_wp2
              go_roundw
              case rel => exact ⟨j + 1, by omega, by go_num, Lib.hid (all_succ (p := FdP many l) HG.out ⟨H1.out, H2.out, HN.out⟩), ext_trans hB hD⟩
              case measure => simp [intOf]; omega
    · obtain rfl : k = l.length := by omega
      by_cases g : l.length ≤ 4
      · have HE : Hid (fdsOk many l = true) := Lib.hid (cD_yes ⟨HG.out, g⟩)
        go_wp2
        go_ret
        exact ⟨ret_bool (by rw [HE.out]; simp; omega), hB⟩
      · have HE : Hid (fdsOk many l = false) := Lib.hid (cD_no (fun h => g h.2))
        go_wp2
        go_ret
        exact ⟨ret_bool (by rw [HE.out]; simp; omega), hB⟩
set_option maxRecDepth 100000 in
set_option maxHeartbeats 8000000 in
theorem specWorldValid {A : Option Addr} {W : WL} {c : Nat} {w : World} (hU : wlR w A W) (hw : WfW W) :
    Calls Try.prog 137 #[.slice A W.length c] w fun e w' => e = .returned (.bool (wldOk W)) ∧ Below w.heap.size w w' := by
  have hlen := hU.len
  have HWF := Lib.hid hw
  clear hw
  go_enter Try.func137, Try.ntmps137
  go_wp2
  go_loopw [3] (fun i wr => ∃ k : Nat, k ≤ W.length ∧ i = .int .i64 k ∧ Hid (∀ j, j < k → ThP W j) ∧ Below w.heap.size w wr) (fun i _ => W.length - (intOf i).toNat)
  case atStart => exact ⟨0, Nat.zero_le _, rfl, Lib.hid (fun j h => by omega), Below.refl _ _⟩
  case round =>
    obtain ⟨k, hk, rfl, HG, hB⟩ := hrel
    by_cases hlt : k < W.length
    · obtain ⟨b, off, rfl, hc⟩ := hU.cells (by omega)
      obtain ⟨A1, c1, A2, c2, hr1, hr2, d0, d1⟩ := hc k hlt
      have hll := hr1.len
      have HF := Lib.hid (HWF.out k hlt)
      clear hc
      go_wp2
      go_loopw [4] (fun i w2 => ∃ j : Nat, j ≤ (thAt W k).gs.length ∧ i = .int .i64 j ∧ Hid (∀ m, m < j → ascAt (thAt W k).gs ((k : Int) - 1) m = true) ∧ Below w.heap.size w w2) (fun i _ => (thAt W k).gs.length - (intOf i).toNat)
      case atStart => exact ⟨0, Nat.zero_le _, rfl, Lib.hid (fun j h => by omega), hB⟩
      case round =>
        clear hB
        obtain ⟨j, hj, rfl, HA, hB⟩ := hrel
        have e0 := below_cell hB d0
        have e1 := below_cell hB d1
        have r0 := cell_regrown e0
        by_cases hlt2 : j < (thAt W k).gs.length
        · obtain ⟨b2, off2, rfl, hc2⟩ := hr1.cells (by omega)
          have m0 := cell_regrown (below_cell hB (hc2 j hlt2))
          rcases ascCases (thAt W k).gs ((k : Int) - 1) j with ⟨g1, g⟩ | ⟨g1, ⟨g2, g⟩ | ⟨g2, ⟨g3, g⟩ | ⟨g3, g⟩⟩⟩
          · clear hc2
            have HE : Hid (wldOk W = false) := Lib.hid (wld_no hlt (fun h => by have := (ascB_iff.1 h.1) j hlt2; rw [g] at this; cases this))
            go_wp2
            refine wp_region_quiet_below (by kernel_rfl) (by kernel_rfl) ?_
            repeat (go_big_quiet_step ((go_at_call 59; exact Calls.regrown_of (l1In_any _ _ _ _))))
            refine wpQuiet_nil ?_
            intro w2 hw'regrown
            replace hB := ext_trans hB (below_of_regrown hw'regrown (Nat.le_refl _))
            clear hw'regrown
            go_wp2
            go_ret
            exact ⟨by rw [HE.out]; rfl, hB⟩
          · clear hc2
            have HA2 : Hid (∀ m, m < j + 1 → ascAt (thAt W k).gs ((k : Int) - 1) m = true) := Lib.hid (all_succ (p := fun m => ascAt (thAt W k).gs ((k : Int) - 1) m = true) HA.out g)
            go_wp2
            refine wp_region_quiet_below (by kernel_rfl) (by kernel_rfl) ?_
            repeat (go_big_quiet_step ((go_at_call 59; exact Calls.regrown_of (l1In_any _ _ _ _))))
            refine wpQuiet_nil ?_
            intro w2 hw'regrown
            replace hB := ext_trans hB (below_of_regrown hw'regrown (Nat.le_refl _))
            clear hw'regrown
            go_wp2
            go_roundw
            case rel => exact ⟨j + 1, by omega, by go_num, HA2, hB⟩
            case measure => simp [intOf]; omega
          · have m1 := cell_regrown (below_cell hB (hc2 (j - 1) (by omega)))
            have HE : Hid (wldOk W = false) := Lib.hid (wld_no hlt (fun h => by have := (ascB_iff.1 h.1) j hlt2; rw [g] at this; cases this))
            clear hc2
            go_wp2
            refine wp_region_quiet_below (by kernel_rfl) (by kernel_rfl) ?_
            repeat (go_big_quiet_step ((go_at_call 59; exact Calls.regrown_of (l1In_any _ _ _ _))))
            refine wpQuiet_nil ?_
            intro w2 hw'regrown
            replace hB := ext_trans hB (below_of_regrown hw'regrown (Nat.le_refl _))
            clear hw'regrown
            go_wp2
            go_ret
            exact ⟨by rw [HE.out]; rfl, hB⟩
          · have m1 := cell_regrown (below_cell hB (hc2 (j - 1) (by omega)))
            have HA2 : Hid (∀ m, m < j + 1 → ascAt (thAt W k).gs ((k : Int) - 1) m = true) := Lib.hid (all_succ (p := fun m => ascAt (thAt W k).gs ((k : Int) - 1) m = true) HA.out g)
            clear hc2
            go_wp2
            refine wp_region_quiet_below (by kernel_rfl) (by kernel_rfl) ?_
            repeat (go_big_quiet_step ((go_at_call 59; exact Calls.regrown_of (l1In_any _ _ _ _))))
            refine wpQuiet_nil ?_
            intro w2 hw'regrown
            replace hB := ext_trans hB (below_of_regrown hw'regrown (Nat.le_refl _))
            clear hw'regrown
            go_wp2
            go_roundw
            case rel => exact ⟨j + 1, by omega, by go_num, HA2, hB⟩
            case measure => simp [intOf]; omega
        · obtain rfl : j = (thAt W k).gs.length := by omega
          have hr2b := hr2.below hB
          clear r0
          go_wp2_with fail
          refine (specFields hr2b HF.out).mono ?_
          rintro e w3 ⟨rfl, hb⟩
          replace hB := ext_trans hB hb
          clear hb hr2b e0 e1
          cases g2 : fdsOk W.length (thAt W k).fs
          · have HE : Hid (wldOk W = false) := Lib.hid (wld_no hlt (fun h => by rw [fdsOk, cD_false] at g2; exact g2 h.2))
            go_wp2
            go_ret
            exact ⟨by rw [HE.out]; rfl, hB⟩
          · have HP2 : Hid (∀ j, j < k + 1 → ThP W j) := Lib.hid (all_succ (p := ThP W) HG.out ⟨ascB_iff.2 HA.out, cD_true.1 g2⟩)
            go_wp2
            go_roundw
            case rel => exact ⟨k + 1, by omega, by go_num, HP2, hB⟩
            case measure => simp [intOf]; omega
    · obtain rfl : k = W.length := by omega
      by_cases g : W.length ≤ 7
      · have HE : Hid (wldOk W = true) := Lib.hid (cD_yes ⟨HG.out, g⟩)
        go_wp2
        go_ret
        exact ⟨ret_bool (by rw [HE.out]; simp; omega), hB⟩
      · have HE : Hid (wldOk W = false) := Lib.hid (cD_no (fun h => g h.2))
        go_wp2
        go_ret
        exact ⟨ret_bool (by rw [HE.out]; simp; omega), hB⟩
set_option maxRecDepth 100000 in
set_option maxHeartbeats 4000000 in
theorem specRequestValid {A B : Option Addr} {W : WL} {r : Rq} {c c2 : Nat} {w : World} (hU : wlR w A W) (hw : WfW W) (hR : fdR w B r.fs) (hf : WfFd r.fs) :
    Calls Try.prog 94 #[.slice A W.length c, rqV r B c2] w fun e w' => e = .returned (.bool (rqOk W r)) ∧ Below w.heap.size w w' := by
  unfold rqV
  have hlen := hU.len
  have HF : Hid (rqOk W r = (wldOk W && (inB r.who 0 ((W.length : Int) - 1) && (inB r.what 0 ((W.length : Int) - 1) && (inB r.act 0 3 && fdsOk W.length r.fs))))) := Lib.hid rfl
  obtain ⟨X, hX⟩ : ∃ X, X = w.alloc (.cells #[.int .i64 r.who, .int .i64 r.act, .int .i64 r.what, .slice B r.fs.length c2] 37) := ⟨_, rfl⟩
  obtain ⟨g, hg⟩ : ∃ g, g = w.heap.size := ⟨_, rfl⟩
  have hB : Below w.heap.size w X := by rw [hX]; exact below_alloc _ _
  have hq : X.heap[g]? = some (.cells #[.int .i64 r.who, .int .i64 r.act, .int .i64 r.what, .slice B r.fs.length c2] 37 (0, 0)) := by rw [hX, hg]; exact heap_alloc_new _ _
  replace hU := hU.below hB
  replace hR := hR.below hB
  have HX := Lib.hid hX
  have HG := Lib.hid hg
  have HQ := Lib.hid hq
  obtain ⟨p0, p1, p2, p3⟩ := cells4 hq
  clear hX hg hq
  go_enter Try.func94, Try.ntmps94
  go_wp2_with fail
  rw [← HX.out, ← HG.out]
  refine (specWorldValid hU hw).mono ?_
  rintro e w1 ⟨rfl, hb⟩
  replace hB := ext_trans hB hb
  replace hR := hR.below hb
  have HQ := Lib.hid (block_in HQ.out hb)
  clear hb p0 p1 p2 p3
  obtain ⟨p0, p1, p2, p3⟩ := cells4 HQ.out
  cases g0 : wldOk W
  · rw [g0] at HF
    go_wp2
    go_ret
    exact ⟨by rw [HF.out]; rfl, hB⟩
  · rw [g0] at HF
    go_wp2_with fail
    refine (l1In_any _ _ _ _).mono ?_
    rintro e w2 ⟨rfl, hb⟩
    replace hB := ext_trans hB hb
    replace hR := hR.below hb
    have HQ := Lib.hid (block_in HQ.out hb)
    clear hb p0 p1 p2 p3
    obtain ⟨p0, p1, p2, p3⟩ := cells4 HQ.out
    cases g1 : inB r.who 0 ((W.length : Int) - 1)
    · rw [g1] at HF
      go_wp2
      go_ret
      exact ⟨by rw [HF.out]; rfl, hB⟩
    · rw [g1] at HF
      go_wp2_with fail
      refine (l1In_any _ _ _ _).mono ?_
      rintro e w3 ⟨rfl, hb⟩
      replace hB := ext_trans hB hb
      replace hR := hR.below hb
      have HQ := Lib.hid (block_in HQ.out hb)
      clear hb p0 p1 p2 p3
      obtain ⟨p0, p1, p2, p3⟩ := cells4 HQ.out
      cases g2 : inB r.what 0 ((W.length : Int) - 1)
      · rw [g2] at HF
        go_wp2
        go_ret
        exact ⟨by rw [HF.out]; rfl, hB⟩
      · rw [g2] at HF
        go_wp2_with fail
        refine (l1In_any _ _ _ _).mono ?_
        rintro e w4 ⟨rfl, hb⟩
        replace hB := ext_trans hB hb
        replace hR := hR.below hb
        have HQ := Lib.hid (block_in HQ.out hb)
        clear hb p0 p1 p2 p3
        obtain ⟨p0, p1, p2, p3⟩ := cells4 HQ.out
        cases g3 : inB r.act 0 3
        · rw [g3] at HF
          go_wp2
          go_ret
          exact ⟨by rw [HF.out]; rfl, hB⟩
        · rw [g3] at HF
          go_wp2_with fail
          refine (specFields hR hf).mono ?_
          rintro e w5 ⟨rfl, hb⟩
          replace hB := ext_trans hB hb
          replace hR := hR.below hb
          have HQ := Lib.hid (block_in HQ.out hb)
          clear hb p0 p1 p2 p3
          obtain ⟨p0, p1, p2, p3⟩ := cells4 HQ.out
          cases g4 : fdsOk W.length r.fs
          all_goals
            rw [g4] at HF
            go_wp2
            go_ret
            exact ⟨by rw [HF.out]; rfl, hB⟩
end Go.Proofs.Ytodjokdaofefdaa

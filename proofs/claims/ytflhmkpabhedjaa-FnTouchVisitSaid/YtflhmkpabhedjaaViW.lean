/- FnTouchVisit, walked. -/
import Derived.Test.YtflhmkpabhedjaaViU
import Derived.Test.YtflhmkpabhedjaaViQ
import Derived.Test.YtflhmkpabhedjaaViK
namespace Go.Proofs.Ytflhmkpabhedjaa
open Go.RowKit

/-- This visit would have ended by then, or is beyond all time. -/
def viHit (who long L : Int) (l : ViL) (k : Nat) : Prop := vi0 l k = who ∧ (1000 < L ∨ long ≤ L - vi1 l k)
theorem viHit_cases (who long L : Int) (l : ViL) (k : Nat) :
    ((vi0 l k == who) = false ∧ ¬ viHit who long L l k) ∨ ((vi0 l k == who) = true ∧ decide (1000 < L) = true) ∨ ((vi0 l k == who) = true ∧ decide (1000 < L) = false ∧ decide (long ≤ L - vi1 l k) = true) ∨
    ((vi0 l k == who) = true ∧ decide (1000 < L) = false ∧ decide (long ≤ L - vi1 l k) = false ∧ ¬ viHit who long L l k) := by
  unfold viHit
  by_cases h1 : vi0 l k = who <;> by_cases h2 : 1000 < L <;> by_cases h3 : long ≤ L - vi1 l k <;> simp [h1, h2, h3]

set_option maxRecDepth 100000 in
set_option maxHeartbeats 4000000 in
theorem lawTouchVisit {A : Option Addr} {l : List Int} {c : Nat} {w : World} (hC : CodeR w w.heap.size A l) (hc : l.length ≤ c) :
    Calls Try.prog 8 #[.slice A l.length c] w fun e w' => e = .returned (.bool true) ∧ Below w.heap.size w w' := by
  by_cases h : (1048576 : Int) < l.length
  · go_enter Try.func8, Try.ntmps8
    go_wp2
    go_ret
    exact ⟨rfl, Below.refl _ _⟩
  · go_enter Try.func8, Try.ntmps8
    go_wp2_with fail
    refine (DrawTouchVisit_d hC hc).mono ?_
    rintro e w1 ⟨us, _, long, idle, who, now, rfl, hn, ⟨hl0, hl1⟩, ⟨hi0, hi1⟩, ⟨hn0, hn1⟩, ⟨Au, cu, rfl, ho⟩, hB⟩
    have q0 := box_cell w1 #[.int .i64 long, .int .i64 idle] 27 0 (.int .i64 long) rfl
    have q1 := box_cell w1 #[.int .i64 long, .int .i64 idle] 27 1 (.int .i64 idle) rfl
    have hbl := below_alloc w1 (.cells #[.int .i64 long, .int .i64 idle] 27)
    have hU : viR _ Au us := (viR.own rfl (by omega) ho).below hbl
    obtain ⟨X, hX⟩ : ∃ X, X = w1.alloc (.cells #[.int .i64 long, .int .i64 idle] 27) := ⟨_, rfl⟩
    obtain ⟨g, hg⟩ : ∃ g, g = w1.heap.size := ⟨_, rfl⟩
    rw [← hX] at q0 q1 hU hbl
    rw [← hg] at q0 q1
    replace hB := ext_trans hB hbl
    obtain ⟨r1, hr1⟩ : ∃ r, r = (viTouch long idle us who now).1 := ⟨_, rfl⟩
    obtain ⟨r2, hr2⟩ : ∃ r, r = (viTouch long idle us who now).2 := ⟨_, rfl⟩
    have hr1l : r1.length ≤ us.length := by rw [hr1]; exact viTouch_len _ _ _ _ _
    have hyes : r2 = true → viOk long idle r1 = true ∧ (0 ≤ now ∧ now ≤ 1000) ∧ ∃ f : Int, (who, f, now) ∈ r1 ∧ (now + idle - 1 ≤ 1000 → now + idle - 1 - f < long → (who, f, now) ∈ viEnd long idle r1 (now + idle - 1)) := fun e => by
      obtain ⟨h1, h2, f, h3, _, h4⟩ := viTouch_yes (l := us) (long := long) (idle := idle) (who := who) (now := now) (by rw [← hr2, e])
      rw [← hr1] at h1 h3 h4
      exact ⟨h1, h2, f, h3, h4⟩
    have HX := Lib.hid hX
    have HG := Lib.hid hg
    have HR := Lib.hid hr1
    have HR2 := Lib.hid hr2
    have HY := Lib.hid hyes
    clear hX hg hbl ho hr1 hr2 hyes
    go_wp2_with fail
    rw [← HX.out, ← HG.out]
    refine (implTouchVisit hU).mono ?_
    rintro e w2 ⟨A6, c6, rfl, ho6, hBc⟩
    rw [← HR.out] at ho6 ⊢
    rw [← HR2.out]
    replace hB := ext_trans hB hBc
    replace q0 := below_cell hBc q0
    replace q1 := below_cell hBc q1
    replace hU := hU.below hBc
    clear hBc
    go_wp2_with fail
    refine (specTouchVisit hU).mono ?_
    rintro e w3 ⟨A7, c7, rfl, ho7, hBc⟩
    rw [← HR.out] at ho7 ⊢
    rw [← HR2.out]
    replace hB := ext_trans hB hBc
    replace q0 := below_cell hBc q0
    replace q1 := below_cell hBc q1
    replace ho6 := own_below ho6 hBc
    have hX : viR w3 A6 r1 := viR.own rfl (by omega) ho6
    have hY : viR w3 A7 r1 := viR.own rfl (by omega) ho7
    clear hBc hU ho6 ho7 HR
    go_wp2_with fail
    refine (sameVisits_any hX hY).mono ?_
    rintro e w4 ⟨rfl, hBc⟩
    replace hB := ext_trans hB hBc
    replace hX := hX.below hBc
    replace q0 := below_cell hBc q0
    replace q1 := below_cell hBc q1
    clear hBc
    clear hY
    rw [sameB_self]
    cases r2
    · have hle : (r1.length : Int) ≤ us.length := by omega
      clear hX q0 q1 HY
      go_wp2_with fail
      refine (alive_any _).mono ?_
      rintro e w5 ⟨rfl, hBc⟩
      replace hB := ext_trans hB hBc
      clear hBc
      go_wp2
      go_ret
      exact ⟨rfl, hB⟩
    · obtain ⟨hok, ⟨hn0, hn1⟩, f, hf, hfin⟩ := HY.out rfl
      obtain ⟨_, ⟨hlo0, hlo1⟩, ⟨hid0, hid1⟩, hall⟩ := viOk_bounds hok
      obtain ⟨L, hL⟩ : ∃ L, L = now + idle - 1 := ⟨_, rfl⟩
      rw [← hL] at hfin
      have hL0 : 0 ≤ L ∧ L ≤ 2001 := by omega
      have HL := Lib.hid hL
      have HALL : Hid (∀ k, k < r1.length → 0 ≤ vi1 r1 k ∧ vi1 r1 k ≤ 1000) := Lib.hid (fun k hk => by
        have := (viAll_mem.1 hall).1 _ (vi_mem_at hk)
        exact this.2.1)
      have HC : Hid (∀ (c : Nat) (w : World), viR w A6 r1 → Calls Try.prog 15 #[.agg #[.int .i64 long, .int .i64 idle], .slice A6 r1.length c] w fun e w' => e = .returned (.bool true) ∧ Below w.heap.size w w') := Lib.hid (fun c w hX => by
        have := implVisitsValid (c := c) (long := long) (idle := idle) hX
        rwa [hok] at this)
      have HF : Hid ((∀ j, j < r1.length → ¬ viHit who long L r1 j) → (∀ j, j < (viEnd long idle r1 L).length → vi0 (viEnd long idle r1 L) j ≠ who) → False) := Lib.hid (fun h1 h2 => by
        obtain ⟨j, hj, e⟩ := List.getElem_of_mem hf
        have e0 : (vi0 r1 j, vi1 r1 j, vi2 r1 j) = (who, f, now) := by rw [vi_elem hj, e]
        simp only [Prod.mk.injEq] at e0
        have h3 := h1 j hj
        unfold viHit at h3
        rw [e0.2.1] at h3
        have h4 : ¬ (1000 < L ∨ long ≤ L - f) := fun h => h3 ⟨e0.1, h⟩
        obtain ⟨j2, hj2, e2⟩ := List.getElem_of_mem (hfin (by omega) (by omega))
        have e3 : (vi0 (viEnd long idle r1 L) j2, vi1 (viEnd long idle r1 L) j2, vi2 (viEnd long idle r1 L) j2) = (who, f, now) := by rw [vi_elem hj2, e2]
        simp only [Prod.mk.injEq] at e3
        exact h2 j2 hj2 e3.1)
      clear hok hall hfin hf hL HY
      go_wp2
      rw [← HL.out]
      obtain ⟨W, hW⟩ : ∃ W, W = w4 := ⟨_, rfl⟩
      rw [← hW] at q0 q1 hX hB
      have HW := Lib.hid hW
      have HB := Lib.hid hB
      have HX4 := Lib.hid hX
      clear hX hB hW HG HX
      go_loopw [12, 13] (fun bv i wr => ∃ (k : Nat) (b : Bool), k ≤ r1.length ∧ i = .int .i64 k ∧ bv = .bool b ∧ Hid (b = false → ∀ j, j < k → ¬ viHit who long L r1 j) ∧ Below W.heap.size W wr) (fun _ i _ => r1.length - (intOf i).toNat)
      case atStart => exact ⟨0, false, Nat.zero_le _, rfl, rfl, Lib.hid (fun _ j h => by omega), by rw [HW.out]; exact Below.refl _ _⟩
      case round =>
        obtain ⟨k, b1, hk, rfl, rfl, HI, hC⟩ := hrel
        by_cases hlt : k < r1.length
        · obtain ⟨b, off, rfl, hcl⟩ := HX4.out.cells (by omega)
          obtain ⟨d0, d1, _⟩ := hcl k hlt
          obtain ⟨f0, f1⟩ := HALL.out k hlt
          have m0 := cell_regrown (below_cell hC q0)
          have e0 := cell_regrown (below_cell hC d0)
          have e1 := cell_regrown (below_cell hC d1)
          have s1 : IntKind.i64.wrap (L - vi1 r1 k) = L - vi1 r1 k := IntWalk.i64_in _ (by omega)
          clear hcl d0 d1
          rcases viHit_cases who long L r1 k with ⟨g1, hno⟩ | ⟨g1, g2⟩ | ⟨g1, g2, g3⟩ | ⟨g1, g2, g3, hno⟩
          all_goals
            go_wp2
            refine wp_region_quiet_below (by kernel_rfl) (by kernel_rfl) ?_
            repeat (go_big_quiet_step (fail))
            refine wpQuiet_nil ?_
            intro w2 hw'regrown
            replace hC := ext_trans hC (below_of_regrown hw'regrown (Nat.le_refl _))
            clear hw'regrown s1 m0 e0 e1
            go_wp2
          · go_roundw
            case rel => exact ⟨k + 1, b1, by omega, by go_num, rfl, Lib.hid (fun e => all_succ (HI.out e) hno), hC⟩
            case measure => simp [intOf]; omega
          · go_roundw
            case rel => exact ⟨k + 1, true, by omega, by go_num, rfl, Lib.hid (fun e => by cases e), hC⟩
            case measure => simp [intOf]; omega
          · go_roundw
            case rel => exact ⟨k + 1, true, by omega, by go_num, rfl, Lib.hid (fun e => by cases e), hC⟩
            case measure => simp [intOf]; omega
          · go_roundw
            case rel => exact ⟨k + 1, b1, by omega, by go_num, rfl, Lib.hid (fun e => all_succ (HI.out e) hno), hC⟩
            case measure => simp [intOf]; omega
        · obtain rfl : k = r1.length := by omega
          have hX := HX4.out.below hC
          have p0 := below_cell hC q0
          have p1 := below_cell hC q1
          have hB := ext_trans HB.out hC
          obtain ⟨e1, he1⟩ : ∃ r, r = viEnd long idle r1 L := ⟨_, rfl⟩
          have hel : e1.length ≤ r1.length := by rw [he1]; exact viEnd_len _ _ _ _
          have HF2 : Hid (b1 = false → (∀ j, j < e1.length → vi0 e1 j ≠ who) → False) := Lib.hid (fun e h2 => HF.out (HI.out e) (by rw [← he1]; exact h2))
          have HE := Lib.hid he1
          clear he1 hC q0 q1 HB HX4 HW HF HI HALL HL
          go_wp2_with fail
          refine (implEndVisits hX).mono ?_
          rintro e w6 ⟨A8, c8, rfl, ho8, hBc⟩
          rw [← HE.out] at ho8 ⊢
          replace hB := ext_trans hB hBc
          replace hX := hX.below hBc
          replace p0 := below_cell hBc p0
          replace p1 := below_cell hBc p1
          have hY : viR w6 A8 e1 := viR.own rfl (by omega) ho8
          clear hBc ho8 HE
          obtain ⟨V, hV⟩ : ∃ W, W = w6 := ⟨_, rfl⟩
          rw [← hV] at p0 p1 hX hY hB
          have HV := Lib.hid hV
          have HB := Lib.hid hB
          have HX6 := Lib.hid hX
          have HY6 := Lib.hid hY
          clear hX hY hB hV
          go_wp2
          go_loopw [12, 15] (fun bv i wr => ∃ (k : Nat) (b : Bool), k ≤ e1.length ∧ i = .int .i64 k ∧ bv = .bool b ∧ Hid (b = false → b1 = false ∧ ∀ j, j < k → vi0 e1 j ≠ who) ∧ Below V.heap.size V wr) (fun _ i _ => e1.length - (intOf i).toNat)
          case atStart => exact ⟨0, b1, Nat.zero_le _, rfl, rfl, Lib.hid (fun e => ⟨e, fun j h => by omega⟩), by rw [HV.out]; exact Below.refl _ _⟩
          case round =>
            obtain ⟨k, b2, hk, rfl, rfl, HI, hC⟩ := hrel
            by_cases hlt : k < e1.length
            · obtain ⟨b, off, rfl, hcl⟩ := HY6.out.cells (by omega)
              obtain ⟨d0, _, _⟩ := hcl k hlt
              have e0 := below_cell hC d0
              clear hcl d0
              cases b2
              · by_cases g1 : vi0 e1 k = who
                · have g2 : (vi0 e1 k == who) = true := by simp [g1]
                  clear g1
                  go_wp2
                  go_roundw
                  case rel => exact ⟨k + 1, true, by omega, by go_num, rfl, Lib.hid (fun e => by cases e), hC⟩
                  case measure => simp [intOf]; omega
                · have g2 : (vi0 e1 k == who) = false := by simp [g1]
                  have G1 := Lib.hid g1
                  clear g1
                  have HI1 := Lib.hid (HI.out rfl)
                  go_wp2
                  go_roundw
                  case rel => exact ⟨k + 1, false, by omega, by go_num, rfl, Lib.hid (fun _ => ⟨HI1.out.1, all_succ HI1.out.2 G1.out⟩), hC⟩
                  case measure => simp [intOf]; omega
              · go_wp2
                go_roundw
                case rel => exact ⟨k + 1, true, by omega, by go_num, rfl, Lib.hid (fun e => by cases e), hC⟩
                case measure => simp [intOf]; omega
            · obtain rfl : k = e1.length := by omega
              cases b2
              · exact absurd (HF2.out (HI.out rfl).1 (HI.out rfl).2) (fun h => h)
              · have hX := HX6.out.below hC
                have r0 := below_cell hC p0
                have r1 := below_cell hC p1
                have hB := ext_trans HB.out hC
                clear hC p0 p1 HB HX6 HY6 HV HI HF2
                go_wp2_with fail
                refine (HC.out _ _ hX).mono ?_
                rintro e w9 ⟨rfl, hBc⟩
                replace hB := ext_trans hB hBc
                clear hBc
                go_wp2
                go_ret
                exact ⟨rfl, hB⟩
end Go.Proofs.Ytflhmkpabhedjaa

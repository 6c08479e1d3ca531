/- Visits that last. -/
import Derived.Test.YtflhmkpabhedjaaViC
import Derived.Test.YtflhmkpabhedjaaViD
import Derived.Test.YtflhmkpabhedjaaKi2
namespace Go.Proofs.Ytflhmkpabhedjaa
open Go.RowKit

theorem viLast_take (long idle now : Int) (l : ViL) (k : Nat) : (viLast long idle now (l.take k)).length ≤ k :=
  Nat.le_trans (viLast_len _ _ _ _) (by simp; omega)
theorem viOk_at {long idle : Int} {l : ViL} {k : Nat} (h : viOk long idle l = true) (hk : k < l.length) : (0 ≤ vi0 l k ∧ vi0 l k ≤ 6) ∧ (0 ≤ vi1 l k ∧ vi1 l k ≤ 1000) ∧ vi1 l k ≤ vi2 l k ∧ vi2 l k ≤ 1000 :=
  (viGood_iff.1 (viAll_iff.1 (viOk_bounds h).2.2.2 k hk)).1

set_option maxRecDepth 100000 in
set_option maxHeartbeats 4000000 in
theorem lasting_any {A : Option Addr} {l : ViL} {c : Nat} {long idle now : Int} {w : World} (hU : viR w A l) (hok : viOk long idle l = true) (hn0 : 0 ≤ now) (hn1 : now ≤ 1000) :
    Calls Try.prog 41 #[.agg #[.int .i64 long, .int .i64 idle], .slice A l.length c, .int .i64 now] w (SlPost 38 3 viEnc w (viLast long idle now l)) := by
  obtain ⟨hl6, ⟨s1, s2⟩, ⟨s3, s4⟩, _⟩ := viOk_bounds hok
  obtain ⟨W, hW⟩ : ∃ W, W = w.alloc (.cells #[.int .i64 long, .int .i64 idle] 27) := ⟨_, rfl⟩
  have q0 : W.cell? ⟨w.heap.size, 0, none⟩ = some (.int .i64 long) := by rw [hW]; exact box_cell w #[.int .i64 long, .int .i64 idle] 27 0 (.int .i64 long) rfl
  have q1 : W.cell? ⟨w.heap.size, 1, none⟩ = some (.int .i64 idle) := by rw [hW]; exact box_cell w #[.int .i64 long, .int .i64 idle] 27 1 (.int .i64 idle) rfl
  have hB0 : Below w.heap.size w W := by rw [hW]; exact below_alloc _ _
  replace hU := hU.below hB0
  have HW := Lib.hid hW
  have HOK := Lib.hid hok
  clear hW hok
  go_enter Try.func41, Try.ntmps41
  go_wp2_with fail
  rw [← HW.out]
  go_loopw [7, 12] (fun ov i wr => ∃ k : Nat, k ≤ l.length ∧ i = .int .i64 k ∧ OwnA W.heap.size 38 3 viEnc wr ov (viLast long idle now (l.take k)) ∧ Below W.heap.size W wr) (fun _ i _ => l.length - (intOf i).toNat)
  case atStart => exact ⟨0, Nat.zero_le _, rfl, OwnA.nil, Below.refl _ _⟩
  case round =>
    obtain ⟨k, hk, rfl, hO, hC⟩ := hrel
    have p0 := below_cell hC q0
    have p1 := below_cell hC q1
    have hlk := viLast_take long idle now l k
    by_cases hlt : k < l.length
    · obtain ⟨b, off, rfl, hc⟩ := hU.cells (by omega)
      obtain ⟨c0, c1, c2⟩ := hc k hlt
      have m0 := below_cell hC c0
      have m1 := below_cell hC c1
      have m2 := below_cell hC c2
      obtain ⟨⟨b0, b1⟩, ⟨b2, b3⟩, b4, b5⟩ := viOk_at HOK.out hlt
      have HS := Lib.hid (viLast_succ (long := long) (idle := idle) (now := now) hlt)
      clear c0 c1 c2 hc
      have y0 := box_cell wr #[.int .i64 (vi0 l k), .int .i64 (vi1 l k), .int .i64 (vi2 l k)] 38 0 (.int .i64 (vi0 l k)) rfl
      have y1 := box_cell wr #[.int .i64 (vi0 l k), .int .i64 (vi1 l k), .int .i64 (vi2 l k)] 38 1 (.int .i64 (vi1 l k)) rfl
      have y2 := box_cell wr #[.int .i64 (vi0 l k), .int .i64 (vi1 l k), .int .i64 (vi2 l k)] 38 2 (.int .i64 (vi2 l k)) rfl
      replace p0 := below_cell (below_alloc wr (.cells #[.int .i64 (vi0 l k), .int .i64 (vi1 l k), .int .i64 (vi2 l k)] 38)) p0
      replace p1 := below_cell (below_alloc wr (.cells #[.int .i64 (vi0 l k), .int .i64 (vi1 l k), .int .i64 (vi2 l k)] 38)) p1
      by_cases h1 : vi2 l k ≤ now
      · by_cases h2 : now - vi1 l k < long
        · by_cases h3 : now - vi2 l k < idle
          · skip
            go_wp2_with (at_builtin; go_must (refine wpList_push (enc := viEnc) ((vi0 l k, vi1 l k, vi2 l k)) rfl (.tmp 38) (.tmp 40) 29 38 _ 3 24 rfl Try.underlying29 Try.infoVisit rfl (by decide) (fun _ => rfl) viEnc_one (hO.below (by (repeat (first | exact Below.refl _ _ | refine ext_alloc ?_ _ | refine Below.setCell ?_ (by simp) _)))) rfl (heap_alloc_at (by simp)) (by rfl) (by omega) (by omega) (Nat.le_trans hC.size (show Below _ _ _ by (repeat (first | exact Below.refl _ _ | refine ext_alloc ?_ _ | refine Below.setCell ?_ (by simp) _))).size) ?_); intro v_ wq1 ho_ hb_ hg_)
            replace hC := (ext_trans hC (by (repeat (first | exact Below.refl _ _ | refine ext_alloc ?_ _ | refine Below.setCell ?_ (by simp) _)))).trans hb_
            replace hO := ho_
            clear ho_ hb_ hg_
            go_wp2
            go_roundw
            case rel => exact ⟨k + 1, by omega, by go_num, hO.eq (by rw [HS.out, if_pos (by simp [viLasts]; omega)]), hC⟩
            case measure => simp [intOf]; omega
          · go_wp2
            go_roundw
            case rel => exact ⟨k + 1, by omega, by go_num, (hO.below (below_alloc _ _)).eq (by rw [HS.out, if_neg (by simp [viLasts]; omega)]), ext_alloc hC _⟩
            case measure => simp [intOf]; omega
        · go_wp2
          go_roundw
          case rel => exact ⟨k + 1, by omega, by go_num, (hO.below (below_alloc _ _)).eq (by rw [HS.out, if_neg (by simp [viLasts]; omega)]), ext_alloc hC _⟩
          case measure => simp [intOf]; omega
      · go_wp2
        go_roundw
        case rel => exact ⟨k + 1, by omega, by go_num, (hO.below (below_alloc _ _)).eq (by rw [HS.out, if_neg (by simp [viLasts]; omega)]), ext_alloc hC _⟩
        case measure => simp [intOf]; omega
    · obtain rfl : k = l.length := by omega
      go_wp2
      go_ret
      exact SlPost.of (by rw [List.take_length]) (hO.lower hB0.size) (hB0.trans (hC.mono hB0.size))

theorem viEnd_no {long idle now : Int} {l : ViL} (h : viOk long idle l = false ∨ inB now 0 1000 = false) : viEnd long idle l now = [] := by
  unfold viEnd
  rcases h with h | h <;> simp [h]
theorem viEnd_yes {long idle now : Int} {l : ViL} (h1 : viOk long idle l = true) (h2 : inB now 0 1000 = true) : viEnd long idle l now = viLast long idle now l := by
  simp [viEnd, h1, h2]

set_option maxRecDepth 100000 in
set_option maxHeartbeats 4000000 in
theorem implEndVisits {A : Option Addr} {l : ViL} {c : Nat} {long idle now : Int} {w : World} (hU : viR w A l) :
    Calls Try.prog 20 #[.agg #[.int .i64 long, .int .i64 idle], .slice A l.length c, .int .i64 now] w (SlPost 38 3 viEnc w (viEnd long idle l now)) := by
  have q0 := box_cell w #[.int .i64 long, .int .i64 idle] 27 0 (.int .i64 long) rfl
  have q1 := box_cell w #[.int .i64 long, .int .i64 idle] 27 1 (.int .i64 idle) rfl
  have hB := below_alloc w (.cells #[.int .i64 long, .int .i64 idle] 27)
  replace hU := hU.below hB
  cases g1 : viOk long idle l
  · have HE : Hid (viEnd long idle l now = []) := Lib.hid (viEnd_no (.inl g1))
    go_enter Try.func20, Try.ntmps20
    go_wp2_with fail
    refine (implVisitsValid hU).mono ?_
    rintro e w1 ⟨rfl, hBc⟩
    replace hB := ext_trans hB hBc
    replace hU := hU.below hBc
    clear hBc
    go_wp2
    go_ret
    exact SlPost.of HE.out OwnA.nil hB
  · cases g2 : inB now 0 1000
    · have HE : Hid (viEnd long idle l now = []) := Lib.hid (viEnd_no (.inr g2))
      go_enter Try.func20, Try.ntmps20
      go_wp2_with fail
      refine (implVisitsValid hU).mono ?_
      rintro e w1 ⟨rfl, hBc⟩
      replace hB := ext_trans hB hBc
      replace hU := hU.below hBc
      clear hBc
      go_wp2_with fail
      refine (isTime_any _ _).mono ?_
      rintro e w2 ⟨rfl, hBc⟩
      replace hB := ext_trans hB hBc
      replace hU := hU.below hBc
      clear hBc
      go_wp2
      go_ret
      exact SlPost.of HE.out OwnA.nil hB
    · have HE : Hid (viEnd long idle l now = viLast long idle now l) := Lib.hid (viEnd_yes g1 g2)
      obtain ⟨n0, n1⟩ := inB_true.1 g2
      have HOK := Lib.hid g1
      go_enter Try.func20, Try.ntmps20
      go_wp2_with fail
      refine (implVisitsValid hU).mono ?_
      rintro e w1 ⟨rfl, hBc⟩
      replace hB := ext_trans hB hBc
      replace hU := hU.below hBc
      replace q0 := below_cell hBc q0
      replace q1 := below_cell hBc q1
      clear hBc
      go_wp2_with fail
      refine (isTime_any _ _).mono ?_
      rintro e w2 ⟨rfl, hBc⟩
      replace hB := ext_trans hB hBc
      replace hU := hU.below hBc
      replace q0 := below_cell hBc q0
      replace q1 := below_cell hBc q1
      clear hBc
      go_wp2_with fail
      refine (lasting_any hU HOK.out n0 n1).mono ?_
      rintro e w3 ⟨A3, c3, rfl, ho3, hB3⟩
      go_wp2
      go_ret
      exact SlPost.of HE.out ((OwnA.of ho3).lower hB.size) (ext_trans hB hB3)

set_option maxRecDepth 100000 in
set_option maxHeartbeats 4000000 in
theorem l38Lasts_any {x y z : Int} {long idle now : Int} {w : World} (hs1 : 0 ≤ long) (hs2 : long ≤ 1000) (hs3 : 0 ≤ idle) (hs4 : idle ≤ 1000) (hy0 : 0 ≤ y) (hy1 : y ≤ 1000) (hz0 : 0 ≤ z) (hz1 : z ≤ 1000) (hn0 : 0 ≤ now) (hn1 : now ≤ 1000) :
    Calls Try.prog 40 #[.agg #[.int .i64 long, .int .i64 idle], .agg #[.int .i64 x, .int .i64 y, .int .i64 z], .int .i64 now] w fun e w' => e = .returned (.bool (viLasts long idle now (x, y, z))) ∧ Below w.heap.size w w' := by
  have q0 := below_cell (below_alloc (w.alloc (.cells #[.int .i64 long, .int .i64 idle] 27)) (.cells #[.int .i64 x, .int .i64 y, .int .i64 z] 38)) (box_cell w #[.int .i64 long, .int .i64 idle] 27 0 (.int .i64 long) rfl)
  have q1 := below_cell (below_alloc (w.alloc (.cells #[.int .i64 long, .int .i64 idle] 27)) (.cells #[.int .i64 x, .int .i64 y, .int .i64 z] 38)) (box_cell w #[.int .i64 long, .int .i64 idle] 27 1 (.int .i64 idle) rfl)
  have y1 : ((w.alloc (.cells #[.int .i64 long, .int .i64 idle] 27)).alloc (.cells #[.int .i64 x, .int .i64 y, .int .i64 z] 38)).cell? ⟨w.heap.size + 1, 1, none⟩ = some (.int .i64 y) := box_cell_at (by simp) rfl
  have y2 : ((w.alloc (.cells #[.int .i64 long, .int .i64 idle] 27)).alloc (.cells #[.int .i64 x, .int .i64 y, .int .i64 z] 38)).cell? ⟨w.heap.size + 1, 2, none⟩ = some (.int .i64 z) := box_cell_at (by simp) rfl
  have hcase : now < z ∨ (z ≤ now ∧ long ≤ now - y) ∨ (z ≤ now ∧ now - y < long ∧ idle ≤ now - z) ∨ (z ≤ now ∧ now - y < long ∧ now - z < idle) := by omega
  rcases hcase with h1 | ⟨h1, h2⟩ | ⟨h1, h2, h3⟩ | ⟨h1, h2, h3⟩
  all_goals
    go_enter Try.func40, Try.ntmps40
    go_wp2
    go_ret
    exact ⟨ret_bool (by rw [eq_comm]; simp only [viLasts]; first | (rw [decide_eq_true_eq]; omega) | (rw [decide_eq_false_iff_not]; omega) | (rw [decide_eq_decide]; omega)), by (repeat (first | exact Below.refl _ _ | refine ext_alloc ?_ _ | refine Below.setCell ?_ (by simp) _))⟩

set_option maxRecDepth 100000 in
set_option maxHeartbeats 4000000 in
theorem specEndVisits {A : Option Addr} {l : ViL} {c : Nat} {long idle now : Int} {w : World} (hU : viR w A l) :
    Calls Try.prog 19 #[.agg #[.int .i64 long, .int .i64 idle], .slice A l.length c, .int .i64 now] w (SlPost 38 3 viEnc w (viEnd long idle l now)) := by
  have hl := hU.len
  obtain ⟨W, hW⟩ : ∃ W, W = w.alloc (.cells #[.int .i64 long, .int .i64 idle] 27) := ⟨_, rfl⟩
  have q0 : W.cell? ⟨w.heap.size, 0, none⟩ = some (.int .i64 long) := by rw [hW]; exact box_cell w #[.int .i64 long, .int .i64 idle] 27 0 (.int .i64 long) rfl
  have q1 : W.cell? ⟨w.heap.size, 1, none⟩ = some (.int .i64 idle) := by rw [hW]; exact box_cell w #[.int .i64 long, .int .i64 idle] 27 1 (.int .i64 idle) rfl
  have hB0 : Below w.heap.size w W := by rw [hW]; exact below_alloc _ _
  replace hU := hU.below hB0
  have hsz : W.heap.size = w.heap.size + 1 := by rw [hW]; simp
  obtain ⟨ov0, hov0⟩ : ∃ v, v = Value.slice (some ⟨w.heap.size + 1, 0, none⟩) 0 0 := ⟨_, rfl⟩
  have hO0 : OwnA W.heap.size 38 3 viEnc (W.alloc (.cells #[] 38)) ov0 [] := by rw [hov0, ← hsz]; exact OwnA.empty (Nat.le_refl _)
  have HW := Lib.hid hW
  have HV := Lib.hid hov0
  have HO0 := Lib.hid hO0
  clear hW hsz hov0 hO0
  cases g : (viOk long idle l && inB now 0 1000)
  · have HE : Hid (viEnd long idle l now = []) := Lib.hid (by simp [viEnd, g])
    rcases Nat.eq_zero_or_pos l.length with h0 | h0
    · obtain rfl := List.eq_nil_of_length_eq_zero h0
      clear g
      go_enter Try.func19, Try.ntmps19
      go_wp2_with fail
      rw [← HW.out, ← HV.out]
      refine wp_loop_rounds 1 ?_
      rw [rounds_succ]
      go_wp2
      go_ret
      exact SlPost.of HE.out (HO0.out.lower hB0.size) (hB0.trans ((below_alloc _ _).mono hB0.size))
    · have q0' := below_cell (below_alloc W (.cells #[] 38)) q0
      have q1' := below_cell (below_alloc W (.cells #[] 38)) q1
      have hU' := hU.below (below_alloc W (.cells #[] 38))
      have hC := below_alloc W (.cells #[] 38)
      have hO := HO0.out
      cases g1 : viOk long idle l
      · clear g
        go_enter Try.func19, Try.ntmps19
        go_wp2_with fail
        rw [← HW.out, ← HV.out]
        refine wp_loop_rounds 1 ?_
        rw [rounds_succ]
        go_wp2_with fail
        refine (specVisitsValid hU').mono ?_
        rintro e w1 ⟨rfl, hBc⟩
        replace hC := ext_trans hC hBc
        replace hO := hO.below hBc
        go_wp2
        go_ret
        exact SlPost.of HE.out (hO.lower hB0.size) (hB0.trans (hC.mono hB0.size))
      · have g2 : inB now 0 1000 = false := by simpa [g1] using g
        clear g
        go_enter Try.func19, Try.ntmps19
        go_wp2_with fail
        rw [← HW.out, ← HV.out]
        refine wp_loop_rounds 1 ?_
        rw [rounds_succ]
        go_wp2_with fail
        refine (specVisitsValid hU').mono ?_
        rintro e w1 ⟨rfl, hBc⟩
        replace hC := ext_trans hC hBc
        replace hO := hO.below hBc
        clear hBc
        go_wp2_with fail
        refine (l1In_any _ _ _ _).mono ?_
        rintro e w2 ⟨rfl, hBc⟩
        replace hC := ext_trans hC hBc
        replace hO := hO.below hBc
        go_wp2
        go_ret
        exact SlPost.of HE.out (hO.lower hB0.size) (hB0.trans (hC.mono hB0.size))
  · simp only [Bool.and_eq_true] at g
    obtain ⟨g1, g2⟩ := g
    obtain ⟨hl6, ⟨s1, s2⟩, ⟨s3, s4⟩, _⟩ := viOk_bounds g1
    obtain ⟨n0, n1⟩ := inB_true.1 g2
    have HE : Hid (viEnd long idle l now = viLast long idle now l) := Lib.hid (viEnd_yes g1 g2)
    have HG1 := Lib.hid g1
    have HG2 := Lib.hid g2
    clear g1 g2
    go_enter Try.func19, Try.ntmps19
    go_wp2_with fail
    rw [← HW.out, ← HV.out]
    go_loopw [7, 8] (fun ov i wr => ∃ k : Nat, k ≤ l.length ∧ i = .int .i64 k ∧ OwnA W.heap.size 38 3 viEnc wr ov (viLast long idle now (l.take k)) ∧ Below W.heap.size W wr) (fun _ i _ => l.length - (intOf i).toNat)
    case atStart => exact ⟨0, Nat.zero_le _, rfl, HO0.out, below_alloc _ _⟩
    case round =>
      clear HO0
      obtain ⟨k, hk, rfl, hO, hC⟩ := hrel
      have p0 := below_cell hC q0
      have p1 := below_cell hC q1
      have hU2 := hU.below hC
      have hlk := viLast_take long idle now l k
      by_cases hlt : k < l.length
      · go_wp2_with fail
        refine (specVisitsValid hU2).mono ?_
        rintro e w1 ⟨rfl, hBc⟩
        rw [HG1.out]
        replace hC := ext_trans hC hBc
        replace hO := hO.below hBc
        replace p0 := below_cell hBc p0
        replace p1 := below_cell hBc p1
        clear hBc
        go_wp2_with fail
        refine (l1In_any _ _ _ _).mono ?_
        rintro e w2 ⟨rfl, hBc⟩
        rw [HG2.out]
        replace hC := ext_trans hC hBc
        replace hO := hO.below hBc
        replace p0 := below_cell hBc p0
        replace p1 := below_cell hBc p1
        clear hBc hU2
        obtain ⟨b, off, rfl, hc⟩ := hU.cells (by omega)
        obtain ⟨c0, c1, c2⟩ := hc k hlt
        have m0 := cell_regrown (below_cell hC c0)
        have m1 := cell_regrown (below_cell hC c1)
        have m2 := cell_regrown (below_cell hC c2)
        have r0 := cell_regrown p0
        have r1 := cell_regrown p1
        obtain ⟨⟨b0, b1⟩, ⟨b2, b3⟩, b4, b5⟩ := viOk_at HG1.out hlt
        have HS := Lib.hid (viLast_succ (long := long) (idle := idle) (now := now) hlt)
        have HC := Lib.hid hc
        clear hc
        cases g : viLasts long idle now (vi0 l k, vi1 l k, vi2 l k)
        all_goals
          go_wp2
          refine wp_region_quiet_below (by kernel_rfl) (by kernel_rfl) ?_
          repeat (go_big_quiet_step ((go_at_call 40; exact Calls.regrown_of (l38Lasts_any (by omega) (by omega) (by omega) (by omega) (by omega) (by omega) (by omega) (by omega) (by omega) (by omega)))))
          refine wpQuiet_nil ?_
          intro w3 hw'regrown
          have hBr := below_of_regrown hw'regrown (Nat.le_refl _)
          clear hw'regrown
          clear m0 m1 m2 r0 r1
          replace hC := ext_trans hC hBr
          replace hO := hO.below hBr
          clear hBr
          rw [g]
        · go_wp2
          go_roundw
          case rel => exact ⟨k + 1, by omega, by go_num, hO.eq (by rw [HS.out, if_neg (by rw [g]; simp)]), hC⟩
          case measure => simp [intOf]; omega
        · clear c0 c1 c2
          obtain ⟨c0, c1, c2⟩ := HC.out k hlt
          have m0 := below_cell hC c0
          have m1 := below_cell hC c1
          have m2 := below_cell hC c2
          go_wp2_with (at_builtin; go_must (refine wpList_push (enc := viEnc) ((vi0 l k, vi1 l k, vi2 l k)) rfl (.tmp 32) (.tmp 37) 29 38 _ 3 24 rfl Try.underlying29 Try.infoVisit rfl (by decide) (fun _ => rfl) viEnc_one (hO.below (by (repeat (first | exact Below.refl _ _ | refine ext_alloc ?_ _ | refine Below.setCell ?_ (by simp) _)))) rfl (heap_alloc_at (by simp)) (by rfl) (by omega) (by omega) (Nat.le_trans hC.size (show Below _ _ _ by (repeat (first | exact Below.refl _ _ | refine ext_alloc ?_ _ | refine Below.setCell ?_ (by simp) _))).size) ?_); intro v_ wq2 ho_ hb_ hg_)
          replace hC := (ext_trans hC (by (repeat (first | exact Below.refl _ _ | refine ext_alloc ?_ _ | refine Below.setCell ?_ (by simp) _)))).trans hb_
          replace hO := ho_
          clear ho_ hb_ hg_
          go_wp2
          go_roundw
          case rel => exact ⟨k + 1, by omega, by go_num, hO.eq (by rw [HS.out, if_pos g]), hC⟩
          case measure => simp [intOf]; omega
      · obtain rfl : k = l.length := by omega
        go_wp2
        go_ret
        exact SlPost.of (by rw [HE.out, List.take_length]) (hO.lower hB0.size) (hB0.trans (hC.mono hB0.size))
end Go.Proofs.Ytflhmkpabhedjaa

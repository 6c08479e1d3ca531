/- the exact laws of visits, walked, continued -/
import Derived.Test.YtflhmkpabhedjaaViK
import Derived.Test.YtflhmkpabhedjaaStT
namespace Go.Proofs.Ytflhmkpabhedjaa
open Go.RowKit

set_option maxRecDepth 100000 in
set_option maxHeartbeats 4000000 in
theorem lawExactBeginVisit {long idle : Int} {Al : Option Addr} {l : _} {cl : Nat} {who : Int} {now : Int} {w : World} (hUl0 : viR w Al l) :
    Calls Try.prog 9 #[.agg #[.int .i64 long, .int .i64 idle], .slice Al l.length cl, .int .i64 who, .int .i64 now] w fun e w' => e = .returned (.bool true) ∧ Below w.heap.size w w' := by
  obtain ⟨W, hW⟩ : ∃ W, W = w.alloc (.cells #[.int .i64 long, .int .i64 idle] 23) := ⟨_, rfl⟩
  have q0 : W.cell? ⟨w.heap.size, 0, none⟩ = some (.int .i64 long) := by rw [hW]; exact box_cell w #[.int .i64 long, .int .i64 idle] 23 0 (.int .i64 long) rfl
  have q1 : W.cell? ⟨w.heap.size, 1, none⟩ = some (.int .i64 idle) := by rw [hW]; exact box_cell w #[.int .i64 long, .int .i64 idle] 23 1 (.int .i64 idle) rfl
  have hB0 : Below w.heap.size w W := by rw [hW]; exact below_alloc _ _
  have hUl : viR W Al l := hUl0.below hB0
  have hll := hUl.len
  have hB := Below.refl W.heap.size W
  have HW := Lib.hid hW
  clear hW hUl0
  by_cases h0 : (1048576 : Int) < l.length
  · go_enter Try.func9, Try.ntmps9
    go_wp2_with fail
    rw [← HW.out]
    refine (szVisitS_any (hUl.below hB) (by omega) (by omega)).mono ?_
    rintro e w1 ⟨rfl, hBc⟩
    replace hB := ext_trans hB hBc
    clear hBc
    rw [if_pos (by omega)]
    go_wp2
    go_ret
    exact ⟨rfl, ext_trans hB0 hB⟩
  · obtain ⟨r1, hr1⟩ : ∃ r, r = (viBegin long idle l who now).1 := ⟨_, rfl⟩
    have hr1l : r1.length ≤ l.length + 1 := by rw [hr1]; exact viBegin_len _ _ _ _ _
    have HR1 := Lib.hid hr1
    clear hr1
    obtain ⟨r2, hr2⟩ : ∃ r, r = (viBegin long idle l who now).2 := ⟨_, rfl⟩
    have HR2 := Lib.hid hr2
    clear hr2
    go_enter Try.func9, Try.ntmps9
    go_wp2_with fail
    rw [← HW.out]
    refine (szVisitS_any (hUl.below hB) (by omega) (by omega)).mono ?_
    rintro e w1 ⟨rfl, hBc⟩
    replace hB := ext_trans hB hBc
    clear hBc
    rw [if_neg (by omega)]
    have p0 := below_cell hB q0
    have p1 := below_cell hB q1
    go_wp2_with fail
    refine (toStay_any _ _ _).mono ?_
    rintro e w2 ⟨rfl, hBc⟩
    replace hB := ext_trans hB hBc
    replace p0 := below_cell hBc p0
    replace p1 := below_cell hBc p1
    clear hBc
    go_wp2_with fail
    refine (toVisitS_any (hUl.below hB) (by omega)).mono ?_
    rintro e w3 ⟨rfl, ho1, hBc⟩
    replace hB := ext_trans hB hBc
    replace p0 := below_cell hBc p0
    replace p1 := below_cell hBc p1
    clear hBc
    go_wp2_with fail
    refine (specBeginVisit (viR.own rfl (by omega) ho1)).mono ?_
    rintro e w4 ⟨Aw, cw, rfl, how, hBc⟩
    rw [← HR1.out] at how ⊢
    rw [← HR2.out]
    replace hB := ext_trans hB hBc
    replace p0 := below_cell hBc p0
    replace p1 := below_cell hBc p1
    replace ho1 := own_below ho1 hBc
    clear hBc ho1
    have hwl := fun k hk => (how.lt k hk).2
    have hwb := hB.size
    go_wp2_with fail
    refine (toVisitS_any (hUl.below hB) (by omega)).mono ?_
    rintro e w5 ⟨rfl, hox1, hBc⟩
    replace hB := ext_trans hB hBc
    replace p0 := below_cell hBc p0
    replace p1 := below_cell hBc p1
    replace how := own_below how hBc
    clear hBc
    have hxl1 := (own_lt hox1).2
    have hxb1 := (own_lt hox1).1
    go_wp2_with fail
    refine (toStay_any _ _ _).mono ?_
    rintro e w6 ⟨rfl, hBc⟩
    replace hB := ext_trans hB hBc
    replace p0 := below_cell hBc p0
    replace p1 := below_cell hBc p1
    replace how := own_below how hBc
    replace hox1 := own_below hox1 hBc
    clear hBc
    have hxm1 := (own_lt hox1).2
    go_wp2_with fail
    refine (implBeginVisit (viR.own rfl (by omega) hox1)).mono ?_
    rintro e w7 ⟨Ag, cg, rfl, hog, hBc⟩
    rw [← HR1.out] at hog ⊢
    rw [← HR2.out]
    replace hB := ext_trans hB hBc
    replace p0 := below_cell hBc p0
    replace p1 := below_cell hBc p1
    replace how := own_below how hBc
    replace hox1 := own_below hox1 hBc
    clear hBc
    have hgb := fun k hk => (hog.lt k hk).1
    go_wp2_with fail
    refine (eqVisitS_any (viR.own rfl (by omega) hog) (viR.own rfl (by omega) how)).mono ?_
    rintro e w8 ⟨rfl, hBc⟩
    replace hB := ext_trans hB hBc
    replace p0 := below_cell hBc p0
    replace p1 := below_cell hBc p1
    replace how := own_below how hBc
    replace hox1 := own_below hox1 hBc
    replace hog := own_below hog hBc
    clear hBc
    rw [sameB_self]
    go_wp2_with fail
    refine (toVisitS_any (hUl.below hB) (by omega)).mono ?_
    rintro e w9 ⟨rfl, hoy, hBc⟩
    replace hB := ext_trans hB hBc
    replace p0 := below_cell hBc p0
    replace p1 := below_cell hBc p1
    replace how := own_below how hBc
    replace hox1 := own_below hox1 hBc
    replace hog := own_below hog hBc
    clear hBc
    go_wp2_with fail
    refine (eqVisitS_any (viR.own rfl (by omega) hox1) (viR.own rfl (by omega) hoy)).mono ?_
    rintro e w10 ⟨rfl, hBc⟩
    replace hB := ext_trans hB hBc
    replace p0 := below_cell hBc p0
    replace p1 := below_cell hBc p1
    replace how := own_below how hBc
    replace hox1 := own_below hox1 hBc
    replace hog := own_below hog hBc
    clear hBc
    rw [sameB_self]
    clear hoy
    go_wp2_with fail
    refine (markVisitS_any hox1 (by omega) (by omega) (by omega)).mono ?_
    rintro e w11 ⟨rfl, hoxm, hgm⟩
    have hgm' : World.grownBy _ w11 (some w4.heap.size) := hgm
    replace how := own_apart how hgm' (fun k hk => by have := hwl k hk; omega)
    replace hog := own_apart hog hgm' (fun k hk => by have := hgb k hk; omega)
    replace hB := below_grown_at hB hgm' hB.size (by omega)
    clear hoxm hgm hgm' hox1 p0 p1
    go_wp2_with fail
    refine (eqVisitS_any (viR.own rfl (by omega) hog) (viR.own rfl (by omega) how)).mono ?_
    rintro e w12 ⟨rfl, hBc⟩
    replace hB := ext_trans hB hBc
    replace how := own_below how hBc
    replace hog := own_below hog hBc
    clear hBc
    rw [sameB_self]
    go_wp2_with fail
    refine (markVisitS_any hog (by omega) (by omega) (by omega)).mono ?_
    rintro e w13 ⟨rfl, hogm, hgm⟩
    replace how := own_apart_ how hgm (fun k hk e => by have := hwl k hk; have := hgb k e; omega)
    replace hB := hB.grown hgm hB.size (fun k hk => by have := hgb k hk; omega)
    clear hgm hog
    go_wp2_with fail
    refine (heldVisitS_m (viR.own (viMark_length _ _) (by omega) hogm) (by omega) (by omega) (by omega)).mono ?_
    rintro e w14 ⟨rfl, hBc⟩
    replace hB := ext_trans hB hBc
    replace how := own_below how hBc
    replace hogm := own_below hogm hBc
    clear hBc
    have p0 := below_cell hB q0
    have p1 := below_cell hB q1
    go_wp2_with fail
    refine (toStay_any _ _ _).mono ?_
    rintro e w15 ⟨rfl, hBc⟩
    replace hB := ext_trans hB hBc
    replace p0 := below_cell hBc p0
    replace p1 := below_cell hBc p1
    replace how := own_below how hBc
    replace hogm := own_below hogm hBc
    clear hBc
    go_wp2_with fail
    refine (toVisitS_any (hUl.below hB) (by omega)).mono ?_
    rintro e w16 ⟨rfl, ho1, hBc⟩
    replace hB := ext_trans hB hBc
    replace p0 := below_cell hBc p0
    replace p1 := below_cell hBc p1
    replace how := own_below how hBc
    replace hogm := own_below hogm hBc
    clear hBc
    go_wp2_with fail
    refine (implBeginVisit (viR.own rfl (by omega) ho1)).mono ?_
    rintro e w17 ⟨Ah, ch, rfl, hoh, hBc⟩
    rw [← HR1.out] at hoh ⊢
    rw [← HR2.out]
    replace hB := ext_trans hB hBc
    replace how := own_below how hBc
    replace hogm := own_below hogm hBc
    clear hBc ho1
    go_wp2_with fail
    refine (eqVisitS_any (viR.own rfl (by omega) hoh) (viR.own rfl (by omega) how)).mono ?_
    rintro e w18 ⟨rfl, hBc⟩
    replace hB := ext_trans hB hBc
    replace how := own_below how hBc
    replace hogm := own_below hogm hBc
    clear hBc
    rw [sameB_self]
    go_wp2_with fail
    refine (heldVisitS_m (viR.own (viMark_length _ _) (by omega) hogm) (by omega) (by omega) (by omega)).mono ?_
    rintro e w19 ⟨rfl, hBc⟩
    replace hB := ext_trans hB hBc
    replace how := own_below how hBc
    replace hogm := own_below hogm hBc
    clear hBc
    go_wp2
    go_ret
    exact ⟨rfl, ext_trans hB0 hB⟩

set_option maxRecDepth 100000 in
set_option maxHeartbeats 4000000 in
theorem lawExactTouchVisit {long idle : Int} {Al : Option Addr} {l : _} {cl : Nat} {who : Int} {now : Int} {w : World} (hUl0 : viR w Al l) :
    Calls Try.prog 7 #[.agg #[.int .i64 long, .int .i64 idle], .slice Al l.length cl, .int .i64 who, .int .i64 now] w fun e w' => e = .returned (.bool true) ∧ Below w.heap.size w w' := by
  obtain ⟨W, hW⟩ : ∃ W, W = w.alloc (.cells #[.int .i64 long, .int .i64 idle] 23) := ⟨_, rfl⟩
  have q0 : W.cell? ⟨w.heap.size, 0, none⟩ = some (.int .i64 long) := by rw [hW]; exact box_cell w #[.int .i64 long, .int .i64 idle] 23 0 (.int .i64 long) rfl
  have q1 : W.cell? ⟨w.heap.size, 1, none⟩ = some (.int .i64 idle) := by rw [hW]; exact box_cell w #[.int .i64 long, .int .i64 idle] 23 1 (.int .i64 idle) rfl
  have hB0 : Below w.heap.size w W := by rw [hW]; exact below_alloc _ _
  have hUl : viR W Al l := hUl0.below hB0
  have hll := hUl.len
  have hB := Below.refl W.heap.size W
  have HW := Lib.hid hW
  clear hW hUl0
  by_cases h0 : (1048576 : Int) < l.length
  · go_enter Try.func7, Try.ntmps7
    go_wp2_with fail
    rw [← HW.out]
    refine (szVisitS_any (hUl.below hB) (by omega) (by omega)).mono ?_
    rintro e w1 ⟨rfl, hBc⟩
    replace hB := ext_trans hB hBc
    clear hBc
    rw [if_pos (by omega)]
    go_wp2
    go_ret
    exact ⟨rfl, ext_trans hB0 hB⟩
  · obtain ⟨r1, hr1⟩ : ∃ r, r = (viTouch long idle l who now).1 := ⟨_, rfl⟩
    have hr1l : r1.length ≤ l.length := by rw [hr1]; exact viTouch_len _ _ _ _ _
    have HR1 := Lib.hid hr1
    clear hr1
    obtain ⟨r2, hr2⟩ : ∃ r, r = (viTouch long idle l who now).2 := ⟨_, rfl⟩
    have HR2 := Lib.hid hr2
    clear hr2
    go_enter Try.func7, Try.ntmps7
    go_wp2_with fail
    rw [← HW.out]
    refine (szVisitS_any (hUl.below hB) (by omega) (by omega)).mono ?_
    rintro e w1 ⟨rfl, hBc⟩
    replace hB := ext_trans hB hBc
    clear hBc
    rw [if_neg (by omega)]
    have p0 := below_cell hB q0
    have p1 := below_cell hB q1
    go_wp2_with fail
    refine (toStay_any _ _ _).mono ?_
    rintro e w2 ⟨rfl, hBc⟩
    replace hB := ext_trans hB hBc
    replace p0 := below_cell hBc p0
    replace p1 := below_cell hBc p1
    clear hBc
    go_wp2_with fail
    refine (toVisitS_any (hUl.below hB) (by omega)).mono ?_
    rintro e w3 ⟨rfl, ho1, hBc⟩
    replace hB := ext_trans hB hBc
    replace p0 := below_cell hBc p0
    replace p1 := below_cell hBc p1
    clear hBc
    go_wp2_with fail
    refine (specTouchVisit (viR.own rfl (by omega) ho1)).mono ?_
    rintro e w4 ⟨Aw, cw, rfl, how, hBc⟩
    rw [← HR1.out] at how ⊢
    rw [← HR2.out]
    replace hB := ext_trans hB hBc
    replace p0 := below_cell hBc p0
    replace p1 := below_cell hBc p1
    replace ho1 := own_below ho1 hBc
    clear hBc ho1
    have hwl := fun k hk => (how.lt k hk).2
    have hwb := hB.size
    go_wp2_with fail
    refine (toVisitS_any (hUl.below hB) (by omega)).mono ?_
    rintro e w5 ⟨rfl, hox1, hBc⟩
    replace hB := ext_trans hB hBc
    replace p0 := below_cell hBc p0
    replace p1 := below_cell hBc p1
    replace how := own_below how hBc
    clear hBc
    have hxl1 := (own_lt hox1).2
    have hxb1 := (own_lt hox1).1
    go_wp2_with fail
    refine (toStay_any _ _ _).mono ?_
    rintro e w6 ⟨rfl, hBc⟩
    replace hB := ext_trans hB hBc
    replace p0 := below_cell hBc p0
    replace p1 := below_cell hBc p1
    replace how := own_below how hBc
    replace hox1 := own_below hox1 hBc
    clear hBc
    have hxm1 := (own_lt hox1).2
    go_wp2_with fail
    refine (implTouchVisit (viR.own rfl (by omega) hox1)).mono ?_
    rintro e w7 ⟨Ag, cg, rfl, hog, hBc⟩
    rw [← HR1.out] at hog ⊢
    rw [← HR2.out]
    replace hB := ext_trans hB hBc
    replace p0 := below_cell hBc p0
    replace p1 := below_cell hBc p1
    replace how := own_below how hBc
    replace hox1 := own_below hox1 hBc
    clear hBc
    have hgb := fun k hk => (hog.lt k hk).1
    go_wp2_with fail
    refine (eqVisitS_any (viR.own rfl (by omega) hog) (viR.own rfl (by omega) how)).mono ?_
    rintro e w8 ⟨rfl, hBc⟩
    replace hB := ext_trans hB hBc
    replace p0 := below_cell hBc p0
    replace p1 := below_cell hBc p1
    replace how := own_below how hBc
    replace hox1 := own_below hox1 hBc
    replace hog := own_below hog hBc
    clear hBc
    rw [sameB_self]
    go_wp2_with fail
    refine (toVisitS_any (hUl.below hB) (by omega)).mono ?_
    rintro e w9 ⟨rfl, hoy, hBc⟩
    replace hB := ext_trans hB hBc
    replace p0 := below_cell hBc p0
    replace p1 := below_cell hBc p1
    replace how := own_below how hBc
    replace hox1 := own_below hox1 hBc
    replace hog := own_below hog hBc
    clear hBc
    go_wp2_with fail
    refine (eqVisitS_any (viR.own rfl (by omega) hox1) (viR.own rfl (by omega) hoy)).mono ?_
    rintro e w10 ⟨rfl, hBc⟩
    replace hB := ext_trans hB hBc
    replace p0 := below_cell hBc p0
    replace p1 := below_cell hBc p1
    replace how := own_below how hBc
    replace hox1 := own_below hox1 hBc
    replace hog := own_below hog hBc
    clear hBc
    rw [sameB_self]
    clear hoy
    go_wp2_with fail
    refine (markVisitS_any hox1 (by omega) (by omega) (by omega)).mono ?_
    rintro e w11 ⟨rfl, hoxm, hgm⟩
    have hgm' : World.grownBy _ w11 (some w4.heap.size) := hgm
    replace how := own_apart how hgm' (fun k hk => by have := hwl k hk; omega)
    replace hog := own_apart hog hgm' (fun k hk => by have := hgb k hk; omega)
    replace hB := below_grown_at hB hgm' hB.size (by omega)
    clear hoxm hgm hgm' hox1 p0 p1
    go_wp2_with fail
    refine (eqVisitS_any (viR.own rfl (by omega) hog) (viR.own rfl (by omega) how)).mono ?_
    rintro e w12 ⟨rfl, hBc⟩
    replace hB := ext_trans hB hBc
    replace how := own_below how hBc
    replace hog := own_below hog hBc
    clear hBc
    rw [sameB_self]
    go_wp2_with fail
    refine (markVisitS_any hog (by omega) (by omega) (by omega)).mono ?_
    rintro e w13 ⟨rfl, hogm, hgm⟩
    replace how := own_apart_ how hgm (fun k hk e => by have := hwl k hk; have := hgb k e; omega)
    replace hB := hB.grown hgm hB.size (fun k hk => by have := hgb k hk; omega)
    clear hgm hog
    go_wp2_with fail
    refine (heldVisitS_m (viR.own (viMark_length _ _) (by omega) hogm) (by omega) (by omega) (by omega)).mono ?_
    rintro e w14 ⟨rfl, hBc⟩
    replace hB := ext_trans hB hBc
    replace how := own_below how hBc
    replace hogm := own_below hogm hBc
    clear hBc
    have p0 := below_cell hB q0
    have p1 := below_cell hB q1
    go_wp2_with fail
    refine (toStay_any _ _ _).mono ?_
    rintro e w15 ⟨rfl, hBc⟩
    replace hB := ext_trans hB hBc
    replace p0 := below_cell hBc p0
    replace p1 := below_cell hBc p1
    replace how := own_below how hBc
    replace hogm := own_below hogm hBc
    clear hBc
    go_wp2_with fail
    refine (toVisitS_any (hUl.below hB) (by omega)).mono ?_
    rintro e w16 ⟨rfl, ho1, hBc⟩
    replace hB := ext_trans hB hBc
    replace p0 := below_cell hBc p0
    replace p1 := below_cell hBc p1
    replace how := own_below how hBc
    replace hogm := own_below hogm hBc
    clear hBc
    go_wp2_with fail
    refine (implTouchVisit (viR.own rfl (by omega) ho1)).mono ?_
    rintro e w17 ⟨Ah, ch, rfl, hoh, hBc⟩
    rw [← HR1.out] at hoh ⊢
    rw [← HR2.out]
    replace hB := ext_trans hB hBc
    replace how := own_below how hBc
    replace hogm := own_below hogm hBc
    clear hBc ho1
    go_wp2_with fail
    refine (eqVisitS_any (viR.own rfl (by omega) hoh) (viR.own rfl (by omega) how)).mono ?_
    rintro e w18 ⟨rfl, hBc⟩
    replace hB := ext_trans hB hBc
    replace how := own_below how hBc
    replace hogm := own_below hogm hBc
    clear hBc
    rw [sameB_self]
    go_wp2_with fail
    refine (heldVisitS_m (viR.own (viMark_length _ _) (by omega) hogm) (by omega) (by omega) (by omega)).mono ?_
    rintro e w19 ⟨rfl, hBc⟩
    replace hB := ext_trans hB hBc
    replace how := own_below how hBc
    replace hogm := own_below hogm hBc
    clear hBc
    go_wp2
    go_ret
    exact ⟨rfl, ext_trans hB0 hB⟩
end Go.Proofs.Ytflhmkpabhedjaa

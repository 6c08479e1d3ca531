/- The exact laws of seals, right records and refusals, walked. -/
import Derived.Test.YtdpiaiblpafglaaRcH
import Derived.Test.YtdpiaiblpafglaaRcE
namespace Go.Proofs.Ytdpiaiblpafglaa
set_option linter.unusedSimpArgs false
set_option linter.unusedVariables false
open Go.RowKit

/-- A record of one's own. -/
def RcV (B : Nat) (r : Rc) (w : World) (v : Value) : Prop := ∃ g, v = .agg #[.int .i64 (rtm r), .int .i64 (rwho r), .int .i64 (ract r), .int .i64 (rwhat r), .slice (some ⟨g, 0, none⟩) (rfs r).length (rfs r).length, .bool (ral r), .int .i64 (rsl r)] ∧
  w.ownsRow B 85 3 (.slice (some ⟨g, 0, none⟩) (rfs r).length (rfs r).length) (rfs r).length ((rfs r).flatMap fdEnc)
theorem RcV.below {B : Nat} {r : Rc} {w w' : World} {v : Value} (h : RcV B r w v) (hb : Below w.heap.size w w') : RcV B r w' v := let ⟨g, h1, h2⟩ := h; ⟨g, h1, own_below h2 hb⟩

set_option maxRecDepth 100000 in
set_option maxHeartbeats 4000000 in
theorem lawExactRecordSeal {A : Option Addr} {r : Rc} {c : Nat} {before : Int} {w : World} (hU0 : fdR w A (rfs r)) (hw : WfFd (rfs r)) :
    Calls Try.prog 5 #[.int .i64 before, .agg #[.int .i64 (rtm r), .int .i64 (rwho r), .int .i64 (ract r), .int .i64 (rwhat r), .slice A (rfs r).length c, .bool (ral r), .int .i64 (rsl r)]] w fun e w' => e = .returned (.bool true) ∧ Below w.heap.size w w' := by
  obtain ⟨W, hW⟩ : ∃ W, W = w.alloc (.cells #[.int .i64 (rtm r), .int .i64 (rwho r), .int .i64 (ract r), .int .i64 (rwhat r), .slice A (rfs r).length c, .bool (ral r), .int .i64 (rsl r)] 40) := ⟨_, rfl⟩
  obtain ⟨g, hg⟩ : ∃ g, g = w.heap.size := ⟨_, rfl⟩
  have hB : Below w.heap.size w W := by rw [hW]; exact below_alloc _ _
  have q0 : W.cell? ⟨g, 0, none⟩ = some (.int .i64 (rtm r)) := by rw [hW, hg]; exact box_cell _ _ _ 0 _ rfl
  have q1 : W.cell? ⟨g, 1, none⟩ = some (.int .i64 (rwho r)) := by rw [hW, hg]; exact box_cell _ _ _ 1 _ rfl
  have q2 : W.cell? ⟨g, 2, none⟩ = some (.int .i64 (ract r)) := by rw [hW, hg]; exact box_cell _ _ _ 2 _ rfl
  have q3 : W.cell? ⟨g, 3, none⟩ = some (.int .i64 (rwhat r)) := by rw [hW, hg]; exact box_cell _ _ _ 3 _ rfl
  have q4 : W.cell? ⟨g, 4, none⟩ = some (.slice A (rfs r).length c) := by rw [hW, hg]; exact box_cell _ _ _ 4 _ rfl
  have q5 : W.cell? ⟨g, 5, none⟩ = some (.bool (ral r)) := by rw [hW, hg]; exact box_cell _ _ _ 5 _ rfl
  have q6 : W.cell? ⟨g, 6, none⟩ = some (.int .i64 (rsl r)) := by rw [hW, hg]; exact box_cell _ _ _ 6 _ rfl
  have hU := hU0.below hB
  have HW := Lib.hid hW
  have HG := Lib.hid hg
  have HWF := Lib.hid hw
  clear hW hg hU0 hw
  go_enter Try.func5, Try.ntmps5
  go_wp2_with fail
  rw [← HW.out, ← HG.out]
  refine (szRecord_any hU HWF.out (by omega) (by omega)).mono ?_
  rintro e w1 ⟨y, rfl, hy, hBc⟩
  replace hB := ext_trans hB hBc
  replace hU := hU.below hBc
  replace q0 := below_cell hBc q0
  replace q1 := below_cell hBc q1
  replace q2 := below_cell hBc q2
  replace q3 := below_cell hBc q3
  replace q4 := below_cell hBc q4
  replace q5 := below_cell hBc q5
  replace q6 := below_cell hBc q6
  clear hBc
  rcases hy with rfl | ⟨y0, y1⟩
  · go_wp2
    go_ret
    exact ⟨rfl, hB⟩
  · obtain ⟨n, hn⟩ : ∃ n, n = rcSeal before (rtm r) (rwho r) (ract r) (rwhat r) (ral r) := ⟨_, rfl⟩
    have HN := Lib.hid hn
    clear hn
    go_wp2_with fail
    refine (toRecord_any hU (by omega)).mono ?_
    rintro e w2 ⟨g2, rfl, ho2, hBc⟩
    replace hB := ext_trans hB hBc
    replace hU := hU.below hBc
    replace q0 := below_cell hBc q0
    replace q1 := below_cell hBc q1
    replace q2 := below_cell hBc q2
    replace q3 := below_cell hBc q3
    replace q4 := below_cell hBc q4
    replace q5 := below_cell hBc q5
    replace q6 := below_cell hBc q6
    clear hBc
    clear ho2
    go_wp2_with fail
    refine (specRecordSeal).mono ?_
    rintro e w3 ⟨rfl, hBc⟩
    replace hB := ext_trans hB hBc
    replace hU := hU.below hBc
    replace q0 := below_cell hBc q0
    replace q1 := below_cell hBc q1
    replace q2 := below_cell hBc q2
    replace q3 := below_cell hBc q3
    replace q4 := below_cell hBc q4
    replace q5 := below_cell hBc q5
    replace q6 := below_cell hBc q6
    clear hBc
    rw [← HN.out]
    go_wp2_with fail
    refine (toRecord_any hU (by omega)).mono ?_
    rintro e w4 ⟨g3, rfl, ho, hBc⟩
    replace hB := ext_trans hB hBc
    replace hU := hU.below hBc
    replace q0 := below_cell hBc q0
    replace q1 := below_cell hBc q1
    replace q2 := below_cell hBc q2
    replace q3 := below_cell hBc q3
    replace q4 := below_cell hBc q4
    replace q5 := below_cell hBc q5
    replace q6 := below_cell hBc q6
    clear hBc
    obtain ⟨X, hX⟩ : ∃ X, X = w4.alloc (.cells #[.int .i64 (rtm r), .int .i64 (rwho r), .int .i64 (ract r), .int .i64 (rwhat r), .slice (some ⟨g3, 0, none⟩) (rfs r).length (rfs r).length, .bool (ral r), .int .i64 (rsl r)] 27) := ⟨_, rfl⟩
    obtain ⟨gx, hgx⟩ : ∃ g, g = w4.heap.size := ⟨_, rfl⟩
    have x0 : X.cell? ⟨gx, 0, none⟩ = some (.int .i64 (rtm r)) := by rw [hX, hgx]; exact box_cell _ _ _ 0 _ rfl
    have x1 : X.cell? ⟨gx, 1, none⟩ = some (.int .i64 (rwho r)) := by rw [hX, hgx]; exact box_cell _ _ _ 1 _ rfl
    have x2 : X.cell? ⟨gx, 2, none⟩ = some (.int .i64 (ract r)) := by rw [hX, hgx]; exact box_cell _ _ _ 2 _ rfl
    have x3 : X.cell? ⟨gx, 3, none⟩ = some (.int .i64 (rwhat r)) := by rw [hX, hgx]; exact box_cell _ _ _ 3 _ rfl
    have x4 : X.cell? ⟨gx, 4, none⟩ = some (.slice (some ⟨g3, 0, none⟩) (rfs r).length (rfs r).length) := by rw [hX, hgx]; exact box_cell _ _ _ 4 _ rfl
    have x5 : X.cell? ⟨gx, 5, none⟩ = some (.bool (ral r)) := by rw [hX, hgx]; exact box_cell _ _ _ 5 _ rfl
    have x6 : X.cell? ⟨gx, 6, none⟩ = some (.int .i64 (rsl r)) := by rw [hX, hgx]; exact box_cell _ _ _ 6 _ rfl
    have hb4 : Below w4.heap.size w4 X := by rw [hX]; exact below_alloc _ _
    replace hB := ext_trans hB hb4
    replace hU := hU.below hb4
    replace q0 := below_cell hb4 q0
    replace q1 := below_cell hb4 q1
    replace q2 := below_cell hb4 q2
    replace q3 := below_cell hb4 q3
    replace q4 := below_cell hb4 q4
    replace q5 := below_cell hb4 q5
    replace q6 := below_cell hb4 q6
    have hV : fdR X (some ⟨g3, 0, none⟩) (rfs r) := (fdR.own rfl (by omega) ho).below hb4
    have HX := Lib.hid hX
    have HGX := Lib.hid hgx
    clear hX hgx hb4 ho
    go_wp2_with fail
    rw [← HX.out, ← HGX.out]
    refine (implRecordSeal).mono ?_
    rintro e w5 ⟨rfl, hBc⟩
    replace hB := ext_trans hB hBc
    replace hU := hU.below hBc
    replace hV := hV.below hBc
    replace q0 := below_cell hBc q0
    replace q1 := below_cell hBc q1
    replace q2 := below_cell hBc q2
    replace q3 := below_cell hBc q3
    replace q4 := below_cell hBc q4
    replace q5 := below_cell hBc q5
    replace q6 := below_cell hBc q6
    replace x0 := below_cell hBc x0
    replace x1 := below_cell hBc x1
    replace x2 := below_cell hBc x2
    replace x3 := below_cell hBc x3
    replace x4 := below_cell hBc x4
    replace x5 := below_cell hBc x5
    replace x6 := below_cell hBc x6
    clear hBc
    rw [← HN.out]
    go_wp2_with fail
    refine wp_region_kinds2 (fun i wz vz => match i with | 0 => vz = .agg #[.int .i64 (rtm r), .int .i64 (rwho r), .int .i64 (ract r), .int .i64 (rwhat r), .slice (some ⟨g3, 0, none⟩) (rfs r).length (rfs r).length, .bool (ral r), .int .i64 (rsl r)] | 1 => vz = .agg #[.int .i64 (rtm r), .int .i64 (rwho r), .int .i64 (ract r), .int .i64 (rwhat r), .slice A (rfs r).length c, .bool (ral r), .int .i64 (rsl r)] | 2 => RcV w5.heap.size r wz vz | 3 => vz = .bool true | 4 => vz = .bool false | _ => True) (fun _ wz => Below w5.heap.size w5 wz) (fun i w w' => Below w.heap.size w w') (fun _ => Option.none) (by kernel_rfl) (by kernel_rfl) (by kernel_rfl) ?stab10 (ext_drew (Below.refl _ _)) ?all10 ?fin10
    case stab10 =>
      intro i j wa wb v hR hk hne hd _ h2 hT
      match j, hk, hne, hd, h2, hT with
      | 0, hk, hne, hd, h2, hT => exact hT
      | 1, hk, hne, hd, h2, hT => exact hT
      | 2, hk, hne, hd, h2, hT => exact RcV.below hT hR
      | 3, hk, hne, hd, h2, hT => exact hT
      | 4, hk, hne, hd, h2, hT => exact hT
      | n + 5, _, _, _, _, _ => trivial
    case all10 =>
      refine RAll.cons rfl ?_ (RAll.cons rfl ?_ (RAll.cons rfl ?_ (RAll.cons rfl ?_ (RAll.cons rfl ?_ (RAll.none_)))))
      · intro a k wa K Q _ hI hp hK
        have e7 := tmp_of (show a.eval (.tmp 7) = .pointer (some ⟨gx, 0, none⟩) from hp.keep 7 (by kernel_rfl))
        have x0_ := below_cell hI x0
        have x1_ := below_cell hI x1
        have x2_ := below_cell hI x2
        have x3_ := below_cell hI x3
        have x4_ := below_cell hI x4
        have x5_ := below_cell hI x5
        have x6_ := below_cell hI x6
        go_simp
        exact hK _ _ rfl (Below.refl _ _) hI
      · intro a k wa K Q _ hI hp hK
        have e3 := tmp_of (show a.eval (.tmp 3) = .pointer (some ⟨g, 0, none⟩) from hp.keep 3 (by kernel_rfl))
        have q0_ := below_cell hI q0
        have q1_ := below_cell hI q1
        have q2_ := below_cell hI q2
        have q3_ := below_cell hI q3
        have q4_ := below_cell hI q4
        have q5_ := below_cell hI q5
        have q6_ := below_cell hI q6
        go_simp
        exact hK _ _ rfl (Below.refl _ _) hI
      · intro a k wa K Q _ hI hp hK
        have e27 := tmp_of (show a.eval (.tmp 27) = .agg #[.int .i64 (rtm r), .int .i64 (rwho r), .int .i64 (ract r), .int .i64 (rwhat r), .slice A (rfs r).length c, .bool (ral r), .int .i64 (rsl r)] from hp.dep 1 27 (by kernel_rfl))
        go_simp
        refine (toRecord_any (hU.below hI) (by omega)).mono ?_
        rintro e wb ⟨g8, rfl, ho8, hb⟩
        exact hK _ _ ⟨g8, rfl, own_lower ho8 hI.size⟩ hb (ext_trans hI hb)
      · intro a k wa K Q _ hI hp hK
        have e26 := tmp_of (show a.eval (.tmp 26) = .agg #[.int .i64 (rtm r), .int .i64 (rwho r), .int .i64 (ract r), .int .i64 (rwhat r), .slice (some ⟨g3, 0, none⟩) (rfs r).length (rfs r).length, .bool (ral r), .int .i64 (rsl r)] from hp.dep 0 26 (by kernel_rfl))
        have t28 : RcV w5.heap.size r wa (a.eval (.tmp 28)) := hp.dep 2 28 (by kernel_rfl)
        obtain ⟨g8, e28, ho8⟩ := t28
        replace e28 := tmp_of e28
        go_simp
        refine (eqRecord_any (r := r) (r' := r) (hV.below hI) (fdR.own rfl (by omega) ho8)).mono ?_
        rintro e wb ⟨rfl, hb⟩
        rw [sameB_self]
        exact hK _ _ rfl hb (ext_trans hI hb)
      · intro a k wa K Q _ hI hp hK
        have e29 := tmp_of (show a.eval (.tmp 29) = .bool true from hp.dep 3 29 (by kernel_rfl))
        go_simp
        exact hK _ _ (rfl) (Below.refl _ _) hI
    case fin10 =>
      intro f w9 hT hI0
      have hI : Below w5.heap.size w5 w9 := hI0
      have hr4 : (f 4) = .bool false := hT 4 (by decide) rfl rfl
      clear hT hI0
      simp only [putAll, hr4]
      go_simp
      go_wp2
      go_ret
      exact ⟨rfl, ext_trans hB hI⟩
theorem FewF.mem {l : RcL} (h : FewF 1048576 l) : ∀ r ∈ l, (rfs r).length ≤ 9223372036854775807 := fun r hr => by
  obtain ⟨k, hk, rfl⟩ := List.getElem_of_mem hr
  have := h k hk
  rw [← rcAt_eq hk]
  exact Nat.le_trans this (by omega)
theorem ownRc_below {B : Nat} {w w' : World} {v : Value} {l : RcL} (h : OwnG (RcO B) B 27 7 w v l) (hb : Below w.heap.size w w') : OwnG (RcO B) B 27 7 w' v l := h.below hb (RcO.below hb)
set_option maxRecDepth 100000 in
set_option maxHeartbeats 4000000 in
theorem lawExactRecordsRight {A : Option Addr} {l : RcL} {c : Nat} {w : World} (hU : rcR w A l) (hw : WfRc l) :
    Calls Try.prog 8 #[.slice A l.length c] w fun e w' => e = .returned (.bool true) ∧ Below w.heap.size w w' := by
  have HWF := Lib.hid hw
  clear hw
  go_enter Try.func8, Try.ntmps8
  go_wp2_with fail
  refine (szRecordS_any hU HWF.out (by omega) (by omega)).mono ?_
  rintro e w1 ⟨y, rfl, hy, hB⟩
  replace hU := hU.below hB
  rcases hy with rfl | ⟨y0, y1, hf⟩
  · go_wp2
    go_ret
    exact ⟨rfl, hB⟩
  · have HF := Lib.hid hf
    have HM := Lib.hid (FewF.mem hf)
    clear hf
    go_wp2_with fail
    refine (toRecordS_any hU (by omega) HF.out).mono ?_
    rintro e w2 ⟨rfl, ho2, hBc⟩
    replace hB := ext_trans hB hBc
    replace hU := hU.below hBc
    clear hBc
    go_wp2_with fail
    refine (specRecordsRight (rcR.own (by omega) HM.out ho2)).mono ?_
    rintro e w3 ⟨rfl, hBc⟩
    replace hB := ext_trans hB hBc
    replace hU := hU.below hBc
    clear hBc
    clear ho2
    go_wp2_with fail
    refine (toRecordS_any hU (by omega) HF.out).mono ?_
    rintro e w4 ⟨rfl, ho4, hBc⟩
    replace hB := ext_trans hB hBc
    replace hU := hU.below hBc
    clear hBc
    go_wp2_with fail
    refine (implRecordsRight (rcR.own (by omega) HM.out ho4)).mono ?_
    rintro e w5 ⟨rfl, hBc⟩
    replace hB := ext_trans hB hBc
    replace hU := hU.below hBc
    replace ho4 := ownRc_below ho4 hBc
    clear hBc
    go_wp2_with fail
    refine (toRecordS_any hU (by omega) HF.out).mono ?_
    rintro e w6 ⟨rfl, ho6, hBc⟩
    replace hB := ext_trans hB hBc
    replace hU := hU.below hBc
    replace ho4 := ownRc_below ho4 hBc
    clear hBc
    go_wp2_with fail
    refine (eqRecordS_any (rcR.own (by omega) HM.out ho4) (rcR.own (by omega) HM.out ho6)).mono ?_
    rintro e w7 ⟨rfl, hBc⟩
    replace hB := ext_trans hB hBc
    replace hU := hU.below hBc
    replace ho4 := ownRc_below ho4 hBc
    clear hBc
    rw [sameB_self]
    go_wp2
    go_ret
    exact ⟨rfl, hB⟩
set_option maxRecDepth 100000 in
set_option maxHeartbeats 4000000 in
theorem lawExactRefusedBy {A : Option Addr} {l : RcL} {c : Nat} {who : Int} {w : World} (hU : rcR w A l) (hw : WfRc l) :
    Calls Try.prog 9 #[.slice A l.length c, .int .i64 who] w fun e w' => e = .returned (.bool true) ∧ Below w.heap.size w w' := by
  have HWF := Lib.hid hw
  clear hw
  go_enter Try.func9, Try.ntmps9
  go_wp2_with fail
  refine (szRecordS_any hU HWF.out (by omega) (by omega)).mono ?_
  rintro e w1 ⟨y, rfl, hy, hB⟩
  replace hU := hU.below hB
  rcases hy with rfl | ⟨y0, y1, hf⟩
  · go_wp2
    go_ret
    exact ⟨rfl, hB⟩
  · have HF := Lib.hid hf
    have HM := Lib.hid (FewF.mem hf)
    clear hf
    go_wp2_with fail
    refine (toRecordS_any hU (by omega) HF.out).mono ?_
    rintro e w2 ⟨rfl, ho2, hBc⟩
    replace hB := ext_trans hB hBc
    replace hU := hU.below hBc
    clear hBc
    go_wp2_with fail
    refine (specRefusedBy (rcR.own (by omega) HM.out ho2)).mono ?_
    rintro e w3 ⟨rfl, hBc⟩
    replace hB := ext_trans hB hBc
    replace hU := hU.below hBc
    clear hBc
    clear ho2
    go_wp2_with fail
    refine (toRecordS_any hU (by omega) HF.out).mono ?_
    rintro e w4 ⟨rfl, ho4, hBc⟩
    replace hB := ext_trans hB hBc
    replace hU := hU.below hBc
    clear hBc
    go_wp2_with fail
    refine (implRefusedBy (rcR.own (by omega) HM.out ho4)).mono ?_
    rintro e w5 ⟨rfl, hBc⟩
    replace hB := ext_trans hB hBc
    replace hU := hU.below hBc
    replace ho4 := ownRc_below ho4 hBc
    clear hBc
    go_wp2_with fail
    refine (toRecordS_any hU (by omega) HF.out).mono ?_
    rintro e w6 ⟨rfl, ho6, hBc⟩
    replace hB := ext_trans hB hBc
    replace hU := hU.below hBc
    replace ho4 := ownRc_below ho4 hBc
    clear hBc
    go_wp2_with fail
    refine (eqRecordS_any (rcR.own (by omega) HM.out ho4) (rcR.own (by omega) HM.out ho6)).mono ?_
    rintro e w7 ⟨rfl, hBc⟩
    replace hB := ext_trans hB hBc
    replace hU := hU.below hBc
    replace ho4 := ownRc_below ho4 hBc
    clear hBc
    rw [sameB_self]
    go_wp2
    go_ret
    exact ⟨rfl, hB⟩
end Go.Proofs.Ytdpiaiblpafglaa

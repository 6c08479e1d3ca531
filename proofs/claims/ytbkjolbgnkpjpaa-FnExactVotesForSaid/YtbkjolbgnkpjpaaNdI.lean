/- The exact law of VotesFor, walked. -/
import Derived.Test.YtbkjolbgnkpjpaaNdG
import Derived.Test.YtbkjolbgnkpjpaaNdT
namespace Go.Proofs.Ytbkjolbgnkpjpaa
open Go.RowKit

set_option maxRecDepth 100000 in
set_option maxHeartbeats 8000000 in
theorem lawExactVotesFor {A B : Option Addr} {may : IL} {l : VoL} {c c2 : Nat} {least asked : Int} {w : World} (hU0 : ilR w A may) (hV0 : voR w B l) (hwf : WfV l) :
    Calls Try.prog 10 #[.agg #[.slice A may.length c, .int .i64 least, .int .i64 asked], .slice B l.length c2] w fun e w' => e = .returned (.bool true) ∧ Below w.heap.size w w' := by
  obtain ⟨W, hW⟩ : ∃ W, W = w.alloc (.cells #[.slice A may.length c, .int .i64 least, .int .i64 asked] 30) := ⟨_, rfl⟩
  have q0 : W.cell? ⟨w.heap.size, 0, none⟩ = some (.slice A may.length c) := by rw [hW]; exact box_cell w #[.slice A may.length c, .int .i64 least, .int .i64 asked] 30 0 (.slice A may.length c) rfl
  have q1 : W.cell? ⟨w.heap.size, 1, none⟩ = some (.int .i64 least) := by rw [hW]; exact box_cell w #[.slice A may.length c, .int .i64 least, .int .i64 asked] 30 1 (.int .i64 least) rfl
  have q2 : W.cell? ⟨w.heap.size, 2, none⟩ = some (.int .i64 asked) := by rw [hW]; exact box_cell w #[.slice A may.length c, .int .i64 least, .int .i64 asked] 30 2 (.int .i64 asked) rfl
  have hB0 : Below w.heap.size w W := by rw [hW]; exact below_alloc _ _
  have hU : ilR W A may := hU0.below hB0
  have hV : voR W B l := hV0.below hB0
  have hlU := hU.len
  have hlV := hV.len
  have hB := Below.refl W.heap.size W
  have HW := Lib.hid hW
  have HWF := Lib.hid hwf
  clear hW hU0 hV0 hwf
  by_cases h1 : (1048576 : Int) < may.length
  · go_enter Try.func10, Try.ntmps10
    go_wp2_with fail
    rw [← HW.out]
    refine (szNeed_any hU (by omega) (by omega)).mono ?_
    rintro e w1 ⟨rfl, hBc⟩
    replace hB := ext_trans hB hBc
    clear hBc
    rw [if_pos (by omega)]
    go_wp2
    go_ret
    exact ⟨rfl, ext_trans hB0 hB⟩
  by_cases h2 : (1048576 : Int) - may.length < l.length
  · go_enter Try.func10, Try.ntmps10
    go_wp2_with fail
    rw [← HW.out]
    refine (szNeed_any hU (by omega) (by omega)).mono ?_
    rintro e w1 ⟨rfl, hBc⟩
    replace hB := ext_trans hB hBc
    clear hBc
    rw [if_neg (by omega)]
    go_wp2_with fail
    refine (szVoteS_any (hV.below hB) (by omega) (by omega)).mono ?_
    rintro e w2 ⟨rfl, hBc⟩
    replace hB := ext_trans hB hBc
    clear hBc
    rw [if_pos (by omega)]
    go_wp2
    go_ret
    exact ⟨rfl, ext_trans hB0 hB⟩
  obtain ⟨r, hr⟩ : ∃ r, r = ndFor may least asked l := ⟨_, rfl⟩
  have hrl : r.length ≤ may.length := by rw [hr]; exact ndFor_len _ _ _ _
  have HR := Lib.hid hr
  clear hr
  have p0 := q0
  have p1 := q1
  have p2 := q2
  go_enter Try.func10, Try.ntmps10
  go_wp2_with fail
  rw [← HW.out]
  refine (szNeed_any hU (by omega) (by omega)).mono ?_
  rintro e w1 ⟨rfl, hBc⟩
  replace hB := ext_trans hB hBc
  replace p0 := below_cell hBc p0
  replace p1 := below_cell hBc p1
  replace p2 := below_cell hBc p2
  clear hBc
  rw [if_neg (by omega)]
  go_wp2_with fail
  refine (szVoteS_any (hV.below hB) (by omega) (by omega)).mono ?_
  rintro e w2 ⟨rfl, hBc⟩
  replace hB := ext_trans hB hBc
  replace p0 := below_cell hBc p0
  replace p1 := below_cell hBc p1
  replace p2 := below_cell hBc p2
  clear hBc
  rw [if_neg (by omega)]
  go_wp2_with fail
  refine (toNeed_any (hU.below hB) (by omega)).mono ?_
  rintro e w3 ⟨gn, rfl, hon, hBc⟩
  replace hB := ext_trans hB hBc
  replace p0 := below_cell hBc p0
  replace p1 := below_cell hBc p1
  replace p2 := below_cell hBc p2
  clear hBc
  go_wp2_with fail
  refine (toVoteS_any (hV.below hB) (by omega)).mono ?_
  rintro e w4 ⟨rfl, hov, hBc⟩
  replace hB := ext_trans hB hBc
  replace p0 := below_cell hBc p0
  replace p1 := below_cell hBc p1
  replace p2 := below_cell hBc p2
  replace hon := own_below hon hBc
  clear hBc
  go_wp2_with fail
  refine (specVotesFor (ilR.own rfl (by omega) hon) (voR.own rfl (by omega) hov)).mono ?_
  rintro e w5 ⟨Aw, cw, rfl, how, hBc⟩
  rw [← HR.out] at how ⊢
  replace hB := ext_trans hB hBc
  replace p0 := below_cell hBc p0
  replace p1 := below_cell hBc p1
  replace p2 := below_cell hBc p2
  clear hBc hon hov
  have hwl := fun k hk => (how.lt k hk).2
  have HWL := Lib.hid hwl
  have hwb := hB.size
  clear hwl
  go_wp2_with fail
  refine (toNeed_any (hU.below hB) (by omega)).mono ?_
  rintro e w6 ⟨gx, rfl, hox, hBc⟩
  replace hB := ext_trans hB hBc
  replace p0 := below_cell hBc p0
  replace p1 := below_cell hBc p1
  replace p2 := below_cell hBc p2
  replace how := own_below how hBc
  clear hBc
  have b0 := box_cell w6 #[.slice (some ⟨gx, 0, none⟩) may.length may.length, .int .i64 least, .int .i64 asked] 25 0 (.slice (some ⟨gx, 0, none⟩) may.length may.length) rfl
  have b1 := box_cell w6 #[.slice (some ⟨gx, 0, none⟩) may.length may.length, .int .i64 least, .int .i64 asked] 25 1 (.int .i64 least) rfl
  have b2 := box_cell w6 #[.slice (some ⟨gx, 0, none⟩) may.length may.length, .int .i64 least, .int .i64 asked] 25 2 (.int .i64 asked) rfl
  have hBx := below_alloc w6 (.cells #[.slice (some ⟨gx, 0, none⟩) may.length may.length, .int .i64 least, .int .i64 asked] 25)
  obtain ⟨WX, hWX⟩ : ∃ WX, WX = w6.alloc (.cells #[.slice (some ⟨gx, 0, none⟩) may.length may.length, .int .i64 least, .int .i64 asked] 25) := ⟨_, rfl⟩
  obtain ⟨gb, hgb⟩ : ∃ gb, gb = w6.heap.size := ⟨_, rfl⟩
  have hgx := own_lt hox
  have hgbWX : gb < WX.heap.size ∧ w6.heap.size ≤ gb := by rw [hWX, hgb]; simp
  rw [← hWX] at b0 b1 b2 hBx
  rw [← hgb] at b0 b1 b2
  replace p0 := below_cell hBx p0
  replace p1 := below_cell hBx p1
  replace p2 := below_cell hBx p2
  replace hox := own_below hox hBx
  replace how := own_below how hBx
  replace hB := ext_trans hB hBx
  have HWX := Lib.hid hWX
  have HGB := Lib.hid hgb
  clear hBx hWX hgb
  go_wp2_with fail
  rw [← HWX.out, ← HGB.out]
  refine (toVoteS_any (hV.below hB) (by omega)).mono ?_
  rintro e w7 ⟨rfl, hoy, hBc⟩
  replace hB := ext_trans hB hBc
  replace p0 := below_cell hBc p0
  replace p1 := below_cell hBc p1
  replace p2 := below_cell hBc p2
  replace b0 := below_cell hBc b0
  replace b1 := below_cell hBc b1
  replace b2 := below_cell hBc b2
  replace hox := own_below hox hBc
  replace how := own_below how hBc
  clear hBc
  have hgy := (own_lt hoy).2
  go_wp2_with fail
  refine (implVotesFor (ilR.own rfl (by omega) hox) (voR.own rfl (by omega) hoy) HWF.out).mono ?_
  rintro e w8 ⟨Ag, cg, rfl, hog, hBc⟩
  rw [← HR.out] at hog ⊢
  replace hB := ext_trans hB hBc
  replace p0 := below_cell hBc p0
  replace p1 := below_cell hBc p1
  replace p2 := below_cell hBc p2
  replace b0 := below_cell hBc b0
  replace b1 := below_cell hBc b1
  replace b2 := below_cell hBc b2
  replace hox := own_below hox hBc
  replace hoy := own_below hoy hBc
  replace how := own_below how hBc
  clear hBc
  have hgl := fun k hk => (hog.lt k hk).1
  have HGL := Lib.hid hgl
  clear hgl
  go_wp2_with fail
  refine (eqIntS_any (ilR.own rfl (by omega) hog) (ilR.own rfl (by omega) how)).mono ?_
  rintro e w9 ⟨rfl, hBc⟩
  replace hB := ext_trans hB hBc
  replace p0 := below_cell hBc p0
  replace p1 := below_cell hBc p1
  replace p2 := below_cell hBc p2
  replace b0 := below_cell hBc b0
  replace b1 := below_cell hBc b1
  replace b2 := below_cell hBc b2
  replace hox := own_below hox hBc
  replace hoy := own_below hoy hBc
  replace how := own_below how hBc
  replace hog := own_below hog hBc
  clear hBc
  rw [sameB_self]
  have hUk := hU.below hB
  go_wp2_with fail
  refine wp_region_kinds (fun i wz vz => match i with | 0 => vz = .agg #[.slice (some ⟨gx, 0, none⟩) may.length may.length, .int .i64 least, .int .i64 asked] | 1 => vz = .agg #[.slice A may.length c, .int .i64 least, .int .i64 asked] | 2 => NdV w9.heap.size may least asked wz vz | 3 => vz = .bool true | 4 => vz = .bool false | _ => True) (fun _ wz => Below w9.heap.size w9 wz) (fun _ w w' => Below w.heap.size w w') (fun _ => Option.none) (by kernel_rfl) (by kernel_rfl) (by kernel_rfl) ?stab14 (ext_drew (Below.refl _ _)) ?all14 ?fin14
  case stab14 =>
    intro i j wa wb v hR _ _ _ _ hT
    match j, hT with
    | 0, hT => exact hT
    | 1, hT => exact hT
    | 2, hT => exact NdV.below hT hR
    | 3, hT => exact hT
    | 4, hT => exact hT
    | n + 5, _ => trivial
  case all14 =>
    refine RAll.cons rfl ?_ (RAll.cons rfl ?_ (RAll.cons rfl ?_ (RAll.cons rfl ?_ (RAll.cons rfl ?_ (RAll.none_)))))
    · intro a k wa K Q _ hI hp hK
      have e7 := tmp_of (show a.eval (.tmp 7) = .pointer (some ⟨gb, 0, none⟩) from hp.keep 7 (by kernel_rfl))
      have b0_ := below_cell hI b0
      have b1_ := below_cell hI b1
      have b2_ := below_cell hI b2
      go_simp
      exact hK _ _ rfl (Below.refl _ _) hI
    · intro a k wa K Q _ hI hp hK
      have e2 := tmp_of (show a.eval (.tmp 2) = .pointer (some ⟨w.heap.size, 0, none⟩) from hp.keep 2 (by kernel_rfl))
      have p0_ := below_cell hI p0
      have p1_ := below_cell hI p1
      have p2_ := below_cell hI p2
      go_simp
      exact hK _ _ rfl (Below.refl _ _) hI
    · intro a k wa K Q _ hI hp hK
      have e41 := tmp_of (show a.eval (.tmp 41) = .agg #[.slice A may.length c, .int .i64 least, .int .i64 asked] from hp.dep 1 41 (by kernel_rfl))
      go_simp
      refine (toNeed_any (hUk.below hI) (by omega)).mono ?_
      rintro e wb ⟨g9, rfl, ho9, hb⟩
      exact hK _ _ (⟨g9, rfl, own_lower ho9 hI.size⟩) hb (ext_trans hI hb)
    · intro a k wa K Q _ hI hp hK
      have e40 := tmp_of (show a.eval (.tmp 40) = .agg #[.slice (some ⟨gx, 0, none⟩) may.length may.length, .int .i64 least, .int .i64 asked] from hp.dep 0 40 (by kernel_rfl))
      have t42 : NdV w9.heap.size may least asked wa (a.eval (.tmp 42)) := hp.dep 2 42 (by kernel_rfl)
      obtain ⟨g9, e42, ho9⟩ := t42
      replace e42 := tmp_of e42
      go_simp
      refine (eqNeed_any (ilR.own rfl (by omega) (own_below hox hI)) (ilR.own rfl (by omega) ho9)).mono ?_
      rintro e wb ⟨rfl, hb⟩
      rw [sameB_self]
      exact hK _ _ rfl hb (ext_trans hI hb)
    · intro a k wa K Q _ hI hp hK
      have e43 := tmp_of (show a.eval (.tmp 43) = .bool true from hp.dep 3 43 (by kernel_rfl))
      go_simp
      exact hK _ _ (rfl) (Below.refl _ _) hI
  case fin14 =>
    intro f w10 hT hI0
    have hI : Below w9.heap.size w9 w10 := hI0
    have hr4 : (f 4) = .bool false := hT 4 (by decide) rfl rfl
    clear hT hI0
    simp only [putAll, hr4]
    go_simp
    clear hr4
    replace hB := ext_trans hB hI
    replace hoy := own_below hoy hI
    replace hox := own_below hox hI
    replace how := own_below how hI
    replace hog := own_below hog hI
    replace b0 := below_cell hI b0
    replace b1 := below_cell hI b1
    replace b2 := below_cell hI b2
    clear hI hUk p0 p1 p2
    go_wp2_with fail
    refine (toVoteS_any (hV.below hB) (by omega)).mono ?_
    rintro e w11 ⟨rfl, hoz, hBc⟩
    replace hB := ext_trans hB hBc
    replace hoy := own_below hoy hBc
    replace hox := own_below hox hBc
    replace how := own_below how hBc
    replace hog := own_below hog hBc
    replace b0 := below_cell hBc b0
    replace b1 := below_cell hBc b1
    replace b2 := below_cell hBc b2
    clear hBc
    go_wp2_with fail
    refine (eqVoteS_any (voR.own rfl (by omega) hoy) (voR.own rfl (by omega) hoz)).mono ?_
    rintro e w12 ⟨rfl, hBc⟩
    replace hB := ext_trans hB hBc
    replace hoy := own_below hoy hBc
    replace hox := own_below hox hBc
    replace how := own_below how hBc
    replace hog := own_below hog hBc
    replace b0 := below_cell hBc b0
    replace b1 := below_cell hBc b1
    replace b2 := below_cell hBc b2
    clear hBc
    rw [sameB_self]
    clear hoz
    go_wp2_with fail
    refine (markNeed_any hox (by omega) (by omega) (by omega)).mono ?_
    rintro e w13 ⟨rfl, hgm⟩
    have hgm' : w12.grownBy w13 (some gx) := hgm
    replace how := own_apart how hgm' (fun k hk => by have := HWL.out k hk; omega)
    replace hog := own_apart hog hgm' (fun k hk => by have := HGL.out k hk; omega)
    replace hoy := own_apart hoy hgm' (fun k hk => by cases hk; show WX.heap.size ≠ gx; omega)
    replace hB := below_grown_at hB hgm' hB.size (by omega)
    clear hox hgm hgm' b0 b1 b2
    go_wp2_with fail
    refine (markVoteS_any hoy (by omega) (by omega) (by omega)).mono ?_
    rintro e w14 ⟨rfl, hoym, hgm⟩
    have hgm' : w13.grownBy w14 (some WX.heap.size) := hgm
    replace how := own_apart how hgm' (fun k hk => by have := HWL.out k hk; omega)
    replace hog := own_apart hog hgm' (fun k hk => by have := HGL.out k hk; omega)
    replace hB := below_grown_at hB hgm' hB.size (by omega)
    clear hoy hoym hgm hgm'
    go_wp2_with fail
    refine (eqIntS_any (ilR.own rfl (by omega) hog) (ilR.own rfl (by omega) how)).mono ?_
    rintro e w15 ⟨rfl, hBc⟩
    replace hB := ext_trans hB hBc
    replace how := own_below how hBc
    replace hog := own_below hog hBc
    clear hBc
    rw [sameB_self]
    go_wp2_with fail
    refine (markIntS_any hog (by omega) (by omega) (by omega)).mono ?_
    rintro e w16 ⟨rfl, hogm, hgm⟩
    replace how := own_apart_ how hgm (fun k hk e => by have := HWL.out k hk; have := HGL.out k e; omega)
    replace hB := hB.grown hgm hB.size (fun k hk => by have := HGL.out k hk; omega)
    clear hgm hog
    go_wp2_with fail
    refine (heldIntS_m (ilR.own (ilMark_length _ _) (by omega) hogm) (by omega) (by omega) (by omega)).mono ?_
    rintro e w17 ⟨rfl, hBc⟩
    replace hB := ext_trans hB hBc
    replace how := own_below how hBc
    replace hogm := own_below hogm hBc
    clear hBc
    have p0 := below_cell hB q0
    have p1 := below_cell hB q1
    have p2 := below_cell hB q2
    go_wp2_with fail
    refine (toNeed_any (hU.below hB) (by omega)).mono ?_
    rintro e w18 ⟨gz, rfl, hon, hBc⟩
    replace hB := ext_trans hB hBc
    replace p0 := below_cell hBc p0
    replace p1 := below_cell hBc p1
    replace p2 := below_cell hBc p2
    replace how := own_below how hBc
    replace hogm := own_below hogm hBc
    clear hBc
    go_wp2_with fail
    refine (toVoteS_any (hV.below hB) (by omega)).mono ?_
    rintro e w19 ⟨rfl, hov, hBc⟩
    replace hB := ext_trans hB hBc
    replace p0 := below_cell hBc p0
    replace p1 := below_cell hBc p1
    replace p2 := below_cell hBc p2
    replace how := own_below how hBc
    replace hogm := own_below hogm hBc
    replace hon := own_below hon hBc
    clear hBc
    go_wp2_with fail
    refine (implVotesFor (ilR.own rfl (by omega) hon) (voR.own rfl (by omega) hov) HWF.out).mono ?_
    rintro e w20 ⟨Ah, ch, rfl, hoh, hBc⟩
    rw [← HR.out] at hoh ⊢
    replace hB := ext_trans hB hBc
    replace how := own_below how hBc
    replace hogm := own_below hogm hBc
    clear hBc hon hov p0 p1 p2
    go_wp2_with fail
    refine (eqIntS_any (ilR.own rfl (by omega) hoh) (ilR.own rfl (by omega) how)).mono ?_
    rintro e w21 ⟨rfl, hBc⟩
    replace hB := ext_trans hB hBc
    replace how := own_below how hBc
    replace hogm := own_below hogm hBc
    clear hBc
    rw [sameB_self]
    go_wp2_with fail
    refine (heldIntS_m (ilR.own (ilMark_length _ _) (by omega) hogm) (by omega) (by omega) (by omega)).mono ?_
    rintro e w22 ⟨rfl, hBc⟩
    replace hB := ext_trans hB hBc
    replace how := own_below how hBc
    replace hogm := own_below hogm hBc
    clear hBc
    go_wp2
    go_ret
    exact ⟨rfl, ext_trans hB0 hB⟩
end Go.Proofs.Ytbkjolbgnkpjpaa

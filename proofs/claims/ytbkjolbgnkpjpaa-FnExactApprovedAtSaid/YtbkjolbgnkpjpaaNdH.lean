/- the exact laws of needs, walked -/
import Derived.Test.YtbkjolbgnkpjpaaNdG
import Derived.Test.YtbkjolbgnkpjpaaNdT
namespace Go.Proofs.Ytbkjolbgnkpjpaa
open Go.RowKit

set_option maxRecDepth 100000 in
set_option maxHeartbeats 4000000 in
theorem lawExactNeedValid {A : Option Addr} {may : IL} {c : Nat} {least asked : Int} {w : World} (hU0 : ilR w A may) :
    Calls Try.prog 4 #[.agg #[.slice A may.length c, .int .i64 least, .int .i64 asked]] w fun e w' => e = .returned (.bool true) ∧ Below w.heap.size w w' := by
  obtain ⟨W, hW⟩ : ∃ W, W = w.alloc (.cells #[.slice A may.length c, .int .i64 least, .int .i64 asked] 30) := ⟨_, rfl⟩
  have q0 : W.cell? ⟨w.heap.size, 0, none⟩ = some (.slice A may.length c) := by rw [hW]; exact box_cell w #[.slice A may.length c, .int .i64 least, .int .i64 asked] 30 0 (.slice A may.length c) rfl
  have q1 : W.cell? ⟨w.heap.size, 1, none⟩ = some (.int .i64 least) := by rw [hW]; exact box_cell w #[.slice A may.length c, .int .i64 least, .int .i64 asked] 30 1 (.int .i64 least) rfl
  have q2 : W.cell? ⟨w.heap.size, 2, none⟩ = some (.int .i64 asked) := by rw [hW]; exact box_cell w #[.slice A may.length c, .int .i64 least, .int .i64 asked] 30 2 (.int .i64 asked) rfl
  have hB0 : Below w.heap.size w W := by rw [hW]; exact below_alloc _ _
  have hU : ilR W A may := hU0.below hB0
  have hlU := hU.len
  have hB := Below.refl W.heap.size W
  have HW := Lib.hid hW
  clear hW hU0
  by_cases h1 : (1048576 : Int) < may.length
  · go_enter Try.func4, Try.ntmps4
    go_wp2_with fail
    rw [← HW.out]
    refine (szNeed_any hU (by omega) (by omega)).mono ?_
    rintro e w1 ⟨rfl, hBc⟩
    replace hB := ext_trans hB hBc
    clear hBc
    rw [if_pos (by omega)]
    go_wp2
    go_ret
    exact ⟨rfl, ext_trans hB0 hB⟩
  go_enter Try.func4, Try.ntmps4
  go_wp2_with fail
  rw [← HW.out]
  refine (szNeed_any hU (by omega) (by omega)).mono ?_
  rintro e w1 ⟨rfl, hBc⟩
  replace hB := ext_trans hB hBc
  replace q0 := below_cell hBc q0
  replace q1 := below_cell hBc q1
  replace q2 := below_cell hBc q2
  clear hBc
  rw [if_neg (by omega)]
  go_wp2_with fail
  refine (toNeed_any (hU.below hB) (by omega)).mono ?_
  rintro e w2 ⟨gn, rfl, hon, hBc⟩
  replace hB := ext_trans hB hBc
  replace q0 := below_cell hBc q0
  replace q1 := below_cell hBc q1
  replace q2 := below_cell hBc q2
  clear hBc
  obtain ⟨r, hr⟩ : ∃ r, r = ndOk may least asked := ⟨_, rfl⟩
  have HR := Lib.hid hr
  clear hr
  go_wp2_with fail
  refine (specNeedValid (ilR.own rfl (by omega) hon)).mono ?_
  rintro e w3 ⟨rfl, hBc⟩
  replace hB := ext_trans hB hBc
  replace q0 := below_cell hBc q0
  replace q1 := below_cell hBc q1
  replace q2 := below_cell hBc q2
  clear hBc
  rw [← HR.out]
  clear hon
  go_wp2_with fail
  refine (toNeed_any (hU.below hB) (by omega)).mono ?_
  rintro e w4 ⟨gx, rfl, hox, hBc⟩
  replace hB := ext_trans hB hBc
  replace q0 := below_cell hBc q0
  replace q1 := below_cell hBc q1
  replace q2 := below_cell hBc q2
  clear hBc
  have b0 := box_cell w4 #[.slice (some ⟨gx, 0, none⟩) may.length may.length, .int .i64 least, .int .i64 asked] 25 0 (.slice (some ⟨gx, 0, none⟩) may.length may.length) rfl
  have b1 := box_cell w4 #[.slice (some ⟨gx, 0, none⟩) may.length may.length, .int .i64 least, .int .i64 asked] 25 1 (.int .i64 least) rfl
  have b2 := box_cell w4 #[.slice (some ⟨gx, 0, none⟩) may.length may.length, .int .i64 least, .int .i64 asked] 25 2 (.int .i64 asked) rfl
  have hBx := below_alloc w4 (.cells #[.slice (some ⟨gx, 0, none⟩) may.length may.length, .int .i64 least, .int .i64 asked] 25)
  obtain ⟨WX, hWX⟩ : ∃ WX, WX = w4.alloc (.cells #[.slice (some ⟨gx, 0, none⟩) may.length may.length, .int .i64 least, .int .i64 asked] 25) := ⟨_, rfl⟩
  obtain ⟨gb, hgb⟩ : ∃ gb, gb = w4.heap.size := ⟨_, rfl⟩
  rw [← hWX] at b0 b1 b2 hBx
  rw [← hgb] at b0 b1 b2
  replace q0 := below_cell hBx q0
  replace q1 := below_cell hBx q1
  replace q2 := below_cell hBx q2
  replace hox := own_below hox hBx
  replace hB := ext_trans hB hBx
  have HWX := Lib.hid hWX
  have HGB := Lib.hid hgb
  clear hBx hWX hgb
  go_wp2_with fail
  rw [← HWX.out, ← HGB.out]
  refine (implNeedValid (ilR.own rfl (by omega) hox)).mono ?_
  rintro e w5 ⟨rfl, hBc⟩
  replace hB := ext_trans hB hBc
  replace q0 := below_cell hBc q0
  replace q1 := below_cell hBc q1
  replace q2 := below_cell hBc q2
  replace b0 := below_cell hBc b0
  replace b1 := below_cell hBc b1
  replace b2 := below_cell hBc b2
  replace hox := own_below hox hBc
  clear hBc
  rw [← HR.out]
  have hUk := hU.below hB
  go_wp2_with fail
  refine wp_region_kinds (fun i wz vz => match i with | 0 => vz = .agg #[.slice (some ⟨gx, 0, none⟩) may.length may.length, .int .i64 least, .int .i64 asked] | 1 => vz = .agg #[.slice A may.length c, .int .i64 least, .int .i64 asked] | 2 => NdV w5.heap.size may least asked wz vz | 3 => vz = .bool true | 4 => vz = .bool false | _ => True) (fun _ wz => Below w5.heap.size w5 wz) (fun _ w w' => Below w.heap.size w w') (fun _ => Option.none) (by kernel_rfl) (by kernel_rfl) (by kernel_rfl) ?stab10 (ext_drew (Below.refl _ _)) ?all10 ?fin10
  case stab10 =>
    intro i j wa wb v hR _ _ _ _ hT
    match j, hT with
    | 0, hT => exact hT
    | 1, hT => exact hT
    | 2, hT => exact NdV.below hT hR
    | 3, hT => exact hT
    | 4, hT => exact hT
    | n + 5, _ => trivial
  case all10 =>
    refine RAll.cons rfl ?_ (RAll.cons rfl ?_ (RAll.cons rfl ?_ (RAll.cons rfl ?_ (RAll.cons rfl ?_ (RAll.none_)))))
    · intro a k wa K Q _ hI hp hK
      have e5 := tmp_of (show a.eval (.tmp 5) = .pointer (some ⟨gb, 0, none⟩) from hp.keep 5 (by kernel_rfl))
      have b0_ := below_cell hI b0
      have b1_ := below_cell hI b1
      have b2_ := below_cell hI b2
      go_simp
      exact hK _ _ rfl (Below.refl _ _) hI
    · intro a k wa K Q _ hI hp hK
      have e1 := tmp_of (show a.eval (.tmp 1) = .pointer (some ⟨w.heap.size, 0, none⟩) from hp.keep 1 (by kernel_rfl))
      have q0_ := below_cell hI q0
      have q1_ := below_cell hI q1
      have q2_ := below_cell hI q2
      go_simp
      exact hK _ _ rfl (Below.refl _ _) hI
    · intro a k wa K Q _ hI hp hK
      have e23 := tmp_of (show a.eval (.tmp 23) = .agg #[.slice A may.length c, .int .i64 least, .int .i64 asked] from hp.dep 1 23 (by kernel_rfl))
      go_simp
      refine (toNeed_any (hUk.below hI) (by omega)).mono ?_
      rintro e wb ⟨g9, rfl, ho9, hb⟩
      exact hK _ _ (⟨g9, rfl, own_lower ho9 hI.size⟩) hb (ext_trans hI hb)
    · intro a k wa K Q _ hI hp hK
      have e22 := tmp_of (show a.eval (.tmp 22) = .agg #[.slice (some ⟨gx, 0, none⟩) may.length may.length, .int .i64 least, .int .i64 asked] from hp.dep 0 22 (by kernel_rfl))
      have t24 : NdV w5.heap.size may least asked wa (a.eval (.tmp 24)) := hp.dep 2 24 (by kernel_rfl)
      obtain ⟨g9, e24, ho9⟩ := t24
      replace e24 := tmp_of e24
      go_simp
      refine (eqNeed_any (ilR.own rfl (by omega) (own_below hox hI)) (ilR.own rfl (by omega) ho9)).mono ?_
      rintro e wb ⟨rfl, hb⟩
      rw [sameB_self]
      exact hK _ _ rfl hb (ext_trans hI hb)
    · intro a k wa K Q _ hI hp hK
      have e25 := tmp_of (show a.eval (.tmp 25) = .bool true from hp.dep 3 25 (by kernel_rfl))
      go_simp
      exact hK _ _ (rfl) (Below.refl _ _) hI
  case fin10 =>
    intro f w6 hT hI0
    have hI : Below w5.heap.size w5 w6 := hI0
    have hr4 : (f 4) = .bool false := hT 4 (by decide) rfl rfl
    clear hT hI0
    simp only [putAll, hr4]
    go_simp
    clear hr4
    replace hB := ext_trans hB hI
    go_wp2
    go_ret
    exact ⟨rfl, ext_trans hB0 hB⟩

set_option maxRecDepth 100000 in
set_option maxHeartbeats 4000000 in
theorem lawExactIsApproved {A B : Option Addr} {may : IL} {l : VoL} {c c2 : Nat} {least asked : Int} {w : World} (hU0 : ilR w A may) (hV0 : voR w B l) (hwf : WfV l) :
    Calls Try.prog 8 #[.agg #[.slice A may.length c, .int .i64 least, .int .i64 asked], .slice B l.length c2] w fun e w' => e = .returned (.bool true) ∧ Below w.heap.size w w' := by
  obtain ⟨W, hW⟩ : ∃ W, W = w.alloc (.cells #[.slice A may.length c, .int .i64 least, .int .i64 asked] 30) := ⟨_, rfl⟩
  have q0 : W.cell? ⟨w.heap.size, 0, none⟩ = some (.slice A may.length c) := by rw [hW]; exact box_cell w #[.slice A may.length c, .int .i64 least, .int .i64 asked] 30 0 (.slice A may.length c) rfl
  have q1 : W.cell? ⟨w.heap.size, 1, none⟩ = some (.int .i64 least) := by rw [hW]; exact box_cell w #[.slice A may.length c, .int .i64 least, .int .i64 asked] 30 1 (.int .i64 least) rfl
  have q2 : W.cell? ⟨w.heap.size, 2, none⟩ = some (.int .i64 asked) := by rw [hW]; exact box_cell w #[.slice A may.length c, .int .i64 least, .int .i64 asked] 30 2 (.int .i64 asked) rfl
  have hB0 : Below w.heap.size w W := by rw [hW]; exact below_alloc _ _
  have hU : ilR W A may := hU0.below hB0
  have hV : voR W B l := hV0.below hB0
  have hlV := hV.len
  have hlU := hU.len
  have hB := Below.refl W.heap.size W
  have HW := Lib.hid hW
  have HWF := Lib.hid hwf
  clear hW hU0 hV0 hwf
  by_cases h1 : (1048576 : Int) < may.length
  · go_enter Try.func8, Try.ntmps8
    go_wp2_with fail
    rw [← HW.out]
    refine (szNeed_any hU (by omega) (by omega)).mono ?_
    rintro e w1 ⟨rfl, hBc⟩
    replace hB := ext_trans hB hBc
    clear hBc
    rw [if_pos (by omega)]
    go_wp2
    go_ret
    exact ⟨rfl, ext_trans hB0 hB⟩
  by_cases h2 : (1048576 : Int) - may.length < l.length
  · go_enter Try.func8, Try.ntmps8
    go_wp2_with fail
    rw [← HW.out]
    refine (szNeed_any hU (by omega) (by omega)).mono ?_
    rintro e w1 ⟨rfl, hBc⟩
    replace hB := ext_trans hB hBc
    clear hBc
    rw [if_neg (by omega)]
    go_wp2_with fail
    refine (szVoteS_any (hV.below hB) (by omega) (by omega)).mono ?_
    rintro e w2 ⟨rfl, hBc⟩
    replace hB := ext_trans hB hBc
    clear hBc
    rw [if_pos (by omega)]
    go_wp2
    go_ret
    exact ⟨rfl, ext_trans hB0 hB⟩
  go_enter Try.func8, Try.ntmps8
  go_wp2_with fail
  rw [← HW.out]
  refine (szNeed_any hU (by omega) (by omega)).mono ?_
  rintro e w1 ⟨rfl, hBc⟩
  replace hB := ext_trans hB hBc
  replace q0 := below_cell hBc q0
  replace q1 := below_cell hBc q1
  replace q2 := below_cell hBc q2
  clear hBc
  rw [if_neg (by omega)]
  go_wp2_with fail
  refine (szVoteS_any (hV.below hB) (by omega) (by omega)).mono ?_
  rintro e w2 ⟨rfl, hBc⟩
  replace hB := ext_trans hB hBc
  replace q0 := below_cell hBc q0
  replace q1 := below_cell hBc q1
  replace q2 := below_cell hBc q2
  clear hBc
  rw [if_neg (by omega)]
  go_wp2_with fail
  refine (toNeed_any (hU.below hB) (by omega)).mono ?_
  rintro e w3 ⟨gn, rfl, hon, hBc⟩
  replace hB := ext_trans hB hBc
  replace q0 := below_cell hBc q0
  replace q1 := below_cell hBc q1
  replace q2 := below_cell hBc q2
  clear hBc
  go_wp2_with fail
  refine (toVoteS_any (hV.below hB) (by omega)).mono ?_
  rintro e w4 ⟨rfl, hov, hBc⟩
  replace hB := ext_trans hB hBc
  replace q0 := below_cell hBc q0
  replace q1 := below_cell hBc q1
  replace q2 := below_cell hBc q2
  replace hon := own_below hon hBc
  clear hBc
  obtain ⟨r, hr⟩ : ∃ r, r = ndApr may least asked l := ⟨_, rfl⟩
  have HR := Lib.hid hr
  clear hr
  go_wp2_with fail
  refine (specIsApproved (ilR.own rfl (by omega) hon) (voR.own rfl (by omega) hov)).mono ?_
  rintro e w5 ⟨rfl, hBc⟩
  replace hB := ext_trans hB hBc
  replace q0 := below_cell hBc q0
  replace q1 := below_cell hBc q1
  replace q2 := below_cell hBc q2
  clear hBc
  rw [← HR.out]
  clear hon hov
  go_wp2_with fail
  refine (toNeed_any (hU.below hB) (by omega)).mono ?_
  rintro e w6 ⟨gx, rfl, hox, hBc⟩
  replace hB := ext_trans hB hBc
  replace q0 := below_cell hBc q0
  replace q1 := below_cell hBc q1
  replace q2 := below_cell hBc q2
  clear hBc
  have b0 := box_cell w6 #[.slice (some ⟨gx, 0, none⟩) may.length may.length, .int .i64 least, .int .i64 asked] 25 0 (.slice (some ⟨gx, 0, none⟩) may.length may.length) rfl
  have b1 := box_cell w6 #[.slice (some ⟨gx, 0, none⟩) may.length may.length, .int .i64 least, .int .i64 asked] 25 1 (.int .i64 least) rfl
  have b2 := box_cell w6 #[.slice (some ⟨gx, 0, none⟩) may.length may.length, .int .i64 least, .int .i64 asked] 25 2 (.int .i64 asked) rfl
  have hBx := below_alloc w6 (.cells #[.slice (some ⟨gx, 0, none⟩) may.length may.length, .int .i64 least, .int .i64 asked] 25)
  obtain ⟨WX, hWX⟩ : ∃ WX, WX = w6.alloc (.cells #[.slice (some ⟨gx, 0, none⟩) may.length may.length, .int .i64 least, .int .i64 asked] 25) := ⟨_, rfl⟩
  obtain ⟨gb, hgb⟩ : ∃ gb, gb = w6.heap.size := ⟨_, rfl⟩
  rw [← hWX] at b0 b1 b2 hBx
  rw [← hgb] at b0 b1 b2
  replace q0 := below_cell hBx q0
  replace q1 := below_cell hBx q1
  replace q2 := below_cell hBx q2
  replace hox := own_below hox hBx
  replace hB := ext_trans hB hBx
  have HWX := Lib.hid hWX
  have HGB := Lib.hid hgb
  clear hBx hWX hgb
  go_wp2_with fail
  rw [← HWX.out, ← HGB.out]
  refine (toVoteS_any (hV.below hB) (by omega)).mono ?_
  rintro e w7 ⟨rfl, hoy, hBc⟩
  replace hB := ext_trans hB hBc
  replace q0 := below_cell hBc q0
  replace q1 := below_cell hBc q1
  replace q2 := below_cell hBc q2
  replace b0 := below_cell hBc b0
  replace b1 := below_cell hBc b1
  replace b2 := below_cell hBc b2
  replace hox := own_below hox hBc
  clear hBc
  go_wp2_with fail
  refine (implIsApproved (ilR.own rfl (by omega) hox) (voR.own rfl (by omega) hoy) HWF.out).mono ?_
  rintro e w8 ⟨rfl, hBc⟩
  replace hB := ext_trans hB hBc
  replace q0 := below_cell hBc q0
  replace q1 := below_cell hBc q1
  replace q2 := below_cell hBc q2
  replace b0 := below_cell hBc b0
  replace b1 := below_cell hBc b1
  replace b2 := below_cell hBc b2
  replace hox := own_below hox hBc
  replace hoy := own_below hoy hBc
  clear hBc
  rw [← HR.out]
  have hUk := hU.below hB
  go_wp2_with fail
  refine wp_region_kinds (fun i wz vz => match i with | 0 => vz = .agg #[.slice (some ⟨gx, 0, none⟩) may.length may.length, .int .i64 least, .int .i64 asked] | 1 => vz = .agg #[.slice A may.length c, .int .i64 least, .int .i64 asked] | 2 => NdV w8.heap.size may least asked wz vz | 3 => vz = .bool true | 4 => vz = .bool false | _ => True) (fun _ wz => Below w8.heap.size w8 wz) (fun _ w w' => Below w.heap.size w w') (fun _ => Option.none) (by kernel_rfl) (by kernel_rfl) (by kernel_rfl) ?stab14 (ext_drew (Below.refl _ _)) ?all14 ?fin14
  case stab14 =>
    intro i j wa wb v hR _ _ _ _ hT
    match j, hT with
    | 0, hT => exact hT
    | 1, hT => exact hT
    | 2, hT => exact NdV.below hT hR
    | 3, hT => exact hT
    | 4, hT => exact hT
    | n + 5, _ => trivial
  case all14 =>
    refine RAll.cons rfl ?_ (RAll.cons rfl ?_ (RAll.cons rfl ?_ (RAll.cons rfl ?_ (RAll.cons rfl ?_ (RAll.none_)))))
    · intro a k wa K Q _ hI hp hK
      have e7 := tmp_of (show a.eval (.tmp 7) = .pointer (some ⟨gb, 0, none⟩) from hp.keep 7 (by kernel_rfl))
      have b0_ := below_cell hI b0
      have b1_ := below_cell hI b1
      have b2_ := below_cell hI b2
      go_simp
      exact hK _ _ rfl (Below.refl _ _) hI
    · intro a k wa K Q _ hI hp hK
      have e2 := tmp_of (show a.eval (.tmp 2) = .pointer (some ⟨w.heap.size, 0, none⟩) from hp.keep 2 (by kernel_rfl))
      have q0_ := below_cell hI q0
      have q1_ := below_cell hI q1
      have q2_ := below_cell hI q2
      go_simp
      exact hK _ _ rfl (Below.refl _ _) hI
    · intro a k wa K Q _ hI hp hK
      have e36 := tmp_of (show a.eval (.tmp 36) = .agg #[.slice A may.length c, .int .i64 least, .int .i64 asked] from hp.dep 1 36 (by kernel_rfl))
      go_simp
      refine (toNeed_any (hUk.below hI) (by omega)).mono ?_
      rintro e wb ⟨g9, rfl, ho9, hb⟩
      exact hK _ _ (⟨g9, rfl, own_lower ho9 hI.size⟩) hb (ext_trans hI hb)
    · intro a k wa K Q _ hI hp hK
      have e35 := tmp_of (show a.eval (.tmp 35) = .agg #[.slice (some ⟨gx, 0, none⟩) may.length may.length, .int .i64 least, .int .i64 asked] from hp.dep 0 35 (by kernel_rfl))
      have t37 : NdV w8.heap.size may least asked wa (a.eval (.tmp 37)) := hp.dep 2 37 (by kernel_rfl)
      obtain ⟨g9, e37, ho9⟩ := t37
      replace e37 := tmp_of e37
      go_simp
      refine (eqNeed_any (ilR.own rfl (by omega) (own_below hox hI)) (ilR.own rfl (by omega) ho9)).mono ?_
      rintro e wb ⟨rfl, hb⟩
      rw [sameB_self]
      exact hK _ _ rfl hb (ext_trans hI hb)
    · intro a k wa K Q _ hI hp hK
      have e38 := tmp_of (show a.eval (.tmp 38) = .bool true from hp.dep 3 38 (by kernel_rfl))
      go_simp
      exact hK _ _ (rfl) (Below.refl _ _) hI
  case fin14 =>
    intro f w9 hT hI0
    have hI : Below w8.heap.size w8 w9 := hI0
    have hr4 : (f 4) = .bool false := hT 4 (by decide) rfl rfl
    clear hT hI0
    simp only [putAll, hr4]
    go_simp
    clear hr4
    replace hB := ext_trans hB hI
    replace hoy := own_below hoy hI
    clear hI hUk
    go_wp2_with fail
    refine (toVoteS_any (hV.below hB) (by omega)).mono ?_
    rintro e w10 ⟨rfl, hoz, hBc⟩
    replace hB := ext_trans hB hBc
    replace hoy := own_below hoy hBc
    clear hBc
    go_wp2_with fail
    refine (eqVoteS_any (voR.own rfl (by omega) hoy) (voR.own rfl (by omega) hoz)).mono ?_
    rintro e w1 ⟨rfl, hBc⟩
    replace hB := ext_trans hB hBc
    clear hBc
    rw [sameB_self]
    go_wp2
    go_ret
    exact ⟨rfl, ext_trans hB0 hB⟩

set_option maxRecDepth 100000 in
set_option maxHeartbeats 4000000 in
theorem lawExactApprovedAt {A B : Option Addr} {may : IL} {l : VoL} {c c2 : Nat} {least asked : Int} {w : World} (hU0 : ilR w A may) (hV0 : voR w B l) (hwf : WfV l) :
    Calls Try.prog 9 #[.agg #[.slice A may.length c, .int .i64 least, .int .i64 asked], .slice B l.length c2] w fun e w' => e = .returned (.bool true) ∧ Below w.heap.size w w' := by
  obtain ⟨W, hW⟩ : ∃ W, W = w.alloc (.cells #[.slice A may.length c, .int .i64 least, .int .i64 asked] 30) := ⟨_, rfl⟩
  have q0 : W.cell? ⟨w.heap.size, 0, none⟩ = some (.slice A may.length c) := by rw [hW]; exact box_cell w #[.slice A may.length c, .int .i64 least, .int .i64 asked] 30 0 (.slice A may.length c) rfl
  have q1 : W.cell? ⟨w.heap.size, 1, none⟩ = some (.int .i64 least) := by rw [hW]; exact box_cell w #[.slice A may.length c, .int .i64 least, .int .i64 asked] 30 1 (.int .i64 least) rfl
  have q2 : W.cell? ⟨w.heap.size, 2, none⟩ = some (.int .i64 asked) := by rw [hW]; exact box_cell w #[.slice A may.length c, .int .i64 least, .int .i64 asked] 30 2 (.int .i64 asked) rfl
  have hB0 : Below w.heap.size w W := by rw [hW]; exact below_alloc _ _
  have hU : ilR W A may := hU0.below hB0
  have hV : voR W B l := hV0.below hB0
  have hlV := hV.len
  have hlU := hU.len
  have hB := Below.refl W.heap.size W
  have HW := Lib.hid hW
  have HWF := Lib.hid hwf
  clear hW hU0 hV0 hwf
  by_cases h1 : (1048576 : Int) < may.length
  · go_enter Try.func9, Try.ntmps9
    go_wp2_with fail
    rw [← HW.out]
    refine (szNeed_any hU (by omega) (by omega)).mono ?_
    rintro e w1 ⟨rfl, hBc⟩
    replace hB := ext_trans hB hBc
    clear hBc
    rw [if_pos (by omega)]
    go_wp2
    go_ret
    exact ⟨rfl, ext_trans hB0 hB⟩
  by_cases h2 : (1048576 : Int) - may.length < l.length
  · go_enter Try.func9, Try.ntmps9
    go_wp2_with fail
    rw [← HW.out]
    refine (szNeed_any hU (by omega) (by omega)).mono ?_
    rintro e w1 ⟨rfl, hBc⟩
    replace hB := ext_trans hB hBc
    clear hBc
    rw [if_neg (by omega)]
    go_wp2_with fail
    refine (szVoteS_any (hV.below hB) (by omega) (by omega)).mono ?_
    rintro e w2 ⟨rfl, hBc⟩
    replace hB := ext_trans hB hBc
    clear hBc
    rw [if_pos (by omega)]
    go_wp2
    go_ret
    exact ⟨rfl, ext_trans hB0 hB⟩
  go_enter Try.func9, Try.ntmps9
  go_wp2_with fail
  rw [← HW.out]
  refine (szNeed_any hU (by omega) (by omega)).mono ?_
  rintro e w1 ⟨rfl, hBc⟩
  replace hB := ext_trans hB hBc
  replace q0 := below_cell hBc q0
  replace q1 := below_cell hBc q1
  replace q2 := below_cell hBc q2
  clear hBc
  rw [if_neg (by omega)]
  go_wp2_with fail
  refine (szVoteS_any (hV.below hB) (by omega) (by omega)).mono ?_
  rintro e w2 ⟨rfl, hBc⟩
  replace hB := ext_trans hB hBc
  replace q0 := below_cell hBc q0
  replace q1 := below_cell hBc q1
  replace q2 := below_cell hBc q2
  clear hBc
  rw [if_neg (by omega)]
  go_wp2_with fail
  refine (toNeed_any (hU.below hB) (by omega)).mono ?_
  rintro e w3 ⟨gn, rfl, hon, hBc⟩
  replace hB := ext_trans hB hBc
  replace q0 := below_cell hBc q0
  replace q1 := below_cell hBc q1
  replace q2 := below_cell hBc q2
  clear hBc
  go_wp2_with fail
  refine (toVoteS_any (hV.below hB) (by omega)).mono ?_
  rintro e w4 ⟨rfl, hov, hBc⟩
  replace hB := ext_trans hB hBc
  replace q0 := below_cell hBc q0
  replace q1 := below_cell hBc q1
  replace q2 := below_cell hBc q2
  replace hon := own_below hon hBc
  clear hBc
  obtain ⟨r, hr⟩ : ∃ r, r = ndAt may least asked l := ⟨_, rfl⟩
  have HR := Lib.hid hr
  clear hr
  go_wp2_with fail
  refine (specApprovedAt (ilR.own rfl (by omega) hon) (voR.own rfl (by omega) hov) (.inr ⟨_, 0, rfl, Nat.le_refl _, by omega⟩) (by omega)).mono ?_
  rintro e w5 ⟨rfl, hBc⟩
  replace hB := ext_trans hB hBc
  replace q0 := below_cell hBc q0
  replace q1 := below_cell hBc q1
  replace q2 := below_cell hBc q2
  clear hBc
  rw [← HR.out]
  clear hon hov
  go_wp2_with fail
  refine (toNeed_any (hU.below hB) (by omega)).mono ?_
  rintro e w6 ⟨gx, rfl, hox, hBc⟩
  replace hB := ext_trans hB hBc
  replace q0 := below_cell hBc q0
  replace q1 := below_cell hBc q1
  replace q2 := below_cell hBc q2
  clear hBc
  have b0 := box_cell w6 #[.slice (some ⟨gx, 0, none⟩) may.length may.length, .int .i64 least, .int .i64 asked] 25 0 (.slice (some ⟨gx, 0, none⟩) may.length may.length) rfl
  have b1 := box_cell w6 #[.slice (some ⟨gx, 0, none⟩) may.length may.length, .int .i64 least, .int .i64 asked] 25 1 (.int .i64 least) rfl
  have b2 := box_cell w6 #[.slice (some ⟨gx, 0, none⟩) may.length may.length, .int .i64 least, .int .i64 asked] 25 2 (.int .i64 asked) rfl
  have hBx := below_alloc w6 (.cells #[.slice (some ⟨gx, 0, none⟩) may.length may.length, .int .i64 least, .int .i64 asked] 25)
  obtain ⟨WX, hWX⟩ : ∃ WX, WX = w6.alloc (.cells #[.slice (some ⟨gx, 0, none⟩) may.length may.length, .int .i64 least, .int .i64 asked] 25) := ⟨_, rfl⟩
  obtain ⟨gb, hgb⟩ : ∃ gb, gb = w6.heap.size := ⟨_, rfl⟩
  rw [← hWX] at b0 b1 b2 hBx
  rw [← hgb] at b0 b1 b2
  replace q0 := below_cell hBx q0
  replace q1 := below_cell hBx q1
  replace q2 := below_cell hBx q2
  replace hox := own_below hox hBx
  replace hB := ext_trans hB hBx
  have HWX := Lib.hid hWX
  have HGB := Lib.hid hgb
  clear hBx hWX hgb
  go_wp2_with fail
  rw [← HWX.out, ← HGB.out]
  refine (toVoteS_any (hV.below hB) (by omega)).mono ?_
  rintro e w7 ⟨rfl, hoy, hBc⟩
  replace hB := ext_trans hB hBc
  replace q0 := below_cell hBc q0
  replace q1 := below_cell hBc q1
  replace q2 := below_cell hBc q2
  replace b0 := below_cell hBc b0
  replace b1 := below_cell hBc b1
  replace b2 := below_cell hBc b2
  replace hox := own_below hox hBc
  clear hBc
  go_wp2_with fail
  refine (implApprovedAt (ilR.own rfl (by omega) hox) (voR.own rfl (by omega) hoy) HWF.out (.inr ⟨_, 0, rfl, Nat.le_refl _, by omega⟩)).mono ?_
  rintro e w8 ⟨rfl, hBc⟩
  replace hB := ext_trans hB hBc
  replace q0 := below_cell hBc q0
  replace q1 := below_cell hBc q1
  replace q2 := below_cell hBc q2
  replace b0 := below_cell hBc b0
  replace b1 := below_cell hBc b1
  replace b2 := below_cell hBc b2
  replace hox := own_below hox hBc
  replace hoy := own_below hoy hBc
  clear hBc
  rw [← HR.out]
  have hUk := hU.below hB
  go_wp2_with fail
  refine wp_region_kinds (fun i wz vz => match i with | 0 => vz = .agg #[.slice (some ⟨gx, 0, none⟩) may.length may.length, .int .i64 least, .int .i64 asked] | 1 => vz = .agg #[.slice A may.length c, .int .i64 least, .int .i64 asked] | 2 => NdV w8.heap.size may least asked wz vz | 3 => vz = .bool true | 4 => vz = .bool false | _ => True) (fun _ wz => Below w8.heap.size w8 wz) (fun _ w w' => Below w.heap.size w w') (fun _ => Option.none) (by kernel_rfl) (by kernel_rfl) (by kernel_rfl) ?stab14 (ext_drew (Below.refl _ _)) ?all14 ?fin14
  case stab14 =>
    intro i j wa wb v hR _ _ _ _ hT
    match j, hT with
    | 0, hT => exact hT
    | 1, hT => exact hT
    | 2, hT => exact NdV.below hT hR
    | 3, hT => exact hT
    | 4, hT => exact hT
    | n + 5, _ => trivial
  case all14 =>
    refine RAll.cons rfl ?_ (RAll.cons rfl ?_ (RAll.cons rfl ?_ (RAll.cons rfl ?_ (RAll.cons rfl ?_ (RAll.none_)))))
    · intro a k wa K Q _ hI hp hK
      have e7 := tmp_of (show a.eval (.tmp 7) = .pointer (some ⟨gb, 0, none⟩) from hp.keep 7 (by kernel_rfl))
      have b0_ := below_cell hI b0
      have b1_ := below_cell hI b1
      have b2_ := below_cell hI b2
      go_simp
      exact hK _ _ rfl (Below.refl _ _) hI
    · intro a k wa K Q _ hI hp hK
      have e2 := tmp_of (show a.eval (.tmp 2) = .pointer (some ⟨w.heap.size, 0, none⟩) from hp.keep 2 (by kernel_rfl))
      have q0_ := below_cell hI q0
      have q1_ := below_cell hI q1
      have q2_ := below_cell hI q2
      go_simp
      exact hK _ _ rfl (Below.refl _ _) hI
    · intro a k wa K Q _ hI hp hK
      have e36 := tmp_of (show a.eval (.tmp 36) = .agg #[.slice A may.length c, .int .i64 least, .int .i64 asked] from hp.dep 1 36 (by kernel_rfl))
      go_simp
      refine (toNeed_any (hUk.below hI) (by omega)).mono ?_
      rintro e wb ⟨g9, rfl, ho9, hb⟩
      exact hK _ _ (⟨g9, rfl, own_lower ho9 hI.size⟩) hb (ext_trans hI hb)
    · intro a k wa K Q _ hI hp hK
      have e35 := tmp_of (show a.eval (.tmp 35) = .agg #[.slice (some ⟨gx, 0, none⟩) may.length may.length, .int .i64 least, .int .i64 asked] from hp.dep 0 35 (by kernel_rfl))
      have t37 : NdV w8.heap.size may least asked wa (a.eval (.tmp 37)) := hp.dep 2 37 (by kernel_rfl)
      obtain ⟨g9, e37, ho9⟩ := t37
      replace e37 := tmp_of e37
      go_simp
      refine (eqNeed_any (ilR.own rfl (by omega) (own_below hox hI)) (ilR.own rfl (by omega) ho9)).mono ?_
      rintro e wb ⟨rfl, hb⟩
      rw [sameB_self]
      exact hK _ _ rfl hb (ext_trans hI hb)
    · intro a k wa K Q _ hI hp hK
      have e38 := tmp_of (show a.eval (.tmp 38) = .bool true from hp.dep 3 38 (by kernel_rfl))
      go_simp
      exact hK _ _ (rfl) (Below.refl _ _) hI
  case fin14 =>
    intro f w9 hT hI0
    have hI : Below w8.heap.size w8 w9 := hI0
    have hr4 : (f 4) = .bool false := hT 4 (by decide) rfl rfl
    clear hT hI0
    simp only [putAll, hr4]
    go_simp
    clear hr4
    replace hB := ext_trans hB hI
    replace hoy := own_below hoy hI
    clear hI hUk
    go_wp2_with fail
    refine (toVoteS_any (hV.below hB) (by omega)).mono ?_
    rintro e w10 ⟨rfl, hoz, hBc⟩
    replace hB := ext_trans hB hBc
    replace hoy := own_below hoy hBc
    clear hBc
    go_wp2_with fail
    refine (eqVoteS_any (voR.own rfl (by omega) hoy) (voR.own rfl (by omega) hoz)).mono ?_
    rintro e w1 ⟨rfl, hBc⟩
    replace hB := ext_trans hB hBc
    clear hBc
    rw [sameB_self]
    go_wp2
    go_ret
    exact ⟨rfl, ext_trans hB0 hB⟩
end Go.Proofs.Ytbkjolbgnkpjpaa

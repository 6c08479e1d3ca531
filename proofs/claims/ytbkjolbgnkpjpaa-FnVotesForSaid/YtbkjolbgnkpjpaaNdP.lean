/- FnIsApproved, walked. -/
import Derived.Test.YtbkjolbgnkpjpaaNdN
import Derived.Test.YtbkjolbgnkpjpaaNdE
namespace Go.Proofs.Ytbkjolbgnkpjpaa
open Go.RowKit

theorem VoQ.wf {l : VoL} (h : ∀ v ∈ l, VoQ v) : WfV l := fun v hv => by
  have := h v hv
  unfold VoQ at this
  simp only [WfI, Lit.wf, Bool.and_eq_true, decide_eq_true_eq]
  exact ⟨by have : IntKind.i64.min = -9223372036854775808 := by rfl
            omega, by have : IntKind.i64.max = 9223372036854775807 := by rfl
                      omega⟩
theorem ndApr_more {may : IL} {least asked : Int} {l : VoL} (h : ndApr may least asked l = false) (hn : ndOk may least asked = true) (hl : l.length ≤ 20) : ndApr may (least + 1) asked l = false := by
  rw [ndApr_yes hn hl] at h
  simp only [decide_eq_false_iff_not] at h
  unfold ndApr
  have : ¬ least + 1 ≤ ((voFor may asked l).length : Int) := by omega
  simp [this]

set_option maxRecDepth 100000 in
set_option maxHeartbeats 4000000 in
theorem lawIsApproved {A : Option Addr} {l : List Int} {c : Nat} {w : World} (hC : CodeR w w.heap.size A l) (hc : l.length ≤ c) :
    Calls Try.prog 5 #[.slice A l.length c] w fun e w' => e = .returned (.bool true) ∧ Below w.heap.size w w' := by
  by_cases h : (1048576 : Int) < l.length
  · go_enter Try.func5, Try.ntmps5
    go_wp2
    go_ret
    exact ⟨rfl, Below.refl _ _⟩
  · go_enter Try.func5, Try.ntmps5
    go_wp2_with fail
    refine (DrawIsApproved_d hC hc).mono ?_
    rintro e w1 ⟨_, _, rfl, ⟨A2, c2, may, least, asked, rfl, hn, h1, h2, ho⟩, ⟨us, hun, huq, B2, d2, rfl, hou⟩, hB⟩
    have q0 := box_cell w1 #[.slice A2 may.length c2, .int .i64 least, .int .i64 asked] 25 0 (.slice A2 may.length c2) rfl
    have q1 := box_cell w1 #[.slice A2 may.length c2, .int .i64 least, .int .i64 asked] 25 1 (.int .i64 least) rfl
    have q2 := box_cell w1 #[.slice A2 may.length c2, .int .i64 least, .int .i64 asked] 25 2 (.int .i64 asked) rfl
    have hbl := below_alloc w1 (.cells #[.slice A2 may.length c2, .int .i64 least, .int .i64 asked] 25)
    have hU : ilR _ A2 may := (ilR.own rfl (by omega) ho).below hbl
    have hV : voR _ B2 us := (voR.own rfl (by omega) hou).below hbl
    obtain ⟨X, hX⟩ : ∃ X, X = w1.alloc (.cells #[.slice A2 may.length c2, .int .i64 least, .int .i64 asked] 25) := ⟨_, rfl⟩
    obtain ⟨g, hg⟩ : ∃ g, g = w1.heap.size := ⟨_, rfl⟩
    rw [← hX] at q0 q1 q2 hU hV hbl
    rw [← hg] at q0 q1 q2
    replace hB := ext_trans hB hbl
    have HX := Lib.hid hX
    have HG := Lib.hid hg
    have HWF := Lib.hid (VoQ.wf huq)
    obtain ⟨ok, hok⟩ : ∃ x, x = ndApr may least asked us := ⟨_, rfl⟩
    have HOK := Lib.hid hok
    obtain ⟨r, hr⟩ : ∃ x, x = ndFor may least asked us := ⟨_, rfl⟩
    have hrl : r.length ≤ may.length := by rw [hr]; exact ndFor_len _ _ _ _
    have HR := Lib.hid hr
    clear hX hg hbl ho hou huq hok hr
    go_wp2_with fail
    rw [← HX.out, ← HG.out]
    refine (implIsApproved hU hV HWF.out).mono ?_
    rintro e w2 ⟨rfl, hBc⟩
    replace hB := ext_trans hB hBc
    replace q0 := below_cell hBc q0
    replace q1 := below_cell hBc q1
    replace q2 := below_cell hBc q2
    replace hU := hU.below hBc
    replace hV := hV.below hBc
    clear hBc
    go_wp2_with fail
    refine (specIsApproved hU hV).mono ?_
    rintro e w3 ⟨rfl, hBc⟩
    replace hB := ext_trans hB hBc
    replace q0 := below_cell hBc q0
    replace q1 := below_cell hBc q1
    replace q2 := below_cell hBc q2
    replace hU := hU.below hBc
    replace hV := hV.below hBc
    clear hBc
    rw [← HOK.out]
    go_wp2_with fail
    refine (implNeedValid hU).mono ?_
    rintro e w4 ⟨rfl, hBc⟩
    replace hB := ext_trans hB hBc
    replace q0 := below_cell hBc q0
    replace q1 := below_cell hBc q1
    replace q2 := below_cell hBc q2
    replace hU := hU.below hBc
    replace hV := hV.below hBc
    clear hBc
    cases hnd : ndOk may least asked
    · have hok0 : ok = false := by rw [HOK.out]; exact (ndApr_no (.inl hnd)).symm
      subst hok0
      clear hnd HOK HR
      go_wp2_with fail
      refine (alive_any _).mono ?_
      rintro e w5 ⟨rfl, hBc⟩
      replace hB := ext_trans hB hBc
      clear hBc
      go_wp2
      go_ret
      exact ⟨rfl, hB⟩
    · by_cases hbig : 20 < us.length
      · have hok0 : ok = false := by rw [HOK.out]; exact (ndApr_no (.inr hbig)).symm
        subst hok0
        clear hnd HOK HR
        go_wp2_with fail
        refine (alive_any _).mono ?_
        rintro e w5 ⟨rfl, hBc⟩
        replace hB := ext_trans hB hBc
        clear hBc
        go_wp2
        go_ret
        exact ⟨rfl, hB⟩
      · have hd : decide (least ≤ (r.length : Int)) = ok := by rw [HOK.out, HR.out, ndApr_yes hnd (by omega), ndFor_yes hnd (by omega)]
        have HM : Hid (ok = false → ndApr may (least + 1) asked us = false) := Lib.hid (fun e => ndApr_more (by rw [← HOK.out, e]) hnd (by omega))
        clear hnd HOK
        have p0 := box_cell w4 #[.slice A2 may.length c2, .int .i64 (least + 1), .int .i64 asked] 25 0 (.slice A2 may.length c2) rfl
        have p1 := box_cell w4 #[.slice A2 may.length c2, .int .i64 (least + 1), .int .i64 asked] 25 1 (.int .i64 (least + 1)) rfl
        have p2 := box_cell w4 #[.slice A2 may.length c2, .int .i64 (least + 1), .int .i64 asked] 25 2 (.int .i64 asked) rfl
        have hbl := below_alloc w4 (.cells #[.slice A2 may.length c2, .int .i64 (least + 1), .int .i64 asked] 25)
        obtain ⟨X, hX⟩ : ∃ X, X = w4.alloc (.cells #[.slice A2 may.length c2, .int .i64 (least + 1), .int .i64 asked] 25) := ⟨_, rfl⟩
        obtain ⟨g6, hg6⟩ : ∃ g, g = w4.heap.size := ⟨_, rfl⟩
        rw [← hX] at p0 p1 p2 hbl
        rw [← hg6] at p0 p1 p2
        have hB6 := ext_trans hB hbl
        have hU6 := hU.below hbl
        have hV6 := hV.below hbl
        have r0 := below_cell hbl q0
        have r1 := below_cell hbl q1
        have r2 := below_cell hbl q2
        have s1 := below_cell (below_alloc w4 (.cells #[.slice A2 may.length c2, .int .i64 least, .int .i64 asked] 25)) q1
        have HX6 := Lib.hid hX
        have HG6 := Lib.hid hg6
        have HB6 := Lib.hid hB6
        have HU6 := Lib.hid hU6
        have HV6 := Lib.hid hV6
        have hdg : ok = true ∨ ok = false := by cases ok <;> simp
        have HD := Lib.hid hd
        clear hX hg6 hbl hU hV hB hB6 hU6 hV6 hd
        rcases hdg with rfl | rfl
        · clear HM
          go_wp2_with fail
          rw [← HX6.out, ← HG6.out]
          refine wp_region_kinds (fun i wz vz => match i with | 0 => vz = .bool true | 1 => vz = .agg #[.slice A2 may.length c2, .int .i64 least, .int .i64 asked] | 2 => vz = .slice B2 us.length d2 | 3 => ∃ A c, vz = .slice A r.length c | 4 => vz = .int .i64 r.length | 5 => vz = .pointer (some ⟨g, 1, Option.none⟩) | 6 => vz = .int .i64 least | 7 => vz = .bool true | 8 => vz = .bool true | 9 => vz = .bool true | 10 => vz = .bool true | 11 => vz = .bool true | 16 => vz = .bool true | 17 => vz = .bool true | 18 => vz = .bool true | _ => True) (fun _ wz => Below X.heap.size X wz) (fun i w w' => Below w.heap.size w w') (fun _ => Option.none) (by kernel_rfl) (by kernel_rfl) (by kernel_rfl) ?stab11 (ext_drew (Below.refl _ _)) ?all11 ?fin11
          case stab11 =>
            intro i j wa wb v hR hk hne hd _ hT
            match j, hk, hne, hd, hT with
            | 0, hk, hne, hd, hT => exact hT
            | 1, hk, hne, hd, hT => exact hT
            | 2, hk, hne, hd, hT => exact hT
            | 3, hk, hne, hd, hT => exact hT
            | 4, hk, hne, hd, hT => exact hT
            | 5, hk, hne, hd, hT => exact hT
            | 6, hk, hne, hd, hT => exact hT
            | 7, hk, hne, hd, hT => exact hT
            | 8, hk, hne, hd, hT => exact hT
            | 9, hk, hne, hd, hT => exact hT
            | 10, hk, hne, hd, hT => exact hT
            | 11, hk, hne, hd, hT => exact hT
            | 16, hk, hne, hd, hT => exact hT
            | 17, hk, hne, hd, hT => exact hT
            | 18, hk, hne, hd, hT => exact hT
            | 12, _, _, _, _ => trivial
            | 13, _, _, _, _ => trivial
            | 14, _, _, _, _ => trivial
            | 15, _, _, _, _ => trivial
            | n + 19, _, _, _, _ => trivial
          case all11 =>
            refine RAll.cons rfl ?_ (RAll.cons rfl ?_ (RAll.cons rfl ?_ (RAll.cons rfl ?_ (RAll.cons rfl ?_ (RAll.cons rfl ?_ (RAll.cons rfl ?_ (RAll.cons rfl ?_ (RAll.cons rfl ?_ (RAll.cons rfl ?_ (RAll.guarded 9 50 true rfl (by kernel_rfl) (fun _ _ h => h) ?_ (RAll.guarded 9 50 true rfl (by kernel_rfl) (fun _ _ h => h) ?_ (RAll.skipped 11 52 false rfl (by kernel_rfl) (fun _ _ h => h) ?_ (RAll.skipped 11 52 false rfl (by kernel_rfl) (fun _ _ h => h) ?_ (RAll.skipped 11 52 false rfl (by kernel_rfl) (fun _ _ h => h) ?_ (RAll.skipped 11 52 false rfl (by kernel_rfl) (fun _ _ h => h) ?_ (RAll.guarded 9 50 true rfl (by kernel_rfl) (fun _ _ h => h) ?_ (RAll.cons rfl ?_ (RAll.cons rfl ?_ (RAll.none_)))))))))))))))))))
            · intro a k wa K Q _ hI hp hK
              exact op_move _ (.inl rfl) (hK _ _ (hp.keep 5 (by kernel_rfl)) (Below.refl _ _) hI)
            · intro a k wa K Q _ hI hp hK
              have e3 := tmp_of (show a.eval (.tmp 3) = .pointer (some ⟨g, 0, none⟩) from hp.keep 3 (by kernel_rfl))
              have r0_ := below_cell hI r0
              have r1_ := below_cell hI r1
              have r2_ := below_cell hI r2
              go_simp
              exact hK _ _ rfl (Below.refl _ _) hI
            · intro a k wa K Q _ hI hp hK
              exact op_move _ (.inl rfl) (hK _ _ (hp.keep 4 (by kernel_rfl)) (Below.refl _ _) hI)
            · intro a k wa K Q _ hI hp hK
              have e42 := tmp_of (show a.eval (.tmp 42) = .agg #[.slice A2 may.length c2, .int .i64 least, .int .i64 asked] from hp.dep 1 42 (by kernel_rfl))
              have e43 := tmp_of (show a.eval (.tmp 43) = .slice B2 us.length d2 from hp.dep 2 43 (by kernel_rfl))
              go_simp
              refine (implVotesFor (HU6.out.below hI) (HV6.out.below hI) HWF.out).mono ?_
              rintro e wb ⟨A9, c9, rfl, _, hb⟩
              rw [← HR.out]
              exact hK _ _ ⟨_, _, rfl⟩ hb (ext_trans hI hb)
            · intro a k wa K Q _ hI hp hK
              have t44 : ∃ A c, (a.eval (.tmp 44)) = .slice A r.length c := hp.dep 3 44 (by kernel_rfl)
              obtain ⟨A9, c9, e44⟩ := t44
              replace e44 := tmp_of e44
              go_simp
              exact hK _ _ rfl (Below.refl _ _) hI
            · intro a k wa K Q _ hI hp hK
              have e3 := tmp_of (show a.eval (.tmp 3) = .pointer (some ⟨g, 0, none⟩) from hp.keep 3 (by kernel_rfl))
              go_simp
              exact hK _ _ rfl (Below.refl _ _) hI
            · intro a k wa K Q _ hI hp hK
              have e46 := tmp_of (show a.eval (.tmp 46) = .pointer (some ⟨g, 1, Option.none⟩) from hp.dep 5 46 (by kernel_rfl))
              have r1_ := below_cell hI r1
              go_simp
              exact hK _ _ rfl (Below.refl _ _) hI
            · intro a k wa K Q _ hI hp hK
              have e45 := tmp_of (show a.eval (.tmp 45) = .int .i64 r.length from hp.dep 4 45 (by kernel_rfl))
              have e47 := tmp_of (show a.eval (.tmp 47) = .int .i64 least from hp.dep 6 47 (by kernel_rfl))
              go_simp
              exact hK _ _ (show Value.bool (decide (least ≤ (r.length : Int))) = .bool true by rw [HD.out]) (Below.refl _ _) hI
            · intro a k wa K Q _ hI hp hK
              have e41 := tmp_of (show a.eval (.tmp 41) = .bool true from hp.dep 0 41 (by kernel_rfl))
              have e48 := tmp_of (show a.eval (.tmp 48) = .bool true from hp.dep 7 48 (by kernel_rfl))
              go_simp
              exact hK _ _ (rfl) (Below.refl _ _) hI
            · intro a k wa K Q _ hI hp hK
              exact op_move _ (.inl rfl) (hK _ _ (hp.dep 8 49 (by kernel_rfl)) (Below.refl _ _) hI)
            · intro a k wa K Q _ hI hp hK
              exact op_move _ (.inl rfl) (hK _ _ (hp.keep 5 (by kernel_rfl)) (Below.refl _ _) hI)
            · intro a k wa K Q _ hI hp hK
              exact op_move _ (.inl rfl) (hK _ _ (hp.dep 10 51 (by kernel_rfl)) (Below.refl _ _) hI)
            · exact fun k wa hI => ⟨trivial, Below.refl _ _, hI⟩
            · exact fun k wa hI => ⟨trivial, Below.refl _ _, hI⟩
            · exact fun k wa hI => ⟨trivial, Below.refl _ _, hI⟩
            · exact fun k wa hI => ⟨trivial, Below.refl _ _, hI⟩
            · intro a k wa K Q _ hI hp hK
              exact op_pick_t _ _ _ rfl (hp.dep 11 52 (by kernel_rfl)) (hK _ _ (rfl) (Below.refl _ _) hI)
            · intro a k wa K Q _ hI hp hK
              exact op_pick_t _ _ _ rfl (hp.dep 9 50 (by kernel_rfl)) (hK _ _ (hp.dep 16 57 (by kernel_rfl)) (Below.refl _ _) hI)
            · intro a k wa K Q _ hI hp hK
              exact op_move _ (.inr rfl) (hK _ _ (hp.dep 17 58 (by kernel_rfl)) (Below.refl _ _) hI)
          case fin11 =>
            intro f w7 hT hI0
            have hI : Below X.heap.size X w7 := hI0
            have hr18 : (f 18) = .bool true := hT 18 (by decide) rfl rfl
            clear hT hI0
            simp only [putAll, hr18]
            go_simp
            go_wp2
            go_ret
            exact ⟨rfl, ext_trans HB6.out hI⟩
        · have HM1 := Lib.hid (HM.out rfl)
          clear HM
          go_wp2_with fail
          rw [← HX6.out, ← HG6.out]
          refine wp_region_kinds (fun i wz vz => match i with | 0 => vz = .bool false | 1 => vz = .agg #[.slice A2 may.length c2, .int .i64 least, .int .i64 asked] | 2 => vz = .slice B2 us.length d2 | 3 => ∃ A c, vz = .slice A r.length c | 4 => vz = .int .i64 r.length | 5 => vz = .pointer (some ⟨g, 1, Option.none⟩) | 6 => vz = .int .i64 least | 7 => vz = .bool false | 8 => vz = .bool true | 9 => vz = .bool true | 10 => vz = .bool false | 11 => vz = .bool false | 12 => vz = .agg #[.slice A2 may.length c2, .int .i64 (least + 1), .int .i64 asked] | 13 => vz = .slice B2 us.length d2 | 14 => vz = .bool false | 15 => vz = .bool true | 16 => vz = .bool true | 17 => vz = .bool true | 18 => vz = .bool true | _ => True) (fun _ wz => Below X.heap.size X wz) (fun i w w' => Below w.heap.size w w') (fun _ => Option.none) (by kernel_rfl) (by kernel_rfl) (by kernel_rfl) ?stab11 (ext_drew (Below.refl _ _)) ?all11 ?fin11
          case stab11 =>
            intro i j wa wb v hR hk hne hd _ hT
            match j, hk, hne, hd, hT with
            | 0, hk, hne, hd, hT => exact hT
            | 1, hk, hne, hd, hT => exact hT
            | 2, hk, hne, hd, hT => exact hT
            | 3, hk, hne, hd, hT => exact hT
            | 4, hk, hne, hd, hT => exact hT
            | 5, hk, hne, hd, hT => exact hT
            | 6, hk, hne, hd, hT => exact hT
            | 7, hk, hne, hd, hT => exact hT
            | 8, hk, hne, hd, hT => exact hT
            | 9, hk, hne, hd, hT => exact hT
            | 10, hk, hne, hd, hT => exact hT
            | 11, hk, hne, hd, hT => exact hT
            | 12, hk, hne, hd, hT => exact hT
            | 13, hk, hne, hd, hT => exact hT
            | 14, hk, hne, hd, hT => exact hT
            | 15, hk, hne, hd, hT => exact hT
            | 16, hk, hne, hd, hT => exact hT
            | 17, hk, hne, hd, hT => exact hT
            | 18, hk, hne, hd, hT => exact hT
            | n + 19, _, _, _, _ => trivial
          case all11 =>
            refine RAll.cons rfl ?_ (RAll.cons rfl ?_ (RAll.cons rfl ?_ (RAll.cons rfl ?_ (RAll.cons rfl ?_ (RAll.cons rfl ?_ (RAll.cons rfl ?_ (RAll.cons rfl ?_ (RAll.cons rfl ?_ (RAll.cons rfl ?_ (RAll.guarded 9 50 true rfl (by kernel_rfl) (fun _ _ h => h) ?_ (RAll.guarded 9 50 true rfl (by kernel_rfl) (fun _ _ h => h) ?_ (RAll.guarded 11 52 false rfl (by kernel_rfl) (fun _ _ h => h) ?_ (RAll.guarded 11 52 false rfl (by kernel_rfl) (fun _ _ h => h) ?_ (RAll.guarded 11 52 false rfl (by kernel_rfl) (fun _ _ h => h) ?_ (RAll.guarded 11 52 false rfl (by kernel_rfl) (fun _ _ h => h) ?_ (RAll.guarded 9 50 true rfl (by kernel_rfl) (fun _ _ h => h) ?_ (RAll.cons rfl ?_ (RAll.cons rfl ?_ (RAll.none_)))))))))))))))))))
            · intro a k wa K Q _ hI hp hK
              exact op_move _ (.inl rfl) (hK _ _ (hp.keep 5 (by kernel_rfl)) (Below.refl _ _) hI)
            · intro a k wa K Q _ hI hp hK
              have e3 := tmp_of (show a.eval (.tmp 3) = .pointer (some ⟨g, 0, none⟩) from hp.keep 3 (by kernel_rfl))
              have r0_ := below_cell hI r0
              have r1_ := below_cell hI r1
              have r2_ := below_cell hI r2
              go_simp
              exact hK _ _ rfl (Below.refl _ _) hI
            · intro a k wa K Q _ hI hp hK
              exact op_move _ (.inl rfl) (hK _ _ (hp.keep 4 (by kernel_rfl)) (Below.refl _ _) hI)
            · intro a k wa K Q _ hI hp hK
              have e42 := tmp_of (show a.eval (.tmp 42) = .agg #[.slice A2 may.length c2, .int .i64 least, .int .i64 asked] from hp.dep 1 42 (by kernel_rfl))
              have e43 := tmp_of (show a.eval (.tmp 43) = .slice B2 us.length d2 from hp.dep 2 43 (by kernel_rfl))
              go_simp
              refine (implVotesFor (HU6.out.below hI) (HV6.out.below hI) HWF.out).mono ?_
              rintro e wb ⟨A9, c9, rfl, _, hb⟩
              rw [← HR.out]
              exact hK _ _ ⟨_, _, rfl⟩ hb (ext_trans hI hb)
            · intro a k wa K Q _ hI hp hK
              have t44 : ∃ A c, (a.eval (.tmp 44)) = .slice A r.length c := hp.dep 3 44 (by kernel_rfl)
              obtain ⟨A9, c9, e44⟩ := t44
              replace e44 := tmp_of e44
              go_simp
              exact hK _ _ rfl (Below.refl _ _) hI
            · intro a k wa K Q _ hI hp hK
              have e3 := tmp_of (show a.eval (.tmp 3) = .pointer (some ⟨g, 0, none⟩) from hp.keep 3 (by kernel_rfl))
              go_simp
              exact hK _ _ rfl (Below.refl _ _) hI
            · intro a k wa K Q _ hI hp hK
              have e46 := tmp_of (show a.eval (.tmp 46) = .pointer (some ⟨g, 1, Option.none⟩) from hp.dep 5 46 (by kernel_rfl))
              have r1_ := below_cell hI r1
              go_simp
              exact hK _ _ rfl (Below.refl _ _) hI
            · intro a k wa K Q _ hI hp hK
              have e45 := tmp_of (show a.eval (.tmp 45) = .int .i64 r.length from hp.dep 4 45 (by kernel_rfl))
              have e47 := tmp_of (show a.eval (.tmp 47) = .int .i64 least from hp.dep 6 47 (by kernel_rfl))
              go_simp
              exact hK _ _ (show Value.bool (decide (least ≤ (r.length : Int))) = .bool false by rw [HD.out]) (Below.refl _ _) hI
            · intro a k wa K Q _ hI hp hK
              have e41 := tmp_of (show a.eval (.tmp 41) = .bool false from hp.dep 0 41 (by kernel_rfl))
              have e48 := tmp_of (show a.eval (.tmp 48) = .bool false from hp.dep 7 48 (by kernel_rfl))
              go_simp
              exact hK _ _ (rfl) (Below.refl _ _) hI
            · intro a k wa K Q _ hI hp hK
              exact op_move _ (.inl rfl) (hK _ _ (hp.dep 8 49 (by kernel_rfl)) (Below.refl _ _) hI)
            · intro a k wa K Q _ hI hp hK
              exact op_move _ (.inl rfl) (hK _ _ (hp.keep 5 (by kernel_rfl)) (Below.refl _ _) hI)
            · intro a k wa K Q _ hI hp hK
              exact op_move _ (.inl rfl) (hK _ _ (hp.dep 10 51 (by kernel_rfl)) (Below.refl _ _) hI)
            · intro a k wa K Q _ hI hp hK
              have e6 := tmp_of (show a.eval (.tmp 6) = .pointer (some ⟨g6, 0, none⟩) from hp.keep 6 (by kernel_rfl))
              have p0_ := below_cell hI p0
              have p1_ := below_cell hI p1
              have p2_ := below_cell hI p2
              go_simp
              exact hK _ _ rfl (Below.refl _ _) hI
            · intro a k wa K Q _ hI hp hK
              exact op_move _ (.inl rfl) (hK _ _ (hp.keep 4 (by kernel_rfl)) (Below.refl _ _) hI)
            · intro a k wa K Q _ hI hp hK
              have e53 := tmp_of (show a.eval (.tmp 53) = .agg #[.slice A2 may.length c2, .int .i64 (least + 1), .int .i64 asked] from hp.dep 12 53 (by kernel_rfl))
              have e54 := tmp_of (show a.eval (.tmp 54) = .slice B2 us.length d2 from hp.dep 13 54 (by kernel_rfl))
              go_simp
              refine (implIsApproved (HU6.out.below hI) (HV6.out.below hI) HWF.out).mono ?_
              rintro e wb ⟨rfl, hb⟩
              exact hK _ _ (show _ = (.bool false : Value) from by rw [HM1.out]) hb (ext_trans hI hb)
            · intro a k wa K Q _ hI hp hK
              have e55 := tmp_of (show a.eval (.tmp 55) = .bool false from hp.dep 14 55 (by kernel_rfl))
              go_simp
              exact hK _ _ (rfl) (Below.refl _ _) hI
            · intro a k wa K Q _ hI hp hK
              exact op_pick_f _ _ _ rfl (hp.dep 11 52 (by kernel_rfl)) (hK _ _ (hp.dep 15 56 (by kernel_rfl)) (Below.refl _ _) hI)
            · intro a k wa K Q _ hI hp hK
              exact op_pick_t _ _ _ rfl (hp.dep 9 50 (by kernel_rfl)) (hK _ _ (hp.dep 16 57 (by kernel_rfl)) (Below.refl _ _) hI)
            · intro a k wa K Q _ hI hp hK
              exact op_move _ (.inr rfl) (hK _ _ (hp.dep 17 58 (by kernel_rfl)) (Below.refl _ _) hI)
          case fin11 =>
            intro f w7 hT hI0
            have hI : Below X.heap.size X w7 := hI0
            have hr18 : (f 18) = .bool true := hT 18 (by decide) rfl rfl
            clear hT hI0
            simp only [putAll, hr18]
            go_simp
            go_wp2
            go_ret
            exact ⟨rfl, ext_trans HB6.out hI⟩
end Go.Proofs.Ytbkjolbgnkpjpaa

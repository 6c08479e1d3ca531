/- IsApproved; ApprovedAt. -/
import Derived.Test.YtbkjolbgnkpjpaaNdD
namespace Go.Proofs.Ytbkjolbgnkpjpaa
open Go.RowKit

theorem ndApr_no {may : IL} {least asked : Int} {l : VoL} (h : ndOk may least asked = false ∨ 20 < l.length) : false = ndApr may least asked l := by
  unfold ndApr
  rcases h with h | h
  · simp [h]
  · have : decide (l.length ≤ 20) = false := by simp; omega
    simp [this]
theorem ndApr_yes {may : IL} {least asked : Int} {l : VoL} (h : ndOk may least asked = true) (h2 : l.length ≤ 20) : ndApr may least asked l = decide (least ≤ (voFor may asked l).length) := by
  simp [ndApr, h, h2]

set_option maxRecDepth 100000 in
set_option maxHeartbeats 4000000 in
theorem implIsApproved {A B : Option Addr} {may : IL} {l : VoL} {c c2 : Nat} {least asked : Int} {w : World} (hU : ilR w A may) (hV : voR w B l) (hwf : WfV l) :
    Calls Try.prog 19 #[.agg #[.slice A may.length c, .int .i64 least, .int .i64 asked], .slice B l.length c2] w fun e w' => e = .returned (.bool (ndApr may least asked l)) ∧ Below w.heap.size w w' := by
  have hl := hV.len
  obtain ⟨W, hW⟩ : ∃ W, W = w.alloc (.cells #[.slice A may.length c, .int .i64 least, .int .i64 asked] 25) := ⟨_, rfl⟩
  have q0 : W.cell? ⟨w.heap.size, 0, none⟩ = some (.slice A may.length c) := by rw [hW]; exact box_cell w #[.slice A may.length c, .int .i64 least, .int .i64 asked] 25 0 (.slice A may.length c) rfl
  have q1 : W.cell? ⟨w.heap.size, 1, none⟩ = some (.int .i64 least) := by rw [hW]; exact box_cell w #[.slice A may.length c, .int .i64 least, .int .i64 asked] 25 1 (.int .i64 least) rfl
  have q2 : W.cell? ⟨w.heap.size, 2, none⟩ = some (.int .i64 asked) := by rw [hW]; exact box_cell w #[.slice A may.length c, .int .i64 least, .int .i64 asked] 25 2 (.int .i64 asked) rfl
  have hB0 : Below w.heap.size w W := by rw [hW]; exact below_alloc _ _
  replace hU := hU.below hB0
  replace hV := hV.below hB0
  have HW := Lib.hid hW
  have HWF := Lib.hid hwf
  clear hW hwf
  cases g1 : ndOk may least asked
  · have HG := Lib.hid g1
    clear g1
    go_enter Try.func19, Try.ntmps19
    go_wp2_with fail
    rw [← HW.out]
    refine wp_region_kinds (fun i wz vz => match i with | 0 => vz = .agg #[.slice A may.length c, .int .i64 least, .int .i64 asked] | 1 => vz = .bool false | 2 => vz = .bool false | 6 => vz = .bool false | 7 => vz = .bool false | 15 => vz = .bool false | 16 => vz = .bool false | _ => True) (fun _ wz => Below W.heap.size W wz) (fun i w w' => Below w.heap.size w w') (fun _ => Option.none) (by kernel_rfl) (by kernel_rfl) (by kernel_rfl) ?stab1 (ext_drew (Below.refl _ _)) ?all1 ?fin1
    case stab1 =>
      intro i j wa wb v hR hk hne _ _ hT
      match j, hk, hne, hT with
      | 0, hk, hne, hT => exact hT
      | 1, hk, hne, hT => exact hT
      | 2, hk, hne, hT => exact hT
      | 6, hk, hne, hT => exact hT
      | 7, hk, hne, hT => exact hT
      | 15, hk, hne, hT => exact hT
      | 16, hk, hne, hT => exact hT
      | 3, _, _, _ => trivial
      | 4, _, _, _ => trivial
      | 5, _, _, _ => trivial
      | 8, _, _, _ => trivial
      | 9, _, _, _ => trivial
      | 10, _, _, _ => trivial
      | 11, _, _, _ => trivial
      | 12, _, _, _ => trivial
      | 13, _, _, _ => trivial
      | 14, _, _, _ => trivial
      | n + 17, _, _, _ => trivial
    case all1 =>
      refine RAll.cons rfl ?_ (RAll.cons rfl ?_ (RAll.cons rfl ?_ (RAll.skipped 2 7 true rfl (by kernel_rfl) (fun _ _ h => h) ?_ (RAll.skipped 2 7 true rfl (by kernel_rfl) (fun _ _ h => h) ?_ (RAll.skipped 2 7 true rfl (by kernel_rfl) (fun _ _ h => h) ?_ (RAll.cons rfl ?_ (RAll.cons rfl ?_ (RAll.skipped 7 12 true rfl (by kernel_rfl) (fun _ _ h => h) ?_ (RAll.skipped 7 12 true rfl (by kernel_rfl) (fun _ _ h => h) ?_ (RAll.skipped 7 12 true rfl (by kernel_rfl) (fun _ _ h => h) ?_ (RAll.skipped 7 12 true rfl (by kernel_rfl) (fun _ _ h => h) ?_ (RAll.skipped 7 12 true rfl (by kernel_rfl) (fun _ _ h => h) ?_ (RAll.skipped 7 12 true rfl (by kernel_rfl) (fun _ _ h => h) ?_ (RAll.skipped 7 12 true rfl (by kernel_rfl) (fun _ _ h => h) ?_ (RAll.cons rfl ?_ (RAll.cons rfl ?_ (RAll.none_)))))))))))))))))
      · intro a k wa K Q _ hI hp hK
        have e2 := tmp_of (show a.eval (.tmp 2) = .pointer (some ⟨w.heap.size, 0, none⟩) from hp.keep 2 (by kernel_rfl))
        have q0_ := below_cell hI q0
        have q1_ := below_cell hI q1
        have q2_ := below_cell hI q2
        go_simp
        exact hK _ _ rfl (Below.refl _ _) hI
      · intro a k wa K Q _ hI hp hK
        have e5 := tmp_of (show a.eval (.tmp 5) = .agg #[.slice A may.length c, .int .i64 least, .int .i64 asked] from hp.dep 0 5 (by kernel_rfl))
        go_simp
        refine (implNeedValid (hU.below hI)).mono ?_
        rintro e wb ⟨rfl, hb⟩
        exact hK _ _ (show _ = (.bool false : Value) from by rw [HG.out]) hb (ext_trans hI hb)
      · intro a k wa K Q _ hI hp hK
        exact op_move _ (.inl rfl) (hK _ _ (hp.dep 1 6 (by kernel_rfl)) (Below.refl _ _) hI)
      · exact fun k wa hI => ⟨trivial, Below.refl _ _, hI⟩
      · exact fun k wa hI => ⟨trivial, Below.refl _ _, hI⟩
      · exact fun k wa hI => ⟨trivial, Below.refl _ _, hI⟩
      · intro a k wa K Q _ hI hp hK
        exact op_pick_f _ _ _ rfl (hp.dep 2 7 (by kernel_rfl)) (hK _ _ (rfl) (Below.refl _ _) hI)
      · intro a k wa K Q _ hI hp hK
        exact op_move _ (.inl rfl) (hK _ _ (hp.dep 6 11 (by kernel_rfl)) (Below.refl _ _) hI)
      · exact fun k wa hI => ⟨trivial, Below.refl _ _, hI⟩
      · exact fun k wa hI => ⟨trivial, Below.refl _ _, hI⟩
      · exact fun k wa hI => ⟨trivial, Below.refl _ _, hI⟩
      · exact fun k wa hI => ⟨trivial, Below.refl _ _, hI⟩
      · exact fun k wa hI => ⟨trivial, Below.refl _ _, hI⟩
      · exact fun k wa hI => ⟨trivial, Below.refl _ _, hI⟩
      · exact fun k wa hI => ⟨trivial, Below.refl _ _, hI⟩
      · intro a k wa K Q _ hI hp hK
        exact op_pick_f _ _ _ rfl (hp.dep 7 12 (by kernel_rfl)) (hK _ _ (rfl) (Below.refl _ _) hI)
      · intro a k wa K Q _ hI hp hK
        exact op_move _ (.inr rfl) (hK _ _ (hp.dep 15 20 (by kernel_rfl)) (Below.refl _ _) hI)
    case fin1 =>
      intro f w2 hT hI0
      have hI : Below W.heap.size W w2 := hI0
      have hr : (f 16) = .bool false := hT 16 (by decide) rfl rfl
      clear hT hI0
      simp only [putAll, hr]
      go_simp
      clear hr
      go_wp2
      go_ret
      exact ⟨ret_bool (ndApr_no (.inl HG.out)), hB0.trans (hI.mono hB0.size)⟩
  · have HG := Lib.hid g1
    clear g1
    by_cases g2 : 20 < l.length
    · have g2' : decide (l.length ≤ 20) = false := by simp; omega
      go_enter Try.func19, Try.ntmps19
      go_wp2_with fail
      rw [← HW.out]
      refine wp_region_kinds (fun i wz vz => match i with | 0 => vz = .agg #[.slice A may.length c, .int .i64 least, .int .i64 asked] | 1 => vz = .bool true | 2 => vz = .bool true | 3 => vz = .slice B l.length c2 | 4 => vz = .int .i64 (l.length : Int) | 5 => vz = .bool false | 6 => vz = .bool false | 7 => vz = .bool false | 15 => vz = .bool false | 16 => vz = .bool false | _ => True) (fun _ wz => Below W.heap.size W wz) (fun i w w' => Below w.heap.size w w') (fun _ => Option.none) (by kernel_rfl) (by kernel_rfl) (by kernel_rfl) ?stab1 (ext_drew (Below.refl _ _)) ?all1 ?fin1
      case stab1 =>
        intro i j wa wb v hR hk hne _ _ hT
        match j, hk, hne, hT with
        | 0, hk, hne, hT => exact hT
        | 1, hk, hne, hT => exact hT
        | 2, hk, hne, hT => exact hT
        | 3, hk, hne, hT => exact hT
        | 4, hk, hne, hT => exact hT
        | 5, hk, hne, hT => exact hT
        | 6, hk, hne, hT => exact hT
        | 7, hk, hne, hT => exact hT
        | 15, hk, hne, hT => exact hT
        | 16, hk, hne, hT => exact hT
        | 8, _, _, _ => trivial
        | 9, _, _, _ => trivial
        | 10, _, _, _ => trivial
        | 11, _, _, _ => trivial
        | 12, _, _, _ => trivial
        | 13, _, _, _ => trivial
        | 14, _, _, _ => trivial
        | n + 17, _, _, _ => trivial
      case all1 =>
        refine RAll.cons rfl ?_ (RAll.cons rfl ?_ (RAll.cons rfl ?_ (RAll.guarded 2 7 true rfl (by kernel_rfl) (fun _ _ h => h) ?_ (RAll.guarded 2 7 true rfl (by kernel_rfl) (fun _ _ h => h) ?_ (RAll.guarded 2 7 true rfl (by kernel_rfl) (fun _ _ h => h) ?_ (RAll.cons rfl ?_ (RAll.cons rfl ?_ (RAll.skipped 7 12 true rfl (by kernel_rfl) (fun _ _ h => h) ?_ (RAll.skipped 7 12 true rfl (by kernel_rfl) (fun _ _ h => h) ?_ (RAll.skipped 7 12 true rfl (by kernel_rfl) (fun _ _ h => h) ?_ (RAll.skipped 7 12 true rfl (by kernel_rfl) (fun _ _ h => h) ?_ (RAll.skipped 7 12 true rfl (by kernel_rfl) (fun _ _ h => h) ?_ (RAll.skipped 7 12 true rfl (by kernel_rfl) (fun _ _ h => h) ?_ (RAll.skipped 7 12 true rfl (by kernel_rfl) (fun _ _ h => h) ?_ (RAll.cons rfl ?_ (RAll.cons rfl ?_ (RAll.none_)))))))))))))))))
        · intro a k wa K Q _ hI hp hK
          have e2 := tmp_of (show a.eval (.tmp 2) = .pointer (some ⟨w.heap.size, 0, none⟩) from hp.keep 2 (by kernel_rfl))
          have q0_ := below_cell hI q0
          have q1_ := below_cell hI q1
          have q2_ := below_cell hI q2
          go_simp
          exact hK _ _ rfl (Below.refl _ _) hI
        · intro a k wa K Q _ hI hp hK
          have e5 := tmp_of (show a.eval (.tmp 5) = .agg #[.slice A may.length c, .int .i64 least, .int .i64 asked] from hp.dep 0 5 (by kernel_rfl))
          go_simp
          refine (implNeedValid (hU.below hI)).mono ?_
          rintro e wb ⟨rfl, hb⟩
          exact hK _ _ (show _ = (.bool true : Value) from by rw [HG.out]) hb (ext_trans hI hb)
        · intro a k wa K Q _ hI hp hK
          exact op_move _ (.inl rfl) (hK _ _ (hp.dep 1 6 (by kernel_rfl)) (Below.refl _ _) hI)
        · intro a k wa K Q _ hI hp hK
          exact op_move _ (.inl rfl) (hK _ _ (hp.keep 1 (by kernel_rfl)) (Below.refl _ _) hI)
        · intro a k wa K Q _ hI hp hK
          have e8 := tmp_of (show a.eval (.tmp 8) = .slice B l.length c2 from hp.dep 3 8 (by kernel_rfl))
          go_simp
          exact hK _ _ (rfl) (Below.refl _ _) hI
        · intro a k wa K Q _ hI hp hK
          have e9 := tmp_of (show a.eval (.tmp 9) = .int .i64 (l.length : Int) from hp.dep 4 9 (by kernel_rfl))
          go_simp
          exact hK _ _ (by simp; omega) (Below.refl _ _) hI
        · intro a k wa K Q _ hI hp hK
          exact op_pick_t _ _ _ rfl (hp.dep 2 7 (by kernel_rfl)) (hK _ _ (hp.dep 5 10 (by kernel_rfl)) (Below.refl _ _) hI)
        · intro a k wa K Q _ hI hp hK
          exact op_move _ (.inl rfl) (hK _ _ (hp.dep 6 11 (by kernel_rfl)) (Below.refl _ _) hI)
        · exact fun k wa hI => ⟨trivial, Below.refl _ _, hI⟩
        · exact fun k wa hI => ⟨trivial, Below.refl _ _, hI⟩
        · exact fun k wa hI => ⟨trivial, Below.refl _ _, hI⟩
        · exact fun k wa hI => ⟨trivial, Below.refl _ _, hI⟩
        · exact fun k wa hI => ⟨trivial, Below.refl _ _, hI⟩
        · exact fun k wa hI => ⟨trivial, Below.refl _ _, hI⟩
        · exact fun k wa hI => ⟨trivial, Below.refl _ _, hI⟩
        · intro a k wa K Q _ hI hp hK
          exact op_pick_f _ _ _ rfl (hp.dep 7 12 (by kernel_rfl)) (hK _ _ (rfl) (Below.refl _ _) hI)
        · intro a k wa K Q _ hI hp hK
          exact op_move _ (.inr rfl) (hK _ _ (hp.dep 15 20 (by kernel_rfl)) (Below.refl _ _) hI)
      case fin1 =>
        intro f w2 hT hI0
        have hI : Below W.heap.size W w2 := hI0
        have hr : (f 16) = .bool false := hT 16 (by decide) rfl rfl
        clear hT hI0
        simp only [putAll, hr]
        go_simp
        clear hr
        go_wp2
        go_ret
        exact ⟨ret_bool (ndApr_no (.inr g2)), hB0.trans (hI.mono hB0.size)⟩
    · have HA := Lib.hid (ndApr_yes (asked := asked) (l := l) HG.out (by omega))
      obtain ⟨n, hn⟩ : ∃ n : Nat, n = (voFor may asked l).length := ⟨_, rfl⟩
      rw [← hn] at HA
      have HN := Lib.hid hn
      clear hn
      go_enter Try.func19, Try.ntmps19
      go_wp2_with fail
      rw [← HW.out]
      refine wp_region_kinds (fun i wz vz => match i with | 0 => vz = .agg #[.slice A may.length c, .int .i64 least, .int .i64 asked] | 1 => vz = .bool true | 2 => vz = .bool true | 3 => vz = .slice B l.length c2 | 4 => vz = .int .i64 (l.length : Int) | 5 => vz = .bool true | 6 => vz = .bool true | 7 => vz = .bool true | 8 => vz = .agg #[.slice A may.length c, .int .i64 least, .int .i64 asked] | 9 => vz = .slice B l.length c2 | 10 => OwnA W.heap.size 3 1 ilEnc wz vz (voFor may asked l) | 11 => vz = .int .i64 (n : Int) | 12 => vz = .pointer (some ⟨w.heap.size, 1, Option.none⟩) | 13 => vz = .int .i64 least | 14 => vz = .bool (decide (least ≤ (n : Int))) | 15 => vz = .bool (decide (least ≤ (n : Int))) | 16 => vz = .bool (decide (least ≤ (n : Int))) | _ => True) (fun _ wz => Below W.heap.size W wz) (fun i w w' => Below w.heap.size w w') (fun _ => Option.none) (by kernel_rfl) (by kernel_rfl) (by kernel_rfl) ?stab1 (ext_drew (Below.refl _ _)) ?all1 ?fin1
      case stab1 =>
        intro i j wa wb v hR hk hne _ _ hT
        match j, hk, hne, hT with
        | 0, hk, hne, hT => exact hT
        | 1, hk, hne, hT => exact hT
        | 2, hk, hne, hT => exact hT
        | 3, hk, hne, hT => exact hT
        | 4, hk, hne, hT => exact hT
        | 5, hk, hne, hT => exact hT
        | 6, hk, hne, hT => exact hT
        | 7, hk, hne, hT => exact hT
        | 8, hk, hne, hT => exact hT
        | 9, hk, hne, hT => exact hT
        | 10, hk, hne, hT => exact OwnA.below hT hR
        | 11, hk, hne, hT => exact hT
        | 12, hk, hne, hT => exact hT
        | 13, hk, hne, hT => exact hT
        | 14, hk, hne, hT => exact hT
        | 15, hk, hne, hT => exact hT
        | 16, hk, hne, hT => exact hT
        | n + 17, _, _, _ => trivial
      case all1 =>
        refine RAll.cons rfl ?_ (RAll.cons rfl ?_ (RAll.cons rfl ?_ (RAll.guarded 2 7 true rfl (by kernel_rfl) (fun _ _ h => h) ?_ (RAll.guarded 2 7 true rfl (by kernel_rfl) (fun _ _ h => h) ?_ (RAll.guarded 2 7 true rfl (by kernel_rfl) (fun _ _ h => h) ?_ (RAll.cons rfl ?_ (RAll.cons rfl ?_ (RAll.guarded 7 12 true rfl (by kernel_rfl) (fun _ _ h => h) ?_ (RAll.guarded 7 12 true rfl (by kernel_rfl) (fun _ _ h => h) ?_ (RAll.guarded 7 12 true rfl (by kernel_rfl) (fun _ _ h => h) ?_ (RAll.guarded 7 12 true rfl (by kernel_rfl) (fun _ _ h => h) ?_ (RAll.guarded 7 12 true rfl (by kernel_rfl) (fun _ _ h => h) ?_ (RAll.guarded 7 12 true rfl (by kernel_rfl) (fun _ _ h => h) ?_ (RAll.guarded 7 12 true rfl (by kernel_rfl) (fun _ _ h => h) ?_ (RAll.cons rfl ?_ (RAll.cons rfl ?_ (RAll.none_)))))))))))))))))
        · intro a k wa K Q _ hI hp hK
          have e2 := tmp_of (show a.eval (.tmp 2) = .pointer (some ⟨w.heap.size, 0, none⟩) from hp.keep 2 (by kernel_rfl))
          have q0_ := below_cell hI q0
          have q1_ := below_cell hI q1
          have q2_ := below_cell hI q2
          go_simp
          exact hK _ _ rfl (Below.refl _ _) hI
        · intro a k wa K Q _ hI hp hK
          have e5 := tmp_of (show a.eval (.tmp 5) = .agg #[.slice A may.length c, .int .i64 least, .int .i64 asked] from hp.dep 0 5 (by kernel_rfl))
          go_simp
          refine (implNeedValid (hU.below hI)).mono ?_
          rintro e wb ⟨rfl, hb⟩
          exact hK _ _ (show _ = (.bool true : Value) from by rw [HG.out]) hb (ext_trans hI hb)
        · intro a k wa K Q _ hI hp hK
          exact op_move _ (.inl rfl) (hK _ _ (hp.dep 1 6 (by kernel_rfl)) (Below.refl _ _) hI)
        · intro a k wa K Q _ hI hp hK
          exact op_move _ (.inl rfl) (hK _ _ (hp.keep 1 (by kernel_rfl)) (Below.refl _ _) hI)
        · intro a k wa K Q _ hI hp hK
          have e8 := tmp_of (show a.eval (.tmp 8) = .slice B l.length c2 from hp.dep 3 8 (by kernel_rfl))
          go_simp
          exact hK _ _ (rfl) (Below.refl _ _) hI
        · intro a k wa K Q _ hI hp hK
          have e9 := tmp_of (show a.eval (.tmp 9) = .int .i64 (l.length : Int) from hp.dep 4 9 (by kernel_rfl))
          go_simp
          exact hK _ _ (by simp; omega) (Below.refl _ _) hI
        · intro a k wa K Q _ hI hp hK
          exact op_pick_t _ _ _ rfl (hp.dep 2 7 (by kernel_rfl)) (hK _ _ (hp.dep 5 10 (by kernel_rfl)) (Below.refl _ _) hI)
        · intro a k wa K Q _ hI hp hK
          exact op_move _ (.inl rfl) (hK _ _ (hp.dep 6 11 (by kernel_rfl)) (Below.refl _ _) hI)
        · intro a k wa K Q _ hI hp hK
          have e2 := tmp_of (show a.eval (.tmp 2) = .pointer (some ⟨w.heap.size, 0, none⟩) from hp.keep 2 (by kernel_rfl))
          have q0_ := below_cell hI q0
          have q1_ := below_cell hI q1
          have q2_ := below_cell hI q2
          go_simp
          exact hK _ _ rfl (Below.refl _ _) hI
        · intro a k wa K Q _ hI hp hK
          exact op_move _ (.inl rfl) (hK _ _ (hp.keep 1 (by kernel_rfl)) (Below.refl _ _) hI)
        · intro a k wa K Q _ hI hp hK
          have e13 := tmp_of (show a.eval (.tmp 13) = .agg #[.slice A may.length c, .int .i64 least, .int .i64 asked] from hp.dep 8 13 (by kernel_rfl))
          have e14 := tmp_of (show a.eval (.tmp 14) = .slice B l.length c2 from hp.dep 9 14 (by kernel_rfl))
          go_simp
          refine (votesFor_any (hU.below hI) (hV.below hI) HG.out HWF.out).mono ?_
          rintro e wb ⟨A3, c3, rfl, ho3, hb⟩
          exact hK _ _ ((OwnA.of ho3).lower hI.size) hb (ext_trans hI hb)
        · intro a k wa K Q _ hI hp hK
          have t15 : OwnA W.heap.size 3 1 ilEnc wa (a.eval (.tmp 15)) (voFor may asked l) := hp.dep 10 15 (by kernel_rfl)
          obtain ⟨A8, c8, e15, ho8⟩ := t15
          rw [← HN.out] at e15
          replace e15 := tmp_of e15
          go_simp
          exact hK _ _ rfl (Below.refl _ _) hI
        · intro a k wa K Q _ hI hp hK
          have e2 := tmp_of (show a.eval (.tmp 2) = .pointer (some ⟨w.heap.size, 0, none⟩) from hp.keep 2 (by kernel_rfl))
          go_simp
          exact hK _ _ rfl (Below.refl _ _) hI
        · intro a k wa K Q _ hI hp hK
          have e17 := tmp_of (show a.eval (.tmp 17) = .pointer (some ⟨w.heap.size, 1, Option.none⟩) from hp.dep 12 17 (by kernel_rfl))
          have q1_ := below_cell hI q1
          go_simp
          exact hK _ _ rfl (Below.refl _ _) hI
        · intro a k wa K Q _ hI hp hK
          have e16 := tmp_of (show a.eval (.tmp 16) = .int .i64 (n : Int) from hp.dep 11 16 (by kernel_rfl))
          have e18 := tmp_of (show a.eval (.tmp 18) = .int .i64 least from hp.dep 13 18 (by kernel_rfl))
          go_simp
          exact hK _ _ (rfl) (Below.refl _ _) hI
        · intro a k wa K Q _ hI hp hK
          exact op_pick_t _ _ _ rfl (hp.dep 7 12 (by kernel_rfl)) (hK _ _ (hp.dep 14 19 (by kernel_rfl)) (Below.refl _ _) hI)
        · intro a k wa K Q _ hI hp hK
          exact op_move _ (.inr rfl) (hK _ _ (hp.dep 15 20 (by kernel_rfl)) (Below.refl _ _) hI)
      case fin1 =>
        intro f w2 hT hI0
        have hI : Below W.heap.size W w2 := hI0
        have hr : (f 16) = .bool (decide (least ≤ (n : Int))) := hT 16 (by decide) rfl rfl
        clear hT hI0
        simp only [putAll, hr]
        go_simp
        clear hr
        go_wp2
        go_ret
        exact ⟨ret_bool (by rw [HA.out]), hB0.trans (hI.mono hB0.size)⟩

set_option maxRecDepth 100000 in
set_option maxHeartbeats 4000000 in
theorem specIsApproved {A B : Option Addr} {may : IL} {l : VoL} {c c2 : Nat} {least asked : Int} {w : World} (hU : ilR w A may) (hV : voR w B l) :
    Calls Try.prog 20 #[.agg #[.slice A may.length c, .int .i64 least, .int .i64 asked], .slice B l.length c2] w fun e w' => e = .returned (.bool (ndApr may least asked l)) ∧ Below w.heap.size w w' := by
  have hl := hV.len
  obtain ⟨W, hW⟩ : ∃ W, W = w.alloc (.cells #[.slice A may.length c, .int .i64 least, .int .i64 asked] 25) := ⟨_, rfl⟩
  have q0 : W.cell? ⟨w.heap.size, 0, none⟩ = some (.slice A may.length c) := by rw [hW]; exact box_cell w #[.slice A may.length c, .int .i64 least, .int .i64 asked] 25 0 (.slice A may.length c) rfl
  have q1 : W.cell? ⟨w.heap.size, 1, none⟩ = some (.int .i64 least) := by rw [hW]; exact box_cell w #[.slice A may.length c, .int .i64 least, .int .i64 asked] 25 1 (.int .i64 least) rfl
  have q2 : W.cell? ⟨w.heap.size, 2, none⟩ = some (.int .i64 asked) := by rw [hW]; exact box_cell w #[.slice A may.length c, .int .i64 least, .int .i64 asked] 25 2 (.int .i64 asked) rfl
  have hB0 : Below w.heap.size w W := by rw [hW]; exact below_alloc _ _
  replace hU := hU.below hB0
  replace hV := hV.below hB0
  have HW := Lib.hid hW
  clear hW
  cases g1 : ndOk may least asked
  · have HG := Lib.hid g1
    clear g1
    go_enter Try.func20, Try.ntmps20
    go_wp2_with fail
    rw [← HW.out]
    refine wp_region_kinds (fun i wz vz => match i with | 0 => vz = .agg #[.slice A may.length c, .int .i64 least, .int .i64 asked] | 1 => vz = .bool false | 2 => vz = .bool false | 6 => vz = .bool false | 7 => vz = .bool false | 15 => vz = .bool false | 16 => vz = .bool false | _ => True) (fun _ wz => Below W.heap.size W wz) (fun i w w' => Below w.heap.size w w') (fun _ => Option.none) (by kernel_rfl) (by kernel_rfl) (by kernel_rfl) ?stab1 (ext_drew (Below.refl _ _)) ?all1 ?fin1
    case stab1 =>
      intro i j wa wb v hR hk hne _ _ hT
      match j, hk, hne, hT with
      | 0, hk, hne, hT => exact hT
      | 1, hk, hne, hT => exact hT
      | 2, hk, hne, hT => exact hT
      | 6, hk, hne, hT => exact hT
      | 7, hk, hne, hT => exact hT
      | 15, hk, hne, hT => exact hT
      | 16, hk, hne, hT => exact hT
      | 3, _, _, _ => trivial
      | 4, _, _, _ => trivial
      | 5, _, _, _ => trivial
      | 8, _, _, _ => trivial
      | 9, _, _, _ => trivial
      | 10, _, _, _ => trivial
      | 11, _, _, _ => trivial
      | 12, _, _, _ => trivial
      | 13, _, _, _ => trivial
      | 14, _, _, _ => trivial
      | n + 17, _, _, _ => trivial
    case all1 =>
      refine RAll.cons rfl ?_ (RAll.cons rfl ?_ (RAll.cons rfl ?_ (RAll.skipped 2 7 true rfl (by kernel_rfl) (fun _ _ h => h) ?_ (RAll.skipped 2 7 true rfl (by kernel_rfl) (fun _ _ h => h) ?_ (RAll.skipped 2 7 true rfl (by kernel_rfl) (fun _ _ h => h) ?_ (RAll.cons rfl ?_ (RAll.cons rfl ?_ (RAll.skipped 7 12 true rfl (by kernel_rfl) (fun _ _ h => h) ?_ (RAll.skipped 7 12 true rfl (by kernel_rfl) (fun _ _ h => h) ?_ (RAll.skipped 7 12 true rfl (by kernel_rfl) (fun _ _ h => h) ?_ (RAll.skipped 7 12 true rfl (by kernel_rfl) (fun _ _ h => h) ?_ (RAll.skipped 7 12 true rfl (by kernel_rfl) (fun _ _ h => h) ?_ (RAll.skipped 7 12 true rfl (by kernel_rfl) (fun _ _ h => h) ?_ (RAll.skipped 7 12 true rfl (by kernel_rfl) (fun _ _ h => h) ?_ (RAll.cons rfl ?_ (RAll.cons rfl ?_ (RAll.none_)))))))))))))))))
      · intro a k wa K Q _ hI hp hK
        have e2 := tmp_of (show a.eval (.tmp 2) = .pointer (some ⟨w.heap.size, 0, none⟩) from hp.keep 2 (by kernel_rfl))
        have q0_ := below_cell hI q0
        have q1_ := below_cell hI q1
        have q2_ := below_cell hI q2
        go_simp
        exact hK _ _ rfl (Below.refl _ _) hI
      · intro a k wa K Q _ hI hp hK
        have e5 := tmp_of (show a.eval (.tmp 5) = .agg #[.slice A may.length c, .int .i64 least, .int .i64 asked] from hp.dep 0 5 (by kernel_rfl))
        go_simp
        refine (specNeedValid (hU.below hI)).mono ?_
        rintro e wb ⟨rfl, hb⟩
        exact hK _ _ (show _ = (.bool false : Value) from by rw [HG.out]) hb (ext_trans hI hb)
      · intro a k wa K Q _ hI hp hK
        exact op_move _ (.inl rfl) (hK _ _ (hp.dep 1 6 (by kernel_rfl)) (Below.refl _ _) hI)
      · exact fun k wa hI => ⟨trivial, Below.refl _ _, hI⟩
      · exact fun k wa hI => ⟨trivial, Below.refl _ _, hI⟩
      · exact fun k wa hI => ⟨trivial, Below.refl _ _, hI⟩
      · intro a k wa K Q _ hI hp hK
        exact op_pick_f _ _ _ rfl (hp.dep 2 7 (by kernel_rfl)) (hK _ _ (rfl) (Below.refl _ _) hI)
      · intro a k wa K Q _ hI hp hK
        exact op_move _ (.inl rfl) (hK _ _ (hp.dep 6 11 (by kernel_rfl)) (Below.refl _ _) hI)
      · exact fun k wa hI => ⟨trivial, Below.refl _ _, hI⟩
      · exact fun k wa hI => ⟨trivial, Below.refl _ _, hI⟩
      · exact fun k wa hI => ⟨trivial, Below.refl _ _, hI⟩
      · exact fun k wa hI => ⟨trivial, Below.refl _ _, hI⟩
      · exact fun k wa hI => ⟨trivial, Below.refl _ _, hI⟩
      · exact fun k wa hI => ⟨trivial, Below.refl _ _, hI⟩
      · exact fun k wa hI => ⟨trivial, Below.refl _ _, hI⟩
      · intro a k wa K Q _ hI hp hK
        exact op_pick_f _ _ _ rfl (hp.dep 7 12 (by kernel_rfl)) (hK _ _ (rfl) (Below.refl _ _) hI)
      · intro a k wa K Q _ hI hp hK
        exact op_move _ (.inr rfl) (hK _ _ (hp.dep 15 20 (by kernel_rfl)) (Below.refl _ _) hI)
    case fin1 =>
      intro f w2 hT hI0
      have hI : Below W.heap.size W w2 := hI0
      have hr : (f 16) = .bool false := hT 16 (by decide) rfl rfl
      clear hT hI0
      simp only [putAll, hr]
      go_simp
      clear hr
      go_wp2
      go_ret
      exact ⟨ret_bool (ndApr_no (.inl HG.out)), hB0.trans (hI.mono hB0.size)⟩
  · have HG := Lib.hid g1
    clear g1
    by_cases g2 : 20 < l.length
    · go_enter Try.func20, Try.ntmps20
      go_wp2_with fail
      rw [← HW.out]
      refine wp_region_kinds (fun i wz vz => match i with | 0 => vz = .agg #[.slice A may.length c, .int .i64 least, .int .i64 asked] | 1 => vz = .bool true | 2 => vz = .bool true | 3 => vz = .slice B l.length c2 | 4 => vz = .int .i64 (l.length : Int) | 5 => vz = .bool false | 6 => vz = .bool false | 7 => vz = .bool false | 15 => vz = .bool false | 16 => vz = .bool false | _ => True) (fun _ wz => Below W.heap.size W wz) (fun i w w' => Below w.heap.size w w') (fun _ => Option.none) (by kernel_rfl) (by kernel_rfl) (by kernel_rfl) ?stab1 (ext_drew (Below.refl _ _)) ?all1 ?fin1
      case stab1 =>
        intro i j wa wb v hR hk hne _ _ hT
        match j, hk, hne, hT with
        | 0, hk, hne, hT => exact hT
        | 1, hk, hne, hT => exact hT
        | 2, hk, hne, hT => exact hT
        | 3, hk, hne, hT => exact hT
        | 4, hk, hne, hT => exact hT
        | 5, hk, hne, hT => exact hT
        | 6, hk, hne, hT => exact hT
        | 7, hk, hne, hT => exact hT
        | 15, hk, hne, hT => exact hT
        | 16, hk, hne, hT => exact hT
        | 8, _, _, _ => trivial
        | 9, _, _, _ => trivial
        | 10, _, _, _ => trivial
        | 11, _, _, _ => trivial
        | 12, _, _, _ => trivial
        | 13, _, _, _ => trivial
        | 14, _, _, _ => trivial
        | n + 17, _, _, _ => trivial
      case all1 =>
        refine RAll.cons rfl ?_ (RAll.cons rfl ?_ (RAll.cons rfl ?_ (RAll.guarded 2 7 true rfl (by kernel_rfl) (fun _ _ h => h) ?_ (RAll.guarded 2 7 true rfl (by kernel_rfl) (fun _ _ h => h) ?_ (RAll.guarded 2 7 true rfl (by kernel_rfl) (fun _ _ h => h) ?_ (RAll.cons rfl ?_ (RAll.cons rfl ?_ (RAll.skipped 7 12 true rfl (by kernel_rfl) (fun _ _ h => h) ?_ (RAll.skipped 7 12 true rfl (by kernel_rfl) (fun _ _ h => h) ?_ (RAll.skipped 7 12 true rfl (by kernel_rfl) (fun _ _ h => h) ?_ (RAll.skipped 7 12 true rfl (by kernel_rfl) (fun _ _ h => h) ?_ (RAll.skipped 7 12 true rfl (by kernel_rfl) (fun _ _ h => h) ?_ (RAll.skipped 7 12 true rfl (by kernel_rfl) (fun _ _ h => h) ?_ (RAll.skipped 7 12 true rfl (by kernel_rfl) (fun _ _ h => h) ?_ (RAll.cons rfl ?_ (RAll.cons rfl ?_ (RAll.none_)))))))))))))))))
        · intro a k wa K Q _ hI hp hK
          have e2 := tmp_of (show a.eval (.tmp 2) = .pointer (some ⟨w.heap.size, 0, none⟩) from hp.keep 2 (by kernel_rfl))
          have q0_ := below_cell hI q0
          have q1_ := below_cell hI q1
          have q2_ := below_cell hI q2
          go_simp
          exact hK _ _ rfl (Below.refl _ _) hI
        · intro a k wa K Q _ hI hp hK
          have e5 := tmp_of (show a.eval (.tmp 5) = .agg #[.slice A may.length c, .int .i64 least, .int .i64 asked] from hp.dep 0 5 (by kernel_rfl))
          go_simp
          refine (specNeedValid (hU.below hI)).mono ?_
          rintro e wb ⟨rfl, hb⟩
          exact hK _ _ (show _ = (.bool true : Value) from by rw [HG.out]) hb (ext_trans hI hb)
        · intro a k wa K Q _ hI hp hK
          exact op_move _ (.inl rfl) (hK _ _ (hp.dep 1 6 (by kernel_rfl)) (Below.refl _ _) hI)
        · intro a k wa K Q _ hI hp hK
          exact op_move _ (.inl rfl) (hK _ _ (hp.keep 1 (by kernel_rfl)) (Below.refl _ _) hI)
        · intro a k wa K Q _ hI hp hK
          have e8 := tmp_of (show a.eval (.tmp 8) = .slice B l.length c2 from hp.dep 3 8 (by kernel_rfl))
          go_simp
          exact hK _ _ (rfl) (Below.refl _ _) hI
        · intro a k wa K Q _ hI hp hK
          have e9 := tmp_of (show a.eval (.tmp 9) = .int .i64 (l.length : Int) from hp.dep 4 9 (by kernel_rfl))
          go_simp
          exact hK _ _ (by simp; omega) (Below.refl _ _) hI
        · intro a k wa K Q _ hI hp hK
          exact op_pick_t _ _ _ rfl (hp.dep 2 7 (by kernel_rfl)) (hK _ _ (hp.dep 5 10 (by kernel_rfl)) (Below.refl _ _) hI)
        · intro a k wa K Q _ hI hp hK
          exact op_move _ (.inl rfl) (hK _ _ (hp.dep 6 11 (by kernel_rfl)) (Below.refl _ _) hI)
        · exact fun k wa hI => ⟨trivial, Below.refl _ _, hI⟩
        · exact fun k wa hI => ⟨trivial, Below.refl _ _, hI⟩
        · exact fun k wa hI => ⟨trivial, Below.refl _ _, hI⟩
        · exact fun k wa hI => ⟨trivial, Below.refl _ _, hI⟩
        · exact fun k wa hI => ⟨trivial, Below.refl _ _, hI⟩
        · exact fun k wa hI => ⟨trivial, Below.refl _ _, hI⟩
        · exact fun k wa hI => ⟨trivial, Below.refl _ _, hI⟩
        · intro a k wa K Q _ hI hp hK
          exact op_pick_f _ _ _ rfl (hp.dep 7 12 (by kernel_rfl)) (hK _ _ (rfl) (Below.refl _ _) hI)
        · intro a k wa K Q _ hI hp hK
          exact op_move _ (.inr rfl) (hK _ _ (hp.dep 15 20 (by kernel_rfl)) (Below.refl _ _) hI)
      case fin1 =>
        intro f w2 hT hI0
        have hI : Below W.heap.size W w2 := hI0
        have hr : (f 16) = .bool false := hT 16 (by decide) rfl rfl
        clear hT hI0
        simp only [putAll, hr]
        go_simp
        clear hr
        go_wp2
        go_ret
        exact ⟨ret_bool (ndApr_no (.inr g2)), hB0.trans (hI.mono hB0.size)⟩
    · have HA := Lib.hid (ndApr_yes (asked := asked) (l := l) HG.out (by omega))
      have HF := Lib.hid (ndFor_yes (asked := asked) (l := l) HG.out (by omega))
      obtain ⟨n, hn⟩ : ∃ n : Nat, n = (voFor may asked l).length := ⟨_, rfl⟩
      rw [← hn] at HA
      have HN := Lib.hid hn
      clear hn
      go_enter Try.func20, Try.ntmps20
      go_wp2_with fail
      rw [← HW.out]
      refine wp_region_kinds (fun i wz vz => match i with | 0 => vz = .agg #[.slice A may.length c, .int .i64 least, .int .i64 asked] | 1 => vz = .bool true | 2 => vz = .bool true | 3 => vz = .slice B l.length c2 | 4 => vz = .int .i64 (l.length : Int) | 5 => vz = .bool true | 6 => vz = .bool true | 7 => vz = .bool true | 8 => vz = .agg #[.slice A may.length c, .int .i64 least, .int .i64 asked] | 9 => vz = .slice B l.length c2 | 10 => OwnA W.heap.size 3 1 ilEnc wz vz (voFor may asked l) | 11 => vz = .int .i64 (n : Int) | 12 => vz = .pointer (some ⟨w.heap.size, 1, Option.none⟩) | 13 => vz = .int .i64 least | 14 => vz = .bool (decide (least ≤ (n : Int))) | 15 => vz = .bool (decide (least ≤ (n : Int))) | 16 => vz = .bool (decide (least ≤ (n : Int))) | _ => True) (fun _ wz => Below W.heap.size W wz) (fun i w w' => Below w.heap.size w w') (fun _ => Option.none) (by kernel_rfl) (by kernel_rfl) (by kernel_rfl) ?stab1 (ext_drew (Below.refl _ _)) ?all1 ?fin1
      case stab1 =>
        intro i j wa wb v hR hk hne _ _ hT
        match j, hk, hne, hT with
        | 0, hk, hne, hT => exact hT
        | 1, hk, hne, hT => exact hT
        | 2, hk, hne, hT => exact hT
        | 3, hk, hne, hT => exact hT
        | 4, hk, hne, hT => exact hT
        | 5, hk, hne, hT => exact hT
        | 6, hk, hne, hT => exact hT
        | 7, hk, hne, hT => exact hT
        | 8, hk, hne, hT => exact hT
        | 9, hk, hne, hT => exact hT
        | 10, hk, hne, hT => exact OwnA.below hT hR
        | 11, hk, hne, hT => exact hT
        | 12, hk, hne, hT => exact hT
        | 13, hk, hne, hT => exact hT
        | 14, hk, hne, hT => exact hT
        | 15, hk, hne, hT => exact hT
        | 16, hk, hne, hT => exact hT
        | n + 17, _, _, _ => trivial
      case all1 =>
        refine RAll.cons rfl ?_ (RAll.cons rfl ?_ (RAll.cons rfl ?_ (RAll.guarded 2 7 true rfl (by kernel_rfl) (fun _ _ h => h) ?_ (RAll.guarded 2 7 true rfl (by kernel_rfl) (fun _ _ h => h) ?_ (RAll.guarded 2 7 true rfl (by kernel_rfl) (fun _ _ h => h) ?_ (RAll.cons rfl ?_ (RAll.cons rfl ?_ (RAll.guarded 7 12 true rfl (by kernel_rfl) (fun _ _ h => h) ?_ (RAll.guarded 7 12 true rfl (by kernel_rfl) (fun _ _ h => h) ?_ (RAll.guarded 7 12 true rfl (by kernel_rfl) (fun _ _ h => h) ?_ (RAll.guarded 7 12 true rfl (by kernel_rfl) (fun _ _ h => h) ?_ (RAll.guarded 7 12 true rfl (by kernel_rfl) (fun _ _ h => h) ?_ (RAll.guarded 7 12 true rfl (by kernel_rfl) (fun _ _ h => h) ?_ (RAll.guarded 7 12 true rfl (by kernel_rfl) (fun _ _ h => h) ?_ (RAll.cons rfl ?_ (RAll.cons rfl ?_ (RAll.none_)))))))))))))))))
        · intro a k wa K Q _ hI hp hK
          have e2 := tmp_of (show a.eval (.tmp 2) = .pointer (some ⟨w.heap.size, 0, none⟩) from hp.keep 2 (by kernel_rfl))
          have q0_ := below_cell hI q0
          have q1_ := below_cell hI q1
          have q2_ := below_cell hI q2
          go_simp
          exact hK _ _ rfl (Below.refl _ _) hI
        · intro a k wa K Q _ hI hp hK
          have e5 := tmp_of (show a.eval (.tmp 5) = .agg #[.slice A may.length c, .int .i64 least, .int .i64 asked] from hp.dep 0 5 (by kernel_rfl))
          go_simp
          refine (specNeedValid (hU.below hI)).mono ?_
          rintro e wb ⟨rfl, hb⟩
          exact hK _ _ (show _ = (.bool true : Value) from by rw [HG.out]) hb (ext_trans hI hb)
        · intro a k wa K Q _ hI hp hK
          exact op_move _ (.inl rfl) (hK _ _ (hp.dep 1 6 (by kernel_rfl)) (Below.refl _ _) hI)
        · intro a k wa K Q _ hI hp hK
          exact op_move _ (.inl rfl) (hK _ _ (hp.keep 1 (by kernel_rfl)) (Below.refl _ _) hI)
        · intro a k wa K Q _ hI hp hK
          have e8 := tmp_of (show a.eval (.tmp 8) = .slice B l.length c2 from hp.dep 3 8 (by kernel_rfl))
          go_simp
          exact hK _ _ (rfl) (Below.refl _ _) hI
        · intro a k wa K Q _ hI hp hK
          have e9 := tmp_of (show a.eval (.tmp 9) = .int .i64 (l.length : Int) from hp.dep 4 9 (by kernel_rfl))
          go_simp
          exact hK _ _ (by simp; omega) (Below.refl _ _) hI
        · intro a k wa K Q _ hI hp hK
          exact op_pick_t _ _ _ rfl (hp.dep 2 7 (by kernel_rfl)) (hK _ _ (hp.dep 5 10 (by kernel_rfl)) (Below.refl _ _) hI)
        · intro a k wa K Q _ hI hp hK
          exact op_move _ (.inl rfl) (hK _ _ (hp.dep 6 11 (by kernel_rfl)) (Below.refl _ _) hI)
        · intro a k wa K Q _ hI hp hK
          have e2 := tmp_of (show a.eval (.tmp 2) = .pointer (some ⟨w.heap.size, 0, none⟩) from hp.keep 2 (by kernel_rfl))
          have q0_ := below_cell hI q0
          have q1_ := below_cell hI q1
          have q2_ := below_cell hI q2
          go_simp
          exact hK _ _ rfl (Below.refl _ _) hI
        · intro a k wa K Q _ hI hp hK
          exact op_move _ (.inl rfl) (hK _ _ (hp.keep 1 (by kernel_rfl)) (Below.refl _ _) hI)
        · intro a k wa K Q _ hI hp hK
          have e13 := tmp_of (show a.eval (.tmp 13) = .agg #[.slice A may.length c, .int .i64 least, .int .i64 asked] from hp.dep 8 13 (by kernel_rfl))
          have e14 := tmp_of (show a.eval (.tmp 14) = .slice B l.length c2 from hp.dep 9 14 (by kernel_rfl))
          go_simp
          refine (specVotesFor (hU.below hI) (hV.below hI)).mono ?_
          rintro e wb ⟨A3, c3, rfl, ho3, hb⟩
          exact hK _ _ (((OwnA.of ho3).lower hI.size).eq HF.out) hb (ext_trans hI hb)
        · intro a k wa K Q _ hI hp hK
          have t15 : OwnA W.heap.size 3 1 ilEnc wa (a.eval (.tmp 15)) (voFor may asked l) := hp.dep 10 15 (by kernel_rfl)
          obtain ⟨A8, c8, e15, ho8⟩ := t15
          rw [← HN.out] at e15
          replace e15 := tmp_of e15
          go_simp
          exact hK _ _ rfl (Below.refl _ _) hI
        · intro a k wa K Q _ hI hp hK
          have e2 := tmp_of (show a.eval (.tmp 2) = .pointer (some ⟨w.heap.size, 0, none⟩) from hp.keep 2 (by kernel_rfl))
          go_simp
          exact hK _ _ rfl (Below.refl _ _) hI
        · intro a k wa K Q _ hI hp hK
          have e17 := tmp_of (show a.eval (.tmp 17) = .pointer (some ⟨w.heap.size, 1, Option.none⟩) from hp.dep 12 17 (by kernel_rfl))
          have q1_ := below_cell hI q1
          go_simp
          exact hK _ _ rfl (Below.refl _ _) hI
        · intro a k wa K Q _ hI hp hK
          have e16 := tmp_of (show a.eval (.tmp 16) = .int .i64 (n : Int) from hp.dep 11 16 (by kernel_rfl))
          have e18 := tmp_of (show a.eval (.tmp 18) = .int .i64 least from hp.dep 13 18 (by kernel_rfl))
          go_simp
          exact hK _ _ (rfl) (Below.refl _ _) hI
        · intro a k wa K Q _ hI hp hK
          exact op_pick_t _ _ _ rfl (hp.dep 7 12 (by kernel_rfl)) (hK _ _ (hp.dep 14 19 (by kernel_rfl)) (Below.refl _ _) hI)
        · intro a k wa K Q _ hI hp hK
          exact op_move _ (.inr rfl) (hK _ _ (hp.dep 15 20 (by kernel_rfl)) (Below.refl _ _) hI)
      case fin1 =>
        intro f w2 hT hI0
        have hI : Below W.heap.size W w2 := hI0
        have hr : (f 16) = .bool (decide (least ≤ (n : Int))) := hT 16 (by decide) rfl rfl
        clear hT hI0
        simp only [putAll, hr]
        go_simp
        clear hr
        go_wp2
        go_ret
        exact ⟨ret_bool (by rw [HA.out]), hB0.trans (hI.mono hB0.size)⟩
end Go.Proofs.Ytbkjolbgnkpjpaa

/- the law FnExactAddUsage, walked -/
import Derived.Test.YtjiooipoeahdmaaUsH
import Derived.Test.YtjiooipoeahdmaaUsI
namespace Go.Proofs.Ytjiooipoeahdmaa
open Go.RowKit

theorem addU_len (us : List (Int × Int)) (u : Int × Int) (within most : Int) : (addU us u within most).1.length ≤ us.length + 1 := by
  unfold addU; split <;> (try split) <;> simp

set_option maxHeartbeats 4000000 in
theorem lawExactAddUsage {A : Option Addr} {us : List (Int × Int)} {c : Nat} {x y within most : Int} {w : World} (hU0 : Us w A us) :
    Calls Try.prog 7 #[.slice A us.length c, .agg #[.int .i64 x, .int .i64 y], .int .i64 within, .int .i64 most] w fun e w' => e = .returned (.bool true) ∧ Below w.heap.size w w' := by
  obtain ⟨W, hW⟩ : ∃ W, W = w.alloc (.cells #[.int .i64 x, .int .i64 y] 39) := ⟨_, rfl⟩
  have q0 : W.cell? ⟨w.heap.size, 0, none⟩ = some (.int .i64 x) := by rw [hW]; exact box_cell w #[.int .i64 x, .int .i64 y] 39 0 (.int .i64 x) rfl
  have q1 : W.cell? ⟨w.heap.size, 1, none⟩ = some (.int .i64 y) := by rw [hW]; exact box_cell w #[.int .i64 x, .int .i64 y] 39 1 (.int .i64 y) rfl
  have hB0 : Below w.heap.size w W := by rw [hW]; exact below_alloc _ _
  have hU : Us W A us := hU0.below hB0
  have hB := Below.refl W.heap.size W
  have HW := Lib.hid hW
  clear hW hU0
  by_cases h : (1048576 : Int) < us.length
  · go_enter Try.func7, Try.ntmps7
    go_wp2_with fail
    rw [← HW.out]
    refine (szUsageS_any hU (by omega) (by omega)).mono ?_
    rintro e w1 ⟨rfl, hBc⟩
    replace hB := ext_trans hB hBc
    clear hBc
    rw [if_pos (by omega)]
    go_wp2
    go_ret
    exact ⟨rfl, ext_trans hB0 hB⟩
  · obtain ⟨r1, hr1⟩ : ∃ r, r = (addU us (x, y) within most).1 := ⟨_, rfl⟩
    obtain ⟨r2, hr2⟩ : ∃ r, r = (addU us (x, y) within most).2 := ⟨_, rfl⟩
    have hr1l : r1.length ≤ us.length + 1 := by rw [hr1]; exact addU_len _ _ _ _
    have HR1 := Lib.hid hr1
    have HR2 := Lib.hid hr2
    clear hr1 hr2
    go_enter Try.func7, Try.ntmps7
    go_wp2_with fail
    rw [← HW.out]
    refine (szUsageS_any hU (by omega) (by omega)).mono ?_
    rintro e w1 ⟨rfl, hBc⟩
    replace hB := ext_trans hB hBc
    clear hBc
    rw [if_neg (by omega)]
    replace hU := hU.below hB
    replace q0 := below_cell hB q0
    replace q1 := below_cell hB q1
    replace hB0 := ext_trans hB0 hB
    clear hB
    go_wp2_with fail
    refine wp_region_kinds (fun i w v => match i with | 0 => v = .slice A us.length c | 1 => OwnA w1.heap.size 32 2 usEnc w v us | 2 => v = .agg #[.int .i64 x, .int .i64 y] | 3 => v = .agg #[.int .i64 x, .int .i64 y] | 4 => v = .int .i64 within | 5 => v = .int .i64 most | 6 => TupV w1.heap.size 32 2 usEnc r1 r2 w v | 7 => TupV w1.heap.size 32 2 usEnc r1 r2 w v | 8 => OwnA w1.heap.size 32 2 usEnc w v r1 | 9 => v = .bool r2 | 10 => OwnA w1.heap.size 32 2 usEnc w v r1 | 11 => v = .bool r2 | _ => True) (fun _ w => Below w1.heap.size w1 w) (fun _ w w' => Below w.heap.size w w') (fun _ => Option.none) (by kernel_rfl) (by kernel_rfl) (by kernel_rfl) ?stab5 (ext_drew (Below.refl _ _)) ?all5 ?fin5
    case stab5 =>
      intro i j wa wb v hR _ _ _ _ hT
      match j, hT with
      | 0, hT => exact hT
      | 1, hT => exact OwnA.below hT hR
      | 2, hT => exact hT
      | 3, hT => exact hT
      | 4, hT => exact hT
      | 5, hT => exact hT
      | 6, hT => exact TupV.below hT hR
      | 7, hT => exact TupV.below hT hR
      | 8, hT => exact OwnA.below hT hR
      | 9, hT => exact hT
      | 10, hT => exact OwnA.below hT hR
      | 11, hT => exact hT
      | n + 12, _ => trivial
    case all5 =>
      refine RAll.cons rfl ?_ (RAll.cons rfl ?_ (RAll.cons rfl ?_ (RAll.cons rfl ?_ (RAll.cons rfl ?_ (RAll.cons rfl ?_ (RAll.cons rfl ?_ (RAll.cons rfl ?_ (RAll.cons rfl ?_ (RAll.cons rfl ?_ (RAll.cons rfl ?_ (RAll.cons rfl ?_ (RAll.none_))))))))))))
      · intro a k wa K Q _ hI hp hK
        exact op_move _ (.inl rfl) (hK _ _ (hp.keep 0 (by kernel_rfl)) (Below.refl _ _) hI)
      · intro a k wa K Q _ hI hp hK
        have e26 : a.eval (.tmp 26) = .slice A us.length c := hp.dep 0 26 (by kernel_rfl)
        replace e26 := tmp_of e26
        go_simp
        refine (toUsageS_any (hU.below hI) (by omega)).mono ?_
        rintro e wb ⟨rfl, ho, hb⟩
        exact hK _ _ ((OwnA.of ho).lower hI.size) hb (ext_trans hI hb)
      · intro a k wa K Q _ hI hp hK
        have e5 := tmp_of (show a.eval (.tmp 5) = .pointer (some ⟨w.heap.size, 0, none⟩) from hp.keep 5 (by kernel_rfl))
        have q0_ := below_cell hI q0
        have q1_ := below_cell hI q1
        go_simp
        exact hK _ _ rfl (Below.refl _ _) hI
      · intro a k wa K Q _ hI hp hK
        have e28 : a.eval (.tmp 28) = .agg #[.int .i64 x, .int .i64 y] := hp.dep 2 28 (by kernel_rfl)
        replace e28 := tmp_of e28
        go_simp
        refine (toUsage_any _ _ _).mono ?_
        rintro e wb ⟨rfl, hb⟩
        exact hK _ _ (rfl) hb (ext_trans hI hb)
      · intro a k wa K Q _ hI hp hK
        exact op_move _ (.inl rfl) (hK _ _ (hp.keep 2 (by kernel_rfl)) (Below.refl _ _) hI)
      · intro a k wa K Q _ hI hp hK
        exact op_move _ (.inl rfl) (hK _ _ (hp.keep 3 (by kernel_rfl)) (Below.refl _ _) hI)
      · intro a k wa K Q _ hI hp hK
        have t27 : OwnA w1.heap.size 32 2 usEnc wa (a.eval (.tmp 27)) us := hp.dep 1 27 (by kernel_rfl)
        have e29 : a.eval (.tmp 29) = .agg #[.int .i64 x, .int .i64 y] := hp.dep 3 29 (by kernel_rfl)
        have e30 : a.eval (.tmp 30) = .int .i64 within := hp.dep 4 30 (by kernel_rfl)
        have e31 : a.eval (.tmp 31) = .int .i64 most := hp.dep 5 31 (by kernel_rfl)
        obtain ⟨A7, c7, e27, ho7⟩ := t27
        replace e27 := tmp_of e27
        replace e29 := tmp_of e29
        replace e30 := tmp_of e30
        replace e31 := tmp_of e31
        go_simp
        refine (specAddUsage (us_own rfl (by omega) ho7) (by omega)).mono ?_
        rintro e wb ⟨A8, c8, rfl, ho, hb⟩
        rw [← HR1.out] at ho ⊢
        rw [← HR2.out]
        exact hK _ _ ⟨A8, c8, rfl, own_lower ho hI.size⟩ hb (ext_trans hI hb)
      · intro a k wa K Q _ hI hp hK
        exact op_move _ (.inl rfl) (hK _ _ (hp.dep 6 32 (by kernel_rfl)) (Below.refl _ _) hI)
      · intro a k wa K Q _ hI hp hK
        have t25 : TupV w1.heap.size 32 2 usEnc r1 r2 wa (a.eval (.tmp 25)) := hp.dep 7 25 (by kernel_rfl)
        obtain ⟨A8, c8, e25, ho8⟩ := t25
        replace e25 := tmp_of e25
        go_simp
        exact hK _ _ ⟨A8, c8, rfl, ho8⟩ (Below.refl _ _) hI
      · intro a k wa K Q _ hI hp hK
        have t25 : TupV w1.heap.size 32 2 usEnc r1 r2 wa (a.eval (.tmp 25)) := hp.dep 7 25 (by kernel_rfl)
        obtain ⟨A8, c8, e25, ho8⟩ := t25
        replace e25 := tmp_of e25
        go_simp
        exact hK _ _ rfl (Below.refl _ _) hI
      · intro a k wa K Q _ hI hp hK
        exact op_move _ (.inr rfl) (hK _ _ (hp.dep 8 33 (by kernel_rfl)) (Below.refl _ _) hI)
      · intro a k wa K Q _ hI hp hK
        exact op_move _ (.inr rfl) (hK _ _ (hp.dep 9 34 (by kernel_rfl)) (Below.refl _ _) hI)
    case fin5 =>
      intro f w2 hT hI0
      have hI : Below w1.heap.size w1 w2 := hI0
      have hv10 : OwnA w1.heap.size 32 2 usEnc w2 (f 10) r1 := hT 10 (by decide) rfl rfl
      have hv11 : (f 11) = .bool r2 := hT 11 (by decide) rfl rfl
      clear hT hI0
      obtain ⟨Aw, cw, e10, how⟩ := hv10
      have hB := hI
      clear hI
      simp only [putAll, e10, hv11]
      go_simp
      clear e10 hv11
      have hwl := fun k hk => (how.lt k hk).2
      have p0 := below_cell hB q0
      have p1 := below_cell hB q1
      have hs1 := hB0.size
      have hs2 := hB.size
      go_wp2_with fail
      refine (toUsageS_any (hU.below hB) (by omega)).mono ?_
      rintro e w3 ⟨rfl, hox, hBc⟩
      replace hB := ext_trans hB hBc
      replace how := own_below how hBc
      replace p0 := below_cell hBc p0
      replace p1 := below_cell hBc p1
      clear hBc
      go_wp2_with fail
      refine (toUsage_any _ _ _).mono ?_
      rintro e w4 ⟨rfl, hBc⟩
      replace hB := ext_trans hB hBc
      replace how := own_below how hBc
      replace p0 := below_cell hBc p0
      replace p1 := below_cell hBc p1
      replace hox := own_below hox hBc
      clear hBc
      have hx4 := (own_lt hox).2
      go_wp2_with fail
      refine (implAddUsage (us_own rfl (by omega) hox) (by omega)).mono ?_
      rintro e w5 ⟨Ag, cg, rfl, hog, hBc⟩
      rw [← HR1.out] at hog ⊢
      rw [← HR2.out]
      replace hB := ext_trans hB hBc
      replace how := own_below how hBc
      replace hox := own_below hox hBc
      replace p0 := below_cell hBc p0
      replace p1 := below_cell hBc p1
      clear hBc
      go_wp2_with fail
      refine (eqUsageS_any (us_own rfl (by omega) hog) (us_own rfl (by omega) how)).mono ?_
      rintro e w6 ⟨rfl, hBc⟩
      replace hB := ext_trans hB hBc
      replace how := own_below how hBc
      replace hox := own_below hox hBc
      replace hog := own_below hog hBc
      replace p0 := below_cell hBc p0
      replace p1 := below_cell hBc p1
      clear hBc
      rw [sameB_self]
      go_wp2_with fail
      refine (toUsageS_any (hU.below hB) (by omega)).mono ?_
      rintro e w7 ⟨rfl, ho7, hBc⟩
      replace hB := ext_trans hB hBc
      replace how := own_below how hBc
      replace hox := own_below hox hBc
      replace hog := own_below hog hBc
      replace p0 := below_cell hBc p0
      replace p1 := below_cell hBc p1
      clear hBc
      go_wp2_with fail
      refine (eqUsageS_any (us_own rfl (by omega) hox) (us_own rfl (by omega) ho7)).mono ?_
      rintro e w8 ⟨rfl, hBc⟩
      replace hB := ext_trans hB hBc
      replace how := own_below how hBc
      replace hox := own_below hox hBc
      replace hog := own_below hog hBc
      replace p0 := below_cell hBc p0
      replace p1 := below_cell hBc p1
      clear hBc
      rw [sameB_self]
      clear ho7
      go_wp2_with fail
      refine (markUsageS_any hox (by omega) (by omega) (by omega)).mono ?_
      rintro e w9 ⟨rfl, hox9, hg9⟩
      have hg9' : w8.grownBy w9 (some w2.heap.size) := hg9
      replace how := own_apart how hg9' (fun k hk => by have := hwl k hk; omega)
      replace hog := own_apart hog hg9' (fun k hk => by have := (hog.lt k hk).1; omega)
      replace hB := below_grown_at hB hg9' hB.size (by omega)
      clear hox9 hg9 hg9' hox p0 p1
      go_wp2_with fail
      refine (eqUsageS_any (us_own rfl (by omega) hog) (us_own rfl (by omega) how)).mono ?_
      rintro e w10 ⟨rfl, hBc⟩
      replace hB := ext_trans hB hBc
      replace how := own_below how hBc
      replace hog := own_below hog hBc
      clear hBc
      rw [sameB_self]
      go_wp2_with fail
      refine (markUsageS_any hog (by omega) (by omega) (by omega)).mono ?_
      rintro e w11 ⟨rfl, hog11, hg11⟩
      replace how := own_apart_ how hg11 (fun k hk e => by have := hwl k hk; have := (hog.lt k e).1; omega)
      replace hB := hB.grown hg11 hB.size (fun k hk => by have := (hog.lt k hk).1; omega)
      clear hg11 hog
      go_wp2_with fail
      refine (heldUsageS_m (us_own (markU_length _ _) (by omega) hog11) (by omega) (by omega) (by omega)).mono ?_
      rintro e w12 ⟨rfl, hBc⟩
      replace hB := ext_trans hB hBc
      replace how := own_below how hBc
      replace hog11 := own_below hog11 hBc
      clear hBc
      go_wp2_with fail
      have hU12 := hU.below hB
      have p0 := below_cell hB q0
      have p1 := below_cell hB q1
      refine wp_region_kinds (fun i w v => match i with | 0 => v = .slice A us.length c | 1 => OwnA w12.heap.size 32 2 usEnc w v us | 2 => v = .agg #[.int .i64 x, .int .i64 y] | 3 => v = .agg #[.int .i64 x, .int .i64 y] | 4 => v = .int .i64 within | 5 => v = .int .i64 most | 6 => TupV w12.heap.size 32 2 usEnc r1 r2 w v | 7 => TupV w12.heap.size 32 2 usEnc r1 r2 w v | 8 => OwnA w12.heap.size 32 2 usEnc w v r1 | 9 => v = .bool r2 | 10 => OwnA w12.heap.size 32 2 usEnc w v r1 | 11 => v = .bool r2 | _ => True) (fun _ w => Below w12.heap.size w12 w) (fun _ w w' => Below w.heap.size w w') (fun _ => Option.none) (by kernel_rfl) (by kernel_rfl) (by kernel_rfl) ?stab24 (ext_drew (Below.refl _ _)) ?all24 ?fin24
      case stab24 =>
        intro i j wa wb v hR _ _ _ _ hT
        match j, hT with
        | 0, hT => exact hT
        | 1, hT => exact OwnA.below hT hR
        | 2, hT => exact hT
        | 3, hT => exact hT
        | 4, hT => exact hT
        | 5, hT => exact hT
        | 6, hT => exact TupV.below hT hR
        | 7, hT => exact TupV.below hT hR
        | 8, hT => exact OwnA.below hT hR
        | 9, hT => exact hT
        | 10, hT => exact OwnA.below hT hR
        | 11, hT => exact hT
        | n + 12, _ => trivial
      case all24 =>
        refine RAll.cons rfl ?_ (RAll.cons rfl ?_ (RAll.cons rfl ?_ (RAll.cons rfl ?_ (RAll.cons rfl ?_ (RAll.cons rfl ?_ (RAll.cons rfl ?_ (RAll.cons rfl ?_ (RAll.cons rfl ?_ (RAll.cons rfl ?_ (RAll.cons rfl ?_ (RAll.cons rfl ?_ (RAll.none_))))))))))))
        · intro a k wa K Q _ hI hp hK
          exact op_move _ (.inl rfl) (hK _ _ (hp.keep 0 (by kernel_rfl)) (Below.refl _ _) hI)
        · intro a k wa K Q _ hI hp hK
          have e88 : a.eval (.tmp 88) = .slice A us.length c := hp.dep 0 88 (by kernel_rfl)
          replace e88 := tmp_of e88
          go_simp
          refine (toUsageS_any (hU12.below hI) (by omega)).mono ?_
          rintro e wb ⟨rfl, ho, hb⟩
          exact hK _ _ ((OwnA.of ho).lower hI.size) hb (ext_trans hI hb)
        · intro a k wa K Q _ hI hp hK
          have e5 := tmp_of (show a.eval (.tmp 5) = .pointer (some ⟨w.heap.size, 0, none⟩) from hp.keep 5 (by kernel_rfl))
          have p0_ := below_cell hI p0
          have p1_ := below_cell hI p1
          go_simp
          exact hK _ _ rfl (Below.refl _ _) hI
        · intro a k wa K Q _ hI hp hK
          have e90 : a.eval (.tmp 90) = .agg #[.int .i64 x, .int .i64 y] := hp.dep 2 90 (by kernel_rfl)
          replace e90 := tmp_of e90
          go_simp
          refine (toUsage_any _ _ _).mono ?_
          rintro e wb ⟨rfl, hb⟩
          exact hK _ _ (rfl) hb (ext_trans hI hb)
        · intro a k wa K Q _ hI hp hK
          exact op_move _ (.inl rfl) (hK _ _ (hp.keep 2 (by kernel_rfl)) (Below.refl _ _) hI)
        · intro a k wa K Q _ hI hp hK
          exact op_move _ (.inl rfl) (hK _ _ (hp.keep 3 (by kernel_rfl)) (Below.refl _ _) hI)
        · intro a k wa K Q _ hI hp hK
          have t89 : OwnA w12.heap.size 32 2 usEnc wa (a.eval (.tmp 89)) us := hp.dep 1 89 (by kernel_rfl)
          have e91 : a.eval (.tmp 91) = .agg #[.int .i64 x, .int .i64 y] := hp.dep 3 91 (by kernel_rfl)
          have e92 : a.eval (.tmp 92) = .int .i64 within := hp.dep 4 92 (by kernel_rfl)
          have e93 : a.eval (.tmp 93) = .int .i64 most := hp.dep 5 93 (by kernel_rfl)
          obtain ⟨A7, c7, e89, ho7⟩ := t89
          replace e89 := tmp_of e89
          replace e91 := tmp_of e91
          replace e92 := tmp_of e92
          replace e93 := tmp_of e93
          go_simp
          refine (implAddUsage (us_own rfl (by omega) ho7) (by omega)).mono ?_
          rintro e wb ⟨A8, c8, rfl, ho, hb⟩
          rw [← HR1.out] at ho ⊢
          rw [← HR2.out]
          exact hK _ _ ⟨A8, c8, rfl, own_lower ho hI.size⟩ hb (ext_trans hI hb)
        · intro a k wa K Q _ hI hp hK
          exact op_move _ (.inl rfl) (hK _ _ (hp.dep 6 94 (by kernel_rfl)) (Below.refl _ _) hI)
        · intro a k wa K Q _ hI hp hK
          have t87 : TupV w12.heap.size 32 2 usEnc r1 r2 wa (a.eval (.tmp 87)) := hp.dep 7 87 (by kernel_rfl)
          obtain ⟨A8, c8, e87, ho8⟩ := t87
          replace e87 := tmp_of e87
          go_simp
          exact hK _ _ ⟨A8, c8, rfl, ho8⟩ (Below.refl _ _) hI
        · intro a k wa K Q _ hI hp hK
          have t87 : TupV w12.heap.size 32 2 usEnc r1 r2 wa (a.eval (.tmp 87)) := hp.dep 7 87 (by kernel_rfl)
          obtain ⟨A8, c8, e87, ho8⟩ := t87
          replace e87 := tmp_of e87
          go_simp
          exact hK _ _ rfl (Below.refl _ _) hI
        · intro a k wa K Q _ hI hp hK
          exact op_move _ (.inr rfl) (hK _ _ (hp.dep 8 95 (by kernel_rfl)) (Below.refl _ _) hI)
        · intro a k wa K Q _ hI hp hK
          exact op_move _ (.inr rfl) (hK _ _ (hp.dep 9 96 (by kernel_rfl)) (Below.refl _ _) hI)
      case fin24 =>
        intro f w13 hT hI0
        have hI : Below w12.heap.size w12 w13 := hI0
        have hv18 : OwnA w12.heap.size 32 2 usEnc w13 (f 10) r1 := hT 10 (by decide) rfl rfl
        have hv19 : (f 11) = .bool r2 := hT 11 (by decide) rfl rfl
        clear hT hI0
        obtain ⟨Ah, ch, e18, hoh⟩ := hv18
        replace how := own_below how hI
        replace hog11 := own_below hog11 hI
        replace hB := ext_trans hB hI
        clear hI hU12 p0 p1
        simp only [putAll, e18, hv19]
        go_simp
        clear e18 hv19
        go_wp2_with fail
        refine (eqUsageS_any (us_own rfl (by omega) hoh) (us_own rfl (by omega) how)).mono ?_
        rintro e w14 ⟨rfl, hBc⟩
        replace hB := ext_trans hB hBc
        replace hog11 := own_below hog11 hBc
        clear hBc
        rw [sameB_self]
        go_wp2_with fail
        refine (heldUsageS_m (us_own (markU_length _ _) (by omega) hog11) (by omega) (by omega) (by omega)).mono ?_
        rintro e w15 ⟨rfl, hBc⟩
        replace hB := ext_trans hB hBc
        replace hog11 := own_below hog11 hBc
        clear hBc
        go_wp2
        go_ret
        exact ⟨rfl, ext_trans hB0 hB⟩
end Go.Proofs.Ytjiooipoeahdmaa

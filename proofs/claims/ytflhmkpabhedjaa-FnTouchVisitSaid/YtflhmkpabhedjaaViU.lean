/- Drawn arguments of FnTouchVisit. -/
import Derived.Test.YtflhmkpabhedjaaViN
namespace Go.Proofs.Ytflhmkpabhedjaa
open Go.RowKit

set_option maxRecDepth 100000 in
set_option maxHeartbeats 8000000 in
theorem DrawTouchVisit_d {A : Option Addr} {l : List Int} {c : Nat} {w : World} (hC : CodeR w w.heap.size A l) (hc : l.length ≤ c) :
    Calls Try.prog 27 #[.slice A l.length c] w fun e w' => ∃ (us : ViL) (v : Value) (long idle who now : Int), e = .returned (.tuple #[.agg #[.int .i64 long, .int .i64 idle], v, .int .i64 who, .int .i64 now]) ∧ us.length ≤ 8 ∧ (0 ≤ long ∧ long ≤ 1001) ∧ (0 ≤ idle ∧ idle ≤ 15) ∧ (0 ≤ now ∧ now ≤ 1001) ∧ OwnA w.heap.size 38 3 viEnc w' v us ∧ Below w.heap.size w w' := by
  have hB0 := below_alloc w (.cells #[.int .i64 0, .int .i64 0] 27)
  have hb2 : BoxP (fun cs => ∃ c0 c1 : Value, cs = [c0, c1] ∧ IsI 0 1001 c0 ∧ IsI 0 15 c1) 27 w.heap.size (w.alloc (.cells #[.int .i64 0, .int .i64 0] 27)) :=
    BoxP.new w [.int .i64 0, .int .i64 0] ⟨_, _, rfl, ⟨_, rfl, by omega, by omega⟩, ⟨_, rfl, by omega, by omega⟩⟩
  obtain ⟨W, hW⟩ : ∃ W, W = w.alloc (.cells #[.int .i64 0, .int .i64 0] 27) := ⟨_, rfl⟩
  have hs : W.heap.size = w.heap.size + 1 := by rw [hW]; simp
  rw [← hW] at hB0 hb2
  have HW := Lib.hid hW
  clear hW
  go_enter Try.func27, Try.ntmps27
  go_wp2_with fail
  rw [← HW.out]
  refine (l20Open_any (cb := w.heap.size) hB0.size (hC.below hB0) hc hC.1).mono ?_
  rintro e w1 ⟨rfl, hR, hB1⟩
  replace hb2 := hb2.below hB1
  have hw1 := hR.lt
  obtain ⟨br, hbr⟩ : ∃ br, br = W.heap.size := ⟨_, rfl⟩
  rw [← hbr] at hR hw1 ⊢
  have hgb : w.heap.size < br := by omega
  have hGd := grown_trans_ (grown_of_below hB0 (some br)) (grown_of_below hB1 _)
  clear hbr hs hB0 hB1
  go_wp2_with fail
  refine (l20Visits_d (N := 0) ⟨0, by omega, by omega, hR⟩ (by omega) (by omega) (by omega)).mono ?_
  rintro e w2 ⟨v, long, idle, rfl, ⟨hl0, hl1⟩, ⟨hi0, hi1⟩, hD, hRd, hG⟩
  replace hb2 := hb2.grown hG (fun e => by cases e; omega)
  replace hGd := grown_trans_ hGd hG
  have hsz2 := hGd.size
  have hw2 := hG.size
  have htop := hD.top
  clear hG hR
  obtain ⟨g6, hg6⟩ : ∃ g, g = w2.heap.size := ⟨_, rfl⟩
  obtain ⟨X, hX⟩ : ∃ X, X = w2.alloc (.cells #[.int .i64 long, .int .i64 idle] 27) := ⟨_, rfl⟩
  have hb6 : BoxP (fun cs => ∃ c0 c1 : Value, cs = [c0, c1] ∧ IsI 0 1001 c0 ∧ IsI 0 15 c1) 27 g6 X := by
    rw [hX, hg6]; exact BoxP.new w2 [.int .i64 long, .int .i64 idle] ⟨_, _, rfl, ⟨_, rfl, by omega, by omega⟩, ⟨_, rfl, by omega, by omega⟩⟩
  have hA1 : Below w2.heap.size w2 X := by rw [hX]; exact below_alloc _ _
  have hg6w : w.heap.size < g6 := by omega
  have hgbr : br < g6 := by omega
  replace hb2 := hb2.below hA1
  replace hD := hD.below hA1
  replace hRd := hRd.below hA1
  replace hGd := grown_trans_ hGd (grown_of_below hA1 _)
  have htop6 : ∀ k, v.ownBlock = some k → k < g6 := fun k hk => by have := htop k hk; omega
  have HX := Lib.hid hX
  have HG6 := Lib.hid hg6
  clear hX hg6 hA1 hsz2 hw2 htop
  go_wp2_with fail
  rw [← HX.out, ← HG6.out]
  go_wp2_with fail
  refine (pick_d (hRd.below (by (repeat (first | exact Below.refl _ _ | refine ext_alloc ?_ _ | refine Below.setCell ?_ (by simp) _)))) (by omega) (by omega) (by omega)).mono ?_
  rintro e wd7 ⟨p9, rfl, p9_l, p9_u, hR_, hG_⟩
  replace hGd := grown_trans_ hGd (grown_trans_ (grown_of_below (by (repeat (first | exact Below.refl _ _ | refine ext_alloc ?_ _ | refine Below.setCell ?_ (by simp) _))) _) hG_)
  replace hRd := hR_
  replace hb2 := (hb2.below (by (repeat (first | exact Below.refl _ _ | refine ext_alloc ?_ _ | refine Below.setCell ?_ (by simp) _)))).grown hG_ (fun e => by cases e; omega)
  replace hb6 := (hb6.below (by (repeat (first | exact Below.refl _ _ | refine ext_alloc ?_ _ | refine Below.setCell ?_ (by simp) _)))).grown hG_ (fun e => by cases e; omega)
  replace hD := (hD.below (by (repeat (first | exact Below.refl _ _ | refine ext_alloc ?_ _ | refine Below.setCell ?_ (by simp) _)))).grown hG_ (fun k e => by cases e; omega)
  clear hR_ hG_
  obtain ⟨l5, hl5, hq5, A5, c5, rfl, ho5⟩ := hD
  have hO : OwnA w1.heap.size 38 3 viEnc wd7 (.slice A5 l5.length c5) l5 := ⟨A5, c5, rfl, ho5⟩
  clear ho5
  by_cases h0 : 0 < l5.length
  · skip
    go_wp2_with fail
    refine (pick_d (hRd.below (by (repeat (first | exact Below.refl _ _ | refine ext_alloc ?_ _ | refine Below.setCell ?_ (by simp) _)))) (by omega) (by omega) (by omega)).mono ?_
    rintro e wd8 ⟨p24, rfl, p24_l, p24_u, hR_, hG_⟩
    replace hGd := grown_trans_ hGd (grown_trans_ (grown_of_below (by (repeat (first | exact Below.refl _ _ | refine ext_alloc ?_ _ | refine Below.setCell ?_ (by simp) _))) _) hG_)
    replace hRd := hR_
    replace hb2 := (hb2.below (by (repeat (first | exact Below.refl _ _ | refine ext_alloc ?_ _ | refine Below.setCell ?_ (by simp) _)))).grown hG_ (fun e => by cases e; omega)
    replace hb6 := (hb6.below (by (repeat (first | exact Below.refl _ _ | refine ext_alloc ?_ _ | refine Below.setCell ?_ (by simp) _)))).grown hG_ (fun e => by cases e; omega)
    replace hO := (hO.below (by (repeat (first | exact Below.refl _ _ | refine ext_alloc ?_ _ | refine Below.setCell ?_ (by simp) _)))).grown hG_ (fun k e => by cases e; omega)
    clear hR_ hG_
    by_cases h3 : 0 < p24
    · skip
      go_wp2_with fail
      refine (pick_d (hRd.below (by (repeat (first | exact Below.refl _ _ | refine ext_alloc ?_ _ | refine Below.setCell ?_ (by simp) _)))) (by omega) (by omega) (by omega)).mono ?_
      rintro e wd9 ⟨p31, rfl, p31_l, p31_u, hR_, hG_⟩
      replace hGd := grown_trans_ hGd (grown_trans_ (grown_of_below (by (repeat (first | exact Below.refl _ _ | refine ext_alloc ?_ _ | refine Below.setCell ?_ (by simp) _))) _) hG_)
      replace hRd := hR_
      replace hb2 := (hb2.below (by (repeat (first | exact Below.refl _ _ | refine ext_alloc ?_ _ | refine Below.setCell ?_ (by simp) _)))).grown hG_ (fun e => by cases e; omega)
      replace hb6 := (hb6.below (by (repeat (first | exact Below.refl _ _ | refine ext_alloc ?_ _ | refine Below.setCell ?_ (by simp) _)))).grown hG_ (fun e => by cases e; omega)
      replace hO := (hO.below (by (repeat (first | exact Below.refl _ _ | refine ext_alloc ?_ _ | refine Below.setCell ?_ (by simp) _)))).grown hG_ (fun k e => by cases e; omega)
      clear hR_ hG_
      obtain ⟨k, rfl⟩ := Int.eq_ofNat_of_zero_le p31_l
      obtain ⟨A', c', e', ho5⟩ := hO
      simp only [Value.slice.injEq, true_and] at e'
      obtain ⟨rfl, rfl⟩ := e'
      obtain ⟨b, off, rfl, hcl⟩ := (viR.own (l := l5) rfl (by omega) ho5).cells h0
      obtain ⟨d0, _, _⟩ := hcl k (by omega)
      have hO : OwnA w1.heap.size 38 3 viEnc wd9 (.slice (some ⟨b, off, none⟩) l5.length c5) l5 := ⟨_, c5, rfl, ho5⟩
      clear ho5 hcl
      go_wp2
      have hD : VDr w1.heap.size 8 wd9 (.slice (some ⟨b, off, none⟩) l5.length c5) := ⟨l5, hl5, hq5, hO⟩
      clear hO d0
      have hcb6 : w.heap.size ≤ br := hRd.cb_
      have hbr6 : br < wd9.heap.size := hRd.lt
      have hBs6 : w.heap.size ≤ wd9.heap.size := hGd.size
      have hbx6_2 : w.heap.size < wd9.heap.size := hb2.lt
      have hbx6_7 : g6 < wd9.heap.size := hb6.lt
      refine wp_region_draws (some 16) (fun _ => True) (fun i wz vz => match i with | 0 => ∃ c0 c1 : Value, vz = .agg #[c0, c1] ∧ IsI (0) (1001) c0 ∧ IsI (0) (15) c1 | 1 => vz = .slice (some ⟨b, off, none⟩) l5.length c5 | 2 => vz = .int .i64 (vi0 l5 k) | 3 => vz = .pointer (some ⟨br, 0, Option.none⟩) | 4 => IsI (0) (39) vz | 5 => vz = .pointer (some ⟨br, 0, Option.none⟩) | 6 => IsI (0) (19) vz | 7 => IsI (10) (29) vz | 8 => SlP wd9.heap.size 1 3 (fun cs => ∃ c0 : Value, cs = [c0] ∧ IsI (0) (1001) c0) wz vz | 9 => SlP wd9.heap.size 1 5 (fun cs => ∃ c0 : Value, cs = [c0] ∧ IsI (0) (2) c0) wz vz | 10 => vz = .pointer (some ⟨br, 0, Option.none⟩) | 11 => IsI (0) (4) vz | 12 => PtrP wd9.heap.size (fun cs => ∃ c0 : Value, cs = [c0] ∧ IsI (0) (2) c0) wz vz | 13 => IsI (0) (2) vz | 14 => PtrP wd9.heap.size (fun cs => ∃ c0 : Value, cs = [c0] ∧ IsI (0) (1001) c0) wz vz | 15 => IsI (0) (1001) vz | 17 => vz = .slice (some ⟨b, off, none⟩) l5.length c5 | 18 => vz = .int .i64 (vi0 l5 k) | 19 => IsI (0) (1001) vz | _ => True) (fun k wz => GrownP (fun k => k = br ∨ k = w.heap.size) wd9 wz ∧ RdrT wz br w.heap.size (310 + 1 * k) ∧ wd9.heap.size ≤ wz.heap.size ∧ BoxP (fun cs => ∃ c0 c1 : Value, cs = [c0, c1] ∧ IsI (0) (1001) c0 ∧ IsI (0) (15) c1) 27 w.heap.size wz ∧ BoxP (fun cs => ∃ c0 c1 : Value, cs = [c0, c1] ∧ IsI (0) (1001) c0 ∧ IsI (0) (15) c1) 27 g6 wz) (relOf (some 16) wd9.heap.size br) (fun _ => Option.none) (by kernel_rfl) (by kernel_rfl) (by kernel_rfl) ?stab6 ?stabG6 ?inv6 ?pre6 ?all6 ?fin6
      case stab6 =>
        intro i j wa wb v hR hk hne hd _ hT
        have hA := relOf_above hbr6 hR
        match j, hk, hne, hd, hT with
        | 0, hk, hne, hd, hT => exact hT
        | 1, hk, hne, hd, hT => exact hT
        | 2, hk, hne, hd, hT => exact hT
        | 3, hk, hne, hd, hT => exact hT
        | 4, hk, hne, hd, hT => exact hT
        | 5, hk, hne, hd, hT => exact hT
        | 6, hk, hne, hd, hT => exact hT
        | 7, hk, hne, hd, hT => exact hT
        | 8, hk, hne, hd, hT => exact hT.above hA
        | 9, hk, hne, hd, hT => exact hT.above hA
        | 10, hk, hne, hd, hT => exact hT
        | 11, hk, hne, hd, hT => exact hT
        | 12, hk, hne, hd, hT => exact hT.above hA
        | 13, hk, hne, hd, hT => exact hT
        | 14, hk, hne, hd, hT => exact hT.above hA
        | 15, hk, hne, hd, hT => exact hT
        | 17, hk, hne, hd, hT => exact hT
        | 18, hk, hne, hd, hT => exact hT
        | 19, hk, hne, hd, hT => exact hT
        | 16, _, _, _, _ => trivial
        | n + 20, _, _, _, _ => trivial
      case stabG6 =>
        intros; trivial
      case inv6 =>
        exact ⟨GrownP.refl _ _, (hRd.below (ext_drew (Below.refl _ _))).mono (by omega), Nat.le_refl _, hb2.below (ext_drew (Below.refl _ _)), hb6.below (ext_drew (Below.refl _ _))⟩
      case pre6 =>
        trivial
      case all6 =>
        refine RAll.cons rfl ?_ (RAll.cons rfl ?_ (RAll.cons rfl ?_ (RAll.cons rfl ?_ (RAll.cons rfl ?_ (RAll.cons rfl ?_ (RAll.cons rfl ?_ (RAll.cons rfl ?_ (RAll.cons rfl ?_ (RAll.cons rfl ?_ (RAll.cons rfl ?_ (RAll.cons rfl ?_ (RAll.cons rfl ?_ (RAll.cons rfl ?_ (RAll.cons rfl ?_ (RAll.cons rfl ?_ (RAll.cons rfl ?_ (RAll.cons rfl ?_ (RAll.cons rfl ?_ (RAll.cons rfl ?_ (RAll.none_))))))))))))))))))))
        · intro a k wa K Q hkn hI hp hK
          replace hkn : k < 20 := hkn
          have e7 := tmp_of (show a.eval (.tmp 7) = .pointer (some ⟨g6, 0, Option.none⟩) from hp.keep 7 (by kernel_rfl))
          obtain ⟨_, ⟨cb7_0, cb7_1, rfl, ⟨xb7_0, rfl, lb7_0, ub7_0⟩, ⟨xb7_1, rfl, lb7_1, ub7_1⟩⟩, hbx_⟩ := hI.2.2.2.2
          have kb7_0 : wa.cell? ⟨g6, 0, Option.none⟩ = some _ := (cell_of_row wa g6 0 _ _ _ hbx_).trans rfl
          have kb7_1 : wa.cell? ⟨g6, 1, Option.none⟩ = some _ := (cell_of_row wa g6 1 _ _ _ hbx_).trans rfl
          go_simp
          exact hK _ _ ⟨_, _, rfl, ⟨_, rfl, by omega, by omega⟩, ⟨_, rfl, by omega, by omega⟩⟩ (relOf_no (by decide) (World.grownBy.refl _ _)) ⟨hI.1, hI.2.1.mono (by omega), hI.2.2.1, hI.2.2.2.1, hI.2.2.2.2⟩
        · intro a k wa K Q hkn hI hp hK
          replace hkn : k < 20 := hkn
          exact op_move _ (.inl rfl) (hK _ _ (hp.keep 8 (by kernel_rfl)) (relOf_no (by decide) (World.grownBy.refl _ _)) ⟨hI.1, hI.2.1.mono (by omega), hI.2.2.1, hI.2.2.2.1, hI.2.2.2.2⟩)
        · intro a k wa K Q hkn hI hp hK
          replace hkn : k < 20 := hkn
          exact op_move _ (.inl rfl) (hK _ _ (hp.keep 9 (by kernel_rfl)) (relOf_no (by decide) (World.grownBy.refl _ _)) ⟨hI.1, hI.2.1.mono (by omega), hI.2.2.1, hI.2.2.2.1, hI.2.2.2.2⟩)
        · intro a k wa K Q hkn hI hp hK
          replace hkn : k < 20 := hkn
          exact op_move _ (.inl rfl) (hK _ _ (hp.keep 6 (by kernel_rfl)) (relOf_no (by decide) (World.grownBy.refl _ _)) ⟨hI.1, hI.2.1.mono (by omega), hI.2.2.1, hI.2.2.2.1, hI.2.2.2.2⟩)
        · intro a k wa K Q hkn hI hp hK
          replace hkn : k < 20 := hkn
          have e38 := tmp_of (show a.eval (.tmp 38) = .pointer (some ⟨br, 0, Option.none⟩) from hp.dep 3 38 (by kernel_rfl))
          go_simp
          refine (pick_d hI.2.1 (by omega) (by omega) (by omega)).mono ?_
          rintro e wb ⟨x, rfl, hx0, hx1, hR, hG⟩
          exact hK _ _ ⟨x, rfl, hx0, by omega⟩ (relOf_no (by decide) hG) ⟨hI.1.step hG (fun k e => by cases e; exact .inl (.inl rfl)), hR.mono (by omega), Nat.le_trans hI.2.2.1 hG.size, hI.2.2.2.1.grown hG (fun e => by cases e; omega), hI.2.2.2.2.grown hG (fun e => by cases e; omega)⟩
        · intro a k wa K Q hkn hI hp hK
          replace hkn : k < 20 := hkn
          exact op_move _ (.inl rfl) (hK _ _ (hp.keep 6 (by kernel_rfl)) (relOf_no (by decide) (World.grownBy.refl _ _)) ⟨hI.1, hI.2.1.mono (by omega), hI.2.2.1, hI.2.2.2.1, hI.2.2.2.2⟩)
        · intro a k wa K Q hkn hI hp hK
          replace hkn : k < 20 := hkn
          have e40 := tmp_of (show a.eval (.tmp 40) = .pointer (some ⟨br, 0, Option.none⟩) from hp.dep 5 40 (by kernel_rfl))
          go_simp
          refine (pick_d hI.2.1 (by omega) (by omega) (by omega)).mono ?_
          rintro e wb ⟨x, rfl, hx0, hx1, hR, hG⟩
          exact hK _ _ ⟨x, rfl, hx0, by omega⟩ (relOf_no (by decide) hG) ⟨hI.1.step hG (fun k e => by cases e; exact .inl (.inl rfl)), hR.mono (by omega), Nat.le_trans hI.2.2.1 hG.size, hI.2.2.2.1.grown hG (fun e => by cases e; omega), hI.2.2.2.2.grown hG (fun e => by cases e; omega)⟩
        · intro a k wa K Q hkn hI hp hK
          replace hkn : k < 20 := hkn
          have t41 : IsI (0) (19) (a.eval (.tmp 41)) := hp.dep 6 41 (by kernel_rfl)
          obtain ⟨x41, e41, l41, u41⟩ := t41
          replace e41 := tmp_of e41
          go_simp
          exact hK _ _ ⟨_, rfl, by (first | omega | (rw [IntWalk.i64_in _ (by omega)]; omega) | (simp only [IntKind.wrap_i64]; omega)), by (first | omega | (rw [IntWalk.i64_in _ (by omega)]; omega) | (simp only [IntKind.wrap_i64]; omega))⟩ (relOf_no (by decide) (World.grownBy.refl _ _)) ⟨hI.1, hI.2.1.mono (by omega), hI.2.2.1, hI.2.2.2.1, hI.2.2.2.2⟩
        · intro a k wa K Q hkn hI hp hK
          replace hkn : k < 20 := hkn
          have t39 : IsI (0) (39) (a.eval (.tmp 39)) := hp.dep 4 39 (by kernel_rfl)
          obtain ⟨x39, e39, l39, u39⟩ := t39
          replace e39 := tmp_of e39
          have t42 : IsI (10) (29) (a.eval (.tmp 42)) := hp.dep 7 42 (by kernel_rfl)
          obtain ⟨x42, e42, l42, u42⟩ := t42
          replace e42 := tmp_of e42
          have hwi : wd9.heap.size ≤ wa.heap.size := hI.2.2.1
          go_simp
          exact hK _ _ (sl_new hwi [[_], [_], [_]] rfl rfl (by decide) rfl ⟨⟨_, rfl, ⟨_, rfl, by omega, by omega⟩⟩, ⟨_, rfl, ⟨_, rfl, by omega, by omega⟩⟩, ⟨_, rfl, ⟨_, rfl, by omega, by omega⟩⟩, trivial⟩) (relOf_no (by decide) (grown_alloc_ _ _ _)) ⟨hI.1.step (grown_alloc_ _ _ Option.none) (fun k e => by cases e), (hI.2.1.below (below_alloc _ _)).mono (by omega), Nat.le_trans hI.2.2.1 (below_alloc _ _).size, hI.2.2.2.1.below (below_alloc _ _), hI.2.2.2.2.below (below_alloc _ _)⟩
        · intro a k wa K Q hkn hI hp hK
          replace hkn : k < 20 := hkn
          have hwi : wd9.heap.size ≤ wa.heap.size := hI.2.2.1
          go_simp
          exact hK _ _ (sl_new hwi [[_], [_], [_], [_], [_]] rfl rfl (by decide) rfl ⟨⟨_, rfl, ⟨_, rfl, by omega, by omega⟩⟩, ⟨_, rfl, ⟨_, rfl, by omega, by omega⟩⟩, ⟨_, rfl, ⟨_, rfl, by omega, by omega⟩⟩, ⟨_, rfl, ⟨_, rfl, by omega, by omega⟩⟩, ⟨_, rfl, ⟨_, rfl, by omega, by omega⟩⟩, trivial⟩) (relOf_no (by decide) (grown_alloc_ _ _ _)) ⟨hI.1.step (grown_alloc_ _ _ Option.none) (fun k e => by cases e), (hI.2.1.below (below_alloc _ _)).mono (by omega), Nat.le_trans hI.2.2.1 (below_alloc _ _).size, hI.2.2.2.1.below (below_alloc _ _), hI.2.2.2.2.below (below_alloc _ _)⟩
        · intro a k wa K Q hkn hI hp hK
          replace hkn : k < 20 := hkn
          exact op_move _ (.inl rfl) (hK _ _ (hp.keep 6 (by kernel_rfl)) (relOf_no (by decide) (World.grownBy.refl _ _)) ⟨hI.1, hI.2.1.mono (by omega), hI.2.2.1, hI.2.2.2.1, hI.2.2.2.2⟩)
        · intro a k wa K Q hkn hI hp hK
          replace hkn : k < 20 := hkn
          have e45 := tmp_of (show a.eval (.tmp 45) = .pointer (some ⟨br, 0, Option.none⟩) from hp.dep 10 45 (by kernel_rfl))
          go_simp
          refine (pick_d hI.2.1 (by omega) (by omega) (by omega)).mono ?_
          rintro e wb ⟨x, rfl, hx0, hx1, hR, hG⟩
          exact hK _ _ ⟨x, rfl, hx0, by omega⟩ (relOf_no (by decide) hG) ⟨hI.1.step hG (fun k e => by cases e; exact .inl (.inl rfl)), hR.mono (by omega), Nat.le_trans hI.2.2.1 hG.size, hI.2.2.2.1.grown hG (fun e => by cases e; omega), hI.2.2.2.2.grown hG (fun e => by cases e; omega)⟩
        · intro a k wa K Q hkn hI hp hK
          replace hkn : k < 20 := hkn
          have t44 : SlP wd9.heap.size 1 5 (fun cs => ∃ c0 : Value, cs = [c0] ∧ IsI (0) (2) c0) wa (a.eval (.tmp 44)) := hp.dep 9 44 (by kernel_rfl)
          obtain ⟨n44, g44, c44, e44, b44, h44⟩ := t44
          replace e44 := tmp_of e44
          have t46 : IsI (0) (4) (a.eval (.tmp 46)) := hp.dep 11 46 (by kernel_rfl)
          obtain ⟨x46, e46, l46, u46⟩ := t46
          replace e46 := tmp_of e46
          have lt46 : x46 < 5 := by omega
          go_simp
          exact hK _ _ ⟨_, _, rfl, b44, by have h_ := h44 x46.toNat (by omega); rwa [Nat.mul_one] at h_⟩ (relOf_no (by decide) (World.grownBy.refl _ _)) ⟨hI.1, hI.2.1.mono (by omega), hI.2.2.1, hI.2.2.2.1, hI.2.2.2.2⟩
        · intro a k wa K Q hkn hI hp hK
          replace hkn : k < 20 := hkn
          have t47 : PtrP wd9.heap.size (fun cs => ∃ c0 : Value, cs = [c0] ∧ IsI (0) (2) c0) wa (a.eval (.tmp 47)) := hp.dep 12 47 (by kernel_rfl)
          obtain ⟨g47, o47, e47, b47, cs47, ⟨c47_0, rfl, ⟨x47_0, rfl, l47_0, u47_0⟩⟩, h47⟩ := t47
          have k47_0 : wa.cell? ⟨g47, o47, Option.none⟩ = some _ := h47 0 _ rfl
          replace e47 := tmp_of e47
          go_simp
          exact hK _ _ ⟨_, rfl, by omega, by omega⟩ (relOf_no (by decide) (World.grownBy.refl _ _)) ⟨hI.1, hI.2.1.mono (by omega), hI.2.2.1, hI.2.2.2.1, hI.2.2.2.2⟩
        · intro a k wa K Q hkn hI hp hK
          replace hkn : k < 20 := hkn
          have t43 : SlP wd9.heap.size 1 3 (fun cs => ∃ c0 : Value, cs = [c0] ∧ IsI (0) (1001) c0) wa (a.eval (.tmp 43)) := hp.dep 8 43 (by kernel_rfl)
          obtain ⟨n43, g43, c43, e43, b43, h43⟩ := t43
          replace e43 := tmp_of e43
          have t48 : IsI (0) (2) (a.eval (.tmp 48)) := hp.dep 13 48 (by kernel_rfl)
          obtain ⟨x48, e48, l48, u48⟩ := t48
          replace e48 := tmp_of e48
          have lt48 : x48 < 3 := by omega
          go_simp
          exact hK _ _ ⟨_, _, rfl, b43, by have h_ := h43 x48.toNat (by omega); rwa [Nat.mul_one] at h_⟩ (relOf_no (by decide) (World.grownBy.refl _ _)) ⟨hI.1, hI.2.1.mono (by omega), hI.2.2.1, hI.2.2.2.1, hI.2.2.2.2⟩
        · intro a k wa K Q hkn hI hp hK
          replace hkn : k < 20 := hkn
          have t49 : PtrP wd9.heap.size (fun cs => ∃ c0 : Value, cs = [c0] ∧ IsI (0) (1001) c0) wa (a.eval (.tmp 49)) := hp.dep 14 49 (by kernel_rfl)
          obtain ⟨g49, o49, e49, b49, cs49, ⟨c49_0, rfl, ⟨x49_0, rfl, l49_0, u49_0⟩⟩, h49⟩ := t49
          have k49_0 : wa.cell? ⟨g49, o49, Option.none⟩ = some _ := h49 0 _ rfl
          replace e49 := tmp_of e49
          go_simp
          exact hK _ _ ⟨_, rfl, by omega, by omega⟩ (relOf_no (by decide) (World.grownBy.refl _ _)) ⟨hI.1, hI.2.1.mono (by omega), hI.2.2.1, hI.2.2.2.1, hI.2.2.2.2⟩
        · intro a k wa K Q hkn hI hp hK
          replace hkn : k < 20 := hkn
          have e2 := tmp_of (show a.eval (.tmp 2) = .pointer (some ⟨w.heap.size, 0, Option.none⟩) from hp.keep 2 (by kernel_rfl))
          have t35 : ∃ c0 c1 : Value, (a.eval (.tmp 35)) = .agg #[c0, c1] ∧ IsI (0) (1001) c0 ∧ IsI (0) (15) c1 := hp.dep 0 35 (by kernel_rfl)
          obtain ⟨c35_0, c35_1, e35, ⟨x35_0, rfl, l35_0, u35_0⟩, ⟨x35_1, rfl, l35_1, u35_1⟩⟩ := t35
          replace e35 := tmp_of e35
          obtain ⟨_, ⟨cb2_0, cb2_1, rfl, ⟨xb2_0, rfl, lb2_0, ub2_0⟩, ⟨xb2_1, rfl, lb2_1, ub2_1⟩⟩, hbx_⟩ := hI.2.2.2.1
          have kb2_0 : wa.cell? ⟨w.heap.size, 0, Option.none⟩ = some _ := (cell_of_row wa w.heap.size 0 _ _ _ hbx_).trans rfl
          have kb2_1 : wa.cell? ⟨w.heap.size, 1, Option.none⟩ = some _ := (cell_of_row wa w.heap.size 1 _ _ _ hbx_).trans rfl
          have fb0 := frozen_of_row wa w.heap.size 0 _ _ hbx_
          have fb1 := frozen_of_row wa w.heap.size 1 _ _ hbx_
          go_simp
          have hgs_ := setCells_grown w.heap.size [(.int .i64 x35_0), (.int .i64 x35_1)] wa 0
          exact hK undef _ trivial (relOf_yes rfl (above_of hgs_ (fun k e => by cases e; omega))) ⟨hI.1.step hgs_ (fun k e => by cases e; exact .inl (.inr rfl)), (hI.2.1.grown hgs_ (fun k e => by cases e; omega)).mono (by omega), Nat.le_trans hI.2.2.1 hgs_.size, hI.2.2.2.1.put [(.int .i64 x35_0), (.int .i64 x35_1)] (fun cs hcs => by obtain ⟨_, _, rfl, _⟩ := hcs; rfl) ⟨_, _, rfl, ⟨_, rfl, by omega, by omega⟩, ⟨_, rfl, by omega, by omega⟩⟩, hI.2.2.2.2.grown hgs_ (fun e => by cases e; omega)⟩
        · intro a k wa K Q hkn hI hp hK
          replace hkn : k < 20 := hkn
          exact op_move _ (.inr rfl) (hK _ _ (hp.dep 1 36 (by kernel_rfl)) (relOf_no (by decide) (World.grownBy.refl _ _)) ⟨hI.1, hI.2.1.mono (by omega), hI.2.2.1, hI.2.2.2.1, hI.2.2.2.2⟩)
        · intro a k wa K Q hkn hI hp hK
          replace hkn : k < 20 := hkn
          exact op_move _ (.inr rfl) (hK _ _ (hp.dep 2 37 (by kernel_rfl)) (relOf_no (by decide) (World.grownBy.refl _ _)) ⟨hI.1, hI.2.1.mono (by omega), hI.2.2.1, hI.2.2.2.1, hI.2.2.2.2⟩)
        · intro a k wa K Q hkn hI hp hK
          replace hkn : k < 20 := hkn
          exact op_move _ (.inr rfl) (hK _ _ (hp.dep 15 50 (by kernel_rfl)) (relOf_no (by decide) (World.grownBy.refl _ _)) ⟨hI.1, hI.2.1.mono (by omega), hI.2.2.1, hI.2.2.2.1, hI.2.2.2.2⟩)
      case fin6 =>
        intro f W7 hT hI0
        obtain ⟨hG_, hR_, _, hb2, hb6⟩ : GrownP (fun k => k = br ∨ k = w.heap.size) wd9 W7 ∧ RdrT W7 br w.heap.size (310 + 1 * 20) ∧ wd9.heap.size ≤ W7.heap.size ∧ BoxP (fun cs => ∃ c0 c1 : Value, cs = [c0, c1] ∧ IsI (0) (1001) c0 ∧ IsI (0) (15) c1) 27 w.heap.size W7 ∧ BoxP (fun cs => ∃ c0 c1 : Value, cs = [c0, c1] ∧ IsI (0) (1001) c0 ∧ IsI (0) (15) c1) 27 g6 W7 := hI0
        have hv0 : (f 17) = .slice (some ⟨b, off, none⟩) l5.length c5 := hT 17 (by decide) rfl rfl
        have hy : (f 18) = .int .i64 (vi0 l5 k) := hT 18 (by decide) rfl rfl
        have hx : IsI (0) (1001) (f 19) := hT 19 (by decide) rfl rfl
        obtain ⟨hx, hx_e, hx_l, hx_u⟩ := hx
        clear hT
        replace hD := hD.grownP hG_ (fun k hk e => by have := hD.ge k e; rcases hk with hk | hk <;> omega)
        replace hGd := GrownP.to hGd hG_ (fun k hk => by rcases hk with rfl | rfl; exact .inl rfl; exact .inr (by omega))
        replace hRd := hR_
        clear hG_ hR_
        simp only [putAll, hv0, hy, hx_e]
        go_simp
        clear hv0
        clear hy
        clear hx_e
        go_wp2
        obtain ⟨_, ⟨d0, d1, rfl, ⟨z0, rfl, z0l, z0u⟩, ⟨z1, rfl, z1l, z1u⟩⟩, hx3⟩ := hb2
        have k30 : W7.cell? ⟨w.heap.size, 0, Option.none⟩ = some _ := (cell_of_row W7 w.heap.size 0 _ _ _ hx3).trans rfl
        have k31 : W7.cell? ⟨w.heap.size, 1, Option.none⟩ = some _ := (cell_of_row W7 w.heap.size 1 _ _ _ hx3).trans rfl
        try simp only [Exit.inBlock, Exit.then]
        obtain ⟨us, h1, _, h2⟩ := hD
        exact bodyPost_ret (v := .tuple #[.agg #[.int .i64 z0, .int .i64 z1], .slice (some ⟨b, off, none⟩) l5.length c5, .int .i64 (vi0 l5 k), .int .i64 hx]) (by simp only [results, Try.results27]; go_simp) rfl ⟨us, .slice (some ⟨b, off, none⟩) l5.length c5, z0, z1, vi0 l5 k, hx, rfl, h1, ⟨z0l, z0u⟩, ⟨z1l, z1u⟩, (by omega), h2.lower (by omega), (Below.refl _ _).grown hGd (Nat.le_refl _) (fun k e => by cases e; omega)⟩
    · go_wp2
      have hD : VDr w1.heap.size 8 wd8 (.slice A5 l5.length c5) := ⟨l5, hl5, hq5, hO⟩
      clear hO
      have hcb6 : w.heap.size ≤ br := hRd.cb_
      have hbr6 : br < wd8.heap.size := hRd.lt
      have hBs6 : w.heap.size ≤ wd8.heap.size := hGd.size
      have hbx6_2 : w.heap.size < wd8.heap.size := hb2.lt
      have hbx6_7 : g6 < wd8.heap.size := hb6.lt
      refine wp_region_draws (some 16) (fun _ => True) (fun i wz vz => match i with | 0 => ∃ c0 c1 : Value, vz = .agg #[c0, c1] ∧ IsI (0) (1001) c0 ∧ IsI (0) (15) c1 | 1 => vz = .slice A5 l5.length c5 | 2 => vz = .int .i64 (p9) | 3 => vz = .pointer (some ⟨br, 0, Option.none⟩) | 4 => IsI (0) (39) vz | 5 => vz = .pointer (some ⟨br, 0, Option.none⟩) | 6 => IsI (0) (19) vz | 7 => IsI (10) (29) vz | 8 => SlP wd8.heap.size 1 3 (fun cs => ∃ c0 : Value, cs = [c0] ∧ IsI (0) (1001) c0) wz vz | 9 => SlP wd8.heap.size 1 5 (fun cs => ∃ c0 : Value, cs = [c0] ∧ IsI (0) (2) c0) wz vz | 10 => vz = .pointer (some ⟨br, 0, Option.none⟩) | 11 => IsI (0) (4) vz | 12 => PtrP wd8.heap.size (fun cs => ∃ c0 : Value, cs = [c0] ∧ IsI (0) (2) c0) wz vz | 13 => IsI (0) (2) vz | 14 => PtrP wd8.heap.size (fun cs => ∃ c0 : Value, cs = [c0] ∧ IsI (0) (1001) c0) wz vz | 15 => IsI (0) (1001) vz | 17 => vz = .slice A5 l5.length c5 | 18 => vz = .int .i64 (p9) | 19 => IsI (0) (1001) vz | _ => True) (fun k wz => GrownP (fun k => k = br ∨ k = w.heap.size) wd8 wz ∧ RdrT wz br w.heap.size (310 + 1 * k) ∧ wd8.heap.size ≤ wz.heap.size ∧ BoxP (fun cs => ∃ c0 c1 : Value, cs = [c0, c1] ∧ IsI (0) (1001) c0 ∧ IsI (0) (15) c1) 27 w.heap.size wz ∧ BoxP (fun cs => ∃ c0 c1 : Value, cs = [c0, c1] ∧ IsI (0) (1001) c0 ∧ IsI (0) (15) c1) 27 g6 wz) (relOf (some 16) wd8.heap.size br) (fun _ => Option.none) (by kernel_rfl) (by kernel_rfl) (by kernel_rfl) ?stab6 ?stabG6 ?inv6 ?pre6 ?all6 ?fin6
      case stab6 =>
        intro i j wa wb v hR hk hne hd _ hT
        have hA := relOf_above hbr6 hR
        match j, hk, hne, hd, hT with
        | 0, hk, hne, hd, hT => exact hT
        | 1, hk, hne, hd, hT => exact hT
        | 2, hk, hne, hd, hT => exact hT
        | 3, hk, hne, hd, hT => exact hT
        | 4, hk, hne, hd, hT => exact hT
        | 5, hk, hne, hd, hT => exact hT
        | 6, hk, hne, hd, hT => exact hT
        | 7, hk, hne, hd, hT => exact hT
        | 8, hk, hne, hd, hT => exact hT.above hA
        | 9, hk, hne, hd, hT => exact hT.above hA
        | 10, hk, hne, hd, hT => exact hT
        | 11, hk, hne, hd, hT => exact hT
        | 12, hk, hne, hd, hT => exact hT.above hA
        | 13, hk, hne, hd, hT => exact hT
        | 14, hk, hne, hd, hT => exact hT.above hA
        | 15, hk, hne, hd, hT => exact hT
        | 17, hk, hne, hd, hT => exact hT
        | 18, hk, hne, hd, hT => exact hT
        | 19, hk, hne, hd, hT => exact hT
        | 16, _, _, _, _ => trivial
        | n + 20, _, _, _, _ => trivial
      case stabG6 =>
        intros; trivial
      case inv6 =>
        exact ⟨GrownP.refl _ _, (hRd.below (ext_drew (Below.refl _ _))).mono (by omega), Nat.le_refl _, hb2.below (ext_drew (Below.refl _ _)), hb6.below (ext_drew (Below.refl _ _))⟩
      case pre6 =>
        trivial
      case all6 =>
        refine RAll.cons rfl ?_ (RAll.cons rfl ?_ (RAll.cons rfl ?_ (RAll.cons rfl ?_ (RAll.cons rfl ?_ (RAll.cons rfl ?_ (RAll.cons rfl ?_ (RAll.cons rfl ?_ (RAll.cons rfl ?_ (RAll.cons rfl ?_ (RAll.cons rfl ?_ (RAll.cons rfl ?_ (RAll.cons rfl ?_ (RAll.cons rfl ?_ (RAll.cons rfl ?_ (RAll.cons rfl ?_ (RAll.cons rfl ?_ (RAll.cons rfl ?_ (RAll.cons rfl ?_ (RAll.cons rfl ?_ (RAll.none_))))))))))))))))))))
        · intro a k wa K Q hkn hI hp hK
          replace hkn : k < 20 := hkn
          have e7 := tmp_of (show a.eval (.tmp 7) = .pointer (some ⟨g6, 0, Option.none⟩) from hp.keep 7 (by kernel_rfl))
          obtain ⟨_, ⟨cb7_0, cb7_1, rfl, ⟨xb7_0, rfl, lb7_0, ub7_0⟩, ⟨xb7_1, rfl, lb7_1, ub7_1⟩⟩, hbx_⟩ := hI.2.2.2.2
          have kb7_0 : wa.cell? ⟨g6, 0, Option.none⟩ = some _ := (cell_of_row wa g6 0 _ _ _ hbx_).trans rfl
          have kb7_1 : wa.cell? ⟨g6, 1, Option.none⟩ = some _ := (cell_of_row wa g6 1 _ _ _ hbx_).trans rfl
          go_simp
          exact hK _ _ ⟨_, _, rfl, ⟨_, rfl, by omega, by omega⟩, ⟨_, rfl, by omega, by omega⟩⟩ (relOf_no (by decide) (World.grownBy.refl _ _)) ⟨hI.1, hI.2.1.mono (by omega), hI.2.2.1, hI.2.2.2.1, hI.2.2.2.2⟩
        · intro a k wa K Q hkn hI hp hK
          replace hkn : k < 20 := hkn
          exact op_move _ (.inl rfl) (hK _ _ (hp.keep 8 (by kernel_rfl)) (relOf_no (by decide) (World.grownBy.refl _ _)) ⟨hI.1, hI.2.1.mono (by omega), hI.2.2.1, hI.2.2.2.1, hI.2.2.2.2⟩)
        · intro a k wa K Q hkn hI hp hK
          replace hkn : k < 20 := hkn
          exact op_move _ (.inl rfl) (hK _ _ (hp.keep 9 (by kernel_rfl)) (relOf_no (by decide) (World.grownBy.refl _ _)) ⟨hI.1, hI.2.1.mono (by omega), hI.2.2.1, hI.2.2.2.1, hI.2.2.2.2⟩)
        · intro a k wa K Q hkn hI hp hK
          replace hkn : k < 20 := hkn
          exact op_move _ (.inl rfl) (hK _ _ (hp.keep 6 (by kernel_rfl)) (relOf_no (by decide) (World.grownBy.refl _ _)) ⟨hI.1, hI.2.1.mono (by omega), hI.2.2.1, hI.2.2.2.1, hI.2.2.2.2⟩)
        · intro a k wa K Q hkn hI hp hK
          replace hkn : k < 20 := hkn
          have e38 := tmp_of (show a.eval (.tmp 38) = .pointer (some ⟨br, 0, Option.none⟩) from hp.dep 3 38 (by kernel_rfl))
          go_simp
          refine (pick_d hI.2.1 (by omega) (by omega) (by omega)).mono ?_
          rintro e wb ⟨x, rfl, hx0, hx1, hR, hG⟩
          exact hK _ _ ⟨x, rfl, hx0, by omega⟩ (relOf_no (by decide) hG) ⟨hI.1.step hG (fun k e => by cases e; exact .inl (.inl rfl)), hR.mono (by omega), Nat.le_trans hI.2.2.1 hG.size, hI.2.2.2.1.grown hG (fun e => by cases e; omega), hI.2.2.2.2.grown hG (fun e => by cases e; omega)⟩
        · intro a k wa K Q hkn hI hp hK
          replace hkn : k < 20 := hkn
          exact op_move _ (.inl rfl) (hK _ _ (hp.keep 6 (by kernel_rfl)) (relOf_no (by decide) (World.grownBy.refl _ _)) ⟨hI.1, hI.2.1.mono (by omega), hI.2.2.1, hI.2.2.2.1, hI.2.2.2.2⟩)
        · intro a k wa K Q hkn hI hp hK
          replace hkn : k < 20 := hkn
          have e40 := tmp_of (show a.eval (.tmp 40) = .pointer (some ⟨br, 0, Option.none⟩) from hp.dep 5 40 (by kernel_rfl))
          go_simp
          refine (pick_d hI.2.1 (by omega) (by omega) (by omega)).mono ?_
          rintro e wb ⟨x, rfl, hx0, hx1, hR, hG⟩
          exact hK _ _ ⟨x, rfl, hx0, by omega⟩ (relOf_no (by decide) hG) ⟨hI.1.step hG (fun k e => by cases e; exact .inl (.inl rfl)), hR.mono (by omega), Nat.le_trans hI.2.2.1 hG.size, hI.2.2.2.1.grown hG (fun e => by cases e; omega), hI.2.2.2.2.grown hG (fun e => by cases e; omega)⟩
        · intro a k wa K Q hkn hI hp hK
          replace hkn : k < 20 := hkn
          have t41 : IsI (0) (19) (a.eval (.tmp 41)) := hp.dep 6 41 (by kernel_rfl)
          obtain ⟨x41, e41, l41, u41⟩ := t41
          replace e41 := tmp_of e41
          go_simp
          exact hK _ _ ⟨_, rfl, by (first | omega | (rw [IntWalk.i64_in _ (by omega)]; omega) | (simp only [IntKind.wrap_i64]; omega)), by (first | omega | (rw [IntWalk.i64_in _ (by omega)]; omega) | (simp only [IntKind.wrap_i64]; omega))⟩ (relOf_no (by decide) (World.grownBy.refl _ _)) ⟨hI.1, hI.2.1.mono (by omega), hI.2.2.1, hI.2.2.2.1, hI.2.2.2.2⟩
        · intro a k wa K Q hkn hI hp hK
          replace hkn : k < 20 := hkn
          have t39 : IsI (0) (39) (a.eval (.tmp 39)) := hp.dep 4 39 (by kernel_rfl)
          obtain ⟨x39, e39, l39, u39⟩ := t39
          replace e39 := tmp_of e39
          have t42 : IsI (10) (29) (a.eval (.tmp 42)) := hp.dep 7 42 (by kernel_rfl)
          obtain ⟨x42, e42, l42, u42⟩ := t42
          replace e42 := tmp_of e42
          have hwi : wd8.heap.size ≤ wa.heap.size := hI.2.2.1
          go_simp
          exact hK _ _ (sl_new hwi [[_], [_], [_]] rfl rfl (by decide) rfl ⟨⟨_, rfl, ⟨_, rfl, by omega, by omega⟩⟩, ⟨_, rfl, ⟨_, rfl, by omega, by omega⟩⟩, ⟨_, rfl, ⟨_, rfl, by omega, by omega⟩⟩, trivial⟩) (relOf_no (by decide) (grown_alloc_ _ _ _)) ⟨hI.1.step (grown_alloc_ _ _ Option.none) (fun k e => by cases e), (hI.2.1.below (below_alloc _ _)).mono (by omega), Nat.le_trans hI.2.2.1 (below_alloc _ _).size, hI.2.2.2.1.below (below_alloc _ _), hI.2.2.2.2.below (below_alloc _ _)⟩
        · intro a k wa K Q hkn hI hp hK
          replace hkn : k < 20 := hkn
          have hwi : wd8.heap.size ≤ wa.heap.size := hI.2.2.1
          go_simp
          exact hK _ _ (sl_new hwi [[_], [_], [_], [_], [_]] rfl rfl (by decide) rfl ⟨⟨_, rfl, ⟨_, rfl, by omega, by omega⟩⟩, ⟨_, rfl, ⟨_, rfl, by omega, by omega⟩⟩, ⟨_, rfl, ⟨_, rfl, by omega, by omega⟩⟩, ⟨_, rfl, ⟨_, rfl, by omega, by omega⟩⟩, ⟨_, rfl, ⟨_, rfl, by omega, by omega⟩⟩, trivial⟩) (relOf_no (by decide) (grown_alloc_ _ _ _)) ⟨hI.1.step (grown_alloc_ _ _ Option.none) (fun k e => by cases e), (hI.2.1.below (below_alloc _ _)).mono (by omega), Nat.le_trans hI.2.2.1 (below_alloc _ _).size, hI.2.2.2.1.below (below_alloc _ _), hI.2.2.2.2.below (below_alloc _ _)⟩
        · intro a k wa K Q hkn hI hp hK
          replace hkn : k < 20 := hkn
          exact op_move _ (.inl rfl) (hK _ _ (hp.keep 6 (by kernel_rfl)) (relOf_no (by decide) (World.grownBy.refl _ _)) ⟨hI.1, hI.2.1.mono (by omega), hI.2.2.1, hI.2.2.2.1, hI.2.2.2.2⟩)
        · intro a k wa K Q hkn hI hp hK
          replace hkn : k < 20 := hkn
          have e45 := tmp_of (show a.eval (.tmp 45) = .pointer (some ⟨br, 0, Option.none⟩) from hp.dep 10 45 (by kernel_rfl))
          go_simp
          refine (pick_d hI.2.1 (by omega) (by omega) (by omega)).mono ?_
          rintro e wb ⟨x, rfl, hx0, hx1, hR, hG⟩
          exact hK _ _ ⟨x, rfl, hx0, by omega⟩ (relOf_no (by decide) hG) ⟨hI.1.step hG (fun k e => by cases e; exact .inl (.inl rfl)), hR.mono (by omega), Nat.le_trans hI.2.2.1 hG.size, hI.2.2.2.1.grown hG (fun e => by cases e; omega), hI.2.2.2.2.grown hG (fun e => by cases e; omega)⟩
        · intro a k wa K Q hkn hI hp hK
          replace hkn : k < 20 := hkn
          have t44 : SlP wd8.heap.size 1 5 (fun cs => ∃ c0 : Value, cs = [c0] ∧ IsI (0) (2) c0) wa (a.eval (.tmp 44)) := hp.dep 9 44 (by kernel_rfl)
          obtain ⟨n44, g44, c44, e44, b44, h44⟩ := t44
          replace e44 := tmp_of e44
          have t46 : IsI (0) (4) (a.eval (.tmp 46)) := hp.dep 11 46 (by kernel_rfl)
          obtain ⟨x46, e46, l46, u46⟩ := t46
          replace e46 := tmp_of e46
          have lt46 : x46 < 5 := by omega
          go_simp
          exact hK _ _ ⟨_, _, rfl, b44, by have h_ := h44 x46.toNat (by omega); rwa [Nat.mul_one] at h_⟩ (relOf_no (by decide) (World.grownBy.refl _ _)) ⟨hI.1, hI.2.1.mono (by omega), hI.2.2.1, hI.2.2.2.1, hI.2.2.2.2⟩
        · intro a k wa K Q hkn hI hp hK
          replace hkn : k < 20 := hkn
          have t47 : PtrP wd8.heap.size (fun cs => ∃ c0 : Value, cs = [c0] ∧ IsI (0) (2) c0) wa (a.eval (.tmp 47)) := hp.dep 12 47 (by kernel_rfl)
          obtain ⟨g47, o47, e47, b47, cs47, ⟨c47_0, rfl, ⟨x47_0, rfl, l47_0, u47_0⟩⟩, h47⟩ := t47
          have k47_0 : wa.cell? ⟨g47, o47, Option.none⟩ = some _ := h47 0 _ rfl
          replace e47 := tmp_of e47
          go_simp
          exact hK _ _ ⟨_, rfl, by omega, by omega⟩ (relOf_no (by decide) (World.grownBy.refl _ _)) ⟨hI.1, hI.2.1.mono (by omega), hI.2.2.1, hI.2.2.2.1, hI.2.2.2.2⟩
        · intro a k wa K Q hkn hI hp hK
          replace hkn : k < 20 := hkn
          have t43 : SlP wd8.heap.size 1 3 (fun cs => ∃ c0 : Value, cs = [c0] ∧ IsI (0) (1001) c0) wa (a.eval (.tmp 43)) := hp.dep 8 43 (by kernel_rfl)
          obtain ⟨n43, g43, c43, e43, b43, h43⟩ := t43
          replace e43 := tmp_of e43
          have t48 : IsI (0) (2) (a.eval (.tmp 48)) := hp.dep 13 48 (by kernel_rfl)
          obtain ⟨x48, e48, l48, u48⟩ := t48
          replace e48 := tmp_of e48
          have lt48 : x48 < 3 := by omega
          go_simp
          exact hK _ _ ⟨_, _, rfl, b43, by have h_ := h43 x48.toNat (by omega); rwa [Nat.mul_one] at h_⟩ (relOf_no (by decide) (World.grownBy.refl _ _)) ⟨hI.1, hI.2.1.mono (by omega), hI.2.2.1, hI.2.2.2.1, hI.2.2.2.2⟩
        · intro a k wa K Q hkn hI hp hK
          replace hkn : k < 20 := hkn
          have t49 : PtrP wd8.heap.size (fun cs => ∃ c0 : Value, cs = [c0] ∧ IsI (0) (1001) c0) wa (a.eval (.tmp 49)) := hp.dep 14 49 (by kernel_rfl)
          obtain ⟨g49, o49, e49, b49, cs49, ⟨c49_0, rfl, ⟨x49_0, rfl, l49_0, u49_0⟩⟩, h49⟩ := t49
          have k49_0 : wa.cell? ⟨g49, o49, Option.none⟩ = some _ := h49 0 _ rfl
          replace e49 := tmp_of e49
          go_simp
          exact hK _ _ ⟨_, rfl, by omega, by omega⟩ (relOf_no (by decide) (World.grownBy.refl _ _)) ⟨hI.1, hI.2.1.mono (by omega), hI.2.2.1, hI.2.2.2.1, hI.2.2.2.2⟩
        · intro a k wa K Q hkn hI hp hK
          replace hkn : k < 20 := hkn
          have e2 := tmp_of (show a.eval (.tmp 2) = .pointer (some ⟨w.heap.size, 0, Option.none⟩) from hp.keep 2 (by kernel_rfl))
          have t35 : ∃ c0 c1 : Value, (a.eval (.tmp 35)) = .agg #[c0, c1] ∧ IsI (0) (1001) c0 ∧ IsI (0) (15) c1 := hp.dep 0 35 (by kernel_rfl)
          obtain ⟨c35_0, c35_1, e35, ⟨x35_0, rfl, l35_0, u35_0⟩, ⟨x35_1, rfl, l35_1, u35_1⟩⟩ := t35
          replace e35 := tmp_of e35
          obtain ⟨_, ⟨cb2_0, cb2_1, rfl, ⟨xb2_0, rfl, lb2_0, ub2_0⟩, ⟨xb2_1, rfl, lb2_1, ub2_1⟩⟩, hbx_⟩ := hI.2.2.2.1
          have kb2_0 : wa.cell? ⟨w.heap.size, 0, Option.none⟩ = some _ := (cell_of_row wa w.heap.size 0 _ _ _ hbx_).trans rfl
          have kb2_1 : wa.cell? ⟨w.heap.size, 1, Option.none⟩ = some _ := (cell_of_row wa w.heap.size 1 _ _ _ hbx_).trans rfl
          have fb0 := frozen_of_row wa w.heap.size 0 _ _ hbx_
          have fb1 := frozen_of_row wa w.heap.size 1 _ _ hbx_
          go_simp
          have hgs_ := setCells_grown w.heap.size [(.int .i64 x35_0), (.int .i64 x35_1)] wa 0
          exact hK undef _ trivial (relOf_yes rfl (above_of hgs_ (fun k e => by cases e; omega))) ⟨hI.1.step hgs_ (fun k e => by cases e; exact .inl (.inr rfl)), (hI.2.1.grown hgs_ (fun k e => by cases e; omega)).mono (by omega), Nat.le_trans hI.2.2.1 hgs_.size, hI.2.2.2.1.put [(.int .i64 x35_0), (.int .i64 x35_1)] (fun cs hcs => by obtain ⟨_, _, rfl, _⟩ := hcs; rfl) ⟨_, _, rfl, ⟨_, rfl, by omega, by omega⟩, ⟨_, rfl, by omega, by omega⟩⟩, hI.2.2.2.2.grown hgs_ (fun e => by cases e; omega)⟩
        · intro a k wa K Q hkn hI hp hK
          replace hkn : k < 20 := hkn
          exact op_move _ (.inr rfl) (hK _ _ (hp.dep 1 36 (by kernel_rfl)) (relOf_no (by decide) (World.grownBy.refl _ _)) ⟨hI.1, hI.2.1.mono (by omega), hI.2.2.1, hI.2.2.2.1, hI.2.2.2.2⟩)
        · intro a k wa K Q hkn hI hp hK
          replace hkn : k < 20 := hkn
          exact op_move _ (.inr rfl) (hK _ _ (hp.dep 2 37 (by kernel_rfl)) (relOf_no (by decide) (World.grownBy.refl _ _)) ⟨hI.1, hI.2.1.mono (by omega), hI.2.2.1, hI.2.2.2.1, hI.2.2.2.2⟩)
        · intro a k wa K Q hkn hI hp hK
          replace hkn : k < 20 := hkn
          exact op_move _ (.inr rfl) (hK _ _ (hp.dep 15 50 (by kernel_rfl)) (relOf_no (by decide) (World.grownBy.refl _ _)) ⟨hI.1, hI.2.1.mono (by omega), hI.2.2.1, hI.2.2.2.1, hI.2.2.2.2⟩)
      case fin6 =>
        intro f W7 hT hI0
        obtain ⟨hG_, hR_, _, hb2, hb6⟩ : GrownP (fun k => k = br ∨ k = w.heap.size) wd8 W7 ∧ RdrT W7 br w.heap.size (310 + 1 * 20) ∧ wd8.heap.size ≤ W7.heap.size ∧ BoxP (fun cs => ∃ c0 c1 : Value, cs = [c0, c1] ∧ IsI (0) (1001) c0 ∧ IsI (0) (15) c1) 27 w.heap.size W7 ∧ BoxP (fun cs => ∃ c0 c1 : Value, cs = [c0, c1] ∧ IsI (0) (1001) c0 ∧ IsI (0) (15) c1) 27 g6 W7 := hI0
        have hv0 : (f 17) = .slice A5 l5.length c5 := hT 17 (by decide) rfl rfl
        have hy : (f 18) = .int .i64 (p9) := hT 18 (by decide) rfl rfl
        have hx : IsI (0) (1001) (f 19) := hT 19 (by decide) rfl rfl
        obtain ⟨hx, hx_e, hx_l, hx_u⟩ := hx
        clear hT
        replace hD := hD.grownP hG_ (fun k hk e => by have := hD.ge k e; rcases hk with hk | hk <;> omega)
        replace hGd := GrownP.to hGd hG_ (fun k hk => by rcases hk with rfl | rfl; exact .inl rfl; exact .inr (by omega))
        replace hRd := hR_
        clear hG_ hR_
        simp only [putAll, hv0, hy, hx_e]
        go_simp
        clear hv0
        clear hy
        clear hx_e
        go_wp2
        obtain ⟨_, ⟨d0, d1, rfl, ⟨z0, rfl, z0l, z0u⟩, ⟨z1, rfl, z1l, z1u⟩⟩, hx3⟩ := hb2
        have k30 : W7.cell? ⟨w.heap.size, 0, Option.none⟩ = some _ := (cell_of_row W7 w.heap.size 0 _ _ _ hx3).trans rfl
        have k31 : W7.cell? ⟨w.heap.size, 1, Option.none⟩ = some _ := (cell_of_row W7 w.heap.size 1 _ _ _ hx3).trans rfl
        try simp only [Exit.inBlock, Exit.then]
        obtain ⟨us, h1, _, h2⟩ := hD
        exact bodyPost_ret (v := .tuple #[.agg #[.int .i64 z0, .int .i64 z1], .slice A5 l5.length c5, .int .i64 (p9), .int .i64 hx]) (by simp only [results, Try.results27]; go_simp) rfl ⟨us, .slice A5 l5.length c5, z0, z1, p9, hx, rfl, h1, ⟨z0l, z0u⟩, ⟨z1l, z1u⟩, (by omega), h2.lower (by omega), (Below.refl _ _).grown hGd (Nat.le_refl _) (fun k e => by cases e; omega)⟩
  · go_wp2
    have hD : VDr w1.heap.size 8 wd7 (.slice A5 l5.length c5) := ⟨l5, hl5, hq5, hO⟩
    clear hO
    have hcb6 : w.heap.size ≤ br := hRd.cb_
    have hbr6 : br < wd7.heap.size := hRd.lt
    have hBs6 : w.heap.size ≤ wd7.heap.size := hGd.size
    have hbx6_2 : w.heap.size < wd7.heap.size := hb2.lt
    have hbx6_7 : g6 < wd7.heap.size := hb6.lt
    refine wp_region_draws (some 16) (fun _ => True) (fun i wz vz => match i with | 0 => ∃ c0 c1 : Value, vz = .agg #[c0, c1] ∧ IsI (0) (1001) c0 ∧ IsI (0) (15) c1 | 1 => vz = .slice A5 l5.length c5 | 2 => vz = .int .i64 (p9) | 3 => vz = .pointer (some ⟨br, 0, Option.none⟩) | 4 => IsI (0) (39) vz | 5 => vz = .pointer (some ⟨br, 0, Option.none⟩) | 6 => IsI (0) (19) vz | 7 => IsI (10) (29) vz | 8 => SlP wd7.heap.size 1 3 (fun cs => ∃ c0 : Value, cs = [c0] ∧ IsI (0) (1001) c0) wz vz | 9 => SlP wd7.heap.size 1 5 (fun cs => ∃ c0 : Value, cs = [c0] ∧ IsI (0) (2) c0) wz vz | 10 => vz = .pointer (some ⟨br, 0, Option.none⟩) | 11 => IsI (0) (4) vz | 12 => PtrP wd7.heap.size (fun cs => ∃ c0 : Value, cs = [c0] ∧ IsI (0) (2) c0) wz vz | 13 => IsI (0) (2) vz | 14 => PtrP wd7.heap.size (fun cs => ∃ c0 : Value, cs = [c0] ∧ IsI (0) (1001) c0) wz vz | 15 => IsI (0) (1001) vz | 17 => vz = .slice A5 l5.length c5 | 18 => vz = .int .i64 (p9) | 19 => IsI (0) (1001) vz | _ => True) (fun k wz => GrownP (fun k => k = br ∨ k = w.heap.size) wd7 wz ∧ RdrT wz br w.heap.size (310 + 1 * k) ∧ wd7.heap.size ≤ wz.heap.size ∧ BoxP (fun cs => ∃ c0 c1 : Value, cs = [c0, c1] ∧ IsI (0) (1001) c0 ∧ IsI (0) (15) c1) 27 w.heap.size wz ∧ BoxP (fun cs => ∃ c0 c1 : Value, cs = [c0, c1] ∧ IsI (0) (1001) c0 ∧ IsI (0) (15) c1) 27 g6 wz) (relOf (some 16) wd7.heap.size br) (fun _ => Option.none) (by kernel_rfl) (by kernel_rfl) (by kernel_rfl) ?stab6 ?stabG6 ?inv6 ?pre6 ?all6 ?fin6
    case stab6 =>
      intro i j wa wb v hR hk hne hd _ hT
      have hA := relOf_above hbr6 hR
      match j, hk, hne, hd, hT with
      | 0, hk, hne, hd, hT => exact hT
      | 1, hk, hne, hd, hT => exact hT
      | 2, hk, hne, hd, hT => exact hT
      | 3, hk, hne, hd, hT => exact hT
      | 4, hk, hne, hd, hT => exact hT
      | 5, hk, hne, hd, hT => exact hT
      | 6, hk, hne, hd, hT => exact hT
      | 7, hk, hne, hd, hT => exact hT
      | 8, hk, hne, hd, hT => exact hT.above hA
      | 9, hk, hne, hd, hT => exact hT.above hA
      | 10, hk, hne, hd, hT => exact hT
      | 11, hk, hne, hd, hT => exact hT
      | 12, hk, hne, hd, hT => exact hT.above hA
      | 13, hk, hne, hd, hT => exact hT
      | 14, hk, hne, hd, hT => exact hT.above hA
      | 15, hk, hne, hd, hT => exact hT
      | 17, hk, hne, hd, hT => exact hT
      | 18, hk, hne, hd, hT => exact hT
      | 19, hk, hne, hd, hT => exact hT
      | 16, _, _, _, _ => trivial
      | n + 20, _, _, _, _ => trivial
    case stabG6 =>
      intros; trivial
    case inv6 =>
      exact ⟨GrownP.refl _ _, (hRd.below (ext_drew (Below.refl _ _))).mono (by omega), Nat.le_refl _, hb2.below (ext_drew (Below.refl _ _)), hb6.below (ext_drew (Below.refl _ _))⟩
    case pre6 =>
      trivial
    case all6 =>
      refine RAll.cons rfl ?_ (RAll.cons rfl ?_ (RAll.cons rfl ?_ (RAll.cons rfl ?_ (RAll.cons rfl ?_ (RAll.cons rfl ?_ (RAll.cons rfl ?_ (RAll.cons rfl ?_ (RAll.cons rfl ?_ (RAll.cons rfl ?_ (RAll.cons rfl ?_ (RAll.cons rfl ?_ (RAll.cons rfl ?_ (RAll.cons rfl ?_ (RAll.cons rfl ?_ (RAll.cons rfl ?_ (RAll.cons rfl ?_ (RAll.cons rfl ?_ (RAll.cons rfl ?_ (RAll.cons rfl ?_ (RAll.none_))))))))))))))))))))
      · intro a k wa K Q hkn hI hp hK
        replace hkn : k < 20 := hkn
        have e7 := tmp_of (show a.eval (.tmp 7) = .pointer (some ⟨g6, 0, Option.none⟩) from hp.keep 7 (by kernel_rfl))
        obtain ⟨_, ⟨cb7_0, cb7_1, rfl, ⟨xb7_0, rfl, lb7_0, ub7_0⟩, ⟨xb7_1, rfl, lb7_1, ub7_1⟩⟩, hbx_⟩ := hI.2.2.2.2
        have kb7_0 : wa.cell? ⟨g6, 0, Option.none⟩ = some _ := (cell_of_row wa g6 0 _ _ _ hbx_).trans rfl
        have kb7_1 : wa.cell? ⟨g6, 1, Option.none⟩ = some _ := (cell_of_row wa g6 1 _ _ _ hbx_).trans rfl
        go_simp
        exact hK _ _ ⟨_, _, rfl, ⟨_, rfl, by omega, by omega⟩, ⟨_, rfl, by omega, by omega⟩⟩ (relOf_no (by decide) (World.grownBy.refl _ _)) ⟨hI.1, hI.2.1.mono (by omega), hI.2.2.1, hI.2.2.2.1, hI.2.2.2.2⟩
      · intro a k wa K Q hkn hI hp hK
        replace hkn : k < 20 := hkn
        exact op_move _ (.inl rfl) (hK _ _ (hp.keep 8 (by kernel_rfl)) (relOf_no (by decide) (World.grownBy.refl _ _)) ⟨hI.1, hI.2.1.mono (by omega), hI.2.2.1, hI.2.2.2.1, hI.2.2.2.2⟩)
      · intro a k wa K Q hkn hI hp hK
        replace hkn : k < 20 := hkn
        exact op_move _ (.inl rfl) (hK _ _ (hp.keep 9 (by kernel_rfl)) (relOf_no (by decide) (World.grownBy.refl _ _)) ⟨hI.1, hI.2.1.mono (by omega), hI.2.2.1, hI.2.2.2.1, hI.2.2.2.2⟩)
      · intro a k wa K Q hkn hI hp hK
        replace hkn : k < 20 := hkn
        exact op_move _ (.inl rfl) (hK _ _ (hp.keep 6 (by kernel_rfl)) (relOf_no (by decide) (World.grownBy.refl _ _)) ⟨hI.1, hI.2.1.mono (by omega), hI.2.2.1, hI.2.2.2.1, hI.2.2.2.2⟩)
      · intro a k wa K Q hkn hI hp hK
        replace hkn : k < 20 := hkn
        have e38 := tmp_of (show a.eval (.tmp 38) = .pointer (some ⟨br, 0, Option.none⟩) from hp.dep 3 38 (by kernel_rfl))
        go_simp
        refine (pick_d hI.2.1 (by omega) (by omega) (by omega)).mono ?_
        rintro e wb ⟨x, rfl, hx0, hx1, hR, hG⟩
        exact hK _ _ ⟨x, rfl, hx0, by omega⟩ (relOf_no (by decide) hG) ⟨hI.1.step hG (fun k e => by cases e; exact .inl (.inl rfl)), hR.mono (by omega), Nat.le_trans hI.2.2.1 hG.size, hI.2.2.2.1.grown hG (fun e => by cases e; omega), hI.2.2.2.2.grown hG (fun e => by cases e; omega)⟩
      · intro a k wa K Q hkn hI hp hK
        replace hkn : k < 20 := hkn
        exact op_move _ (.inl rfl) (hK _ _ (hp.keep 6 (by kernel_rfl)) (relOf_no (by decide) (World.grownBy.refl _ _)) ⟨hI.1, hI.2.1.mono (by omega), hI.2.2.1, hI.2.2.2.1, hI.2.2.2.2⟩)
      · intro a k wa K Q hkn hI hp hK
        replace hkn : k < 20 := hkn
        have e40 := tmp_of (show a.eval (.tmp 40) = .pointer (some ⟨br, 0, Option.none⟩) from hp.dep 5 40 (by kernel_rfl))
        go_simp
        refine (pick_d hI.2.1 (by omega) (by omega) (by omega)).mono ?_
        rintro e wb ⟨x, rfl, hx0, hx1, hR, hG⟩
        exact hK _ _ ⟨x, rfl, hx0, by omega⟩ (relOf_no (by decide) hG) ⟨hI.1.step hG (fun k e => by cases e; exact .inl (.inl rfl)), hR.mono (by omega), Nat.le_trans hI.2.2.1 hG.size, hI.2.2.2.1.grown hG (fun e => by cases e; omega), hI.2.2.2.2.grown hG (fun e => by cases e; omega)⟩
      · intro a k wa K Q hkn hI hp hK
        replace hkn : k < 20 := hkn
        have t41 : IsI (0) (19) (a.eval (.tmp 41)) := hp.dep 6 41 (by kernel_rfl)
        obtain ⟨x41, e41, l41, u41⟩ := t41
        replace e41 := tmp_of e41
        go_simp
        exact hK _ _ ⟨_, rfl, by (first | omega | (rw [IntWalk.i64_in _ (by omega)]; omega) | (simp only [IntKind.wrap_i64]; omega)), by (first | omega | (rw [IntWalk.i64_in _ (by omega)]; omega) | (simp only [IntKind.wrap_i64]; omega))⟩ (relOf_no (by decide) (World.grownBy.refl _ _)) ⟨hI.1, hI.2.1.mono (by omega), hI.2.2.1, hI.2.2.2.1, hI.2.2.2.2⟩
      · intro a k wa K Q hkn hI hp hK
        replace hkn : k < 20 := hkn
        have t39 : IsI (0) (39) (a.eval (.tmp 39)) := hp.dep 4 39 (by kernel_rfl)
        obtain ⟨x39, e39, l39, u39⟩ := t39
        replace e39 := tmp_of e39
        have t42 : IsI (10) (29) (a.eval (.tmp 42)) := hp.dep 7 42 (by kernel_rfl)
        obtain ⟨x42, e42, l42, u42⟩ := t42
        replace e42 := tmp_of e42
        have hwi : wd7.heap.size ≤ wa.heap.size := hI.2.2.1
        go_simp
        exact hK _ _ (sl_new hwi [[_], [_], [_]] rfl rfl (by decide) rfl ⟨⟨_, rfl, ⟨_, rfl, by omega, by omega⟩⟩, ⟨_, rfl, ⟨_, rfl, by omega, by omega⟩⟩, ⟨_, rfl, ⟨_, rfl, by omega, by omega⟩⟩, trivial⟩) (relOf_no (by decide) (grown_alloc_ _ _ _)) ⟨hI.1.step (grown_alloc_ _ _ Option.none) (fun k e => by cases e), (hI.2.1.below (below_alloc _ _)).mono (by omega), Nat.le_trans hI.2.2.1 (below_alloc _ _).size, hI.2.2.2.1.below (below_alloc _ _), hI.2.2.2.2.below (below_alloc _ _)⟩
      · intro a k wa K Q hkn hI hp hK
        replace hkn : k < 20 := hkn
        have hwi : wd7.heap.size ≤ wa.heap.size := hI.2.2.1
        go_simp
        exact hK _ _ (sl_new hwi [[_], [_], [_], [_], [_]] rfl rfl (by decide) rfl ⟨⟨_, rfl, ⟨_, rfl, by omega, by omega⟩⟩, ⟨_, rfl, ⟨_, rfl, by omega, by omega⟩⟩, ⟨_, rfl, ⟨_, rfl, by omega, by omega⟩⟩, ⟨_, rfl, ⟨_, rfl, by omega, by omega⟩⟩, ⟨_, rfl, ⟨_, rfl, by omega, by omega⟩⟩, trivial⟩) (relOf_no (by decide) (grown_alloc_ _ _ _)) ⟨hI.1.step (grown_alloc_ _ _ Option.none) (fun k e => by cases e), (hI.2.1.below (below_alloc _ _)).mono (by omega), Nat.le_trans hI.2.2.1 (below_alloc _ _).size, hI.2.2.2.1.below (below_alloc _ _), hI.2.2.2.2.below (below_alloc _ _)⟩
      · intro a k wa K Q hkn hI hp hK
        replace hkn : k < 20 := hkn
        exact op_move _ (.inl rfl) (hK _ _ (hp.keep 6 (by kernel_rfl)) (relOf_no (by decide) (World.grownBy.refl _ _)) ⟨hI.1, hI.2.1.mono (by omega), hI.2.2.1, hI.2.2.2.1, hI.2.2.2.2⟩)
      · intro a k wa K Q hkn hI hp hK
        replace hkn : k < 20 := hkn
        have e45 := tmp_of (show a.eval (.tmp 45) = .pointer (some ⟨br, 0, Option.none⟩) from hp.dep 10 45 (by kernel_rfl))
        go_simp
        refine (pick_d hI.2.1 (by omega) (by omega) (by omega)).mono ?_
        rintro e wb ⟨x, rfl, hx0, hx1, hR, hG⟩
        exact hK _ _ ⟨x, rfl, hx0, by omega⟩ (relOf_no (by decide) hG) ⟨hI.1.step hG (fun k e => by cases e; exact .inl (.inl rfl)), hR.mono (by omega), Nat.le_trans hI.2.2.1 hG.size, hI.2.2.2.1.grown hG (fun e => by cases e; omega), hI.2.2.2.2.grown hG (fun e => by cases e; omega)⟩
      · intro a k wa K Q hkn hI hp hK
        replace hkn : k < 20 := hkn
        have t44 : SlP wd7.heap.size 1 5 (fun cs => ∃ c0 : Value, cs = [c0] ∧ IsI (0) (2) c0) wa (a.eval (.tmp 44)) := hp.dep 9 44 (by kernel_rfl)
        obtain ⟨n44, g44, c44, e44, b44, h44⟩ := t44
        replace e44 := tmp_of e44
        have t46 : IsI (0) (4) (a.eval (.tmp 46)) := hp.dep 11 46 (by kernel_rfl)
        obtain ⟨x46, e46, l46, u46⟩ := t46
        replace e46 := tmp_of e46
        have lt46 : x46 < 5 := by omega
        go_simp
        exact hK _ _ ⟨_, _, rfl, b44, by have h_ := h44 x46.toNat (by omega); rwa [Nat.mul_one] at h_⟩ (relOf_no (by decide) (World.grownBy.refl _ _)) ⟨hI.1, hI.2.1.mono (by omega), hI.2.2.1, hI.2.2.2.1, hI.2.2.2.2⟩
      · intro a k wa K Q hkn hI hp hK
        replace hkn : k < 20 := hkn
        have t47 : PtrP wd7.heap.size (fun cs => ∃ c0 : Value, cs = [c0] ∧ IsI (0) (2) c0) wa (a.eval (.tmp 47)) := hp.dep 12 47 (by kernel_rfl)
        obtain ⟨g47, o47, e47, b47, cs47, ⟨c47_0, rfl, ⟨x47_0, rfl, l47_0, u47_0⟩⟩, h47⟩ := t47
        have k47_0 : wa.cell? ⟨g47, o47, Option.none⟩ = some _ := h47 0 _ rfl
        replace e47 := tmp_of e47
        go_simp
        exact hK _ _ ⟨_, rfl, by omega, by omega⟩ (relOf_no (by decide) (World.grownBy.refl _ _)) ⟨hI.1, hI.2.1.mono (by omega), hI.2.2.1, hI.2.2.2.1, hI.2.2.2.2⟩
      · intro a k wa K Q hkn hI hp hK
        replace hkn : k < 20 := hkn
        have t43 : SlP wd7.heap.size 1 3 (fun cs => ∃ c0 : Value, cs = [c0] ∧ IsI (0) (1001) c0) wa (a.eval (.tmp 43)) := hp.dep 8 43 (by kernel_rfl)
        obtain ⟨n43, g43, c43, e43, b43, h43⟩ := t43
        replace e43 := tmp_of e43
        have t48 : IsI (0) (2) (a.eval (.tmp 48)) := hp.dep 13 48 (by kernel_rfl)
        obtain ⟨x48, e48, l48, u48⟩ := t48
        replace e48 := tmp_of e48
        have lt48 : x48 < 3 := by omega
        go_simp
        exact hK _ _ ⟨_, _, rfl, b43, by have h_ := h43 x48.toNat (by omega); rwa [Nat.mul_one] at h_⟩ (relOf_no (by decide) (World.grownBy.refl _ _)) ⟨hI.1, hI.2.1.mono (by omega), hI.2.2.1, hI.2.2.2.1, hI.2.2.2.2⟩
      · intro a k wa K Q hkn hI hp hK
        replace hkn : k < 20 := hkn
        have t49 : PtrP wd7.heap.size (fun cs => ∃ c0 : Value, cs = [c0] ∧ IsI (0) (1001) c0) wa (a.eval (.tmp 49)) := hp.dep 14 49 (by kernel_rfl)
        obtain ⟨g49, o49, e49, b49, cs49, ⟨c49_0, rfl, ⟨x49_0, rfl, l49_0, u49_0⟩⟩, h49⟩ := t49
        have k49_0 : wa.cell? ⟨g49, o49, Option.none⟩ = some _ := h49 0 _ rfl
        replace e49 := tmp_of e49
        go_simp
        exact hK _ _ ⟨_, rfl, by omega, by omega⟩ (relOf_no (by decide) (World.grownBy.refl _ _)) ⟨hI.1, hI.2.1.mono (by omega), hI.2.2.1, hI.2.2.2.1, hI.2.2.2.2⟩
      · intro a k wa K Q hkn hI hp hK
        replace hkn : k < 20 := hkn
        have e2 := tmp_of (show a.eval (.tmp 2) = .pointer (some ⟨w.heap.size, 0, Option.none⟩) from hp.keep 2 (by kernel_rfl))
        have t35 : ∃ c0 c1 : Value, (a.eval (.tmp 35)) = .agg #[c0, c1] ∧ IsI (0) (1001) c0 ∧ IsI (0) (15) c1 := hp.dep 0 35 (by kernel_rfl)
        obtain ⟨c35_0, c35_1, e35, ⟨x35_0, rfl, l35_0, u35_0⟩, ⟨x35_1, rfl, l35_1, u35_1⟩⟩ := t35
        replace e35 := tmp_of e35
        obtain ⟨_, ⟨cb2_0, cb2_1, rfl, ⟨xb2_0, rfl, lb2_0, ub2_0⟩, ⟨xb2_1, rfl, lb2_1, ub2_1⟩⟩, hbx_⟩ := hI.2.2.2.1
        have kb2_0 : wa.cell? ⟨w.heap.size, 0, Option.none⟩ = some _ := (cell_of_row wa w.heap.size 0 _ _ _ hbx_).trans rfl
        have kb2_1 : wa.cell? ⟨w.heap.size, 1, Option.none⟩ = some _ := (cell_of_row wa w.heap.size 1 _ _ _ hbx_).trans rfl
        have fb0 := frozen_of_row wa w.heap.size 0 _ _ hbx_
        have fb1 := frozen_of_row wa w.heap.size 1 _ _ hbx_
        go_simp
        have hgs_ := setCells_grown w.heap.size [(.int .i64 x35_0), (.int .i64 x35_1)] wa 0
        exact hK undef _ trivial (relOf_yes rfl (above_of hgs_ (fun k e => by cases e; omega))) ⟨hI.1.step hgs_ (fun k e => by cases e; exact .inl (.inr rfl)), (hI.2.1.grown hgs_ (fun k e => by cases e; omega)).mono (by omega), Nat.le_trans hI.2.2.1 hgs_.size, hI.2.2.2.1.put [(.int .i64 x35_0), (.int .i64 x35_1)] (fun cs hcs => by obtain ⟨_, _, rfl, _⟩ := hcs; rfl) ⟨_, _, rfl, ⟨_, rfl, by omega, by omega⟩, ⟨_, rfl, by omega, by omega⟩⟩, hI.2.2.2.2.grown hgs_ (fun e => by cases e; omega)⟩
      · intro a k wa K Q hkn hI hp hK
        replace hkn : k < 20 := hkn
        exact op_move _ (.inr rfl) (hK _ _ (hp.dep 1 36 (by kernel_rfl)) (relOf_no (by decide) (World.grownBy.refl _ _)) ⟨hI.1, hI.2.1.mono (by omega), hI.2.2.1, hI.2.2.2.1, hI.2.2.2.2⟩)
      · intro a k wa K Q hkn hI hp hK
        replace hkn : k < 20 := hkn
        exact op_move _ (.inr rfl) (hK _ _ (hp.dep 2 37 (by kernel_rfl)) (relOf_no (by decide) (World.grownBy.refl _ _)) ⟨hI.1, hI.2.1.mono (by omega), hI.2.2.1, hI.2.2.2.1, hI.2.2.2.2⟩)
      · intro a k wa K Q hkn hI hp hK
        replace hkn : k < 20 := hkn
        exact op_move _ (.inr rfl) (hK _ _ (hp.dep 15 50 (by kernel_rfl)) (relOf_no (by decide) (World.grownBy.refl _ _)) ⟨hI.1, hI.2.1.mono (by omega), hI.2.2.1, hI.2.2.2.1, hI.2.2.2.2⟩)
    case fin6 =>
      intro f W7 hT hI0
      obtain ⟨hG_, hR_, _, hb2, hb6⟩ : GrownP (fun k => k = br ∨ k = w.heap.size) wd7 W7 ∧ RdrT W7 br w.heap.size (310 + 1 * 20) ∧ wd7.heap.size ≤ W7.heap.size ∧ BoxP (fun cs => ∃ c0 c1 : Value, cs = [c0, c1] ∧ IsI (0) (1001) c0 ∧ IsI (0) (15) c1) 27 w.heap.size W7 ∧ BoxP (fun cs => ∃ c0 c1 : Value, cs = [c0, c1] ∧ IsI (0) (1001) c0 ∧ IsI (0) (15) c1) 27 g6 W7 := hI0
      have hv0 : (f 17) = .slice A5 l5.length c5 := hT 17 (by decide) rfl rfl
      have hy : (f 18) = .int .i64 (p9) := hT 18 (by decide) rfl rfl
      have hx : IsI (0) (1001) (f 19) := hT 19 (by decide) rfl rfl
      obtain ⟨hx, hx_e, hx_l, hx_u⟩ := hx
      clear hT
      replace hD := hD.grownP hG_ (fun k hk e => by have := hD.ge k e; rcases hk with hk | hk <;> omega)
      replace hGd := GrownP.to hGd hG_ (fun k hk => by rcases hk with rfl | rfl; exact .inl rfl; exact .inr (by omega))
      replace hRd := hR_
      clear hG_ hR_
      simp only [putAll, hv0, hy, hx_e]
      go_simp
      clear hv0
      clear hy
      clear hx_e
      go_wp2
      obtain ⟨_, ⟨d0, d1, rfl, ⟨z0, rfl, z0l, z0u⟩, ⟨z1, rfl, z1l, z1u⟩⟩, hx3⟩ := hb2
      have k30 : W7.cell? ⟨w.heap.size, 0, Option.none⟩ = some _ := (cell_of_row W7 w.heap.size 0 _ _ _ hx3).trans rfl
      have k31 : W7.cell? ⟨w.heap.size, 1, Option.none⟩ = some _ := (cell_of_row W7 w.heap.size 1 _ _ _ hx3).trans rfl
      try simp only [Exit.inBlock, Exit.then]
      obtain ⟨us, h1, _, h2⟩ := hD
      exact bodyPost_ret (v := .tuple #[.agg #[.int .i64 z0, .int .i64 z1], .slice A5 l5.length c5, .int .i64 (p9), .int .i64 hx]) (by simp only [results, Try.results27]; go_simp) rfl ⟨us, .slice A5 l5.length c5, z0, z1, p9, hx, rfl, h1, ⟨z0l, z0u⟩, ⟨z1l, z1u⟩, (by omega), h2.lower (by omega), (Below.refl _ _).grown hGd (Nat.le_refl _) (fun k e => by cases e; omega)⟩
end Go.Proofs.Ytflhmkpabhedjaa

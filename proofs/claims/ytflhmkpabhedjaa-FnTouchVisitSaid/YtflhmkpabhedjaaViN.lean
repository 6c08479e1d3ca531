/- Drawn arguments of the laws of visits. -/
import Derived.Test.YtflhmkpabhedjaaViM
namespace Go.Proofs.Ytflhmkpabhedjaa
open Go.RowKit

set_option maxRecDepth 100000 in
set_option maxHeartbeats 8000000 in
theorem DrawVisitsValid_d {A : Option Addr} {l : List Int} {c : Nat} {w : World} (hC : CodeR w w.heap.size A l) (hc : l.length ≤ c) :
    Calls Try.prog 17 #[.slice A l.length c] w fun e w' => ∃ (us : ViL) (v : Value) (long idle : Int), e = .returned (.tuple #[.agg #[.int .i64 long, .int .i64 idle], v]) ∧ us.length ≤ 8 ∧ (0 ≤ long ∧ long ≤ 1001) ∧ (0 ≤ idle ∧ idle ≤ 15) ∧ OwnA w.heap.size 38 3 viEnc w' v us ∧ Below w.heap.size w w' := by
  have hB0 := below_alloc w (.cells #[.int .i64 0, .int .i64 0] 27)
  have hb2 : BoxP (fun cs => ∃ c0 c1 : Value, cs = [c0, c1] ∧ IsI 0 1001 c0 ∧ IsI 0 15 c1) 27 w.heap.size (w.alloc (.cells #[.int .i64 0, .int .i64 0] 27)) :=
    BoxP.new w [.int .i64 0, .int .i64 0] ⟨_, _, rfl, ⟨_, rfl, by omega, by omega⟩, ⟨_, rfl, by omega, by omega⟩⟩
  obtain ⟨W, hW⟩ : ∃ W, W = w.alloc (.cells #[.int .i64 0, .int .i64 0] 27) := ⟨_, rfl⟩
  have hs : W.heap.size = w.heap.size + 1 := by rw [hW]; simp
  rw [← hW] at hB0 hb2
  have HW := Lib.hid hW
  clear hW
  go_enter Try.func17, Try.ntmps17
  go_wp2_with fail
  rw [← HW.out]
  refine (l20Open_any (cb := w.heap.size) hB0.size (hC.below hB0) hc hC.1).mono ?_
  rintro e w1 ⟨rfl, hR, hB1⟩
  replace hb2 := hb2.below hB1
  have hw1 := hR.lt
  obtain ⟨br, hbr⟩ : ∃ br, br = W.heap.size := ⟨_, rfl⟩
  rw [← hbr] at hR hw1 ⊢
  have hgb : w.heap.size < br := by omega
  have hGd := grown_trans_ (grown_of_below hB0 (some br)) (grown_of_below hB1 _)
  clear hbr hs hB0 hB1
  go_wp2_with fail
  refine (l20Visits_d (N := 0) ⟨0, by omega, by omega, hR⟩ (by omega) (by omega) (by omega)).mono ?_
  rintro e w2 ⟨v, long, idle, rfl, ⟨hl0, hl1⟩, ⟨hi0, hi1⟩, hD, hRd, hG⟩
  replace hb2 := hb2.grown hG (fun e => by cases e; omega)
  replace hGd := grown_trans_ hGd hG
  have hsz2 := hGd.size
  have hw2 := hG.size
  have htop := hD.top
  clear hG hR
  obtain ⟨_, ⟨y0, y1, rfl, ⟨z0, rfl, _, _⟩, ⟨z1, rfl, _, _⟩⟩, hx4⟩ := hb2
  obtain ⟨l5, hl5, hq5, A5, c5, rfl, ho5⟩ := hD
  have hD : VDr w1.heap.size 8 w2 (.slice A5 l5.length c5) := ⟨l5, hl5, hq5, A5, c5, rfl, ho5⟩
  have d0 : w2.cell? ⟨w.heap.size, 0, none⟩ = some (.int .i64 z0) := (cell_of_row w2 w.heap.size 0 _ _ _ hx4).trans rfl
  have d1 : w2.cell? ⟨w.heap.size, 1, none⟩ = some (.int .i64 z1) := (cell_of_row w2 w.heap.size 1 _ _ _ hx4).trans rfl
  have f0 := frozen_of_row w2 w.heap.size 0 _ _ hx4
  have f1 := frozen_of_row w2 w.heap.size 1 _ _ hx4
  have hs4 := setCells_grown w.heap.size [.int .i64 long, .int .i64 idle] w2 0
  have HRO := Lib.hid (own_apart ho5 hs4 (fun k hk e => own_ne ho5 hx4 (by decide) k hk e))
  have HBB := Lib.hid (((Below.refl w.heap.size w).grown hGd (Nat.le_refl _) (fun k e => by cases e; omega)).grown hs4 (by omega) (fun k e => by cases e; exact Nat.le_refl _))
  clear hs4 hx4
  go_wp2
  exact bodyPost_ret (v := .tuple #[.agg #[.int .i64 long, .int .i64 idle], .slice A5 l5.length c5]) (by simp only [results, Try.results17]; go_simp) rfl ⟨l5, _, long, idle, rfl, hl5, ⟨hl0, hl1⟩, ⟨hi0, hi1⟩, ⟨A5, c5, rfl, own_lower HRO.out (by omega)⟩, HBB.out⟩

set_option maxRecDepth 100000 in
set_option maxHeartbeats 8000000 in
theorem DrawEndVisits_d {A : Option Addr} {l : List Int} {c : Nat} {w : World} (hC : CodeR w w.heap.size A l) (hc : l.length ≤ c) :
    Calls Try.prog 23 #[.slice A l.length c] w fun e w' => ∃ (us : ViL) (v : Value) (long idle now : Int), e = .returned (.tuple #[.agg #[.int .i64 long, .int .i64 idle], v, .int .i64 now]) ∧ us.length ≤ 8 ∧ (0 ≤ long ∧ long ≤ 1001) ∧ (0 ≤ idle ∧ idle ≤ 15) ∧ (0 ≤ now ∧ now ≤ 1001) ∧ OwnA w.heap.size 38 3 viEnc w' v us ∧ Below w.heap.size w w' := by
  have hB0 := below_alloc w (.cells #[.int .i64 0, .int .i64 0] 27)
  have hb2 : BoxP (fun cs => ∃ c0 c1 : Value, cs = [c0, c1] ∧ IsI 0 1001 c0 ∧ IsI 0 15 c1) 27 w.heap.size (w.alloc (.cells #[.int .i64 0, .int .i64 0] 27)) :=
    BoxP.new w [.int .i64 0, .int .i64 0] ⟨_, _, rfl, ⟨_, rfl, by omega, by omega⟩, ⟨_, rfl, by omega, by omega⟩⟩
  obtain ⟨W, hW⟩ : ∃ W, W = w.alloc (.cells #[.int .i64 0, .int .i64 0] 27) := ⟨_, rfl⟩
  have hs : W.heap.size = w.heap.size + 1 := by rw [hW]; simp
  rw [← hW] at hB0 hb2
  have HW := Lib.hid hW
  clear hW
  go_enter Try.func23, Try.ntmps23
  go_wp2_with fail
  rw [← HW.out]
  refine (l20Open_any (cb := w.heap.size) hB0.size (hC.below hB0) hc hC.1).mono ?_
  rintro e w1 ⟨rfl, hR, hB1⟩
  replace hb2 := hb2.below hB1
  have hw1 := hR.lt
  obtain ⟨br, hbr⟩ : ∃ br, br = W.heap.size := ⟨_, rfl⟩
  rw [← hbr] at hR hw1 ⊢
  have hgb : w.heap.size < br := by omega
  have hGd := grown_trans_ (grown_of_below hB0 (some br)) (grown_of_below hB1 _)
  clear hbr hs hB0 hB1
  go_wp2_with fail
  refine (l20Visits_d (N := 0) ⟨0, by omega, by omega, hR⟩ (by omega) (by omega) (by omega)).mono ?_
  rintro e w2 ⟨v, long, idle, rfl, ⟨hl0, hl1⟩, ⟨hi0, hi1⟩, hD, hRd, hG⟩
  replace hb2 := hb2.grown hG (fun e => by cases e; omega)
  replace hGd := grown_trans_ hGd hG
  have hsz2 := hGd.size
  have hw2 := hG.size
  have htop := hD.top
  clear hG hR
  obtain ⟨g6, hg6⟩ : ∃ g, g = w2.heap.size := ⟨_, rfl⟩
  obtain ⟨X, hX⟩ : ∃ X, X = w2.alloc (.cells #[.int .i64 long, .int .i64 idle] 27) := ⟨_, rfl⟩
  have hb6 : BoxP (fun cs => ∃ c0 c1 : Value, cs = [c0, c1] ∧ IsI 0 1001 c0 ∧ IsI 0 15 c1) 27 g6 X := by
    rw [hX, hg6]; exact BoxP.new w2 [.int .i64 long, .int .i64 idle] ⟨_, _, rfl, ⟨_, rfl, by omega, by omega⟩, ⟨_, rfl, by omega, by omega⟩⟩
  have hA1 : Below w2.heap.size w2 X := by rw [hX]; exact below_alloc _ _
  have hg6w : w.heap.size < g6 := by omega
  have hgbr : br < g6 := by omega
  replace hb2 := hb2.below hA1
  replace hD := hD.below hA1
  replace hRd := hRd.below hA1
  replace hGd := grown_trans_ hGd (grown_of_below hA1 _)
  have htop6 : ∀ k, v.ownBlock = some k → k < g6 := fun k hk => by have := htop k hk; omega
  have HX := Lib.hid hX
  have HG6 := Lib.hid hg6
  clear hX hg6 hA1 hsz2 hw2 htop
  go_wp2_with fail
  rw [← HX.out, ← HG6.out]
  have hcb3 : w.heap.size ≤ br := hRd.cb_
  have hbr3 : br < X.heap.size := hRd.lt
  have hBs3 : w.heap.size ≤ X.heap.size := hGd.size
  have hbx3_2 : w.heap.size < X.heap.size := hb2.lt
  have hbx3_6 : g6 < X.heap.size := hb6.lt
  refine wp_region_draws (some 15) (fun _ => True) (fun i wz vz => match i with | 0 => ∃ c0 c1 : Value, vz = .agg #[c0, c1] ∧ IsI (0) (1001) c0 ∧ IsI (0) (15) c1 | 1 => vz = v | 2 => vz = .pointer (some ⟨br, 0, Option.none⟩) | 3 => IsI (0) (39) vz | 4 => vz = .pointer (some ⟨br, 0, Option.none⟩) | 5 => IsI (0) (19) vz | 6 => IsI (10) (29) vz | 7 => SlP X.heap.size 1 3 (fun cs => ∃ c0 : Value, cs = [c0] ∧ IsI (0) (1001) c0) wz vz | 8 => SlP X.heap.size 1 5 (fun cs => ∃ c0 : Value, cs = [c0] ∧ IsI (0) (2) c0) wz vz | 9 => vz = .pointer (some ⟨br, 0, Option.none⟩) | 10 => IsI (0) (4) vz | 11 => PtrP X.heap.size (fun cs => ∃ c0 : Value, cs = [c0] ∧ IsI (0) (2) c0) wz vz | 12 => IsI (0) (2) vz | 13 => PtrP X.heap.size (fun cs => ∃ c0 : Value, cs = [c0] ∧ IsI (0) (1001) c0) wz vz | 14 => IsI (0) (1001) vz | 16 => vz = v | 17 => IsI (0) (1001) vz | _ => True) (fun k wz => GrownP (fun k => k = br ∨ k = w.heap.size) X wz ∧ RdrT wz br w.heap.size (300 + 1 * k) ∧ X.heap.size ≤ wz.heap.size ∧ BoxP (fun cs => ∃ c0 c1 : Value, cs = [c0, c1] ∧ IsI (0) (1001) c0 ∧ IsI (0) (15) c1) 27 w.heap.size wz ∧ BoxP (fun cs => ∃ c0 c1 : Value, cs = [c0, c1] ∧ IsI (0) (1001) c0 ∧ IsI (0) (15) c1) 27 g6 wz) (relOf (some 15) X.heap.size br) (fun _ => Option.none) (by kernel_rfl) (by kernel_rfl) (by kernel_rfl) ?stab3 ?stabG3 ?inv3 ?pre3 ?all3 ?fin3
  case stab3 =>
    intro i j wa wb v hR hk hne hd _ hT
    have hA := relOf_above hbr3 hR
    match j, hk, hne, hd, hT with
    | 0, hk, hne, hd, hT => exact hT
    | 1, hk, hne, hd, hT => exact hT
    | 2, hk, hne, hd, hT => exact hT
    | 3, hk, hne, hd, hT => exact hT
    | 4, hk, hne, hd, hT => exact hT
    | 5, hk, hne, hd, hT => exact hT
    | 6, hk, hne, hd, hT => exact hT
    | 7, hk, hne, hd, hT => exact hT.above hA
    | 8, hk, hne, hd, hT => exact hT.above hA
    | 9, hk, hne, hd, hT => exact hT
    | 10, hk, hne, hd, hT => exact hT
    | 11, hk, hne, hd, hT => exact hT.above hA
    | 12, hk, hne, hd, hT => exact hT
    | 13, hk, hne, hd, hT => exact hT.above hA
    | 14, hk, hne, hd, hT => exact hT
    | 16, hk, hne, hd, hT => exact hT
    | 17, hk, hne, hd, hT => exact hT
    | 15, _, _, _, _ => trivial
    | n + 18, _, _, _, _ => trivial
  case stabG3 =>
    intros; trivial
  case inv3 =>
    exact ⟨GrownP.refl _ _, (hRd.below (ext_drew (Below.refl _ _))).mono (by omega), Nat.le_refl _, hb2.below (ext_drew (Below.refl _ _)), hb6.below (ext_drew (Below.refl _ _))⟩
  case pre3 =>
    trivial
  case all3 =>
    refine RAll.cons rfl ?_ (RAll.cons rfl ?_ (RAll.cons rfl ?_ (RAll.cons rfl ?_ (RAll.cons rfl ?_ (RAll.cons rfl ?_ (RAll.cons rfl ?_ (RAll.cons rfl ?_ (RAll.cons rfl ?_ (RAll.cons rfl ?_ (RAll.cons rfl ?_ (RAll.cons rfl ?_ (RAll.cons rfl ?_ (RAll.cons rfl ?_ (RAll.cons rfl ?_ (RAll.cons rfl ?_ (RAll.cons rfl ?_ (RAll.cons rfl ?_ (RAll.none_))))))))))))))))))
    · intro a k wa K Q hkn hI hp hK
      replace hkn : k < 18 := hkn
      have e6 := tmp_of (show a.eval (.tmp 6) = .pointer (some ⟨g6, 0, Option.none⟩) from hp.keep 6 (by kernel_rfl))
      obtain ⟨_, ⟨cb6_0, cb6_1, rfl, ⟨xb6_0, rfl, lb6_0, ub6_0⟩, ⟨xb6_1, rfl, lb6_1, ub6_1⟩⟩, hbx_⟩ := hI.2.2.2.2
      have kb6_0 : wa.cell? ⟨g6, 0, Option.none⟩ = some _ := (cell_of_row wa g6 0 _ _ _ hbx_).trans rfl
      have kb6_1 : wa.cell? ⟨g6, 1, Option.none⟩ = some _ := (cell_of_row wa g6 1 _ _ _ hbx_).trans rfl
      go_simp
      exact hK _ _ ⟨_, _, rfl, ⟨_, rfl, by omega, by omega⟩, ⟨_, rfl, by omega, by omega⟩⟩ (relOf_no (by decide) (World.grownBy.refl _ _)) ⟨hI.1, hI.2.1.mono (by omega), hI.2.2.1, hI.2.2.2.1, hI.2.2.2.2⟩
    · intro a k wa K Q hkn hI hp hK
      replace hkn : k < 18 := hkn
      exact op_move _ (.inl rfl) (hK _ _ (hp.keep 7 (by kernel_rfl)) (relOf_no (by decide) (World.grownBy.refl _ _)) ⟨hI.1, hI.2.1.mono (by omega), hI.2.2.1, hI.2.2.2.1, hI.2.2.2.2⟩)
    · intro a k wa K Q hkn hI hp hK
      replace hkn : k < 18 := hkn
      exact op_move _ (.inl rfl) (hK _ _ (hp.keep 5 (by kernel_rfl)) (relOf_no (by decide) (World.grownBy.refl _ _)) ⟨hI.1, hI.2.1.mono (by omega), hI.2.2.1, hI.2.2.2.1, hI.2.2.2.2⟩)
    · intro a k wa K Q hkn hI hp hK
      replace hkn : k < 18 := hkn
      have e17 := tmp_of (show a.eval (.tmp 17) = .pointer (some ⟨br, 0, Option.none⟩) from hp.dep 2 17 (by kernel_rfl))
      go_simp
      refine (pick_d hI.2.1 (by omega) (by omega) (by omega)).mono ?_
      rintro e wb ⟨x, rfl, hx0, hx1, hR, hG⟩
      exact hK _ _ ⟨x, rfl, hx0, by omega⟩ (relOf_no (by decide) hG) ⟨hI.1.step hG (fun k e => by cases e; exact .inl (.inl rfl)), hR.mono (by omega), Nat.le_trans hI.2.2.1 hG.size, hI.2.2.2.1.grown hG (fun e => by cases e; omega), hI.2.2.2.2.grown hG (fun e => by cases e; omega)⟩
    · intro a k wa K Q hkn hI hp hK
      replace hkn : k < 18 := hkn
      exact op_move _ (.inl rfl) (hK _ _ (hp.keep 5 (by kernel_rfl)) (relOf_no (by decide) (World.grownBy.refl _ _)) ⟨hI.1, hI.2.1.mono (by omega), hI.2.2.1, hI.2.2.2.1, hI.2.2.2.2⟩)
    · intro a k wa K Q hkn hI hp hK
      replace hkn : k < 18 := hkn
      have e19 := tmp_of (show a.eval (.tmp 19) = .pointer (some ⟨br, 0, Option.none⟩) from hp.dep 4 19 (by kernel_rfl))
      go_simp
      refine (pick_d hI.2.1 (by omega) (by omega) (by omega)).mono ?_
      rintro e wb ⟨x, rfl, hx0, hx1, hR, hG⟩
      exact hK _ _ ⟨x, rfl, hx0, by omega⟩ (relOf_no (by decide) hG) ⟨hI.1.step hG (fun k e => by cases e; exact .inl (.inl rfl)), hR.mono (by omega), Nat.le_trans hI.2.2.1 hG.size, hI.2.2.2.1.grown hG (fun e => by cases e; omega), hI.2.2.2.2.grown hG (fun e => by cases e; omega)⟩
    · intro a k wa K Q hkn hI hp hK
      replace hkn : k < 18 := hkn
      have t20 : IsI (0) (19) (a.eval (.tmp 20)) := hp.dep 5 20 (by kernel_rfl)
      obtain ⟨x20, e20, l20, u20⟩ := t20
      replace e20 := tmp_of e20
      go_simp
      exact hK _ _ ⟨_, rfl, by (first | omega | (rw [IntWalk.i64_in _ (by omega)]; omega) | (simp only [IntKind.wrap_i64]; omega)), by (first | omega | (rw [IntWalk.i64_in _ (by omega)]; omega) | (simp only [IntKind.wrap_i64]; omega))⟩ (relOf_no (by decide) (World.grownBy.refl _ _)) ⟨hI.1, hI.2.1.mono (by omega), hI.2.2.1, hI.2.2.2.1, hI.2.2.2.2⟩
    · intro a k wa K Q hkn hI hp hK
      replace hkn : k < 18 := hkn
      have t18 : IsI (0) (39) (a.eval (.tmp 18)) := hp.dep 3 18 (by kernel_rfl)
      obtain ⟨x18, e18, l18, u18⟩ := t18
      replace e18 := tmp_of e18
      have t21 : IsI (10) (29) (a.eval (.tmp 21)) := hp.dep 6 21 (by kernel_rfl)
      obtain ⟨x21, e21, l21, u21⟩ := t21
      replace e21 := tmp_of e21
      have hwi : X.heap.size ≤ wa.heap.size := hI.2.2.1
      go_simp
      exact hK _ _ (sl_new hwi [[_], [_], [_]] rfl rfl (by decide) rfl ⟨⟨_, rfl, ⟨_, rfl, by omega, by omega⟩⟩, ⟨_, rfl, ⟨_, rfl, by omega, by omega⟩⟩, ⟨_, rfl, ⟨_, rfl, by omega, by omega⟩⟩, trivial⟩) (relOf_no (by decide) (grown_alloc_ _ _ _)) ⟨hI.1.step (grown_alloc_ _ _ Option.none) (fun k e => by cases e), (hI.2.1.below (below_alloc _ _)).mono (by omega), Nat.le_trans hI.2.2.1 (below_alloc _ _).size, hI.2.2.2.1.below (below_alloc _ _), hI.2.2.2.2.below (below_alloc _ _)⟩
    · intro a k wa K Q hkn hI hp hK
      replace hkn : k < 18 := hkn
      have hwi : X.heap.size ≤ wa.heap.size := hI.2.2.1
      go_simp
      exact hK _ _ (sl_new hwi [[_], [_], [_], [_], [_]] rfl rfl (by decide) rfl ⟨⟨_, rfl, ⟨_, rfl, by omega, by omega⟩⟩, ⟨_, rfl, ⟨_, rfl, by omega, by omega⟩⟩, ⟨_, rfl, ⟨_, rfl, by omega, by omega⟩⟩, ⟨_, rfl, ⟨_, rfl, by omega, by omega⟩⟩, ⟨_, rfl, ⟨_, rfl, by omega, by omega⟩⟩, trivial⟩) (relOf_no (by decide) (grown_alloc_ _ _ _)) ⟨hI.1.step (grown_alloc_ _ _ Option.none) (fun k e => by cases e), (hI.2.1.below (below_alloc _ _)).mono (by omega), Nat.le_trans hI.2.2.1 (below_alloc _ _).size, hI.2.2.2.1.below (below_alloc _ _), hI.2.2.2.2.below (below_alloc _ _)⟩
    · intro a k wa K Q hkn hI hp hK
      replace hkn : k < 18 := hkn
      exact op_move _ (.inl rfl) (hK _ _ (hp.keep 5 (by kernel_rfl)) (relOf_no (by decide) (World.grownBy.refl _ _)) ⟨hI.1, hI.2.1.mono (by omega), hI.2.2.1, hI.2.2.2.1, hI.2.2.2.2⟩)
    · intro a k wa K Q hkn hI hp hK
      replace hkn : k < 18 := hkn
      have e24 := tmp_of (show a.eval (.tmp 24) = .pointer (some ⟨br, 0, Option.none⟩) from hp.dep 9 24 (by kernel_rfl))
      go_simp
      refine (pick_d hI.2.1 (by omega) (by omega) (by omega)).mono ?_
      rintro e wb ⟨x, rfl, hx0, hx1, hR, hG⟩
      exact hK _ _ ⟨x, rfl, hx0, by omega⟩ (relOf_no (by decide) hG) ⟨hI.1.step hG (fun k e => by cases e; exact .inl (.inl rfl)), hR.mono (by omega), Nat.le_trans hI.2.2.1 hG.size, hI.2.2.2.1.grown hG (fun e => by cases e; omega), hI.2.2.2.2.grown hG (fun e => by cases e; omega)⟩
    · intro a k wa K Q hkn hI hp hK
      replace hkn : k < 18 := hkn
      have t23 : SlP X.heap.size 1 5 (fun cs => ∃ c0 : Value, cs = [c0] ∧ IsI (0) (2) c0) wa (a.eval (.tmp 23)) := hp.dep 8 23 (by kernel_rfl)
      obtain ⟨n23, g23, c23, e23, b23, h23⟩ := t23
      replace e23 := tmp_of e23
      have t25 : IsI (0) (4) (a.eval (.tmp 25)) := hp.dep 10 25 (by kernel_rfl)
      obtain ⟨x25, e25, l25, u25⟩ := t25
      replace e25 := tmp_of e25
      have lt25 : x25 < 5 := by omega
      go_simp
      exact hK _ _ ⟨_, _, rfl, b23, by have h_ := h23 x25.toNat (by omega); rwa [Nat.mul_one] at h_⟩ (relOf_no (by decide) (World.grownBy.refl _ _)) ⟨hI.1, hI.2.1.mono (by omega), hI.2.2.1, hI.2.2.2.1, hI.2.2.2.2⟩
    · intro a k wa K Q hkn hI hp hK
      replace hkn : k < 18 := hkn
      have t26 : PtrP X.heap.size (fun cs => ∃ c0 : Value, cs = [c0] ∧ IsI (0) (2) c0) wa (a.eval (.tmp 26)) := hp.dep 11 26 (by kernel_rfl)
      obtain ⟨g26, o26, e26, b26, cs26, ⟨c26_0, rfl, ⟨x26_0, rfl, l26_0, u26_0⟩⟩, h26⟩ := t26
      have k26_0 : wa.cell? ⟨g26, o26, Option.none⟩ = some _ := h26 0 _ rfl
      replace e26 := tmp_of e26
      go_simp
      exact hK _ _ ⟨_, rfl, by omega, by omega⟩ (relOf_no (by decide) (World.grownBy.refl _ _)) ⟨hI.1, hI.2.1.mono (by omega), hI.2.2.1, hI.2.2.2.1, hI.2.2.2.2⟩
    · intro a k wa K Q hkn hI hp hK
      replace hkn : k < 18 := hkn
      have t22 : SlP X.heap.size 1 3 (fun cs => ∃ c0 : Value, cs = [c0] ∧ IsI (0) (1001) c0) wa (a.eval (.tmp 22)) := hp.dep 7 22 (by kernel_rfl)
      obtain ⟨n22, g22, c22, e22, b22, h22⟩ := t22
      replace e22 := tmp_of e22
      have t27 : IsI (0) (2) (a.eval (.tmp 27)) := hp.dep 12 27 (by kernel_rfl)
      obtain ⟨x27, e27, l27, u27⟩ := t27
      replace e27 := tmp_of e27
      have lt27 : x27 < 3 := by omega
      go_simp
      exact hK _ _ ⟨_, _, rfl, b22, by have h_ := h22 x27.toNat (by omega); rwa [Nat.mul_one] at h_⟩ (relOf_no (by decide) (World.grownBy.refl _ _)) ⟨hI.1, hI.2.1.mono (by omega), hI.2.2.1, hI.2.2.2.1, hI.2.2.2.2⟩
    · intro a k wa K Q hkn hI hp hK
      replace hkn : k < 18 := hkn
      have t28 : PtrP X.heap.size (fun cs => ∃ c0 : Value, cs = [c0] ∧ IsI (0) (1001) c0) wa (a.eval (.tmp 28)) := hp.dep 13 28 (by kernel_rfl)
      obtain ⟨g28, o28, e28, b28, cs28, ⟨c28_0, rfl, ⟨x28_0, rfl, l28_0, u28_0⟩⟩, h28⟩ := t28
      have k28_0 : wa.cell? ⟨g28, o28, Option.none⟩ = some _ := h28 0 _ rfl
      replace e28 := tmp_of e28
      go_simp
      exact hK _ _ ⟨_, rfl, by omega, by omega⟩ (relOf_no (by decide) (World.grownBy.refl _ _)) ⟨hI.1, hI.2.1.mono (by omega), hI.2.2.1, hI.2.2.2.1, hI.2.2.2.2⟩
    · intro a k wa K Q hkn hI hp hK
      replace hkn : k < 18 := hkn
      have e2 := tmp_of (show a.eval (.tmp 2) = .pointer (some ⟨w.heap.size, 0, Option.none⟩) from hp.keep 2 (by kernel_rfl))
      have t15 : ∃ c0 c1 : Value, (a.eval (.tmp 15)) = .agg #[c0, c1] ∧ IsI (0) (1001) c0 ∧ IsI (0) (15) c1 := hp.dep 0 15 (by kernel_rfl)
      obtain ⟨c15_0, c15_1, e15, ⟨x15_0, rfl, l15_0, u15_0⟩, ⟨x15_1, rfl, l15_1, u15_1⟩⟩ := t15
      replace e15 := tmp_of e15
      obtain ⟨_, ⟨cb2_0, cb2_1, rfl, ⟨xb2_0, rfl, lb2_0, ub2_0⟩, ⟨xb2_1, rfl, lb2_1, ub2_1⟩⟩, hbx_⟩ := hI.2.2.2.1
      have kb2_0 : wa.cell? ⟨w.heap.size, 0, Option.none⟩ = some _ := (cell_of_row wa w.heap.size 0 _ _ _ hbx_).trans rfl
      have kb2_1 : wa.cell? ⟨w.heap.size, 1, Option.none⟩ = some _ := (cell_of_row wa w.heap.size 1 _ _ _ hbx_).trans rfl
      have fb0 := frozen_of_row wa w.heap.size 0 _ _ hbx_
      have fb1 := frozen_of_row wa w.heap.size 1 _ _ hbx_
      go_simp
      have hgs_ := setCells_grown w.heap.size [(.int .i64 x15_0), (.int .i64 x15_1)] wa 0
      exact hK undef _ trivial (relOf_yes rfl (above_of hgs_ (fun k e => by cases e; omega))) ⟨hI.1.step hgs_ (fun k e => by cases e; exact .inl (.inr rfl)), (hI.2.1.grown hgs_ (fun k e => by cases e; omega)).mono (by omega), Nat.le_trans hI.2.2.1 hgs_.size, hI.2.2.2.1.put [(.int .i64 x15_0), (.int .i64 x15_1)] (fun cs hcs => by obtain ⟨_, _, rfl, _⟩ := hcs; rfl) ⟨_, _, rfl, ⟨_, rfl, by omega, by omega⟩, ⟨_, rfl, by omega, by omega⟩⟩, hI.2.2.2.2.grown hgs_ (fun e => by cases e; omega)⟩
    · intro a k wa K Q hkn hI hp hK
      replace hkn : k < 18 := hkn
      exact op_move _ (.inr rfl) (hK _ _ (hp.dep 1 16 (by kernel_rfl)) (relOf_no (by decide) (World.grownBy.refl _ _)) ⟨hI.1, hI.2.1.mono (by omega), hI.2.2.1, hI.2.2.2.1, hI.2.2.2.2⟩)
    · intro a k wa K Q hkn hI hp hK
      replace hkn : k < 18 := hkn
      exact op_move _ (.inr rfl) (hK _ _ (hp.dep 14 29 (by kernel_rfl)) (relOf_no (by decide) (World.grownBy.refl _ _)) ⟨hI.1, hI.2.1.mono (by omega), hI.2.2.1, hI.2.2.2.1, hI.2.2.2.2⟩)
  case fin3 =>
    intro f W7 hT hI0
    obtain ⟨hG_, hR_, _, hb2, hb6⟩ : GrownP (fun k => k = br ∨ k = w.heap.size) X W7 ∧ RdrT W7 br w.heap.size (300 + 1 * 18) ∧ X.heap.size ≤ W7.heap.size ∧ BoxP (fun cs => ∃ c0 c1 : Value, cs = [c0, c1] ∧ IsI (0) (1001) c0 ∧ IsI (0) (15) c1) 27 w.heap.size W7 ∧ BoxP (fun cs => ∃ c0 c1 : Value, cs = [c0, c1] ∧ IsI (0) (1001) c0 ∧ IsI (0) (15) c1) 27 g6 W7 := hI0
    have hv0 : (f 16) = v := hT 16 (by decide) rfl rfl
    have hx : IsI (0) (1001) (f 17) := hT 17 (by decide) rfl rfl
    obtain ⟨hx, hx_e, hx_l, hx_u⟩ := hx
    clear hT
    replace hD := hD.grownP hG_ (fun k hk e => by have := hD.ge k e; rcases hk with hk | hk <;> omega)
    replace hGd := GrownP.to hGd hG_ (fun k hk => by rcases hk with rfl | rfl; exact .inl rfl; exact .inr (by omega))
    replace hRd := hR_
    clear hG_ hR_
    simp only [putAll, hv0, hx_e]
    go_simp
    clear hv0
    clear hx_e
    go_wp2
    obtain ⟨_, ⟨d0, d1, rfl, ⟨z0, rfl, z0l, z0u⟩, ⟨z1, rfl, z1l, z1u⟩⟩, hx3⟩ := hb2
    have k30 : W7.cell? ⟨w.heap.size, 0, Option.none⟩ = some _ := (cell_of_row W7 w.heap.size 0 _ _ _ hx3).trans rfl
    have k31 : W7.cell? ⟨w.heap.size, 1, Option.none⟩ = some _ := (cell_of_row W7 w.heap.size 1 _ _ _ hx3).trans rfl
    try simp only [Exit.inBlock, Exit.then]
    obtain ⟨us, h1, _, h2⟩ := hD
    exact bodyPost_ret (v := .tuple #[.agg #[.int .i64 z0, .int .i64 z1], v, .int .i64 hx]) (by simp only [results, Try.results23]; go_simp) rfl ⟨us, v, z0, z1, hx, rfl, h1, ⟨z0l, z0u⟩, ⟨z1l, z1u⟩, (by omega), h2.lower (by omega), (Below.refl _ _).grown hGd (Nat.le_refl _) (fun k e => by cases e; omega)⟩

set_option maxRecDepth 100000 in
set_option maxHeartbeats 8000000 in
theorem DrawBeginVisit_d {A : Option Addr} {l : List Int} {c : Nat} {w : World} (hC : CodeR w w.heap.size A l) (hc : l.length ≤ c) :
    Calls Try.prog 30 #[.slice A l.length c] w fun e w' => ∃ (us : ViL) (v : Value) (long idle who now : Int), e = .returned (.tuple #[.agg #[.int .i64 long, .int .i64 idle], v, .int .i64 who, .int .i64 now]) ∧ us.length ≤ 8 ∧ (0 ≤ long ∧ long ≤ 1001) ∧ (0 ≤ idle ∧ idle ≤ 15) ∧ (0 ≤ now ∧ now ≤ 1001) ∧ OwnA w.heap.size 38 3 viEnc w' v us ∧ Below w.heap.size w w' := by
  have hB0 := below_alloc w (.cells #[.int .i64 0, .int .i64 0] 27)
  have hb2 : BoxP (fun cs => ∃ c0 c1 : Value, cs = [c0, c1] ∧ IsI 0 1001 c0 ∧ IsI 0 15 c1) 27 w.heap.size (w.alloc (.cells #[.int .i64 0, .int .i64 0] 27)) :=
    BoxP.new w [.int .i64 0, .int .i64 0] ⟨_, _, rfl, ⟨_, rfl, by omega, by omega⟩, ⟨_, rfl, by omega, by omega⟩⟩
  obtain ⟨W, hW⟩ : ∃ W, W = w.alloc (.cells #[.int .i64 0, .int .i64 0] 27) := ⟨_, rfl⟩
  have hs : W.heap.size = w.heap.size + 1 := by rw [hW]; simp
  rw [← hW] at hB0 hb2
  have HW := Lib.hid hW
  clear hW
  go_enter Try.func30, Try.ntmps30
  go_wp2_with fail
  rw [← HW.out]
  refine (l20Open_any (cb := w.heap.size) hB0.size (hC.below hB0) hc hC.1).mono ?_
  rintro e w1 ⟨rfl, hR, hB1⟩
  replace hb2 := hb2.below hB1
  have hw1 := hR.lt
  obtain ⟨br, hbr⟩ : ∃ br, br = W.heap.size := ⟨_, rfl⟩
  rw [← hbr] at hR hw1 ⊢
  have hgb : w.heap.size < br := by omega
  have hGd := grown_trans_ (grown_of_below hB0 (some br)) (grown_of_below hB1 _)
  clear hbr hs hB0 hB1
  go_wp2_with fail
  refine (l20Visits_d (N := 0) ⟨0, by omega, by omega, hR⟩ (by omega) (by omega) (by omega)).mono ?_
  rintro e w2 ⟨v, long, idle, rfl, ⟨hl0, hl1⟩, ⟨hi0, hi1⟩, hD, hRd, hG⟩
  replace hb2 := hb2.grown hG (fun e => by cases e; omega)
  replace hGd := grown_trans_ hGd hG
  have hsz2 := hGd.size
  have hw2 := hG.size
  have htop := hD.top
  clear hG hR
  obtain ⟨g6, hg6⟩ : ∃ g, g = w2.heap.size := ⟨_, rfl⟩
  obtain ⟨X, hX⟩ : ∃ X, X = w2.alloc (.cells #[.int .i64 long, .int .i64 idle] 27) := ⟨_, rfl⟩
  have hb6 : BoxP (fun cs => ∃ c0 c1 : Value, cs = [c0, c1] ∧ IsI 0 1001 c0 ∧ IsI 0 15 c1) 27 g6 X := by
    rw [hX, hg6]; exact BoxP.new w2 [.int .i64 long, .int .i64 idle] ⟨_, _, rfl, ⟨_, rfl, by omega, by omega⟩, ⟨_, rfl, by omega, by omega⟩⟩
  have hA1 : Below w2.heap.size w2 X := by rw [hX]; exact below_alloc _ _
  have hg6w : w.heap.size < g6 := by omega
  have hgbr : br < g6 := by omega
  replace hb2 := hb2.below hA1
  replace hD := hD.below hA1
  replace hRd := hRd.below hA1
  replace hGd := grown_trans_ hGd (grown_of_below hA1 _)
  have htop6 : ∀ k, v.ownBlock = some k → k < g6 := fun k hk => by have := htop k hk; omega
  have HX := Lib.hid hX
  have HG6 := Lib.hid hg6
  clear hX hg6 hA1 hsz2 hw2 htop
  go_wp2_with fail
  rw [← HX.out, ← HG6.out]
  have hcb3 : w.heap.size ≤ br := hRd.cb_
  have hbr3 : br < X.heap.size := hRd.lt
  have hBs3 : w.heap.size ≤ X.heap.size := hGd.size
  have hbx3_2 : w.heap.size < X.heap.size := hb2.lt
  have hbx3_7 : g6 < X.heap.size := hb6.lt
  refine wp_region_draws (some 22) (fun _ => True) (fun i wz vz => match i with | 0 => ∃ c0 c1 : Value, vz = .agg #[c0, c1] ∧ IsI (0) (1001) c0 ∧ IsI (0) (15) c1 | 1 => vz = v | 2 => vz = .pointer (some ⟨br, 0, Option.none⟩) | 3 => IsI (0) (6) vz | 4 => vz = .pointer (some ⟨br, 0, Option.none⟩) | 5 => IsI (0) (13) vz | 6 => IsI (0) (1) vz | 7 => IsI (0) (7) vz | 8 => IsI (0) (13) vz | 9 => vz = .pointer (some ⟨br, 0, Option.none⟩) | 10 => IsI (0) (39) vz | 11 => vz = .pointer (some ⟨br, 0, Option.none⟩) | 12 => IsI (0) (19) vz | 13 => IsI (10) (29) vz | 14 => SlP X.heap.size 1 3 (fun cs => ∃ c0 : Value, cs = [c0] ∧ IsI (0) (1001) c0) wz vz | 15 => SlP X.heap.size 1 5 (fun cs => ∃ c0 : Value, cs = [c0] ∧ IsI (0) (2) c0) wz vz | 16 => vz = .pointer (some ⟨br, 0, Option.none⟩) | 17 => IsI (0) (4) vz | 18 => PtrP X.heap.size (fun cs => ∃ c0 : Value, cs = [c0] ∧ IsI (0) (2) c0) wz vz | 19 => IsI (0) (2) vz | 20 => PtrP X.heap.size (fun cs => ∃ c0 : Value, cs = [c0] ∧ IsI (0) (1001) c0) wz vz | 21 => IsI (0) (1001) vz | 23 => vz = v | 24 => IsI (0) (13) vz | 25 => IsI (0) (1001) vz | _ => True) (fun k wz => GrownP (fun k => k = br ∨ k = w.heap.size) X wz ∧ RdrT wz br w.heap.size (300 + 1 * k) ∧ X.heap.size ≤ wz.heap.size ∧ BoxP (fun cs => ∃ c0 c1 : Value, cs = [c0, c1] ∧ IsI (0) (1001) c0 ∧ IsI (0) (15) c1) 27 w.heap.size wz ∧ BoxP (fun cs => ∃ c0 c1 : Value, cs = [c0, c1] ∧ IsI (0) (1001) c0 ∧ IsI (0) (15) c1) 27 g6 wz) (relOf (some 22) X.heap.size br) (fun _ => Option.none) (by kernel_rfl) (by kernel_rfl) (by kernel_rfl) ?stab3 ?stabG3 ?inv3 ?pre3 ?all3 ?fin3
  case stab3 =>
    intro i j wa wb v hR hk hne hd _ hT
    have hA := relOf_above hbr3 hR
    match j, hk, hne, hd, hT with
    | 0, hk, hne, hd, hT => exact hT
    | 1, hk, hne, hd, hT => exact hT
    | 2, hk, hne, hd, hT => exact hT
    | 3, hk, hne, hd, hT => exact hT
    | 4, hk, hne, hd, hT => exact hT
    | 5, hk, hne, hd, hT => exact hT
    | 6, hk, hne, hd, hT => exact hT
    | 7, hk, hne, hd, hT => exact hT
    | 8, hk, hne, hd, hT => exact hT
    | 9, hk, hne, hd, hT => exact hT
    | 10, hk, hne, hd, hT => exact hT
    | 11, hk, hne, hd, hT => exact hT
    | 12, hk, hne, hd, hT => exact hT
    | 13, hk, hne, hd, hT => exact hT
    | 14, hk, hne, hd, hT => exact hT.above hA
    | 15, hk, hne, hd, hT => exact hT.above hA
    | 16, hk, hne, hd, hT => exact hT
    | 17, hk, hne, hd, hT => exact hT
    | 18, hk, hne, hd, hT => exact hT.above hA
    | 19, hk, hne, hd, hT => exact hT
    | 20, hk, hne, hd, hT => exact hT.above hA
    | 21, hk, hne, hd, hT => exact hT
    | 23, hk, hne, hd, hT => exact hT
    | 24, hk, hne, hd, hT => exact hT
    | 25, hk, hne, hd, hT => exact hT
    | 22, _, _, _, _ => trivial
    | n + 26, _, _, _, _ => trivial
  case stabG3 =>
    intros; trivial
  case inv3 =>
    exact ⟨GrownP.refl _ _, (hRd.below (ext_drew (Below.refl _ _))).mono (by omega), Nat.le_refl _, hb2.below (ext_drew (Below.refl _ _)), hb6.below (ext_drew (Below.refl _ _))⟩
  case pre3 =>
    trivial
  case all3 =>
    refine RAll.cons rfl ?_ (RAll.cons rfl ?_ (RAll.cons rfl ?_ (RAll.cons rfl ?_ (RAll.cons rfl ?_ (RAll.cons rfl ?_ (RAll.cons rfl ?_ (RAll.cons rfl ?_ (RAll.cons rfl ?_ (RAll.cons rfl ?_ (RAll.cons rfl ?_ (RAll.cons rfl ?_ (RAll.cons rfl ?_ (RAll.cons rfl ?_ (RAll.cons rfl ?_ (RAll.cons rfl ?_ (RAll.cons rfl ?_ (RAll.cons rfl ?_ (RAll.cons rfl ?_ (RAll.cons rfl ?_ (RAll.cons rfl ?_ (RAll.cons rfl ?_ (RAll.cons rfl ?_ (RAll.cons rfl ?_ (RAll.cons rfl ?_ (RAll.cons rfl ?_ (RAll.none_))))))))))))))))))))))))))
    · intro a k wa K Q hkn hI hp hK
      replace hkn : k < 26 := hkn
      have e7 := tmp_of (show a.eval (.tmp 7) = .pointer (some ⟨g6, 0, Option.none⟩) from hp.keep 7 (by kernel_rfl))
      obtain ⟨_, ⟨cb7_0, cb7_1, rfl, ⟨xb7_0, rfl, lb7_0, ub7_0⟩, ⟨xb7_1, rfl, lb7_1, ub7_1⟩⟩, hbx_⟩ := hI.2.2.2.2
      have kb7_0 : wa.cell? ⟨g6, 0, Option.none⟩ = some _ := (cell_of_row wa g6 0 _ _ _ hbx_).trans rfl
      have kb7_1 : wa.cell? ⟨g6, 1, Option.none⟩ = some _ := (cell_of_row wa g6 1 _ _ _ hbx_).trans rfl
      go_simp
      exact hK _ _ ⟨_, _, rfl, ⟨_, rfl, by omega, by omega⟩, ⟨_, rfl, by omega, by omega⟩⟩ (relOf_no (by decide) (World.grownBy.refl _ _)) ⟨hI.1, hI.2.1.mono (by omega), hI.2.2.1, hI.2.2.2.1, hI.2.2.2.2⟩
    · intro a k wa K Q hkn hI hp hK
      replace hkn : k < 26 := hkn
      exact op_move _ (.inl rfl) (hK _ _ (hp.keep 8 (by kernel_rfl)) (relOf_no (by decide) (World.grownBy.refl _ _)) ⟨hI.1, hI.2.1.mono (by omega), hI.2.2.1, hI.2.2.2.1, hI.2.2.2.2⟩)
    · intro a k wa K Q hkn hI hp hK
      replace hkn : k < 26 := hkn
      exact op_move _ (.inl rfl) (hK _ _ (hp.keep 6 (by kernel_rfl)) (relOf_no (by decide) (World.grownBy.refl _ _)) ⟨hI.1, hI.2.1.mono (by omega), hI.2.2.1, hI.2.2.2.1, hI.2.2.2.2⟩)
    · intro a k wa K Q hkn hI hp hK
      replace hkn : k < 26 := hkn
      have e18 := tmp_of (show a.eval (.tmp 18) = .pointer (some ⟨br, 0, Option.none⟩) from hp.dep 2 18 (by kernel_rfl))
      go_simp
      refine (pick_d hI.2.1 (by omega) (by omega) (by omega)).mono ?_
      rintro e wb ⟨x, rfl, hx0, hx1, hR, hG⟩
      exact hK _ _ ⟨x, rfl, hx0, by omega⟩ (relOf_no (by decide) hG) ⟨hI.1.step hG (fun k e => by cases e; exact .inl (.inl rfl)), hR.mono (by omega), Nat.le_trans hI.2.2.1 hG.size, hI.2.2.2.1.grown hG (fun e => by cases e; omega), hI.2.2.2.2.grown hG (fun e => by cases e; omega)⟩
    · intro a k wa K Q hkn hI hp hK
      replace hkn : k < 26 := hkn
      exact op_move _ (.inl rfl) (hK _ _ (hp.keep 6 (by kernel_rfl)) (relOf_no (by decide) (World.grownBy.refl _ _)) ⟨hI.1, hI.2.1.mono (by omega), hI.2.2.1, hI.2.2.2.1, hI.2.2.2.2⟩)
    · intro a k wa K Q hkn hI hp hK
      replace hkn : k < 26 := hkn
      have e20 := tmp_of (show a.eval (.tmp 20) = .pointer (some ⟨br, 0, Option.none⟩) from hp.dep 4 20 (by kernel_rfl))
      go_simp
      refine (pick_d hI.2.1 (by omega) (by omega) (by omega)).mono ?_
      rintro e wb ⟨x, rfl, hx0, hx1, hR, hG⟩
      exact hK _ _ ⟨x, rfl, hx0, by omega⟩ (relOf_no (by decide) hG) ⟨hI.1.step hG (fun k e => by cases e; exact .inl (.inl rfl)), hR.mono (by omega), Nat.le_trans hI.2.2.1 hG.size, hI.2.2.2.1.grown hG (fun e => by cases e; omega), hI.2.2.2.2.grown hG (fun e => by cases e; omega)⟩
    · intro a k wa K Q hkn hI hp hK
      replace hkn : k < 26 := hkn
      have t21 : IsI (0) (13) (a.eval (.tmp 21)) := hp.dep 5 21 (by kernel_rfl)
      obtain ⟨x21, e21, l21, u21⟩ := t21
      replace e21 := tmp_of e21
      have hq_ := Int.tdiv_eq_ediv_of_nonneg (b := 13) l21
      go_simp
      exact hK _ _ ⟨_, rfl, by (first | omega | (rw [IntWalk.i64_in _ (by omega)]; omega) | (simp only [IntKind.wrap_i64]; omega)), by (first | omega | (rw [IntWalk.i64_in _ (by omega)]; omega) | (simp only [IntKind.wrap_i64]; omega))⟩ (relOf_no (by decide) (World.grownBy.refl _ _)) ⟨hI.1, hI.2.1.mono (by omega), hI.2.2.1, hI.2.2.2.1, hI.2.2.2.2⟩
    · intro a k wa K Q hkn hI hp hK
      replace hkn : k < 26 := hkn
      have t22 : IsI (0) (1) (a.eval (.tmp 22)) := hp.dep 6 22 (by kernel_rfl)
      obtain ⟨x22, e22, l22, u22⟩ := t22
      replace e22 := tmp_of e22
      go_simp
      exact hK _ _ ⟨_, rfl, by (first | omega | (rw [IntWalk.i64_in _ (by omega)]; omega) | (simp only [IntKind.wrap_i64]; omega)), by (first | omega | (rw [IntWalk.i64_in _ (by omega)]; omega) | (simp only [IntKind.wrap_i64]; omega))⟩ (relOf_no (by decide) (World.grownBy.refl _ _)) ⟨hI.1, hI.2.1.mono (by omega), hI.2.2.1, hI.2.2.2.1, hI.2.2.2.2⟩
    · intro a k wa K Q hkn hI hp hK
      replace hkn : k < 26 := hkn
      have t19 : IsI (0) (6) (a.eval (.tmp 19)) := hp.dep 3 19 (by kernel_rfl)
      obtain ⟨x19, e19, l19, u19⟩ := t19
      replace e19 := tmp_of e19
      have t23 : IsI (0) (7) (a.eval (.tmp 23)) := hp.dep 7 23 (by kernel_rfl)
      obtain ⟨x23, e23, l23, u23⟩ := t23
      replace e23 := tmp_of e23
      go_simp
      exact hK _ _ ⟨_, rfl, by (first | omega | (rw [IntWalk.i64_in _ (by omega)]; omega) | (simp only [IntKind.wrap_i64]; omega)), by (first | omega | (rw [IntWalk.i64_in _ (by omega)]; omega) | (simp only [IntKind.wrap_i64]; omega))⟩ (relOf_no (by decide) (World.grownBy.refl _ _)) ⟨hI.1, hI.2.1.mono (by omega), hI.2.2.1, hI.2.2.2.1, hI.2.2.2.2⟩
    · intro a k wa K Q hkn hI hp hK
      replace hkn : k < 26 := hkn
      exact op_move _ (.inl rfl) (hK _ _ (hp.keep 6 (by kernel_rfl)) (relOf_no (by decide) (World.grownBy.refl _ _)) ⟨hI.1, hI.2.1.mono (by omega), hI.2.2.1, hI.2.2.2.1, hI.2.2.2.2⟩)
    · intro a k wa K Q hkn hI hp hK
      replace hkn : k < 26 := hkn
      have e25 := tmp_of (show a.eval (.tmp 25) = .pointer (some ⟨br, 0, Option.none⟩) from hp.dep 9 25 (by kernel_rfl))
      go_simp
      refine (pick_d hI.2.1 (by omega) (by omega) (by omega)).mono ?_
      rintro e wb ⟨x, rfl, hx0, hx1, hR, hG⟩
      exact hK _ _ ⟨x, rfl, hx0, by omega⟩ (relOf_no (by decide) hG) ⟨hI.1.step hG (fun k e => by cases e; exact .inl (.inl rfl)), hR.mono (by omega), Nat.le_trans hI.2.2.1 hG.size, hI.2.2.2.1.grown hG (fun e => by cases e; omega), hI.2.2.2.2.grown hG (fun e => by cases e; omega)⟩
    · intro a k wa K Q hkn hI hp hK
      replace hkn : k < 26 := hkn
      exact op_move _ (.inl rfl) (hK _ _ (hp.keep 6 (by kernel_rfl)) (relOf_no (by decide) (World.grownBy.refl _ _)) ⟨hI.1, hI.2.1.mono (by omega), hI.2.2.1, hI.2.2.2.1, hI.2.2.2.2⟩)
    · intro a k wa K Q hkn hI hp hK
      replace hkn : k < 26 := hkn
      have e27 := tmp_of (show a.eval (.tmp 27) = .pointer (some ⟨br, 0, Option.none⟩) from hp.dep 11 27 (by kernel_rfl))
      go_simp
      refine (pick_d hI.2.1 (by omega) (by omega) (by omega)).mono ?_
      rintro e wb ⟨x, rfl, hx0, hx1, hR, hG⟩
      exact hK _ _ ⟨x, rfl, hx0, by omega⟩ (relOf_no (by decide) hG) ⟨hI.1.step hG (fun k e => by cases e; exact .inl (.inl rfl)), hR.mono (by omega), Nat.le_trans hI.2.2.1 hG.size, hI.2.2.2.1.grown hG (fun e => by cases e; omega), hI.2.2.2.2.grown hG (fun e => by cases e; omega)⟩
    · intro a k wa K Q hkn hI hp hK
      replace hkn : k < 26 := hkn
      have t28 : IsI (0) (19) (a.eval (.tmp 28)) := hp.dep 12 28 (by kernel_rfl)
      obtain ⟨x28, e28, l28, u28⟩ := t28
      replace e28 := tmp_of e28
      go_simp
      exact hK _ _ ⟨_, rfl, by (first | omega | (rw [IntWalk.i64_in _ (by omega)]; omega) | (simp only [IntKind.wrap_i64]; omega)), by (first | omega | (rw [IntWalk.i64_in _ (by omega)]; omega) | (simp only [IntKind.wrap_i64]; omega))⟩ (relOf_no (by decide) (World.grownBy.refl _ _)) ⟨hI.1, hI.2.1.mono (by omega), hI.2.2.1, hI.2.2.2.1, hI.2.2.2.2⟩
    · intro a k wa K Q hkn hI hp hK
      replace hkn : k < 26 := hkn
      have t26 : IsI (0) (39) (a.eval (.tmp 26)) := hp.dep 10 26 (by kernel_rfl)
      obtain ⟨x26, e26, l26, u26⟩ := t26
      replace e26 := tmp_of e26
      have t29 : IsI (10) (29) (a.eval (.tmp 29)) := hp.dep 13 29 (by kernel_rfl)
      obtain ⟨x29, e29, l29, u29⟩ := t29
      replace e29 := tmp_of e29
      have hwi : X.heap.size ≤ wa.heap.size := hI.2.2.1
      go_simp
      exact hK _ _ (sl_new hwi [[_], [_], [_]] rfl rfl (by decide) rfl ⟨⟨_, rfl, ⟨_, rfl, by omega, by omega⟩⟩, ⟨_, rfl, ⟨_, rfl, by omega, by omega⟩⟩, ⟨_, rfl, ⟨_, rfl, by omega, by omega⟩⟩, trivial⟩) (relOf_no (by decide) (grown_alloc_ _ _ _)) ⟨hI.1.step (grown_alloc_ _ _ Option.none) (fun k e => by cases e), (hI.2.1.below (below_alloc _ _)).mono (by omega), Nat.le_trans hI.2.2.1 (below_alloc _ _).size, hI.2.2.2.1.below (below_alloc _ _), hI.2.2.2.2.below (below_alloc _ _)⟩
    · intro a k wa K Q hkn hI hp hK
      replace hkn : k < 26 := hkn
      have hwi : X.heap.size ≤ wa.heap.size := hI.2.2.1
      go_simp
      exact hK _ _ (sl_new hwi [[_], [_], [_], [_], [_]] rfl rfl (by decide) rfl ⟨⟨_, rfl, ⟨_, rfl, by omega, by omega⟩⟩, ⟨_, rfl, ⟨_, rfl, by omega, by omega⟩⟩, ⟨_, rfl, ⟨_, rfl, by omega, by omega⟩⟩, ⟨_, rfl, ⟨_, rfl, by omega, by omega⟩⟩, ⟨_, rfl, ⟨_, rfl, by omega, by omega⟩⟩, trivial⟩) (relOf_no (by decide) (grown_alloc_ _ _ _)) ⟨hI.1.step (grown_alloc_ _ _ Option.none) (fun k e => by cases e), (hI.2.1.below (below_alloc _ _)).mono (by omega), Nat.le_trans hI.2.2.1 (below_alloc _ _).size, hI.2.2.2.1.below (below_alloc _ _), hI.2.2.2.2.below (below_alloc _ _)⟩
    · intro a k wa K Q hkn hI hp hK
      replace hkn : k < 26 := hkn
      exact op_move _ (.inl rfl) (hK _ _ (hp.keep 6 (by kernel_rfl)) (relOf_no (by decide) (World.grownBy.refl _ _)) ⟨hI.1, hI.2.1.mono (by omega), hI.2.2.1, hI.2.2.2.1, hI.2.2.2.2⟩)
    · intro a k wa K Q hkn hI hp hK
      replace hkn : k < 26 := hkn
      have e32 := tmp_of (show a.eval (.tmp 32) = .pointer (some ⟨br, 0, Option.none⟩) from hp.dep 16 32 (by kernel_rfl))
      go_simp
      refine (pick_d hI.2.1 (by omega) (by omega) (by omega)).mono ?_
      rintro e wb ⟨x, rfl, hx0, hx1, hR, hG⟩
      exact hK _ _ ⟨x, rfl, hx0, by omega⟩ (relOf_no (by decide) hG) ⟨hI.1.step hG (fun k e => by cases e; exact .inl (.inl rfl)), hR.mono (by omega), Nat.le_trans hI.2.2.1 hG.size, hI.2.2.2.1.grown hG (fun e => by cases e; omega), hI.2.2.2.2.grown hG (fun e => by cases e; omega)⟩
    · intro a k wa K Q hkn hI hp hK
      replace hkn : k < 26 := hkn
      have t31 : SlP X.heap.size 1 5 (fun cs => ∃ c0 : Value, cs = [c0] ∧ IsI (0) (2) c0) wa (a.eval (.tmp 31)) := hp.dep 15 31 (by kernel_rfl)
      obtain ⟨n31, g31, c31, e31, b31, h31⟩ := t31
      replace e31 := tmp_of e31
      have t33 : IsI (0) (4) (a.eval (.tmp 33)) := hp.dep 17 33 (by kernel_rfl)
      obtain ⟨x33, e33, l33, u33⟩ := t33
      replace e33 := tmp_of e33
      have lt33 : x33 < 5 := by omega
      go_simp
      exact hK _ _ ⟨_, _, rfl, b31, by have h_ := h31 x33.toNat (by omega); rwa [Nat.mul_one] at h_⟩ (relOf_no (by decide) (World.grownBy.refl _ _)) ⟨hI.1, hI.2.1.mono (by omega), hI.2.2.1, hI.2.2.2.1, hI.2.2.2.2⟩
    · intro a k wa K Q hkn hI hp hK
      replace hkn : k < 26 := hkn
      have t34 : PtrP X.heap.size (fun cs => ∃ c0 : Value, cs = [c0] ∧ IsI (0) (2) c0) wa (a.eval (.tmp 34)) := hp.dep 18 34 (by kernel_rfl)
      obtain ⟨g34, o34, e34, b34, cs34, ⟨c34_0, rfl, ⟨x34_0, rfl, l34_0, u34_0⟩⟩, h34⟩ := t34
      have k34_0 : wa.cell? ⟨g34, o34, Option.none⟩ = some _ := h34 0 _ rfl
      replace e34 := tmp_of e34
      go_simp
      exact hK _ _ ⟨_, rfl, by omega, by omega⟩ (relOf_no (by decide) (World.grownBy.refl _ _)) ⟨hI.1, hI.2.1.mono (by omega), hI.2.2.1, hI.2.2.2.1, hI.2.2.2.2⟩
    · intro a k wa K Q hkn hI hp hK
      replace hkn : k < 26 := hkn
      have t30 : SlP X.heap.size 1 3 (fun cs => ∃ c0 : Value, cs = [c0] ∧ IsI (0) (1001) c0) wa (a.eval (.tmp 30)) := hp.dep 14 30 (by kernel_rfl)
      obtain ⟨n30, g30, c30, e30, b30, h30⟩ := t30
      replace e30 := tmp_of e30
      have t35 : IsI (0) (2) (a.eval (.tmp 35)) := hp.dep 19 35 (by kernel_rfl)
      obtain ⟨x35, e35, l35, u35⟩ := t35
      replace e35 := tmp_of e35
      have lt35 : x35 < 3 := by omega
      go_simp
      exact hK _ _ ⟨_, _, rfl, b30, by have h_ := h30 x35.toNat (by omega); rwa [Nat.mul_one] at h_⟩ (relOf_no (by decide) (World.grownBy.refl _ _)) ⟨hI.1, hI.2.1.mono (by omega), hI.2.2.1, hI.2.2.2.1, hI.2.2.2.2⟩
    · intro a k wa K Q hkn hI hp hK
      replace hkn : k < 26 := hkn
      have t36 : PtrP X.heap.size (fun cs => ∃ c0 : Value, cs = [c0] ∧ IsI (0) (1001) c0) wa (a.eval (.tmp 36)) := hp.dep 20 36 (by kernel_rfl)
      obtain ⟨g36, o36, e36, b36, cs36, ⟨c36_0, rfl, ⟨x36_0, rfl, l36_0, u36_0⟩⟩, h36⟩ := t36
      have k36_0 : wa.cell? ⟨g36, o36, Option.none⟩ = some _ := h36 0 _ rfl
      replace e36 := tmp_of e36
      go_simp
      exact hK _ _ ⟨_, rfl, by omega, by omega⟩ (relOf_no (by decide) (World.grownBy.refl _ _)) ⟨hI.1, hI.2.1.mono (by omega), hI.2.2.1, hI.2.2.2.1, hI.2.2.2.2⟩
    · intro a k wa K Q hkn hI hp hK
      replace hkn : k < 26 := hkn
      have e2 := tmp_of (show a.eval (.tmp 2) = .pointer (some ⟨w.heap.size, 0, Option.none⟩) from hp.keep 2 (by kernel_rfl))
      have t16 : ∃ c0 c1 : Value, (a.eval (.tmp 16)) = .agg #[c0, c1] ∧ IsI (0) (1001) c0 ∧ IsI (0) (15) c1 := hp.dep 0 16 (by kernel_rfl)
      obtain ⟨c16_0, c16_1, e16, ⟨x16_0, rfl, l16_0, u16_0⟩, ⟨x16_1, rfl, l16_1, u16_1⟩⟩ := t16
      replace e16 := tmp_of e16
      obtain ⟨_, ⟨cb2_0, cb2_1, rfl, ⟨xb2_0, rfl, lb2_0, ub2_0⟩, ⟨xb2_1, rfl, lb2_1, ub2_1⟩⟩, hbx_⟩ := hI.2.2.2.1
      have kb2_0 : wa.cell? ⟨w.heap.size, 0, Option.none⟩ = some _ := (cell_of_row wa w.heap.size 0 _ _ _ hbx_).trans rfl
      have kb2_1 : wa.cell? ⟨w.heap.size, 1, Option.none⟩ = some _ := (cell_of_row wa w.heap.size 1 _ _ _ hbx_).trans rfl
      have fb0 := frozen_of_row wa w.heap.size 0 _ _ hbx_
      have fb1 := frozen_of_row wa w.heap.size 1 _ _ hbx_
      go_simp
      have hgs_ := setCells_grown w.heap.size [(.int .i64 x16_0), (.int .i64 x16_1)] wa 0
      exact hK undef _ trivial (relOf_yes rfl (above_of hgs_ (fun k e => by cases e; omega))) ⟨hI.1.step hgs_ (fun k e => by cases e; exact .inl (.inr rfl)), (hI.2.1.grown hgs_ (fun k e => by cases e; omega)).mono (by omega), Nat.le_trans hI.2.2.1 hgs_.size, hI.2.2.2.1.put [(.int .i64 x16_0), (.int .i64 x16_1)] (fun cs hcs => by obtain ⟨_, _, rfl, _⟩ := hcs; rfl) ⟨_, _, rfl, ⟨_, rfl, by omega, by omega⟩, ⟨_, rfl, by omega, by omega⟩⟩, hI.2.2.2.2.grown hgs_ (fun e => by cases e; omega)⟩
    · intro a k wa K Q hkn hI hp hK
      replace hkn : k < 26 := hkn
      exact op_move _ (.inr rfl) (hK _ _ (hp.dep 1 17 (by kernel_rfl)) (relOf_no (by decide) (World.grownBy.refl _ _)) ⟨hI.1, hI.2.1.mono (by omega), hI.2.2.1, hI.2.2.2.1, hI.2.2.2.2⟩)
    · intro a k wa K Q hkn hI hp hK
      replace hkn : k < 26 := hkn
      exact op_move _ (.inr rfl) (hK _ _ (hp.dep 8 24 (by kernel_rfl)) (relOf_no (by decide) (World.grownBy.refl _ _)) ⟨hI.1, hI.2.1.mono (by omega), hI.2.2.1, hI.2.2.2.1, hI.2.2.2.2⟩)
    · intro a k wa K Q hkn hI hp hK
      replace hkn : k < 26 := hkn
      exact op_move _ (.inr rfl) (hK _ _ (hp.dep 21 37 (by kernel_rfl)) (relOf_no (by decide) (World.grownBy.refl _ _)) ⟨hI.1, hI.2.1.mono (by omega), hI.2.2.1, hI.2.2.2.1, hI.2.2.2.2⟩)
  case fin3 =>
    intro f W7 hT hI0
    obtain ⟨hG_, hR_, _, hb2, hb6⟩ : GrownP (fun k => k = br ∨ k = w.heap.size) X W7 ∧ RdrT W7 br w.heap.size (300 + 1 * 26) ∧ X.heap.size ≤ W7.heap.size ∧ BoxP (fun cs => ∃ c0 c1 : Value, cs = [c0, c1] ∧ IsI (0) (1001) c0 ∧ IsI (0) (15) c1) 27 w.heap.size W7 ∧ BoxP (fun cs => ∃ c0 c1 : Value, cs = [c0, c1] ∧ IsI (0) (1001) c0 ∧ IsI (0) (15) c1) 27 g6 W7 := hI0
    have hv0 : (f 23) = v := hT 23 (by decide) rfl rfl
    have hy : IsI (0) (13) (f 24) := hT 24 (by decide) rfl rfl
    obtain ⟨hy, hy_e, hy_l, hy_u⟩ := hy
    have hx : IsI (0) (1001) (f 25) := hT 25 (by decide) rfl rfl
    obtain ⟨hx, hx_e, hx_l, hx_u⟩ := hx
    clear hT
    replace hD := hD.grownP hG_ (fun k hk e => by have := hD.ge k e; rcases hk with hk | hk <;> omega)
    replace hGd := GrownP.to hGd hG_ (fun k hk => by rcases hk with rfl | rfl; exact .inl rfl; exact .inr (by omega))
    replace hRd := hR_
    clear hG_ hR_
    simp only [putAll, hv0, hy_e, hx_e]
    go_simp
    clear hv0
    clear hy_e
    clear hx_e
    go_wp2
    obtain ⟨_, ⟨d0, d1, rfl, ⟨z0, rfl, z0l, z0u⟩, ⟨z1, rfl, z1l, z1u⟩⟩, hx3⟩ := hb2
    have k30 : W7.cell? ⟨w.heap.size, 0, Option.none⟩ = some _ := (cell_of_row W7 w.heap.size 0 _ _ _ hx3).trans rfl
    have k31 : W7.cell? ⟨w.heap.size, 1, Option.none⟩ = some _ := (cell_of_row W7 w.heap.size 1 _ _ _ hx3).trans rfl
    try simp only [Exit.inBlock, Exit.then]
    obtain ⟨us, h1, _, h2⟩ := hD
    exact bodyPost_ret (v := .tuple #[.agg #[.int .i64 z0, .int .i64 z1], v, .int .i64 hy, .int .i64 hx]) (by simp only [results, Try.results30]; go_simp) rfl ⟨us, v, z0, z1, hy, hx, rfl, h1, ⟨z0l, z0u⟩, ⟨z1l, z1u⟩, (by omega), h2.lower (by omega), (Below.refl _ _).grown hGd (Nat.le_refl _) (fun k e => by cases e; omega)⟩

end Go.Proofs.Ytflhmkpabhedjaa

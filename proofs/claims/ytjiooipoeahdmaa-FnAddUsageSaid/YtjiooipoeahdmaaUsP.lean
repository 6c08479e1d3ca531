/- DrawAddUsage. -/
import Derived.Test.YtjiooipoeahdmaaUsM
namespace Go.Proofs.Ytjiooipoeahdmaa
open Go.RowKit

theorem results_tctt {fn : Func} {p t u s : Tmp} {ty : TypeId} (h : fn.results = #[.tmp t, .cell p ty, .tmp u, .tmp s]) (tmps : Array Value) (P : Program) (w : World) :
    (results fn tmps).run P w =
      ((asAddr (tmps.getD p undef)).run P w).andThen fun a w₁ => ((loadVar ty a).run P w₁).andThen fun v w₂ => .ok (.tuple #[tmps.getD t undef, v, tmps.getD u undef, tmps.getD s undef]) w₂ := by
  simp only [results, h]
  simp [Sem.run_bind, Result.andThen]
def pairP (lo hi : Int) (cs : List Value) : Prop := ∃ c0 c1 : Value, cs = [c0, c1] ∧ IsI lo hi c0 ∧ IsI lo hi c1

set_option maxRecDepth 100000 in
set_option maxHeartbeats 4000000 in
theorem DrawAddUsage_d {A : Option Addr} {l : List Int} {c : Nat} {w : World} (hC : CodeR w w.heap.size A l) (hc : l.length ≤ c) :
    Calls Try.prog 24 #[.slice A l.length c] w fun e w' => ∃ (us : List (Int × Int)) (v : Value) (a b x y : Int), e = .returned (.tuple #[v, .agg #[.int .i64 a, .int .i64 b], .int .i64 x, .int .i64 y]) ∧ us.length ≤ 7 ∧ OwnA w.heap.size 32 2 usEnc w' v us ∧ Below w.heap.size w w' := by
  go_enter Try.func24, Try.ntmps24
  go_wp2_with fail
  have hB0 := below_alloc w (.cells #[.int .i64 0, .int .i64 0] 32)
  have hb3 : BoxP (fun cs => ∃ c0 c1 : Value, cs = [c0, c1] ∧ IsI 0 100 c0 ∧ IsI 0 100 c1) 32 w.heap.size (w.alloc (.cells #[.int .i64 0, .int .i64 0] 32)) :=
    BoxP.new w [.int .i64 0, .int .i64 0] ⟨_, _, rfl, ⟨_, rfl, by omega, by omega⟩, ⟨_, rfl, by omega, by omega⟩⟩
  refine (l20Open_any (cb := w.heap.size) (by simp) (hC.below hB0) hc hC.1).mono ?_
  rintro e w1 ⟨rfl, hR, hB1⟩
  replace hb3 := hb3.below hB1
  have hsz : (w.alloc (.cells #[.int .i64 0, .int .i64 0] 32)).heap.size = w.heap.size + 1 := by simp
  rw [hsz] at hR hB1 ⊢
  obtain ⟨br, hbr⟩ : ∃ br, br = w.heap.size + 1 := ⟨_, rfl⟩
  rw [← hbr] at hR hB1 ⊢
  have hB01 : Below w.heap.size w w1 := hB0.trans (hB1.mono (by omega))
  have hw1 := hR.lt
  have hgb : w.heap.size < br := by omega
  have HB := Lib.hid hbr
  have HB0 := Lib.hid hB01
  clear hB1 hB0 hB01 hsz hbr
  go_wp2_with fail
  refine (l20Usages_d (N := 0) ⟨0, by omega, by omega, hR⟩ (by omega) (by omega) (by omega)).mono ?_
  rintro e w2 ⟨v, rfl, hD, hRd, hG⟩
  replace hb3 := hb3.grown hG (fun e => by cases e; omega)
  have hGd : w.grownBy w2 (some br) := grown_trans_ (grown_of_below HB0.out _) hG
  clear hG hR
  go_wp2_with fail
  refine (pick_d (hRd.below (by (repeat (first | exact Below.refl _ _ | refine ext_alloc ?_ _ | refine Below.setCell ?_ (by simp) _)))) (by omega) (by omega) (by omega)).mono ?_
  rintro e wd3 ⟨a0, rfl, a0_l, a0_u, hR_, hG_⟩
  replace hGd := grown_trans_ hGd (grown_trans_ (grown_of_below (by (repeat (first | exact Below.refl _ _ | refine ext_alloc ?_ _ | refine Below.setCell ?_ (by simp) _))) _) hG_)
  replace hRd := hR_
  replace hD := (hD.below (by (repeat (first | exact Below.refl _ _ | refine ext_alloc ?_ _ | refine Below.setCell ?_ (by simp) _)))).grown hG_ (fun k e => by cases e; omega)
  replace hb3 := (hb3.below (by (repeat (first | exact Below.refl _ _ | refine ext_alloc ?_ _ | refine Below.setCell ?_ (by simp) _)))).grown hG_ (fun e => by cases e; omega)
  clear hR_ hG_
  go_wp2_with fail
  refine (pick_d (hRd.below (by (repeat (first | exact Below.refl _ _ | refine ext_alloc ?_ _ | refine Below.setCell ?_ (by simp) _)))) (by omega) (by omega) (by omega)).mono ?_
  rintro e wd4 ⟨b0, rfl, b0_l, b0_u, hR_, hG_⟩
  replace hGd := grown_trans_ hGd (grown_trans_ (grown_of_below (by (repeat (first | exact Below.refl _ _ | refine ext_alloc ?_ _ | refine Below.setCell ?_ (by simp) _))) _) hG_)
  replace hRd := hR_
  replace hD := (hD.below (by (repeat (first | exact Below.refl _ _ | refine ext_alloc ?_ _ | refine Below.setCell ?_ (by simp) _)))).grown hG_ (fun k e => by cases e; omega)
  replace hb3 := (hb3.below (by (repeat (first | exact Below.refl _ _ | refine ext_alloc ?_ _ | refine Below.setCell ?_ (by simp) _)))).grown hG_ (fun e => by cases e; omega)
  clear hR_ hG_
  go_wp2_with fail
  have hlo8 := hRd.lt
  have htop := hD.top
  have hbs8 := hGd.size
  have hb8 : BoxP (fun cs => ∃ c0 c1 : Value, cs = [c0, c1] ∧ IsI 0 100 c0 ∧ IsI 0 100 c1) 32 wd4.heap.size (wd4.alloc (.cells #[.int .i64 (30 + a0), .int .i64 b0] 32)) :=
    BoxP.new wd4 [.int .i64 (30 + a0), .int .i64 b0] ⟨_, _, rfl, ⟨_, rfl, by omega, by omega⟩, ⟨_, rfl, by omega, by omega⟩⟩
  refine (pick_d (hRd.below (by (repeat (first | exact Below.refl _ _ | refine ext_alloc ?_ _ | refine Below.setCell ?_ (by simp) _)))) (by omega) (by omega) (by omega)).mono ?_
  rintro e wd5 ⟨p3, rfl, p3_l, p3_u, hR_, hG_⟩
  replace hGd := grown_trans_ hGd (grown_trans_ (grown_of_below (by (repeat (first | exact Below.refl _ _ | refine ext_alloc ?_ _ | refine Below.setCell ?_ (by simp) _))) _) hG_)
  replace hRd := hR_
  replace hD := (hD.below (by (repeat (first | exact Below.refl _ _ | refine ext_alloc ?_ _ | refine Below.setCell ?_ (by simp) _)))).grown hG_ (fun k e => by cases e; omega)
  replace hb3 := (hb3.below (by (repeat (first | exact Below.refl _ _ | refine ext_alloc ?_ _ | refine Below.setCell ?_ (by simp) _)))).grown hG_ (fun e => by cases e; omega)
  replace hb8 := hb8.grown hG_ (fun e => by cases e; omega)
  clear hR_ hG_
  obtain ⟨g8, hg8⟩ : ∃ g8, g8 = wd4.heap.size := ⟨_, rfl⟩
  rw [← hg8] at hb8 htop hlo8 hbs8 ⊢
  clear hg8
  by_cases e3 : p3 = 0
  · subst e3
    go_wp2_with fail
    refine (pick_d (hRd.below (by (repeat (first | exact Below.refl _ _ | refine ext_alloc ?_ _ | refine Below.setCell ?_ (by simp) _)))) (by omega) (by omega) (by omega)).mono ?_
    rintro e wd6 ⟨p4, rfl, p4_l, p4_u, hR_, hG_⟩
    replace hGd := grown_trans_ hGd (grown_trans_ (grown_of_below (by (repeat (first | exact Below.refl _ _ | refine ext_alloc ?_ _ | refine Below.setCell ?_ (by simp) _))) _) hG_)
    replace hRd := hR_
    replace hD := (hD.below (by (repeat (first | exact Below.refl _ _ | refine ext_alloc ?_ _ | refine Below.setCell ?_ (by simp) _)))).grown hG_ (fun k e => by cases e; omega)
    replace hb3 := (hb3.below (by (repeat (first | exact Below.refl _ _ | refine ext_alloc ?_ _ | refine Below.setCell ?_ (by simp) _)))).grown hG_ (fun e => by cases e; omega)
    replace hb8 := (hb8.below (by (repeat (first | exact Below.refl _ _ | refine ext_alloc ?_ _ | refine Below.setCell ?_ (by simp) _)))).grown hG_ (fun e => by cases e; omega)
    clear hR_ hG_
    obtain ⟨cs8, ⟨d0, d1, rfl, ⟨y0, rfl, y0l, y0u⟩, ⟨y1, rfl, y1l, y1u⟩⟩, hx⟩ := hb8
    have fz := frozen_of_row wd6 g8 0 _ _ hx
    have cx : wd6.cell? ⟨g8, 0, Option.none⟩ = some _ := (cell_of_row wd6 g8 0 _ _ _ hx).trans rfl
    have hx2 := setCells_at [.int .i64 p4] 0 hx (by simp)
    have hgs := setCells_grown g8 [.int .i64 p4] wd6 0
    simp only [setCells] at hx2 hgs
    obtain ⟨W6, hW6⟩ : ∃ W, W = wd6.setCell ⟨g8, 0, Option.none⟩ (.int .i64 p4) := ⟨_, rfl⟩
    rw [← hW6] at hx2 hgs
    have hb8 : BoxP (fun cs => ∃ c0 c1 : Value, cs = [c0, c1] ∧ IsI 0 100 c0 ∧ IsI 0 100 c1) 32 g8 W6 := ⟨_, ⟨_, _, rfl, ⟨_, rfl, by omega, by omega⟩, ⟨_, rfl, by omega, by omega⟩⟩, hx2⟩
    replace hb3 := hb3.grown hgs (fun e => by cases e; omega)
    replace hGd := grown_new hGd hgs (fun k e => by cases e; omega)
    replace hRd := hRd.grown hgs (fun k e => by cases e; omega)
    replace hD := hD.apart hgs (fun k hk e => by cases e; have := htop _ hk; omega)
    have HW6 := Lib.hid hW6
    clear hx2 hgs hx hW6
    go_wp2_with fail
    rw [← HW6.out]
    clear cx fz HW6
    have hcb6 : w.heap.size ≤ br := hRd.cb_
    have hbr6 : br < W6.heap.size := hRd.lt
    have hBs6 : w.heap.size ≤ W6.heap.size := hGd.size
    have hbx6_3 : w.heap.size < W6.heap.size := hb3.lt
    have hbx6_8 : g8 < W6.heap.size := hb8.lt
    refine wp_region_draws (some 22) (fun _ => True) (fun i wz vz => match i with | 0 => vz = v | 1 => ∃ c0 c1 : Value, vz = .agg #[c0, c1] ∧ IsI (0) (100) c0 ∧ IsI (0) (100) c1 | 2 => vz = .pointer (some ⟨br, 0, Option.none⟩) | 3 => IsI (0) (39) vz | 4 => IsI (1) (40) vz | 5 => SlP W6.heap.size 1 2 (fun cs => ∃ c0 : Value, cs = [c0] ∧ IsI (0) (40) c0) wz vz | 6 => vz = .pointer (some ⟨br, 0, Option.none⟩) | 7 => IsI (0) (8) vz | 8 => IsI (0) (1) vz | 9 => PtrP W6.heap.size (fun cs => ∃ c0 : Value, cs = [c0] ∧ IsI (0) (40) c0) wz vz | 10 => IsI (0) (40) vz | 11 => vz = .pointer (some ⟨br, 0, Option.none⟩) | 12 => IsI (0) (29) vz | 13 => SlP W6.heap.size 1 3 (fun cs => ∃ c0 : Value, cs = [c0] ∧ IsI (-1) (1000000) c0) wz vz | 14 => SlP W6.heap.size 1 6 (fun cs => ∃ c0 : Value, cs = [c0] ∧ IsI (0) (2) c0) wz vz | 15 => vz = .pointer (some ⟨br, 0, Option.none⟩) | 16 => IsI (0) (5) vz | 17 => PtrP W6.heap.size (fun cs => ∃ c0 : Value, cs = [c0] ∧ IsI (0) (2) c0) wz vz | 18 => IsI (0) (2) vz | 19 => PtrP W6.heap.size (fun cs => ∃ c0 : Value, cs = [c0] ∧ IsI (-1) (1000000) c0) wz vz | 20 => IsI (-1) (1000000) vz | 21 => vz = v | 23 => IsI (0) (40) vz | 24 => IsI (-1) (1000000) vz | _ => True) (fun k wz => GrownP (fun k => k = br ∨ k = w.heap.size) W6 wz ∧ RdrT wz br w.heap.size (400 + 1 * k) ∧ W6.heap.size ≤ wz.heap.size ∧ BoxP (fun cs => ∃ c0 c1 : Value, cs = [c0, c1] ∧ IsI (0) (100) c0 ∧ IsI (0) (100) c1) 32 w.heap.size wz ∧ BoxP (fun cs => ∃ c0 c1 : Value, cs = [c0, c1] ∧ IsI (0) (100) c0 ∧ IsI (0) (100) c1) 32 g8 wz) (relOf (some 22) W6.heap.size br) (fun _ => Option.none) (by kernel_rfl) (by kernel_rfl) (by kernel_rfl) ?stab6 ?stabG6 ?inv6 ?pre6 ?all6 ?fin6
    case stab6 =>
      intro i j wa wb v hR hk hne hd _ hT
      have hA := relOf_above hbr6 hR
      match j, hk, hne, hd, hT with
      | 0, hk, hne, hd, hT => exact hT
      | 1, hk, hne, hd, hT => exact hT
      | 2, hk, hne, hd, hT => exact hT
      | 3, hk, hne, hd, hT => exact hT
      | 4, hk, hne, hd, hT => exact hT
      | 5, hk, hne, hd, hT => exact hT.above hA
      | 6, hk, hne, hd, hT => exact hT
      | 7, hk, hne, hd, hT => exact hT
      | 8, hk, hne, hd, hT => exact hT
      | 9, hk, hne, hd, hT => exact hT.above hA
      | 10, hk, hne, hd, hT => exact hT
      | 11, hk, hne, hd, hT => exact hT
      | 12, hk, hne, hd, hT => exact hT
      | 13, hk, hne, hd, hT => exact hT.above hA
      | 14, hk, hne, hd, hT => exact hT.above hA
      | 15, hk, hne, hd, hT => exact hT
      | 16, hk, hne, hd, hT => exact hT
      | 17, hk, hne, hd, hT => exact hT.above hA
      | 18, hk, hne, hd, hT => exact hT
      | 19, hk, hne, hd, hT => exact hT.above hA
      | 20, hk, hne, hd, hT => exact hT
      | 21, hk, hne, hd, hT => exact hT
      | 23, hk, hne, hd, hT => exact hT
      | 24, hk, hne, hd, hT => exact hT
      | 22, _, _, _, _ => trivial
      | n + 25, _, _, _, _ => trivial
    case stabG6 =>
      intros; trivial
    case inv6 =>
      exact ⟨GrownP.refl _ _, (hRd.below (ext_drew (Below.refl _ _))).mono (by omega), Nat.le_refl _, hb3.below (ext_drew (Below.refl _ _)), hb8.below (ext_drew (Below.refl _ _))⟩
    case pre6 =>
      trivial
    case all6 =>
      refine RAll.cons rfl ?_ (RAll.cons rfl ?_ (RAll.cons rfl ?_ (RAll.cons rfl ?_ (RAll.cons rfl ?_ (RAll.cons rfl ?_ (RAll.cons rfl ?_ (RAll.cons rfl ?_ (RAll.cons rfl ?_ (RAll.cons rfl ?_ (RAll.cons rfl ?_ (RAll.cons rfl ?_ (RAll.cons rfl ?_ (RAll.cons rfl ?_ (RAll.cons rfl ?_ (RAll.cons rfl ?_ (RAll.cons rfl ?_ (RAll.cons rfl ?_ (RAll.cons rfl ?_ (RAll.cons rfl ?_ (RAll.cons rfl ?_ (RAll.cons rfl ?_ (RAll.cons rfl ?_ (RAll.cons rfl ?_ (RAll.cons rfl ?_ (RAll.none_)))))))))))))))))))))))))
      · intro a k wa K Q hkn hI hp hK
        replace hkn : k < 25 := hkn
        exact op_move _ (.inl rfl) (hK _ _ (hp.keep 7 (by kernel_rfl)) (relOf_no (by decide) (World.grownBy.refl _ _)) ⟨hI.1, hI.2.1.mono (by omega), hI.2.2.1, hI.2.2.2.1, hI.2.2.2.2⟩)
      · intro a k wa K Q hkn hI hp hK
        replace hkn : k < 25 := hkn
        have e8 := tmp_of (show a.eval (.tmp 8) = .pointer (some ⟨g8, 0, Option.none⟩) from hp.keep 8 (by kernel_rfl))
        obtain ⟨_, ⟨cb8_0, cb8_1, rfl, ⟨xb8_0, rfl, lb8_0, ub8_0⟩, ⟨xb8_1, rfl, lb8_1, ub8_1⟩⟩, hbx_⟩ := hI.2.2.2.2
        have kb8_0 : wa.cell? ⟨g8, 0, Option.none⟩ = some _ := (cell_of_row wa g8 0 _ _ _ hbx_).trans rfl
        have kb8_1 : wa.cell? ⟨g8, 1, Option.none⟩ = some _ := (cell_of_row wa g8 1 _ _ _ hbx_).trans rfl
        go_simp
        exact hK _ _ ⟨_, _, rfl, ⟨_, rfl, by omega, by omega⟩, ⟨_, rfl, by omega, by omega⟩⟩ (relOf_no (by decide) (World.grownBy.refl _ _)) ⟨hI.1, hI.2.1.mono (by omega), hI.2.2.1, hI.2.2.2.1, hI.2.2.2.2⟩
      · intro a k wa K Q hkn hI hp hK
        replace hkn : k < 25 := hkn
        exact op_move _ (.inl rfl) (hK _ _ (hp.keep 6 (by kernel_rfl)) (relOf_no (by decide) (World.grownBy.refl _ _)) ⟨hI.1, hI.2.1.mono (by omega), hI.2.2.1, hI.2.2.2.1, hI.2.2.2.2⟩)
      · intro a k wa K Q hkn hI hp hK
        replace hkn : k < 25 := hkn
        have e27 := tmp_of (show a.eval (.tmp 27) = .pointer (some ⟨br, 0, Option.none⟩) from hp.dep 2 27 (by kernel_rfl))
        go_simp
        refine (pick_d hI.2.1 (by omega) (by omega) (by omega)).mono ?_
        rintro e wb ⟨x, rfl, hx0, hx1, hR, hG⟩
        exact hK _ _ ⟨x, rfl, hx0, by omega⟩ (relOf_no (by decide) hG) ⟨hI.1.step hG (fun k e => by cases e; exact .inl (.inl rfl)), hR.mono (by omega), Nat.le_trans hI.2.2.1 hG.size, hI.2.2.2.1.grown hG (fun e => by cases e; omega), hI.2.2.2.2.grown hG (fun e => by cases e; omega)⟩
      · intro a k wa K Q hkn hI hp hK
        replace hkn : k < 25 := hkn
        have t28 : IsI (0) (39) (a.eval (.tmp 28)) := hp.dep 3 28 (by kernel_rfl)
        obtain ⟨x28, e28, l28, u28⟩ := t28
        replace e28 := tmp_of e28
        go_simp
        exact hK _ _ ⟨_, rfl, by (first | omega | (simp only [IntKind.wrap_i64]; omega)), by (first | omega | (simp only [IntKind.wrap_i64]; omega))⟩ (relOf_no (by decide) (World.grownBy.refl _ _)) ⟨hI.1, hI.2.1.mono (by omega), hI.2.2.1, hI.2.2.2.1, hI.2.2.2.2⟩
      · intro a k wa K Q hkn hI hp hK
        replace hkn : k < 25 := hkn
        have t29 : IsI (1) (40) (a.eval (.tmp 29)) := hp.dep 4 29 (by kernel_rfl)
        obtain ⟨x29, e29, l29, u29⟩ := t29
        replace e29 := tmp_of e29
        have hwi : W6.heap.size ≤ wa.heap.size := hI.2.2.1
        go_simp
        exact hK _ _ (sl_new hwi [[_], [_]] rfl rfl (by decide) rfl ⟨⟨_, rfl, ⟨_, rfl, by omega, by omega⟩⟩, ⟨_, rfl, ⟨_, rfl, by omega, by omega⟩⟩, trivial⟩) (relOf_no (by decide) (grown_alloc_ _ _ _)) ⟨hI.1.step (grown_alloc_ _ _ Option.none) (fun k e => by cases e), (hI.2.1.below (below_alloc _ _)).mono (by omega), Nat.le_trans hI.2.2.1 (below_alloc _ _).size, hI.2.2.2.1.below (below_alloc _ _), hI.2.2.2.2.below (below_alloc _ _)⟩
      · intro a k wa K Q hkn hI hp hK
        replace hkn : k < 25 := hkn
        exact op_move _ (.inl rfl) (hK _ _ (hp.keep 6 (by kernel_rfl)) (relOf_no (by decide) (World.grownBy.refl _ _)) ⟨hI.1, hI.2.1.mono (by omega), hI.2.2.1, hI.2.2.2.1, hI.2.2.2.2⟩)
      · intro a k wa K Q hkn hI hp hK
        replace hkn : k < 25 := hkn
        have e31 := tmp_of (show a.eval (.tmp 31) = .pointer (some ⟨br, 0, Option.none⟩) from hp.dep 6 31 (by kernel_rfl))
        go_simp
        refine (pick_d hI.2.1 (by omega) (by omega) (by omega)).mono ?_
        rintro e wb ⟨x, rfl, hx0, hx1, hR, hG⟩
        exact hK _ _ ⟨x, rfl, hx0, by omega⟩ (relOf_no (by decide) hG) ⟨hI.1.step hG (fun k e => by cases e; exact .inl (.inl rfl)), hR.mono (by omega), Nat.le_trans hI.2.2.1 hG.size, hI.2.2.2.1.grown hG (fun e => by cases e; omega), hI.2.2.2.2.grown hG (fun e => by cases e; omega)⟩
      · intro a k wa K Q hkn hI hp hK
        replace hkn : k < 25 := hkn
        have t32 : IsI (0) (8) (a.eval (.tmp 32)) := hp.dep 7 32 (by kernel_rfl)
        obtain ⟨x32, e32, l32, u32⟩ := t32
        replace e32 := tmp_of e32
        have hq_ := Int.tdiv_eq_ediv_of_nonneg (b := 8) l32
        go_simp
        exact hK _ _ ⟨_, rfl, by (first | omega | (simp only [IntKind.wrap_i64]; omega)), by (first | omega | (simp only [IntKind.wrap_i64]; omega))⟩ (relOf_no (by decide) (World.grownBy.refl _ _)) ⟨hI.1, hI.2.1.mono (by omega), hI.2.2.1, hI.2.2.2.1, hI.2.2.2.2⟩
      · intro a k wa K Q hkn hI hp hK
        replace hkn : k < 25 := hkn
        have t30 : SlP W6.heap.size 1 2 (fun cs => ∃ c0 : Value, cs = [c0] ∧ IsI (0) (40) c0) wa (a.eval (.tmp 30)) := hp.dep 5 30 (by kernel_rfl)
        obtain ⟨n30, g30, c30, e30, b30, h30⟩ := t30
        replace e30 := tmp_of e30
        have t33 : IsI (0) (1) (a.eval (.tmp 33)) := hp.dep 8 33 (by kernel_rfl)
        obtain ⟨x33, e33, l33, u33⟩ := t33
        replace e33 := tmp_of e33
        have lt33 : x33 < 2 := by omega
        go_simp
        exact hK _ _ ⟨_, _, rfl, b30, by have h_ := h30 x33.toNat (by omega); rwa [Nat.mul_one] at h_⟩ (relOf_no (by decide) (World.grownBy.refl _ _)) ⟨hI.1, hI.2.1.mono (by omega), hI.2.2.1, hI.2.2.2.1, hI.2.2.2.2⟩
      · intro a k wa K Q hkn hI hp hK
        replace hkn : k < 25 := hkn
        have t34 : PtrP W6.heap.size (fun cs => ∃ c0 : Value, cs = [c0] ∧ IsI (0) (40) c0) wa (a.eval (.tmp 34)) := hp.dep 9 34 (by kernel_rfl)
        obtain ⟨g34, o34, e34, b34, cs34, ⟨c34_0, rfl, ⟨x34_0, rfl, l34_0, u34_0⟩⟩, h34⟩ := t34
        have k34_0 : wa.cell? ⟨g34, o34, Option.none⟩ = some _ := h34 0 _ rfl
        replace e34 := tmp_of e34
        go_simp
        exact hK _ _ ⟨_, rfl, by omega, by omega⟩ (relOf_no (by decide) (World.grownBy.refl _ _)) ⟨hI.1, hI.2.1.mono (by omega), hI.2.2.1, hI.2.2.2.1, hI.2.2.2.2⟩
      · intro a k wa K Q hkn hI hp hK
        replace hkn : k < 25 := hkn
        exact op_move _ (.inl rfl) (hK _ _ (hp.keep 6 (by kernel_rfl)) (relOf_no (by decide) (World.grownBy.refl _ _)) ⟨hI.1, hI.2.1.mono (by omega), hI.2.2.1, hI.2.2.2.1, hI.2.2.2.2⟩)
      · intro a k wa K Q hkn hI hp hK
        replace hkn : k < 25 := hkn
        have e36 := tmp_of (show a.eval (.tmp 36) = .pointer (some ⟨br, 0, Option.none⟩) from hp.dep 11 36 (by kernel_rfl))
        go_simp
        refine (pick_d hI.2.1 (by omega) (by omega) (by omega)).mono ?_
        rintro e wb ⟨x, rfl, hx0, hx1, hR, hG⟩
        exact hK _ _ ⟨x, rfl, hx0, by omega⟩ (relOf_no (by decide) hG) ⟨hI.1.step hG (fun k e => by cases e; exact .inl (.inl rfl)), hR.mono (by omega), Nat.le_trans hI.2.2.1 hG.size, hI.2.2.2.1.grown hG (fun e => by cases e; omega), hI.2.2.2.2.grown hG (fun e => by cases e; omega)⟩
      · intro a k wa K Q hkn hI hp hK
        replace hkn : k < 25 := hkn
        have t37 : IsI (0) (29) (a.eval (.tmp 37)) := hp.dep 12 37 (by kernel_rfl)
        obtain ⟨x37, e37, l37, u37⟩ := t37
        replace e37 := tmp_of e37
        have hwi : W6.heap.size ≤ wa.heap.size := hI.2.2.1
        go_simp
        exact hK _ _ (sl_new hwi [[_], [_], [_]] rfl rfl (by decide) rfl ⟨⟨_, rfl, ⟨_, rfl, by omega, by omega⟩⟩, ⟨_, rfl, ⟨_, rfl, by omega, by omega⟩⟩, ⟨_, rfl, ⟨_, rfl, by omega, by omega⟩⟩, trivial⟩) (relOf_no (by decide) (grown_alloc_ _ _ _)) ⟨hI.1.step (grown_alloc_ _ _ Option.none) (fun k e => by cases e), (hI.2.1.below (below_alloc _ _)).mono (by omega), Nat.le_trans hI.2.2.1 (below_alloc _ _).size, hI.2.2.2.1.below (below_alloc _ _), hI.2.2.2.2.below (below_alloc _ _)⟩
      · intro a k wa K Q hkn hI hp hK
        replace hkn : k < 25 := hkn
        have hwi : W6.heap.size ≤ wa.heap.size := hI.2.2.1
        go_simp
        exact hK _ _ (sl_new hwi [[_], [_], [_], [_], [_], [_]] rfl rfl (by decide) rfl ⟨⟨_, rfl, ⟨_, rfl, by omega, by omega⟩⟩, ⟨_, rfl, ⟨_, rfl, by omega, by omega⟩⟩, ⟨_, rfl, ⟨_, rfl, by omega, by omega⟩⟩, ⟨_, rfl, ⟨_, rfl, by omega, by omega⟩⟩, ⟨_, rfl, ⟨_, rfl, by omega, by omega⟩⟩, ⟨_, rfl, ⟨_, rfl, by omega, by omega⟩⟩, trivial⟩) (relOf_no (by decide) (grown_alloc_ _ _ _)) ⟨hI.1.step (grown_alloc_ _ _ Option.none) (fun k e => by cases e), (hI.2.1.below (below_alloc _ _)).mono (by omega), Nat.le_trans hI.2.2.1 (below_alloc _ _).size, hI.2.2.2.1.below (below_alloc _ _), hI.2.2.2.2.below (below_alloc _ _)⟩
      · intro a k wa K Q hkn hI hp hK
        replace hkn : k < 25 := hkn
        exact op_move _ (.inl rfl) (hK _ _ (hp.keep 6 (by kernel_rfl)) (relOf_no (by decide) (World.grownBy.refl _ _)) ⟨hI.1, hI.2.1.mono (by omega), hI.2.2.1, hI.2.2.2.1, hI.2.2.2.2⟩)
      · intro a k wa K Q hkn hI hp hK
        replace hkn : k < 25 := hkn
        have e40 := tmp_of (show a.eval (.tmp 40) = .pointer (some ⟨br, 0, Option.none⟩) from hp.dep 15 40 (by kernel_rfl))
        go_simp
        refine (pick_d hI.2.1 (by omega) (by omega) (by omega)).mono ?_
        rintro e wb ⟨x, rfl, hx0, hx1, hR, hG⟩
        exact hK _ _ ⟨x, rfl, hx0, by omega⟩ (relOf_no (by decide) hG) ⟨hI.1.step hG (fun k e => by cases e; exact .inl (.inl rfl)), hR.mono (by omega), Nat.le_trans hI.2.2.1 hG.size, hI.2.2.2.1.grown hG (fun e => by cases e; omega), hI.2.2.2.2.grown hG (fun e => by cases e; omega)⟩
      · intro a k wa K Q hkn hI hp hK
        replace hkn : k < 25 := hkn
        have t39 : SlP W6.heap.size 1 6 (fun cs => ∃ c0 : Value, cs = [c0] ∧ IsI (0) (2) c0) wa (a.eval (.tmp 39)) := hp.dep 14 39 (by kernel_rfl)
        obtain ⟨n39, g39, c39, e39, b39, h39⟩ := t39
        replace e39 := tmp_of e39
        have t41 : IsI (0) (5) (a.eval (.tmp 41)) := hp.dep 16 41 (by kernel_rfl)
        obtain ⟨x41, e41, l41, u41⟩ := t41
        replace e41 := tmp_of e41
        have lt41 : x41 < 6 := by omega
        go_simp
        exact hK _ _ ⟨_, _, rfl, b39, by have h_ := h39 x41.toNat (by omega); rwa [Nat.mul_one] at h_⟩ (relOf_no (by decide) (World.grownBy.refl _ _)) ⟨hI.1, hI.2.1.mono (by omega), hI.2.2.1, hI.2.2.2.1, hI.2.2.2.2⟩
      · intro a k wa K Q hkn hI hp hK
        replace hkn : k < 25 := hkn
        have t42 : PtrP W6.heap.size (fun cs => ∃ c0 : Value, cs = [c0] ∧ IsI (0) (2) c0) wa (a.eval (.tmp 42)) := hp.dep 17 42 (by kernel_rfl)
        obtain ⟨g42, o42, e42, b42, cs42, ⟨c42_0, rfl, ⟨x42_0, rfl, l42_0, u42_0⟩⟩, h42⟩ := t42
        have k42_0 : wa.cell? ⟨g42, o42, Option.none⟩ = some _ := h42 0 _ rfl
        replace e42 := tmp_of e42
        go_simp
        exact hK _ _ ⟨_, rfl, by omega, by omega⟩ (relOf_no (by decide) (World.grownBy.refl _ _)) ⟨hI.1, hI.2.1.mono (by omega), hI.2.2.1, hI.2.2.2.1, hI.2.2.2.2⟩
      · intro a k wa K Q hkn hI hp hK
        replace hkn : k < 25 := hkn
        have t38 : SlP W6.heap.size 1 3 (fun cs => ∃ c0 : Value, cs = [c0] ∧ IsI (-1) (1000000) c0) wa (a.eval (.tmp 38)) := hp.dep 13 38 (by kernel_rfl)
        obtain ⟨n38, g38, c38, e38, b38, h38⟩ := t38
        replace e38 := tmp_of e38
        have t43 : IsI (0) (2) (a.eval (.tmp 43)) := hp.dep 18 43 (by kernel_rfl)
        obtain ⟨x43, e43, l43, u43⟩ := t43
        replace e43 := tmp_of e43
        have lt43 : x43 < 3 := by omega
        go_simp
        exact hK _ _ ⟨_, _, rfl, b38, by have h_ := h38 x43.toNat (by omega); rwa [Nat.mul_one] at h_⟩ (relOf_no (by decide) (World.grownBy.refl _ _)) ⟨hI.1, hI.2.1.mono (by omega), hI.2.2.1, hI.2.2.2.1, hI.2.2.2.2⟩
      · intro a k wa K Q hkn hI hp hK
        replace hkn : k < 25 := hkn
        have t44 : PtrP W6.heap.size (fun cs => ∃ c0 : Value, cs = [c0] ∧ IsI (-1) (1000000) c0) wa (a.eval (.tmp 44)) := hp.dep 19 44 (by kernel_rfl)
        obtain ⟨g44, o44, e44, b44, cs44, ⟨c44_0, rfl, ⟨x44_0, rfl, l44_0, u44_0⟩⟩, h44⟩ := t44
        have k44_0 : wa.cell? ⟨g44, o44, Option.none⟩ = some _ := h44 0 _ rfl
        replace e44 := tmp_of e44
        go_simp
        exact hK _ _ ⟨_, rfl, by omega, by omega⟩ (relOf_no (by decide) (World.grownBy.refl _ _)) ⟨hI.1, hI.2.1.mono (by omega), hI.2.2.1, hI.2.2.2.1, hI.2.2.2.2⟩
      · intro a k wa K Q hkn hI hp hK
        replace hkn : k < 25 := hkn
        exact op_move _ (.inr rfl) (hK _ _ (hp.dep 0 25 (by kernel_rfl)) (relOf_no (by decide) (World.grownBy.refl _ _)) ⟨hI.1, hI.2.1.mono (by omega), hI.2.2.1, hI.2.2.2.1, hI.2.2.2.2⟩)
      · intro a k wa K Q hkn hI hp hK
        replace hkn : k < 25 := hkn
        have e3 := tmp_of (show a.eval (.tmp 3) = .pointer (some ⟨w.heap.size, 0, Option.none⟩) from hp.keep 3 (by kernel_rfl))
        have t26 : ∃ c0 c1 : Value, (a.eval (.tmp 26)) = .agg #[c0, c1] ∧ IsI (0) (100) c0 ∧ IsI (0) (100) c1 := hp.dep 1 26 (by kernel_rfl)
        obtain ⟨c26_0, c26_1, e26, ⟨x26_0, rfl, l26_0, u26_0⟩, ⟨x26_1, rfl, l26_1, u26_1⟩⟩ := t26
        replace e26 := tmp_of e26
        obtain ⟨_, ⟨cb3_0, cb3_1, rfl, ⟨xb3_0, rfl, lb3_0, ub3_0⟩, ⟨xb3_1, rfl, lb3_1, ub3_1⟩⟩, hbx_⟩ := hI.2.2.2.1
        have kb3_0 : wa.cell? ⟨w.heap.size, 0, Option.none⟩ = some _ := (cell_of_row wa w.heap.size 0 _ _ _ hbx_).trans rfl
        have kb3_1 : wa.cell? ⟨w.heap.size, 1, Option.none⟩ = some _ := (cell_of_row wa w.heap.size 1 _ _ _ hbx_).trans rfl
        have fb0 := frozen_of_row wa w.heap.size 0 _ _ hbx_
        have fb1 := frozen_of_row wa w.heap.size 1 _ _ hbx_
        go_simp
        have hgs_ := setCells_grown w.heap.size [(.int .i64 x26_0), (.int .i64 x26_1)] wa 0
        exact hK undef _ trivial (relOf_yes rfl (above_of hgs_ (fun k e => by cases e; omega))) ⟨hI.1.step hgs_ (fun k e => by cases e; exact .inl (.inr rfl)), (hI.2.1.grown hgs_ (fun k e => by cases e; omega)).mono (by omega), Nat.le_trans hI.2.2.1 hgs_.size, hI.2.2.2.1.put [(.int .i64 x26_0), (.int .i64 x26_1)] (fun cs hcs => by obtain ⟨_, _, rfl, _⟩ := hcs; rfl) ⟨_, _, rfl, ⟨_, rfl, by omega, by omega⟩, ⟨_, rfl, by omega, by omega⟩⟩, hI.2.2.2.2.grown hgs_ (fun e => by cases e; omega)⟩
      · intro a k wa K Q hkn hI hp hK
        replace hkn : k < 25 := hkn
        exact op_move _ (.inr rfl) (hK _ _ (hp.dep 10 35 (by kernel_rfl)) (relOf_no (by decide) (World.grownBy.refl _ _)) ⟨hI.1, hI.2.1.mono (by omega), hI.2.2.1, hI.2.2.2.1, hI.2.2.2.2⟩)
      · intro a k wa K Q hkn hI hp hK
        replace hkn : k < 25 := hkn
        exact op_move _ (.inr rfl) (hK _ _ (hp.dep 20 45 (by kernel_rfl)) (relOf_no (by decide) (World.grownBy.refl _ _)) ⟨hI.1, hI.2.1.mono (by omega), hI.2.2.1, hI.2.2.2.1, hI.2.2.2.2⟩)
    case fin6 =>
      intro f W7 hT hI0
      obtain ⟨hG_, hR_, _, hb3, hb8⟩ : GrownP (fun k => k = br ∨ k = w.heap.size) W6 W7 ∧ RdrT W7 br w.heap.size (400 + 1 * 25) ∧ W6.heap.size ≤ W7.heap.size ∧ BoxP (fun cs => ∃ c0 c1 : Value, cs = [c0, c1] ∧ IsI (0) (100) c0 ∧ IsI (0) (100) c1) 32 w.heap.size W7 ∧ BoxP (fun cs => ∃ c0 c1 : Value, cs = [c0, c1] ∧ IsI (0) (100) c0 ∧ IsI (0) (100) c1) 32 g8 W7 := hI0
      have hv0 : (f 21) = v := hT 21 (by decide) rfl rfl
      have hx : IsI (0) (40) (f 23) := hT 23 (by decide) rfl rfl
      obtain ⟨hx, hx_e, hx_l, hx_u⟩ := hx
      have hy : IsI (-1) (1000000) (f 24) := hT 24 (by decide) rfl rfl
      obtain ⟨hy, hy_e, hy_l, hy_u⟩ := hy
      clear hT
      replace hD := hD.grownP hG_ (fun k hk e => by have := hD.ge k e; rcases hk with hk | hk <;> omega)
      replace hGd := GrownP.to hGd hG_ (fun k hk => by rcases hk with rfl | rfl; exact .inl rfl; exact .inr (by omega))
      replace hRd := hR_
      clear hG_ hR_
      simp only [putAll, hv0, hx_e, hy_e]
      go_simp
      clear hv0
      clear hx_e
      clear hy_e
      go_wp2
      obtain ⟨_, ⟨d0, d1, rfl, ⟨z0, rfl, z0l, z0u⟩, ⟨z1, rfl, z1l, z1u⟩⟩, hx3⟩ := hb3
      have k30 : W7.cell? ⟨w.heap.size, 0, Option.none⟩ = some _ := (cell_of_row W7 w.heap.size 0 _ _ _ hx3).trans rfl
      have k31 : W7.cell? ⟨w.heap.size, 1, Option.none⟩ = some _ := (cell_of_row W7 w.heap.size 1 _ _ _ hx3).trans rfl
      try simp only [Exit.inBlock, Exit.then]
      obtain ⟨us, h1, _, h2⟩ := hD
      refine bodyPost_ret (v := .tuple #[v, .agg #[.int .i64 z0, .int .i64 z1], .int .i64 hx, .int .i64 hy]) (by rw [results_tctt rfl]; go_simp) rfl ?_
      exact ⟨us, v, z0, z1, hx, hy, rfl, h1, h2.lower (by omega), (Below.refl _ _).grown hGd (Nat.le_refl _) (fun k e => by cases e; omega)⟩
  · skip
    have e3' : (p3 == 0) = false := by simpa using e3
    go_wp2_with fail
    obtain ⟨W6, hW6⟩ : ∃ W, W = wd5 := ⟨_, rfl⟩
    subst hW6
    have hcb6 : w.heap.size ≤ br := hRd.cb_
    have hbr6 : br < W6.heap.size := hRd.lt
    have hBs6 : w.heap.size ≤ W6.heap.size := hGd.size
    have hbx6_3 : w.heap.size < W6.heap.size := hb3.lt
    have hbx6_8 : g8 < W6.heap.size := hb8.lt
    refine wp_region_draws (some 22) (fun _ => True) (fun i wz vz => match i with | 0 => vz = v | 1 => ∃ c0 c1 : Value, vz = .agg #[c0, c1] ∧ IsI (0) (100) c0 ∧ IsI (0) (100) c1 | 2 => vz = .pointer (some ⟨br, 0, Option.none⟩) | 3 => IsI (0) (39) vz | 4 => IsI (1) (40) vz | 5 => SlP W6.heap.size 1 2 (fun cs => ∃ c0 : Value, cs = [c0] ∧ IsI (0) (40) c0) wz vz | 6 => vz = .pointer (some ⟨br, 0, Option.none⟩) | 7 => IsI (0) (8) vz | 8 => IsI (0) (1) vz | 9 => PtrP W6.heap.size (fun cs => ∃ c0 : Value, cs = [c0] ∧ IsI (0) (40) c0) wz vz | 10 => IsI (0) (40) vz | 11 => vz = .pointer (some ⟨br, 0, Option.none⟩) | 12 => IsI (0) (29) vz | 13 => SlP W6.heap.size 1 3 (fun cs => ∃ c0 : Value, cs = [c0] ∧ IsI (-1) (1000000) c0) wz vz | 14 => SlP W6.heap.size 1 6 (fun cs => ∃ c0 : Value, cs = [c0] ∧ IsI (0) (2) c0) wz vz | 15 => vz = .pointer (some ⟨br, 0, Option.none⟩) | 16 => IsI (0) (5) vz | 17 => PtrP W6.heap.size (fun cs => ∃ c0 : Value, cs = [c0] ∧ IsI (0) (2) c0) wz vz | 18 => IsI (0) (2) vz | 19 => PtrP W6.heap.size (fun cs => ∃ c0 : Value, cs = [c0] ∧ IsI (-1) (1000000) c0) wz vz | 20 => IsI (-1) (1000000) vz | 21 => vz = v | 23 => IsI (0) (40) vz | 24 => IsI (-1) (1000000) vz | _ => True) (fun k wz => GrownP (fun k => k = br ∨ k = w.heap.size) W6 wz ∧ RdrT wz br w.heap.size (400 + 1 * k) ∧ W6.heap.size ≤ wz.heap.size ∧ BoxP (fun cs => ∃ c0 c1 : Value, cs = [c0, c1] ∧ IsI (0) (100) c0 ∧ IsI (0) (100) c1) 32 w.heap.size wz ∧ BoxP (fun cs => ∃ c0 c1 : Value, cs = [c0, c1] ∧ IsI (0) (100) c0 ∧ IsI (0) (100) c1) 32 g8 wz) (relOf (some 22) W6.heap.size br) (fun _ => Option.none) (by kernel_rfl) (by kernel_rfl) (by kernel_rfl) ?stab6 ?stabG6 ?inv6 ?pre6 ?all6 ?fin6
    case stab6 =>
      intro i j wa wb v hR hk hne hd _ hT
      have hA := relOf_above hbr6 hR
      match j, hk, hne, hd, hT with
      | 0, hk, hne, hd, hT => exact hT
      | 1, hk, hne, hd, hT => exact hT
      | 2, hk, hne, hd, hT => exact hT
      | 3, hk, hne, hd, hT => exact hT
      | 4, hk, hne, hd, hT => exact hT
      | 5, hk, hne, hd, hT => exact hT.above hA
      | 6, hk, hne, hd, hT => exact hT
      | 7, hk, hne, hd, hT => exact hT
      | 8, hk, hne, hd, hT => exact hT
      | 9, hk, hne, hd, hT => exact hT.above hA
      | 10, hk, hne, hd, hT => exact hT
      | 11, hk, hne, hd, hT => exact hT
      | 12, hk, hne, hd, hT => exact hT
      | 13, hk, hne, hd, hT => exact hT.above hA
      | 14, hk, hne, hd, hT => exact hT.above hA
      | 15, hk, hne, hd, hT => exact hT
      | 16, hk, hne, hd, hT => exact hT
      | 17, hk, hne, hd, hT => exact hT.above hA
      | 18, hk, hne, hd, hT => exact hT
      | 19, hk, hne, hd, hT => exact hT.above hA
      | 20, hk, hne, hd, hT => exact hT
      | 21, hk, hne, hd, hT => exact hT
      | 23, hk, hne, hd, hT => exact hT
      | 24, hk, hne, hd, hT => exact hT
      | 22, _, _, _, _ => trivial
      | n + 25, _, _, _, _ => trivial
    case stabG6 =>
      intros; trivial
    case inv6 =>
      exact ⟨GrownP.refl _ _, (hRd.below (ext_drew (Below.refl _ _))).mono (by omega), Nat.le_refl _, hb3.below (ext_drew (Below.refl _ _)), hb8.below (ext_drew (Below.refl _ _))⟩
    case pre6 =>
      trivial
    case all6 =>
      refine RAll.cons rfl ?_ (RAll.cons rfl ?_ (RAll.cons rfl ?_ (RAll.cons rfl ?_ (RAll.cons rfl ?_ (RAll.cons rfl ?_ (RAll.cons rfl ?_ (RAll.cons rfl ?_ (RAll.cons rfl ?_ (RAll.cons rfl ?_ (RAll.cons rfl ?_ (RAll.cons rfl ?_ (RAll.cons rfl ?_ (RAll.cons rfl ?_ (RAll.cons rfl ?_ (RAll.cons rfl ?_ (RAll.cons rfl ?_ (RAll.cons rfl ?_ (RAll.cons rfl ?_ (RAll.cons rfl ?_ (RAll.cons rfl ?_ (RAll.cons rfl ?_ (RAll.cons rfl ?_ (RAll.cons rfl ?_ (RAll.cons rfl ?_ (RAll.none_)))))))))))))))))))))))))
      · intro a k wa K Q hkn hI hp hK
        replace hkn : k < 25 := hkn
        exact op_move _ (.inl rfl) (hK _ _ (hp.keep 7 (by kernel_rfl)) (relOf_no (by decide) (World.grownBy.refl _ _)) ⟨hI.1, hI.2.1.mono (by omega), hI.2.2.1, hI.2.2.2.1, hI.2.2.2.2⟩)
      · intro a k wa K Q hkn hI hp hK
        replace hkn : k < 25 := hkn
        have e8 := tmp_of (show a.eval (.tmp 8) = .pointer (some ⟨g8, 0, Option.none⟩) from hp.keep 8 (by kernel_rfl))
        obtain ⟨_, ⟨cb8_0, cb8_1, rfl, ⟨xb8_0, rfl, lb8_0, ub8_0⟩, ⟨xb8_1, rfl, lb8_1, ub8_1⟩⟩, hbx_⟩ := hI.2.2.2.2
        have kb8_0 : wa.cell? ⟨g8, 0, Option.none⟩ = some _ := (cell_of_row wa g8 0 _ _ _ hbx_).trans rfl
        have kb8_1 : wa.cell? ⟨g8, 1, Option.none⟩ = some _ := (cell_of_row wa g8 1 _ _ _ hbx_).trans rfl
        go_simp
        exact hK _ _ ⟨_, _, rfl, ⟨_, rfl, by omega, by omega⟩, ⟨_, rfl, by omega, by omega⟩⟩ (relOf_no (by decide) (World.grownBy.refl _ _)) ⟨hI.1, hI.2.1.mono (by omega), hI.2.2.1, hI.2.2.2.1, hI.2.2.2.2⟩
      · intro a k wa K Q hkn hI hp hK
        replace hkn : k < 25 := hkn
        exact op_move _ (.inl rfl) (hK _ _ (hp.keep 6 (by kernel_rfl)) (relOf_no (by decide) (World.grownBy.refl _ _)) ⟨hI.1, hI.2.1.mono (by omega), hI.2.2.1, hI.2.2.2.1, hI.2.2.2.2⟩)
      · intro a k wa K Q hkn hI hp hK
        replace hkn : k < 25 := hkn
        have e27 := tmp_of (show a.eval (.tmp 27) = .pointer (some ⟨br, 0, Option.none⟩) from hp.dep 2 27 (by kernel_rfl))
        go_simp
        refine (pick_d hI.2.1 (by omega) (by omega) (by omega)).mono ?_
        rintro e wb ⟨x, rfl, hx0, hx1, hR, hG⟩
        exact hK _ _ ⟨x, rfl, hx0, by omega⟩ (relOf_no (by decide) hG) ⟨hI.1.step hG (fun k e => by cases e; exact .inl (.inl rfl)), hR.mono (by omega), Nat.le_trans hI.2.2.1 hG.size, hI.2.2.2.1.grown hG (fun e => by cases e; omega), hI.2.2.2.2.grown hG (fun e => by cases e; omega)⟩
      · intro a k wa K Q hkn hI hp hK
        replace hkn : k < 25 := hkn
        have t28 : IsI (0) (39) (a.eval (.tmp 28)) := hp.dep 3 28 (by kernel_rfl)
        obtain ⟨x28, e28, l28, u28⟩ := t28
        replace e28 := tmp_of e28
        go_simp
        exact hK _ _ ⟨_, rfl, by (first | omega | (simp only [IntKind.wrap_i64]; omega)), by (first | omega | (simp only [IntKind.wrap_i64]; omega))⟩ (relOf_no (by decide) (World.grownBy.refl _ _)) ⟨hI.1, hI.2.1.mono (by omega), hI.2.2.1, hI.2.2.2.1, hI.2.2.2.2⟩
      · intro a k wa K Q hkn hI hp hK
        replace hkn : k < 25 := hkn
        have t29 : IsI (1) (40) (a.eval (.tmp 29)) := hp.dep 4 29 (by kernel_rfl)
        obtain ⟨x29, e29, l29, u29⟩ := t29
        replace e29 := tmp_of e29
        have hwi : W6.heap.size ≤ wa.heap.size := hI.2.2.1
        go_simp
        exact hK _ _ (sl_new hwi [[_], [_]] rfl rfl (by decide) rfl ⟨⟨_, rfl, ⟨_, rfl, by omega, by omega⟩⟩, ⟨_, rfl, ⟨_, rfl, by omega, by omega⟩⟩, trivial⟩) (relOf_no (by decide) (grown_alloc_ _ _ _)) ⟨hI.1.step (grown_alloc_ _ _ Option.none) (fun k e => by cases e), (hI.2.1.below (below_alloc _ _)).mono (by omega), Nat.le_trans hI.2.2.1 (below_alloc _ _).size, hI.2.2.2.1.below (below_alloc _ _), hI.2.2.2.2.below (below_alloc _ _)⟩
      · intro a k wa K Q hkn hI hp hK
        replace hkn : k < 25 := hkn
        exact op_move _ (.inl rfl) (hK _ _ (hp.keep 6 (by kernel_rfl)) (relOf_no (by decide) (World.grownBy.refl _ _)) ⟨hI.1, hI.2.1.mono (by omega), hI.2.2.1, hI.2.2.2.1, hI.2.2.2.2⟩)
      · intro a k wa K Q hkn hI hp hK
        replace hkn : k < 25 := hkn
        have e31 := tmp_of (show a.eval (.tmp 31) = .pointer (some ⟨br, 0, Option.none⟩) from hp.dep 6 31 (by kernel_rfl))
        go_simp
        refine (pick_d hI.2.1 (by omega) (by omega) (by omega)).mono ?_
        rintro e wb ⟨x, rfl, hx0, hx1, hR, hG⟩
        exact hK _ _ ⟨x, rfl, hx0, by omega⟩ (relOf_no (by decide) hG) ⟨hI.1.step hG (fun k e => by cases e; exact .inl (.inl rfl)), hR.mono (by omega), Nat.le_trans hI.2.2.1 hG.size, hI.2.2.2.1.grown hG (fun e => by cases e; omega), hI.2.2.2.2.grown hG (fun e => by cases e; omega)⟩
      · intro a k wa K Q hkn hI hp hK
        replace hkn : k < 25 := hkn
        have t32 : IsI (0) (8) (a.eval (.tmp 32)) := hp.dep 7 32 (by kernel_rfl)
        obtain ⟨x32, e32, l32, u32⟩ := t32
        replace e32 := tmp_of e32
        have hq_ := Int.tdiv_eq_ediv_of_nonneg (b := 8) l32
        go_simp
        exact hK _ _ ⟨_, rfl, by (first | omega | (simp only [IntKind.wrap_i64]; omega)), by (first | omega | (simp only [IntKind.wrap_i64]; omega))⟩ (relOf_no (by decide) (World.grownBy.refl _ _)) ⟨hI.1, hI.2.1.mono (by omega), hI.2.2.1, hI.2.2.2.1, hI.2.2.2.2⟩
      · intro a k wa K Q hkn hI hp hK
        replace hkn : k < 25 := hkn
        have t30 : SlP W6.heap.size 1 2 (fun cs => ∃ c0 : Value, cs = [c0] ∧ IsI (0) (40) c0) wa (a.eval (.tmp 30)) := hp.dep 5 30 (by kernel_rfl)
        obtain ⟨n30, g30, c30, e30, b30, h30⟩ := t30
        replace e30 := tmp_of e30
        have t33 : IsI (0) (1) (a.eval (.tmp 33)) := hp.dep 8 33 (by kernel_rfl)
        obtain ⟨x33, e33, l33, u33⟩ := t33
        replace e33 := tmp_of e33
        have lt33 : x33 < 2 := by omega
        go_simp
        exact hK _ _ ⟨_, _, rfl, b30, by have h_ := h30 x33.toNat (by omega); rwa [Nat.mul_one] at h_⟩ (relOf_no (by decide) (World.grownBy.refl _ _)) ⟨hI.1, hI.2.1.mono (by omega), hI.2.2.1, hI.2.2.2.1, hI.2.2.2.2⟩
      · intro a k wa K Q hkn hI hp hK
        replace hkn : k < 25 := hkn
        have t34 : PtrP W6.heap.size (fun cs => ∃ c0 : Value, cs = [c0] ∧ IsI (0) (40) c0) wa (a.eval (.tmp 34)) := hp.dep 9 34 (by kernel_rfl)
        obtain ⟨g34, o34, e34, b34, cs34, ⟨c34_0, rfl, ⟨x34_0, rfl, l34_0, u34_0⟩⟩, h34⟩ := t34
        have k34_0 : wa.cell? ⟨g34, o34, Option.none⟩ = some _ := h34 0 _ rfl
        replace e34 := tmp_of e34
        go_simp
        exact hK _ _ ⟨_, rfl, by omega, by omega⟩ (relOf_no (by decide) (World.grownBy.refl _ _)) ⟨hI.1, hI.2.1.mono (by omega), hI.2.2.1, hI.2.2.2.1, hI.2.2.2.2⟩
      · intro a k wa K Q hkn hI hp hK
        replace hkn : k < 25 := hkn
        exact op_move _ (.inl rfl) (hK _ _ (hp.keep 6 (by kernel_rfl)) (relOf_no (by decide) (World.grownBy.refl _ _)) ⟨hI.1, hI.2.1.mono (by omega), hI.2.2.1, hI.2.2.2.1, hI.2.2.2.2⟩)
      · intro a k wa K Q hkn hI hp hK
        replace hkn : k < 25 := hkn
        have e36 := tmp_of (show a.eval (.tmp 36) = .pointer (some ⟨br, 0, Option.none⟩) from hp.dep 11 36 (by kernel_rfl))
        go_simp
        refine (pick_d hI.2.1 (by omega) (by omega) (by omega)).mono ?_
        rintro e wb ⟨x, rfl, hx0, hx1, hR, hG⟩
        exact hK _ _ ⟨x, rfl, hx0, by omega⟩ (relOf_no (by decide) hG) ⟨hI.1.step hG (fun k e => by cases e; exact .inl (.inl rfl)), hR.mono (by omega), Nat.le_trans hI.2.2.1 hG.size, hI.2.2.2.1.grown hG (fun e => by cases e; omega), hI.2.2.2.2.grown hG (fun e => by cases e; omega)⟩
      · intro a k wa K Q hkn hI hp hK
        replace hkn : k < 25 := hkn
        have t37 : IsI (0) (29) (a.eval (.tmp 37)) := hp.dep 12 37 (by kernel_rfl)
        obtain ⟨x37, e37, l37, u37⟩ := t37
        replace e37 := tmp_of e37
        have hwi : W6.heap.size ≤ wa.heap.size := hI.2.2.1
        go_simp
        exact hK _ _ (sl_new hwi [[_], [_], [_]] rfl rfl (by decide) rfl ⟨⟨_, rfl, ⟨_, rfl, by omega, by omega⟩⟩, ⟨_, rfl, ⟨_, rfl, by omega, by omega⟩⟩, ⟨_, rfl, ⟨_, rfl, by omega, by omega⟩⟩, trivial⟩) (relOf_no (by decide) (grown_alloc_ _ _ _)) ⟨hI.1.step (grown_alloc_ _ _ Option.none) (fun k e => by cases e), (hI.2.1.below (below_alloc _ _)).mono (by omega), Nat.le_trans hI.2.2.1 (below_alloc _ _).size, hI.2.2.2.1.below (below_alloc _ _), hI.2.2.2.2.below (below_alloc _ _)⟩
      · intro a k wa K Q hkn hI hp hK
        replace hkn : k < 25 := hkn
        have hwi : W6.heap.size ≤ wa.heap.size := hI.2.2.1
        go_simp
        exact hK _ _ (sl_new hwi [[_], [_], [_], [_], [_], [_]] rfl rfl (by decide) rfl ⟨⟨_, rfl, ⟨_, rfl, by omega, by omega⟩⟩, ⟨_, rfl, ⟨_, rfl, by omega, by omega⟩⟩, ⟨_, rfl, ⟨_, rfl, by omega, by omega⟩⟩, ⟨_, rfl, ⟨_, rfl, by omega, by omega⟩⟩, ⟨_, rfl, ⟨_, rfl, by omega, by omega⟩⟩, ⟨_, rfl, ⟨_, rfl, by omega, by omega⟩⟩, trivial⟩) (relOf_no (by decide) (grown_alloc_ _ _ _)) ⟨hI.1.step (grown_alloc_ _ _ Option.none) (fun k e => by cases e), (hI.2.1.below (below_alloc _ _)).mono (by omega), Nat.le_trans hI.2.2.1 (below_alloc _ _).size, hI.2.2.2.1.below (below_alloc _ _), hI.2.2.2.2.below (below_alloc _ _)⟩
      · intro a k wa K Q hkn hI hp hK
        replace hkn : k < 25 := hkn
        exact op_move _ (.inl rfl) (hK _ _ (hp.keep 6 (by kernel_rfl)) (relOf_no (by decide) (World.grownBy.refl _ _)) ⟨hI.1, hI.2.1.mono (by omega), hI.2.2.1, hI.2.2.2.1, hI.2.2.2.2⟩)
      · intro a k wa K Q hkn hI hp hK
        replace hkn : k < 25 := hkn
        have e40 := tmp_of (show a.eval (.tmp 40) = .pointer (some ⟨br, 0, Option.none⟩) from hp.dep 15 40 (by kernel_rfl))
        go_simp
        refine (pick_d hI.2.1 (by omega) (by omega) (by omega)).mono ?_
        rintro e wb ⟨x, rfl, hx0, hx1, hR, hG⟩
        exact hK _ _ ⟨x, rfl, hx0, by omega⟩ (relOf_no (by decide) hG) ⟨hI.1.step hG (fun k e => by cases e; exact .inl (.inl rfl)), hR.mono (by omega), Nat.le_trans hI.2.2.1 hG.size, hI.2.2.2.1.grown hG (fun e => by cases e; omega), hI.2.2.2.2.grown hG (fun e => by cases e; omega)⟩
      · intro a k wa K Q hkn hI hp hK
        replace hkn : k < 25 := hkn
        have t39 : SlP W6.heap.size 1 6 (fun cs => ∃ c0 : Value, cs = [c0] ∧ IsI (0) (2) c0) wa (a.eval (.tmp 39)) := hp.dep 14 39 (by kernel_rfl)
        obtain ⟨n39, g39, c39, e39, b39, h39⟩ := t39
        replace e39 := tmp_of e39
        have t41 : IsI (0) (5) (a.eval (.tmp 41)) := hp.dep 16 41 (by kernel_rfl)
        obtain ⟨x41, e41, l41, u41⟩ := t41
        replace e41 := tmp_of e41
        have lt41 : x41 < 6 := by omega
        go_simp
        exact hK _ _ ⟨_, _, rfl, b39, by have h_ := h39 x41.toNat (by omega); rwa [Nat.mul_one] at h_⟩ (relOf_no (by decide) (World.grownBy.refl _ _)) ⟨hI.1, hI.2.1.mono (by omega), hI.2.2.1, hI.2.2.2.1, hI.2.2.2.2⟩
      · intro a k wa K Q hkn hI hp hK
        replace hkn : k < 25 := hkn
        have t42 : PtrP W6.heap.size (fun cs => ∃ c0 : Value, cs = [c0] ∧ IsI (0) (2) c0) wa (a.eval (.tmp 42)) := hp.dep 17 42 (by kernel_rfl)
        obtain ⟨g42, o42, e42, b42, cs42, ⟨c42_0, rfl, ⟨x42_0, rfl, l42_0, u42_0⟩⟩, h42⟩ := t42
        have k42_0 : wa.cell? ⟨g42, o42, Option.none⟩ = some _ := h42 0 _ rfl
        replace e42 := tmp_of e42
        go_simp
        exact hK _ _ ⟨_, rfl, by omega, by omega⟩ (relOf_no (by decide) (World.grownBy.refl _ _)) ⟨hI.1, hI.2.1.mono (by omega), hI.2.2.1, hI.2.2.2.1, hI.2.2.2.2⟩
      · intro a k wa K Q hkn hI hp hK
        replace hkn : k < 25 := hkn
        have t38 : SlP W6.heap.size 1 3 (fun cs => ∃ c0 : Value, cs = [c0] ∧ IsI (-1) (1000000) c0) wa (a.eval (.tmp 38)) := hp.dep 13 38 (by kernel_rfl)
        obtain ⟨n38, g38, c38, e38, b38, h38⟩ := t38
        replace e38 := tmp_of e38
        have t43 : IsI (0) (2) (a.eval (.tmp 43)) := hp.dep 18 43 (by kernel_rfl)
        obtain ⟨x43, e43, l43, u43⟩ := t43
        replace e43 := tmp_of e43
        have lt43 : x43 < 3 := by omega
        go_simp
        exact hK _ _ ⟨_, _, rfl, b38, by have h_ := h38 x43.toNat (by omega); rwa [Nat.mul_one] at h_⟩ (relOf_no (by decide) (World.grownBy.refl _ _)) ⟨hI.1, hI.2.1.mono (by omega), hI.2.2.1, hI.2.2.2.1, hI.2.2.2.2⟩
      · intro a k wa K Q hkn hI hp hK
        replace hkn : k < 25 := hkn
        have t44 : PtrP W6.heap.size (fun cs => ∃ c0 : Value, cs = [c0] ∧ IsI (-1) (1000000) c0) wa (a.eval (.tmp 44)) := hp.dep 19 44 (by kernel_rfl)
        obtain ⟨g44, o44, e44, b44, cs44, ⟨c44_0, rfl, ⟨x44_0, rfl, l44_0, u44_0⟩⟩, h44⟩ := t44
        have k44_0 : wa.cell? ⟨g44, o44, Option.none⟩ = some _ := h44 0 _ rfl
        replace e44 := tmp_of e44
        go_simp
        exact hK _ _ ⟨_, rfl, by omega, by omega⟩ (relOf_no (by decide) (World.grownBy.refl _ _)) ⟨hI.1, hI.2.1.mono (by omega), hI.2.2.1, hI.2.2.2.1, hI.2.2.2.2⟩
      · intro a k wa K Q hkn hI hp hK
        replace hkn : k < 25 := hkn
        exact op_move _ (.inr rfl) (hK _ _ (hp.dep 0 25 (by kernel_rfl)) (relOf_no (by decide) (World.grownBy.refl _ _)) ⟨hI.1, hI.2.1.mono (by omega), hI.2.2.1, hI.2.2.2.1, hI.2.2.2.2⟩)
      · intro a k wa K Q hkn hI hp hK
        replace hkn : k < 25 := hkn
        have e3 := tmp_of (show a.eval (.tmp 3) = .pointer (some ⟨w.heap.size, 0, Option.none⟩) from hp.keep 3 (by kernel_rfl))
        have t26 : ∃ c0 c1 : Value, (a.eval (.tmp 26)) = .agg #[c0, c1] ∧ IsI (0) (100) c0 ∧ IsI (0) (100) c1 := hp.dep 1 26 (by kernel_rfl)
        obtain ⟨c26_0, c26_1, e26, ⟨x26_0, rfl, l26_0, u26_0⟩, ⟨x26_1, rfl, l26_1, u26_1⟩⟩ := t26
        replace e26 := tmp_of e26
        obtain ⟨_, ⟨cb3_0, cb3_1, rfl, ⟨xb3_0, rfl, lb3_0, ub3_0⟩, ⟨xb3_1, rfl, lb3_1, ub3_1⟩⟩, hbx_⟩ := hI.2.2.2.1
        have kb3_0 : wa.cell? ⟨w.heap.size, 0, Option.none⟩ = some _ := (cell_of_row wa w.heap.size 0 _ _ _ hbx_).trans rfl
        have kb3_1 : wa.cell? ⟨w.heap.size, 1, Option.none⟩ = some _ := (cell_of_row wa w.heap.size 1 _ _ _ hbx_).trans rfl
        have fb0 := frozen_of_row wa w.heap.size 0 _ _ hbx_
        have fb1 := frozen_of_row wa w.heap.size 1 _ _ hbx_
        go_simp
        have hgs_ := setCells_grown w.heap.size [(.int .i64 x26_0), (.int .i64 x26_1)] wa 0
        exact hK undef _ trivial (relOf_yes rfl (above_of hgs_ (fun k e => by cases e; omega))) ⟨hI.1.step hgs_ (fun k e => by cases e; exact .inl (.inr rfl)), (hI.2.1.grown hgs_ (fun k e => by cases e; omega)).mono (by omega), Nat.le_trans hI.2.2.1 hgs_.size, hI.2.2.2.1.put [(.int .i64 x26_0), (.int .i64 x26_1)] (fun cs hcs => by obtain ⟨_, _, rfl, _⟩ := hcs; rfl) ⟨_, _, rfl, ⟨_, rfl, by omega, by omega⟩, ⟨_, rfl, by omega, by omega⟩⟩, hI.2.2.2.2.grown hgs_ (fun e => by cases e; omega)⟩
      · intro a k wa K Q hkn hI hp hK
        replace hkn : k < 25 := hkn
        exact op_move _ (.inr rfl) (hK _ _ (hp.dep 10 35 (by kernel_rfl)) (relOf_no (by decide) (World.grownBy.refl _ _)) ⟨hI.1, hI.2.1.mono (by omega), hI.2.2.1, hI.2.2.2.1, hI.2.2.2.2⟩)
      · intro a k wa K Q hkn hI hp hK
        replace hkn : k < 25 := hkn
        exact op_move _ (.inr rfl) (hK _ _ (hp.dep 20 45 (by kernel_rfl)) (relOf_no (by decide) (World.grownBy.refl _ _)) ⟨hI.1, hI.2.1.mono (by omega), hI.2.2.1, hI.2.2.2.1, hI.2.2.2.2⟩)
    case fin6 =>
      intro f W7 hT hI0
      obtain ⟨hG_, hR_, _, hb3, hb8⟩ : GrownP (fun k => k = br ∨ k = w.heap.size) W6 W7 ∧ RdrT W7 br w.heap.size (400 + 1 * 25) ∧ W6.heap.size ≤ W7.heap.size ∧ BoxP (fun cs => ∃ c0 c1 : Value, cs = [c0, c1] ∧ IsI (0) (100) c0 ∧ IsI (0) (100) c1) 32 w.heap.size W7 ∧ BoxP (fun cs => ∃ c0 c1 : Value, cs = [c0, c1] ∧ IsI (0) (100) c0 ∧ IsI (0) (100) c1) 32 g8 W7 := hI0
      have hv0 : (f 21) = v := hT 21 (by decide) rfl rfl
      have hx : IsI (0) (40) (f 23) := hT 23 (by decide) rfl rfl
      obtain ⟨hx, hx_e, hx_l, hx_u⟩ := hx
      have hy : IsI (-1) (1000000) (f 24) := hT 24 (by decide) rfl rfl
      obtain ⟨hy, hy_e, hy_l, hy_u⟩ := hy
      clear hT
      replace hD := hD.grownP hG_ (fun k hk e => by have := hD.ge k e; rcases hk with hk | hk <;> omega)
      replace hGd := GrownP.to hGd hG_ (fun k hk => by rcases hk with rfl | rfl; exact .inl rfl; exact .inr (by omega))
      replace hRd := hR_
      clear hG_ hR_
      simp only [putAll, hv0, hx_e, hy_e]
      go_simp
      clear hv0
      clear hx_e
      clear hy_e
      go_wp2
      obtain ⟨_, ⟨d0, d1, rfl, ⟨z0, rfl, z0l, z0u⟩, ⟨z1, rfl, z1l, z1u⟩⟩, hx3⟩ := hb3
      have k30 : W7.cell? ⟨w.heap.size, 0, Option.none⟩ = some _ := (cell_of_row W7 w.heap.size 0 _ _ _ hx3).trans rfl
      have k31 : W7.cell? ⟨w.heap.size, 1, Option.none⟩ = some _ := (cell_of_row W7 w.heap.size 1 _ _ _ hx3).trans rfl
      try simp only [Exit.inBlock, Exit.then]
      obtain ⟨us, h1, _, h2⟩ := hD
      refine bodyPost_ret (v := .tuple #[v, .agg #[.int .i64 z0, .int .i64 z1], .int .i64 hx, .int .i64 hy]) (by rw [results_tctt rfl]; go_simp) rfl ?_
      exact ⟨us, v, z0, z1, hx, hy, rfl, h1, h2.lower (by omega), (Below.refl _ _).grown hGd (Nat.le_refl _) (fun k e => by cases e; omega)⟩
end Go.Proofs.Ytjiooipoeahdmaa

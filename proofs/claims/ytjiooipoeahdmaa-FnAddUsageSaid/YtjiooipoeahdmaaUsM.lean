/- DrawUsedWithin. -/
import Derived.Test.YtjiooipoeahdmaaUsL
import Derived.OwnWalk
namespace Go.Proofs.Ytjiooipoeahdmaa
open Go.RowKit

set_option maxRecDepth 100000 in
set_option maxHeartbeats 4000000 in
theorem DrawUsedWithin_d {A : Option Addr} {l : List Int} {c : Nat} {w : World} (hC : CodeR w w.heap.size A l) (hc : l.length ≤ c) :
    Calls Try.prog 18 #[.slice A l.length c] w fun e w' => ∃ (us : List (Int × Int)) (v : Value) (x y : Int), e = .returned (.tuple #[v, .int .i64 x, .int .i64 y]) ∧ us.length ≤ 7 ∧ (0 ≤ x ∧ x ≤ 1000) ∧ (-1 ≤ y ∧ y ≤ 1001) ∧ OwnA w.heap.size 32 2 usEnc w' v us ∧ Below w.heap.size w w' := by
  go_enter Try.func18, Try.ntmps18
  go_wp2_with fail
  refine (l20Open_any (Nat.le_refl _) hC hc hC.1).mono ?_
  rintro e w1 ⟨rfl, hR, hB1⟩
  go_wp2_with fail
  refine (l20Usages_d (N := 0) ⟨0, by omega, by omega, hR⟩ (by omega) (by omega) (by omega)).mono ?_
  rintro e w2 ⟨v, rfl, hD, hRd, hG⟩
  have hBo := Lib.hid hB1
  obtain ⟨br, hbr⟩ : ∃ br, br = w.heap.size := ⟨_, rfl⟩
  rw [← hbr] at hRd hG ⊢
  have hw1 := hR.lt
  rw [← hbr] at hw1
  have hGd := World.grownBy.refl w2 (some br)
  have hlow : w1.heap.size ≤ w2.heap.size := hG.size
  have hbrW := hRd.lt
  have HB := Lib.hid hbr
  have HG := Lib.hid hG
  clear hbr hG hR hB1
  go_wp2_with fail
  have hcb3 : br ≤ br := hRd.cb_
  have hbr3 : br < w2.heap.size := hRd.lt
  have hBs3 : w2.heap.size ≤ w2.heap.size := hGd.size
  refine wp_region_draws Option.none (fun _ => True) (fun i wz vz => match i with | 0 => vz = v | 1 => vz = .pointer (some ⟨br, 0, Option.none⟩) | 2 => IsI (0) (19) vz | 3 => IsI (1) (20) vz | 4 => SlP w2.heap.size 1 3 (fun cs => ∃ c0 : Value, cs = [c0] ∧ IsI (0) (1000) c0) wz vz | 5 => SlP w2.heap.size 1 6 (fun cs => ∃ c0 : Value, cs = [c0] ∧ IsI (0) (2) c0) wz vz | 6 => vz = .pointer (some ⟨br, 0, Option.none⟩) | 7 => IsI (0) (5) vz | 8 => PtrP w2.heap.size (fun cs => ∃ c0 : Value, cs = [c0] ∧ IsI (0) (2) c0) wz vz | 9 => IsI (0) (2) vz | 10 => PtrP w2.heap.size (fun cs => ∃ c0 : Value, cs = [c0] ∧ IsI (0) (1000) c0) wz vz | 11 => IsI (0) (1000) vz | 12 => vz = .pointer (some ⟨br, 0, Option.none⟩) | 13 => IsI (0) (49) vz | 14 => SlP w2.heap.size 1 4 (fun cs => ∃ c0 : Value, cs = [c0] ∧ IsI (-1) (1001) c0) wz vz | 15 => SlP w2.heap.size 1 7 (fun cs => ∃ c0 : Value, cs = [c0] ∧ IsI (0) (3) c0) wz vz | 16 => vz = .pointer (some ⟨br, 0, Option.none⟩) | 17 => IsI (0) (6) vz | 18 => PtrP w2.heap.size (fun cs => ∃ c0 : Value, cs = [c0] ∧ IsI (0) (3) c0) wz vz | 19 => IsI (0) (3) vz | 20 => PtrP w2.heap.size (fun cs => ∃ c0 : Value, cs = [c0] ∧ IsI (-1) (1001) c0) wz vz | 21 => IsI (-1) (1001) vz | 22 => vz = v | 23 => IsI (0) (1000) vz | 24 => IsI (-1) (1001) vz | _ => True) (fun k wz => GrownP (fun k => k = br) w2 wz ∧ RdrT wz br br (200 + 1 * k) ∧ w2.heap.size ≤ wz.heap.size) (relOf Option.none w2.heap.size br) (fun _ => Option.none) (by kernel_rfl) (by kernel_rfl) (by kernel_rfl) ?stab3 ?stabG3 ?inv3 ?pre3 ?all3 ?fin3
  case stab3 =>
    intro i j wa wb v hR hk hne hd _ hT
    have hA := relOf_above hbr3 hR
    match j, hk, hne, hd, hT with
    | 0, hk, hne, hd, hT => exact hT
    | 1, hk, hne, hd, hT => exact hT
    | 2, hk, hne, hd, hT => exact hT
    | 3, hk, hne, hd, hT => exact hT
    | 4, hk, hne, hd, hT => exact hT.above hA
    | 5, hk, hne, hd, hT => exact hT.above hA
    | 6, hk, hne, hd, hT => exact hT
    | 7, hk, hne, hd, hT => exact hT
    | 8, hk, hne, hd, hT => exact hT.above hA
    | 9, hk, hne, hd, hT => exact hT
    | 10, hk, hne, hd, hT => exact hT.above hA
    | 11, hk, hne, hd, hT => exact hT
    | 12, hk, hne, hd, hT => exact hT
    | 13, hk, hne, hd, hT => exact hT
    | 14, hk, hne, hd, hT => exact hT.above hA
    | 15, hk, hne, hd, hT => exact hT.above hA
    | 16, hk, hne, hd, hT => exact hT
    | 17, hk, hne, hd, hT => exact hT
    | 18, hk, hne, hd, hT => exact hT.above hA
    | 19, hk, hne, hd, hT => exact hT
    | 20, hk, hne, hd, hT => exact hT.above hA
    | 21, hk, hne, hd, hT => exact hT
    | 22, hk, hne, hd, hT => exact hT
    | 23, hk, hne, hd, hT => exact hT
    | 24, hk, hne, hd, hT => exact hT
    | n + 25, _, _, _, _ => trivial
  case stabG3 =>
    intros; trivial
  case inv3 =>
    exact ⟨GrownP.refl _ _, (hRd.below (ext_drew (Below.refl _ _))).mono (by omega), Nat.le_refl _⟩
  case pre3 =>
    trivial
  case all3 =>
    refine RAll.cons rfl ?_ (RAll.cons rfl ?_ (RAll.cons rfl ?_ (RAll.cons rfl ?_ (RAll.cons rfl ?_ (RAll.cons rfl ?_ (RAll.cons rfl ?_ (RAll.cons rfl ?_ (RAll.cons rfl ?_ (RAll.cons rfl ?_ (RAll.cons rfl ?_ (RAll.cons rfl ?_ (RAll.cons rfl ?_ (RAll.cons rfl ?_ (RAll.cons rfl ?_ (RAll.cons rfl ?_ (RAll.cons rfl ?_ (RAll.cons rfl ?_ (RAll.cons rfl ?_ (RAll.cons rfl ?_ (RAll.cons rfl ?_ (RAll.cons rfl ?_ (RAll.cons rfl ?_ (RAll.cons rfl ?_ (RAll.cons rfl ?_ (RAll.none_)))))))))))))))))))))))))
    · intro a k wa K Q hkn hI hp hK
      replace hkn : k < 25 := hkn
      exact op_move _ (.inl rfl) (hK _ _ (hp.keep 6 (by kernel_rfl)) (relOf_no (by decide) (World.grownBy.refl _ _)) ⟨hI.1, hI.2.1.mono (by omega), hI.2.2⟩)
    · intro a k wa K Q hkn hI hp hK
      replace hkn : k < 25 := hkn
      exact op_move _ (.inl rfl) (hK _ _ (hp.keep 5 (by kernel_rfl)) (relOf_no (by decide) (World.grownBy.refl _ _)) ⟨hI.1, hI.2.1.mono (by omega), hI.2.2⟩)
    · intro a k wa K Q hkn hI hp hK
      replace hkn : k < 25 := hkn
      have e12 := tmp_of (show a.eval (.tmp 12) = .pointer (some ⟨br, 0, Option.none⟩) from hp.dep 1 12 (by kernel_rfl))
      go_simp
      refine (pick_d hI.2.1 (by omega) (by omega) (by omega)).mono ?_
      rintro e wb ⟨x, rfl, hx0, hx1, hR, hG⟩
      exact hK _ _ ⟨x, rfl, hx0, by omega⟩ (relOf_no (by decide) hG) ⟨hI.1.step hG (fun k e => by cases e; exact .inl rfl), hR.mono (by omega), Nat.le_trans hI.2.2 hG.size⟩
    · intro a k wa K Q hkn hI hp hK
      replace hkn : k < 25 := hkn
      have t13 : IsI (0) (19) (a.eval (.tmp 13)) := hp.dep 2 13 (by kernel_rfl)
      obtain ⟨x13, e13, l13, u13⟩ := t13
      replace e13 := tmp_of e13
      go_simp
      exact hK _ _ ⟨_, rfl, by (first | omega | (simp only [IntKind.wrap_i64]; omega)), by (first | omega | (simp only [IntKind.wrap_i64]; omega))⟩ (relOf_no (by decide) (World.grownBy.refl _ _)) ⟨hI.1, hI.2.1.mono (by omega), hI.2.2⟩
    · intro a k wa K Q hkn hI hp hK
      replace hkn : k < 25 := hkn
      have t14 : IsI (1) (20) (a.eval (.tmp 14)) := hp.dep 3 14 (by kernel_rfl)
      obtain ⟨x14, e14, l14, u14⟩ := t14
      replace e14 := tmp_of e14
      have hwi : w2.heap.size ≤ wa.heap.size := hI.2.2
      go_simp
      exact hK _ _ (sl_new hwi [[_], [_], [_]] rfl rfl (by decide) rfl ⟨⟨_, rfl, ⟨_, rfl, by omega, by omega⟩⟩, ⟨_, rfl, ⟨_, rfl, by omega, by omega⟩⟩, ⟨_, rfl, ⟨_, rfl, by omega, by omega⟩⟩, trivial⟩) (relOf_no (by decide) (grown_alloc_ _ _ _)) ⟨hI.1.step (grown_alloc_ _ _ Option.none) (fun k e => by cases e), (hI.2.1.below (below_alloc _ _)).mono (by omega), Nat.le_trans hI.2.2 (below_alloc _ _).size⟩
    · intro a k wa K Q hkn hI hp hK
      replace hkn : k < 25 := hkn
      have hwi : w2.heap.size ≤ wa.heap.size := hI.2.2
      go_simp
      exact hK _ _ (sl_new hwi [[_], [_], [_], [_], [_], [_]] rfl rfl (by decide) rfl ⟨⟨_, rfl, ⟨_, rfl, by omega, by omega⟩⟩, ⟨_, rfl, ⟨_, rfl, by omega, by omega⟩⟩, ⟨_, rfl, ⟨_, rfl, by omega, by omega⟩⟩, ⟨_, rfl, ⟨_, rfl, by omega, by omega⟩⟩, ⟨_, rfl, ⟨_, rfl, by omega, by omega⟩⟩, ⟨_, rfl, ⟨_, rfl, by omega, by omega⟩⟩, trivial⟩) (relOf_no (by decide) (grown_alloc_ _ _ _)) ⟨hI.1.step (grown_alloc_ _ _ Option.none) (fun k e => by cases e), (hI.2.1.below (below_alloc _ _)).mono (by omega), Nat.le_trans hI.2.2 (below_alloc _ _).size⟩
    · intro a k wa K Q hkn hI hp hK
      replace hkn : k < 25 := hkn
      exact op_move _ (.inl rfl) (hK _ _ (hp.keep 5 (by kernel_rfl)) (relOf_no (by decide) (World.grownBy.refl _ _)) ⟨hI.1, hI.2.1.mono (by omega), hI.2.2⟩)
    · intro a k wa K Q hkn hI hp hK
      replace hkn : k < 25 := hkn
      have e17 := tmp_of (show a.eval (.tmp 17) = .pointer (some ⟨br, 0, Option.none⟩) from hp.dep 6 17 (by kernel_rfl))
      go_simp
      refine (pick_d hI.2.1 (by omega) (by omega) (by omega)).mono ?_
      rintro e wb ⟨x, rfl, hx0, hx1, hR, hG⟩
      exact hK _ _ ⟨x, rfl, hx0, by omega⟩ (relOf_no (by decide) hG) ⟨hI.1.step hG (fun k e => by cases e; exact .inl rfl), hR.mono (by omega), Nat.le_trans hI.2.2 hG.size⟩
    · intro a k wa K Q hkn hI hp hK
      replace hkn : k < 25 := hkn
      have t16 : SlP w2.heap.size 1 6 (fun cs => ∃ c0 : Value, cs = [c0] ∧ IsI (0) (2) c0) wa (a.eval (.tmp 16)) := hp.dep 5 16 (by kernel_rfl)
      obtain ⟨n16, g16, c16, e16, b16, h16⟩ := t16
      replace e16 := tmp_of e16
      have t18 : IsI (0) (5) (a.eval (.tmp 18)) := hp.dep 7 18 (by kernel_rfl)
      obtain ⟨x18, e18, l18, u18⟩ := t18
      replace e18 := tmp_of e18
      have lt18 : x18 < 6 := by omega
      go_simp
      exact hK _ _ ⟨_, _, rfl, b16, by have h_ := h16 x18.toNat (by omega); rwa [Nat.mul_one] at h_⟩ (relOf_no (by decide) (World.grownBy.refl _ _)) ⟨hI.1, hI.2.1.mono (by omega), hI.2.2⟩
    · intro a k wa K Q hkn hI hp hK
      replace hkn : k < 25 := hkn
      have t19 : PtrP w2.heap.size (fun cs => ∃ c0 : Value, cs = [c0] ∧ IsI (0) (2) c0) wa (a.eval (.tmp 19)) := hp.dep 8 19 (by kernel_rfl)
      obtain ⟨g19, o19, e19, b19, cs19, ⟨c19_0, rfl, ⟨x19_0, rfl, l19_0, u19_0⟩⟩, h19⟩ := t19
      have k19_0 : wa.cell? ⟨g19, o19, Option.none⟩ = some _ := h19 0 _ rfl
      replace e19 := tmp_of e19
      go_simp
      exact hK _ _ ⟨_, rfl, by omega, by omega⟩ (relOf_no (by decide) (World.grownBy.refl _ _)) ⟨hI.1, hI.2.1.mono (by omega), hI.2.2⟩
    · intro a k wa K Q hkn hI hp hK
      replace hkn : k < 25 := hkn
      have t15 : SlP w2.heap.size 1 3 (fun cs => ∃ c0 : Value, cs = [c0] ∧ IsI (0) (1000) c0) wa (a.eval (.tmp 15)) := hp.dep 4 15 (by kernel_rfl)
      obtain ⟨n15, g15, c15, e15, b15, h15⟩ := t15
      replace e15 := tmp_of e15
      have t20 : IsI (0) (2) (a.eval (.tmp 20)) := hp.dep 9 20 (by kernel_rfl)
      obtain ⟨x20, e20, l20, u20⟩ := t20
      replace e20 := tmp_of e20
      have lt20 : x20 < 3 := by omega
      go_simp
      exact hK _ _ ⟨_, _, rfl, b15, by have h_ := h15 x20.toNat (by omega); rwa [Nat.mul_one] at h_⟩ (relOf_no (by decide) (World.grownBy.refl _ _)) ⟨hI.1, hI.2.1.mono (by omega), hI.2.2⟩
    · intro a k wa K Q hkn hI hp hK
      replace hkn : k < 25 := hkn
      have t21 : PtrP w2.heap.size (fun cs => ∃ c0 : Value, cs = [c0] ∧ IsI (0) (1000) c0) wa (a.eval (.tmp 21)) := hp.dep 10 21 (by kernel_rfl)
      obtain ⟨g21, o21, e21, b21, cs21, ⟨c21_0, rfl, ⟨x21_0, rfl, l21_0, u21_0⟩⟩, h21⟩ := t21
      have k21_0 : wa.cell? ⟨g21, o21, Option.none⟩ = some _ := h21 0 _ rfl
      replace e21 := tmp_of e21
      go_simp
      exact hK _ _ ⟨_, rfl, by omega, by omega⟩ (relOf_no (by decide) (World.grownBy.refl _ _)) ⟨hI.1, hI.2.1.mono (by omega), hI.2.2⟩
    · intro a k wa K Q hkn hI hp hK
      replace hkn : k < 25 := hkn
      exact op_move _ (.inl rfl) (hK _ _ (hp.keep 5 (by kernel_rfl)) (relOf_no (by decide) (World.grownBy.refl _ _)) ⟨hI.1, hI.2.1.mono (by omega), hI.2.2⟩)
    · intro a k wa K Q hkn hI hp hK
      replace hkn : k < 25 := hkn
      have e23 := tmp_of (show a.eval (.tmp 23) = .pointer (some ⟨br, 0, Option.none⟩) from hp.dep 12 23 (by kernel_rfl))
      go_simp
      refine (pick_d hI.2.1 (by omega) (by omega) (by omega)).mono ?_
      rintro e wb ⟨x, rfl, hx0, hx1, hR, hG⟩
      exact hK _ _ ⟨x, rfl, hx0, by omega⟩ (relOf_no (by decide) hG) ⟨hI.1.step hG (fun k e => by cases e; exact .inl rfl), hR.mono (by omega), Nat.le_trans hI.2.2 hG.size⟩
    · intro a k wa K Q hkn hI hp hK
      replace hkn : k < 25 := hkn
      have t24 : IsI (0) (49) (a.eval (.tmp 24)) := hp.dep 13 24 (by kernel_rfl)
      obtain ⟨x24, e24, l24, u24⟩ := t24
      replace e24 := tmp_of e24
      have hwi : w2.heap.size ≤ wa.heap.size := hI.2.2
      go_simp
      exact hK _ _ (sl_new hwi [[_], [_], [_], [_]] rfl rfl (by decide) rfl ⟨⟨_, rfl, ⟨_, rfl, by omega, by omega⟩⟩, ⟨_, rfl, ⟨_, rfl, by omega, by omega⟩⟩, ⟨_, rfl, ⟨_, rfl, by omega, by omega⟩⟩, ⟨_, rfl, ⟨_, rfl, by omega, by omega⟩⟩, trivial⟩) (relOf_no (by decide) (grown_alloc_ _ _ _)) ⟨hI.1.step (grown_alloc_ _ _ Option.none) (fun k e => by cases e), (hI.2.1.below (below_alloc _ _)).mono (by omega), Nat.le_trans hI.2.2 (below_alloc _ _).size⟩
    · intro a k wa K Q hkn hI hp hK
      replace hkn : k < 25 := hkn
      have hwi : w2.heap.size ≤ wa.heap.size := hI.2.2
      go_simp
      exact hK _ _ (sl_new hwi [[_], [_], [_], [_], [_], [_], [_]] rfl rfl (by decide) rfl ⟨⟨_, rfl, ⟨_, rfl, by omega, by omega⟩⟩, ⟨_, rfl, ⟨_, rfl, by omega, by omega⟩⟩, ⟨_, rfl, ⟨_, rfl, by omega, by omega⟩⟩, ⟨_, rfl, ⟨_, rfl, by omega, by omega⟩⟩, ⟨_, rfl, ⟨_, rfl, by omega, by omega⟩⟩, ⟨_, rfl, ⟨_, rfl, by omega, by omega⟩⟩, ⟨_, rfl, ⟨_, rfl, by omega, by omega⟩⟩, trivial⟩) (relOf_no (by decide) (grown_alloc_ _ _ _)) ⟨hI.1.step (grown_alloc_ _ _ Option.none) (fun k e => by cases e), (hI.2.1.below (below_alloc _ _)).mono (by omega), Nat.le_trans hI.2.2 (below_alloc _ _).size⟩
    · intro a k wa K Q hkn hI hp hK
      replace hkn : k < 25 := hkn
      exact op_move _ (.inl rfl) (hK _ _ (hp.keep 5 (by kernel_rfl)) (relOf_no (by decide) (World.grownBy.refl _ _)) ⟨hI.1, hI.2.1.mono (by omega), hI.2.2⟩)
    · intro a k wa K Q hkn hI hp hK
      replace hkn : k < 25 := hkn
      have e27 := tmp_of (show a.eval (.tmp 27) = .pointer (some ⟨br, 0, Option.none⟩) from hp.dep 16 27 (by kernel_rfl))
      go_simp
      refine (pick_d hI.2.1 (by omega) (by omega) (by omega)).mono ?_
      rintro e wb ⟨x, rfl, hx0, hx1, hR, hG⟩
      exact hK _ _ ⟨x, rfl, hx0, by omega⟩ (relOf_no (by decide) hG) ⟨hI.1.step hG (fun k e => by cases e; exact .inl rfl), hR.mono (by omega), Nat.le_trans hI.2.2 hG.size⟩
    · intro a k wa K Q hkn hI hp hK
      replace hkn : k < 25 := hkn
      have t26 : SlP w2.heap.size 1 7 (fun cs => ∃ c0 : Value, cs = [c0] ∧ IsI (0) (3) c0) wa (a.eval (.tmp 26)) := hp.dep 15 26 (by kernel_rfl)
      obtain ⟨n26, g26, c26, e26, b26, h26⟩ := t26
      replace e26 := tmp_of e26
      have t28 : IsI (0) (6) (a.eval (.tmp 28)) := hp.dep 17 28 (by kernel_rfl)
      obtain ⟨x28, e28, l28, u28⟩ := t28
      replace e28 := tmp_of e28
      have lt28 : x28 < 7 := by omega
      go_simp
      exact hK _ _ ⟨_, _, rfl, b26, by have h_ := h26 x28.toNat (by omega); rwa [Nat.mul_one] at h_⟩ (relOf_no (by decide) (World.grownBy.refl _ _)) ⟨hI.1, hI.2.1.mono (by omega), hI.2.2⟩
    · intro a k wa K Q hkn hI hp hK
      replace hkn : k < 25 := hkn
      have t29 : PtrP w2.heap.size (fun cs => ∃ c0 : Value, cs = [c0] ∧ IsI (0) (3) c0) wa (a.eval (.tmp 29)) := hp.dep 18 29 (by kernel_rfl)
      obtain ⟨g29, o29, e29, b29, cs29, ⟨c29_0, rfl, ⟨x29_0, rfl, l29_0, u29_0⟩⟩, h29⟩ := t29
      have k29_0 : wa.cell? ⟨g29, o29, Option.none⟩ = some _ := h29 0 _ rfl
      replace e29 := tmp_of e29
      go_simp
      exact hK _ _ ⟨_, rfl, by omega, by omega⟩ (relOf_no (by decide) (World.grownBy.refl _ _)) ⟨hI.1, hI.2.1.mono (by omega), hI.2.2⟩
    · intro a k wa K Q hkn hI hp hK
      replace hkn : k < 25 := hkn
      have t25 : SlP w2.heap.size 1 4 (fun cs => ∃ c0 : Value, cs = [c0] ∧ IsI (-1) (1001) c0) wa (a.eval (.tmp 25)) := hp.dep 14 25 (by kernel_rfl)
      obtain ⟨n25, g25, c25, e25, b25, h25⟩ := t25
      replace e25 := tmp_of e25
      have t30 : IsI (0) (3) (a.eval (.tmp 30)) := hp.dep 19 30 (by kernel_rfl)
      obtain ⟨x30, e30, l30, u30⟩ := t30
      replace e30 := tmp_of e30
      have lt30 : x30 < 4 := by omega
      go_simp
      exact hK _ _ ⟨_, _, rfl, b25, by have h_ := h25 x30.toNat (by omega); rwa [Nat.mul_one] at h_⟩ (relOf_no (by decide) (World.grownBy.refl _ _)) ⟨hI.1, hI.2.1.mono (by omega), hI.2.2⟩
    · intro a k wa K Q hkn hI hp hK
      replace hkn : k < 25 := hkn
      have t31 : PtrP w2.heap.size (fun cs => ∃ c0 : Value, cs = [c0] ∧ IsI (-1) (1001) c0) wa (a.eval (.tmp 31)) := hp.dep 20 31 (by kernel_rfl)
      obtain ⟨g31, o31, e31, b31, cs31, ⟨c31_0, rfl, ⟨x31_0, rfl, l31_0, u31_0⟩⟩, h31⟩ := t31
      have k31_0 : wa.cell? ⟨g31, o31, Option.none⟩ = some _ := h31 0 _ rfl
      replace e31 := tmp_of e31
      go_simp
      exact hK _ _ ⟨_, rfl, by omega, by omega⟩ (relOf_no (by decide) (World.grownBy.refl _ _)) ⟨hI.1, hI.2.1.mono (by omega), hI.2.2⟩
    · intro a k wa K Q hkn hI hp hK
      replace hkn : k < 25 := hkn
      exact op_move _ (.inr rfl) (hK _ _ (hp.dep 0 11 (by kernel_rfl)) (relOf_no (by decide) (World.grownBy.refl _ _)) ⟨hI.1, hI.2.1.mono (by omega), hI.2.2⟩)
    · intro a k wa K Q hkn hI hp hK
      replace hkn : k < 25 := hkn
      exact op_move _ (.inr rfl) (hK _ _ (hp.dep 11 22 (by kernel_rfl)) (relOf_no (by decide) (World.grownBy.refl _ _)) ⟨hI.1, hI.2.1.mono (by omega), hI.2.2⟩)
    · intro a k wa K Q hkn hI hp hK
      replace hkn : k < 25 := hkn
      exact op_move _ (.inr rfl) (hK _ _ (hp.dep 21 32 (by kernel_rfl)) (relOf_no (by decide) (World.grownBy.refl _ _)) ⟨hI.1, hI.2.1.mono (by omega), hI.2.2⟩)
  case fin3 =>
    intro f w3 hT hI0
    obtain ⟨hG_, hR_, _⟩ : GrownP (fun k => k = br) w2 w3 ∧ RdrT w3 br br (200 + 1 * 25) ∧ w2.heap.size ≤ w3.heap.size := hI0
    have hv0 : (f 22) = v := hT 22 (by decide) rfl rfl
    have hx : IsI (0) (1000) (f 23) := hT 23 (by decide) rfl rfl
    obtain ⟨hx, hx_e, hx_l, hx_u⟩ := hx
    have hy : IsI (-1) (1001) (f 24) := hT 24 (by decide) rfl rfl
    obtain ⟨hy, hy_e, hy_l, hy_u⟩ := hy
    clear hT
    replace hGd := GrownP.to hGd hG_ (fun k hk => by exact .inl (by rw [hk]))
    replace hRd := hR_
    clear hG_ hR_
    simp only [putAll, hv0, hx_e, hy_e]
    go_simp
    clear hv0
    clear hx_e
    clear hy_e
    go_wp2
    go_ret3
    have hbe := HB.out
    obtain ⟨us, h1, _, h2⟩ := hD.grown hGd (fun k e => by cases e; omega)
    exact ⟨us, v, hx, hy, rfl, h1, by omega, by omega, h2.lower hBo.out.size, below_of_new hBo.out (grown_trans_ HG.out hGd) (fun k e => by cases e; omega)⟩
end Go.Proofs.Ytjiooipoeahdmaa

/- Drawn visits. -/
import Derived.Test.YtflhmkpabhedjaaViK
import Derived.Test.YtflhmkpabhedjaaDrt
import Derived.Test.YtflhmkpabhedjaaCode
import Derived.Test.YtflhmkpabhedjaaAlv
import Derived.OwnWalk
namespace Go.Proofs.Ytflhmkpabhedjaa
open Go.RowKit

abbrev VDr (B n : Nat) (w : World) (v : Value) : Prop := DrS B 38 3 viEnc n (fun _ => True) w v
theorem beginD {B n br cb N : Nat} {A : Option Addr} {l : ViL} {c : Nat} {long idle who now : Int} {w : World} (hB : B ≤ w.heap.size) (hl : l.length ≤ n) (ho : w.ownsRow B 38 3 (.slice A l.length c) l.length (l.flatMap viEnc)) (hn : n ≤ 1000) (hR : RdrT w br cb N) :
    Calls Try.prog 28 #[.agg #[.int .i64 long, .int .i64 idle], .slice A l.length c, .int .i64 who, .int .i64 now] w fun e w' => ∃ v, e = .returned v ∧ TupD B 38 3 viEnc (n + 1) (fun _ => True) w' v ∧ RdrT w' br cb N ∧ w.grownBy w' (some br) := by
  refine (specBeginVisit (viR.own rfl (by omega) ho)).mono ?_
  rintro e w' ⟨A2, c2, rfl, ho2, hb⟩
  exact ⟨_, rfl, ⟨_, _, rfl, (viBegin long idle l who now).1, by have := viBegin_len long idle who now l; omega, fun _ _ => trivial, A2, c2, rfl, own_lower ho2 hB⟩, hR.below hb, grown_of_below hb _⟩

set_option maxRecDepth 100000 in
set_option maxHeartbeats 8000000 in
theorem l20Visits_d {br cb N : Nat} {n : Int} {w : World} (hR : RdrT w br cb N) (hN : N ≤ 100000000) (h0 : 0 ≤ n) (h1 : n ≤ 1000000) :
    Calls Try.prog 37 #[.pointer (some ⟨br, 0, Option.none⟩), .int .i64 n] w fun e w' => ∃ (v : Value) (long idle : Int), e = .returned (.tuple #[.agg #[.int .i64 long, .int .i64 idle], v]) ∧ (0 ≤ long ∧ long ≤ 1001) ∧ (0 ≤ idle ∧ idle ≤ 15) ∧ VDr w.heap.size 8 w' v ∧ RdrT w' br cb (N + 300) ∧ w.grownBy w' (some br) := by
  have hbrW := hR.lt
  have hb4 : BoxP (fun cs => ∃ c0 c1 : Value, cs = [c0, c1] ∧ IsI 0 1001 c0 ∧ IsI 0 15 c1) 27 w.heap.size (w.alloc (.cells #[.int .i64 0, .int .i64 0] 27)) :=
    BoxP.new w [.int .i64 0, .int .i64 0] ⟨_, _, rfl, ⟨_, rfl, by omega, by omega⟩, ⟨_, rfl, by omega, by omega⟩⟩
  have hRd := hR.below (below_alloc w (.cells #[.int .i64 0, .int .i64 0] 27))
  have hGd := grown_alloc_ w (.cells #[.int .i64 0, .int .i64 0] 27) (some br)
  obtain ⟨W, hW⟩ : ∃ W, W = w.alloc (.cells #[.int .i64 0, .int .i64 0] 27) := ⟨_, rfl⟩
  rw [← hW] at hb4 hRd hGd
  have HW := Lib.hid hW
  clear hR hW
  go_enter Try.func37, Try.ntmps37
  go_wp2_with fail
  rw [← HW.out]
  refine (pick_d hRd (by omega) (by omega) (by omega)).mono ?_
  rintro e wd1 ⟨p1, rfl, p1_l, p1_u, hR_, hG_⟩
  replace hb4 := hb4.grown hG_ (fun e => by cases e; omega)
  replace hGd := grown_trans_ hGd hG_
  replace hRd := hR_
  clear hR_ hG_
  go_wp2_with fail
  refine (pick_d (hRd.below (by (repeat (first | exact Below.refl _ _ | refine ext_alloc ?_ _ | refine Below.setCell ?_ (by simp) _)))) (by omega) (by omega) (by omega)).mono ?_
  rintro e wd2 ⟨p2, rfl, p2_l, p2_u, hR_, hG_⟩
  replace hGd := grown_trans_ hGd (grown_trans_ (grown_of_below (by (repeat (first | exact Below.refl _ _ | refine ext_alloc ?_ _ | refine Below.setCell ?_ (by simp) _))) _) hG_)
  replace hRd := hR_
  replace hb4 := (hb4.below (by (repeat (first | exact Below.refl _ _ | refine ext_alloc ?_ _ | refine Below.setCell ?_ (by simp) _)))).grown hG_ (fun e => by cases e; omega)
  clear hR_ hG_
  obtain ⟨g6, hg6⟩ : ∃ g, g = wd2.heap.size := ⟨_, rfl⟩
  obtain ⟨X, hX⟩ : ∃ X, X = wd2.alloc (.cells #[.int .i64 (20 + p1), .int .i64 (5 + p2)] 27) := ⟨_, rfl⟩
  obtain ⟨Y, hY⟩ : ∃ Y, Y = X.alloc (.cells #[] 38) := ⟨_, rfl⟩
  have hb6 : BoxP (fun cs => ∃ c0 c1 : Value, cs = [c0, c1] ∧ IsI 0 1001 c0 ∧ IsI 0 15 c1) 27 g6 X := by
    rw [hX, hg6]; exact BoxP.new wd2 [.int .i64 (20 + p1), .int .i64 (5 + p2)] ⟨_, _, rfl, ⟨_, rfl, by omega, by omega⟩, ⟨_, rfl, by omega, by omega⟩⟩
  have hA1 : Below wd2.heap.size wd2 X := by rw [hX]; exact below_alloc _ _
  have hA2 : Below X.heap.size X Y := by rw [hY]; exact below_alloc _ _
  have hA := ext_trans hA1 hA2
  have hbs := hGd.size
  have hg6w : w.heap.size < g6 := by
    have h5 := hb4.lt
    omega
  have hgbr : br < g6 := by omega
  have hszX : g6 + 1 = X.heap.size := by rw [hX, hg6]; simp
  have hDr : VDr w.heap.size 0 Y (.slice (some ⟨g6 + 1, 0, Option.none⟩) 0 0) := by rw [hszX, hY]; exact DrS.empty (by omega)
  replace hb4 := hb4.below hA
  replace hb6 := hb6.below hA2
  replace hRd := hRd.below hA
  replace hGd := grown_trans_ hGd (grown_of_below hA _)
  have HX := Lib.hid hX
  have HY := Lib.hid hY
  have HG6 := Lib.hid hg6
  clear hX hY hg6 hA hA1 hA2 hszX hbs
  go_wp2_with fail
  rw [← HG6.out, ← HX.out, ← HY.out]
  refine (pick_d hRd (by omega) (by omega) (by omega)).mono ?_
  rintro e wd3 ⟨p3, rfl, p3_l, p3_u, hR_, hG_⟩
  replace hb4 := hb4.grown hG_ (fun e => by cases e; omega)
  replace hb6 := hb6.grown hG_ (fun e => by cases e; omega)
  replace hDr := hDr.grown hG_ (fun k e => by cases e; omega)
  replace hGd := grown_trans_ hGd hG_
  replace hRd := hR_
  clear hR_ hG_
  go_wp2_with fail
  refine (pick_d (hRd.below (by (repeat (first | exact Below.refl _ _ | refine ext_alloc ?_ _ | refine Below.setCell ?_ (by simp) _)))) (by omega) (by omega) (by omega)).mono ?_
  rintro e wd4 ⟨p4, rfl, p4_l, p4_u, hR_, hG_⟩
  replace hGd := grown_trans_ hGd (grown_trans_ (grown_of_below (by (repeat (first | exact Below.refl _ _ | refine ext_alloc ?_ _ | refine Below.setCell ?_ (by simp) _))) _) hG_)
  replace hRd := hR_
  replace hb4 := (hb4.below (by (repeat (first | exact Below.refl _ _ | refine ext_alloc ?_ _ | refine Below.setCell ?_ (by simp) _)))).grown hG_ (fun e => by cases e; omega)
  replace hb6 := (hb6.below (by (repeat (first | exact Below.refl _ _ | refine ext_alloc ?_ _ | refine Below.setCell ?_ (by simp) _)))).grown hG_ (fun e => by cases e; omega)
  replace hDr := (hDr.below (by (repeat (first | exact Below.refl _ _ | refine ext_alloc ?_ _ | refine Below.setCell ?_ (by simp) _)))).grown hG_ (fun k e => by cases e; omega)
  clear hR_ hG_
  go_wp2_with fail
  have HD := Lib.hid hDr
  have HR := Lib.hid hRd
  have HG := Lib.hid hGd
  have HB4 := Lib.hid hb4
  have HB6 := Lib.hid hb6
  clear hDr hRd hGd hb4 hb6
  go_loopw [7, 8, 9] (fun ov nv kv wr => ∃ (j : Nat) (x : Int), j ≤ 7 ∧ kv = .int .i64 j ∧ nv = .int .i64 x ∧ (0 ≤ x ∧ x ≤ 8 + 2 * (7 - j)) ∧ VDr w.heap.size (7 - j) wr ov ∧ RdrT wr br cb (N + 4 + 20 * (7 - j)) ∧ w.grownBy wr (some br) ∧
    BoxP (fun cs => ∃ c0 c1 : Value, cs = [c0, c1] ∧ IsI 0 1001 c0 ∧ IsI 0 15 c1) 27 w.heap.size wr ∧ BoxP (fun cs => ∃ c0 c1 : Value, cs = [c0, c1] ∧ IsI 0 1001 c0 ∧ IsI 0 15 c1) 27 g6 wr) (fun _ _ kv _ => (intOf kv).toNat)
  case atStart =>
    obtain ⟨k1, rfl⟩ := Int.eq_ofNat_of_zero_le p4_l
    exact ⟨k1, p3, by omega, rfl, rfl, by omega, HD.out.mono (by omega), HR.out.mono (by omega), HG.out, HB4.out, HB6.out⟩
  case round =>
    obtain ⟨j, x, hj, rfl, rfl, ⟨hx0, hx1⟩, hDr, hRd, hGd, hb4, hb6⟩ := hrel
    clear HD HR HG HB4 HB6
    by_cases hlt : 0 < j
    · go_wp2_with fail
      have hcb7 : cb ≤ br := hRd.cb_
      have hbr7 : br < wr.heap.size := hRd.lt
      have hBs7 : w.heap.size ≤ wr.heap.size := hGd.size
      have hbx7_4 : w.heap.size < wr.heap.size := hb4.lt
      have hbx7_6 : g6 < wr.heap.size := hb6.lt
      refine wp_region_draws Option.none (fun _ => True) (fun i wz vz => match i with | 0 => ∃ c0 c1 : Value, vz = .agg #[c0, c1] ∧ IsI (0) (1001) c0 ∧ IsI (0) (15) c1 | 1 => DrS w.heap.size 38 3 viEnc (7-j) (fun _ => True) wz vz | 2 => vz = .pointer (some ⟨br, 0, Option.none⟩) | 3 => IsI (0) (6) vz | 4 => vz = .int .i64 x | 5 => TupD w.heap.size 38 3 viEnc (7-j+1) (fun _ => True) wz vz | 6 => TupD w.heap.size 38 3 viEnc (7-j+1) (fun _ => True) wz vz | 7 => DrS w.heap.size 38 3 viEnc (7-j+1) (fun _ => True) wz vz | 8 => IsB vz | 9 => DrS w.heap.size 38 3 viEnc (7-j+1) (fun _ => True) wz vz | 10 => IsB vz | _ => True) (fun k wz => GrownP (fun k => k = br) wr wz ∧ RdrT wz br cb ((N+4+20*(7-j)) + 1 * k) ∧ wr.heap.size ≤ wz.heap.size ∧ BoxP (fun cs => ∃ c0 c1 : Value, cs = [c0, c1] ∧ IsI (0) (1001) c0 ∧ IsI (0) (15) c1) 27 w.heap.size wz ∧ BoxP (fun cs => ∃ c0 c1 : Value, cs = [c0, c1] ∧ IsI (0) (1001) c0 ∧ IsI (0) (15) c1) 27 g6 wz) (relOf Option.none wr.heap.size br) (fun _ => Option.none) (by kernel_rfl) (by kernel_rfl) (by kernel_rfl) ?stab7 ?stabG7 ?inv7 ?pre7 ?all7 ?fin7
      case stab7 =>
        intro i j wa wb v hR hk hne hd _ hT
        have hA := relOf_above hbr7 hR
        match j, hk, hne, hd, hT with
        | 0, hk, hne, hd, hT => exact hT
        | 1, hk, hne, hd, hT => exact hT.grown (relOf_grown (fun e => by cases e) hR) (fun k e => by cases e; omega)
        | 2, hk, hne, hd, hT => exact hT
        | 3, hk, hne, hd, hT => exact hT
        | 4, hk, hne, hd, hT => exact hT
        | 5, hk, hne, hd, hT => exact hT.grown (relOf_grown (fun e => by cases e) hR) (fun k e => by cases e; omega)
        | 6, hk, hne, hd, hT => exact hT.grown (relOf_grown (fun e => by cases e) hR) (fun k e => by cases e; omega)
        | 7, hk, hne, hd, hT => exact hT.grown (relOf_grown (fun e => by cases e) hR) (fun k e => by cases e; omega)
        | 8, hk, hne, hd, hT => exact hT
        | 9, hk, hne, hd, hT => exact hT.grown (relOf_grown (fun e => by cases e) hR) (fun k e => by cases e; omega)
        | 10, hk, hne, hd, hT => exact hT
        | n + 11, _, _, _, _ => trivial
      case stabG7 =>
        intros; trivial
      case inv7 =>
        exact ⟨GrownP.refl _ _, (hRd.below (ext_drew (Below.refl _ _))).mono (by omega), Nat.le_refl _, hb4.below (ext_drew (Below.refl _ _)), hb6.below (ext_drew (Below.refl _ _))⟩
      case pre7 =>
        trivial
      case all7 =>
        refine RAll.cons rfl ?_ (RAll.cons rfl ?_ (RAll.cons rfl ?_ (RAll.cons rfl ?_ (RAll.cons rfl ?_ (RAll.cons rfl ?_ (RAll.cons rfl ?_ (RAll.cons rfl ?_ (RAll.cons rfl ?_ (RAll.cons rfl ?_ (RAll.cons rfl ?_ (RAll.none_)))))))))))
        · intro a k wa K Q hkn hI hp hK
          replace hkn : k < 11 := hkn
          have e6 := tmp_of (show a.eval (.tmp 6) = .pointer (some ⟨g6, 0, Option.none⟩) from hp.keep 6 (by kernel_rfl))
          obtain ⟨_, ⟨cb6_0, cb6_1, rfl, ⟨xb6_0, rfl, lb6_0, ub6_0⟩, ⟨xb6_1, rfl, lb6_1, ub6_1⟩⟩, hbx_⟩ := hI.2.2.2.2
          have kb6_0 : wa.cell? ⟨g6, 0, Option.none⟩ = some _ := (cell_of_row wa g6 0 _ _ _ hbx_).trans rfl
          have kb6_1 : wa.cell? ⟨g6, 1, Option.none⟩ = some _ := (cell_of_row wa g6 1 _ _ _ hbx_).trans rfl
          go_simp
          exact hK _ _ ⟨_, _, rfl, ⟨_, rfl, by omega, by omega⟩, ⟨_, rfl, by omega, by omega⟩⟩ (relOf_no (by decide) (World.grownBy.refl _ _)) ⟨hI.1, hI.2.1.mono (by omega), hI.2.2.1, hI.2.2.2.1, hI.2.2.2.2⟩
        · intro a k wa K Q hkn hI hp hK
          replace hkn : k < 11 := hkn
          exact op_move _ (.inl rfl) (hK _ _ ((show a.eval (.tmp 7) = u7 from hp.keep 7 (by kernel_rfl)) ▸ (hDr.grownP hI.1 (fun k hk e => by have h9 := hDr.ge k e; have hk2 : k = br := hk; omega))) (relOf_no (by decide) (World.grownBy.refl _ _)) ⟨hI.1, hI.2.1.mono (by omega), hI.2.2.1, hI.2.2.2.1, hI.2.2.2.2⟩)
        · intro a k wa K Q hkn hI hp hK
          replace hkn : k < 11 := hkn
          exact op_move _ (.inl rfl) (hK _ _ (hp.keep 0 (by kernel_rfl)) (relOf_no (by decide) (World.grownBy.refl _ _)) ⟨hI.1, hI.2.1.mono (by omega), hI.2.2.1, hI.2.2.2.1, hI.2.2.2.2⟩)
        · intro a k wa K Q hkn hI hp hK
          replace hkn : k < 11 := hkn
          have e31 := tmp_of (show a.eval (.tmp 31) = .pointer (some ⟨br, 0, Option.none⟩) from hp.dep 2 31 (by kernel_rfl))
          go_simp
          refine (pick_d hI.2.1 (by omega) (by omega) (by omega)).mono ?_
          rintro e wb ⟨x, rfl, hx0, hx1, hR, hG⟩
          exact hK _ _ ⟨x, rfl, hx0, by omega⟩ (relOf_no (by decide) hG) ⟨hI.1.step hG (fun k e => by cases e; exact .inl rfl), hR.mono (by omega), Nat.le_trans hI.2.2.1 hG.size, hI.2.2.2.1.grown hG (fun e => by cases e; omega), hI.2.2.2.2.grown hG (fun e => by cases e; omega)⟩
        · intro a k wa K Q hkn hI hp hK
          replace hkn : k < 11 := hkn
          exact op_move _ (.inl rfl) (hK _ _ (hp.keep 8 (by kernel_rfl)) (relOf_no (by decide) (World.grownBy.refl _ _)) ⟨hI.1, hI.2.1.mono (by omega), hI.2.2.1, hI.2.2.2.1, hI.2.2.2.2⟩)
        · intro a k wa K Q hkn hI hp hK
          replace hkn : k < 11 := hkn
          have t29 : ∃ c0 c1 : Value, (a.eval (.tmp 29)) = .agg #[c0, c1] ∧ IsI (0) (1001) c0 ∧ IsI (0) (15) c1 := hp.dep 0 29 (by kernel_rfl)
          obtain ⟨c29_0, c29_1, e29, ⟨x29_0, rfl, l29_0, u29_0⟩, ⟨x29_1, rfl, l29_1, u29_1⟩⟩ := t29
          replace e29 := tmp_of e29
          have t30 : DrS w.heap.size 38 3 viEnc (7-j) (fun _ => True) wa (a.eval (.tmp 30)) := hp.dep 1 30 (by kernel_rfl)
          obtain ⟨l30, hl30, hq30, A30, c30, e30, ho30⟩ := t30
          replace e30 := tmp_of e30
          have t32 : IsI (0) (6) (a.eval (.tmp 32)) := hp.dep 3 32 (by kernel_rfl)
          obtain ⟨x32, e32, l32, u32⟩ := t32
          replace e32 := tmp_of e32
          have e33 := tmp_of (show a.eval (.tmp 33) = .int .i64 x from hp.dep 4 33 (by kernel_rfl))
          go_simp
          refine (beginD (Nat.le_trans hBs7 hI.1.size) hl30 ho30 (by omega) hI.2.1).mono ?_
          rintro e wb ⟨v, rfl, hv, hR, hG⟩
          exact hK _ _ hv (relOf_no (by decide) hG) ⟨hI.1.step hG (fun k e => by cases e; exact .inl rfl), hR.mono (by omega), Nat.le_trans hI.2.2.1 hG.size, hI.2.2.2.1.grown hG (fun e => by cases e; omega), hI.2.2.2.2.grown hG (fun e => by cases e; omega)⟩
        · intro a k wa K Q hkn hI hp hK
          replace hkn : k < 11 := hkn
          exact op_move _ (.inl rfl) (hK _ _ (hp.dep 5 34 (by kernel_rfl)) (relOf_no (by decide) (World.grownBy.refl _ _)) ⟨hI.1, hI.2.1.mono (by omega), hI.2.2.1, hI.2.2.2.1, hI.2.2.2.2⟩)
        · intro a k wa K Q hkn hI hp hK
          replace hkn : k < 11 := hkn
          have t28 : TupD w.heap.size 38 3 viEnc (7-j+1) (fun _ => True) wa (a.eval (.tmp 28)) := hp.dep 6 28 (by kernel_rfl)
          obtain ⟨vt, bt, e28, hd⟩ := t28
          replace e28 := tmp_of e28
          go_simp
          exact hK _ _ hd (relOf_no (by decide) (World.grownBy.refl _ _)) ⟨hI.1, hI.2.1.mono (by omega), hI.2.2.1, hI.2.2.2.1, hI.2.2.2.2⟩
        · intro a k wa K Q hkn hI hp hK
          replace hkn : k < 11 := hkn
          have t28 : TupD w.heap.size 38 3 viEnc (7-j+1) (fun _ => True) wa (a.eval (.tmp 28)) := hp.dep 6 28 (by kernel_rfl)
          obtain ⟨vt, bt, e28, hd⟩ := t28
          replace e28 := tmp_of e28
          go_simp
          exact hK _ _ ⟨_, rfl⟩ (relOf_no (by decide) (World.grownBy.refl _ _)) ⟨hI.1, hI.2.1.mono (by omega), hI.2.2.1, hI.2.2.2.1, hI.2.2.2.2⟩
        · intro a k wa K Q hkn hI hp hK
          replace hkn : k < 11 := hkn
          exact op_move _ (.inr rfl) (hK _ _ (hp.dep 7 35 (by kernel_rfl)) (relOf_no (by decide) (World.grownBy.refl _ _)) ⟨hI.1, hI.2.1.mono (by omega), hI.2.2.1, hI.2.2.2.1, hI.2.2.2.2⟩)
        · intro a k wa K Q hkn hI hp hK
          replace hkn : k < 11 := hkn
          exact op_move _ (.inr rfl) (hK _ _ (hp.dep 8 36 (by kernel_rfl)) (relOf_no (by decide) (World.grownBy.refl _ _)) ⟨hI.1, hI.2.1.mono (by omega), hI.2.2.1, hI.2.2.2.1, hI.2.2.2.2⟩)
      case fin7 =>
        intro f W7 hT hI0
        obtain ⟨hG_, hR_, _, hb4, hb6⟩ : GrownP (fun k => k = br) wr W7 ∧ RdrT W7 br cb ((N+4+20*(7-j)) + 1 * 11) ∧ wr.heap.size ≤ W7.heap.size ∧ BoxP (fun cs => ∃ c0 c1 : Value, cs = [c0, c1] ∧ IsI (0) (1001) c0 ∧ IsI (0) (15) c1) 27 w.heap.size W7 ∧ BoxP (fun cs => ∃ c0 c1 : Value, cs = [c0, c1] ∧ IsI (0) (1001) c0 ∧ IsI (0) (15) c1) 27 g6 W7 := hI0
        have hx : DrS w.heap.size 38 3 viEnc (7-j+1) (fun _ => True) W7 (f 9) := hT 9 (by decide) rfl rfl
        obtain ⟨hx_v, hx_e⟩ : ∃ x, x = f 9 := ⟨_, rfl⟩
        rw [← hx_e] at hx
        have hok : IsB (f 10) := hT 10 (by decide) rfl rfl
        obtain ⟨hok, hok_e⟩ := hok
        clear hT
        replace hDr := hDr.grownP hG_ (fun k hk e => by have := hDr.ge k e; rcases hk with hk <;> omega)
        replace hGd := GrownP.to hGd hG_ (fun k hk => by exact .inl (by rw [hk]))
        replace hRd := hR_
        clear hG_ hR_
        simp only [putAll, ← hx_e, hok_e]
        go_simp
        try rw [← hx_e]
        clear hx_e
        clear hok_e
        cases hok
        · skip
          go_wp2_with fail
          refine (pick_d (hRd.below (by (repeat (first | exact Below.refl _ _ | refine ext_alloc ?_ _ | refine Below.setCell ?_ (by simp) _)))) (by omega) (by omega) (by omega)).mono ?_
          rintro e wd1 ⟨p5, rfl, p5_l, p5_u, hR_, hG_⟩
          replace hGd := grown_trans_ hGd (grown_trans_ (grown_of_below (by (repeat (first | exact Below.refl _ _ | refine ext_alloc ?_ _ | refine Below.setCell ?_ (by simp) _))) _) hG_)
          replace hRd := hR_
          replace hb4 := (hb4.below (by (repeat (first | exact Below.refl _ _ | refine ext_alloc ?_ _ | refine Below.setCell ?_ (by simp) _)))).grown hG_ (fun e => by cases e; omega)
          replace hb6 := (hb6.below (by (repeat (first | exact Below.refl _ _ | refine ext_alloc ?_ _ | refine Below.setCell ?_ (by simp) _)))).grown hG_ (fun e => by cases e; omega)
          replace hDr := (hDr.below (by (repeat (first | exact Below.refl _ _ | refine ext_alloc ?_ _ | refine Below.setCell ?_ (by simp) _)))).grown hG_ (fun k e => by cases e; omega)
          clear hR_ hG_
          go_wp2
          go_roundw
          case rel => exact ⟨j - 1, x + p5, by omega, by go_num, rfl, by omega, hDr.mono (by omega), hRd.mono (by omega), hGd, hb4, hb6⟩
          case measure => simp [intOf]; omega
        · skip
          go_wp2_with fail
          refine (pick_d (hRd.below (by (repeat (first | exact Below.refl _ _ | refine ext_alloc ?_ _ | refine Below.setCell ?_ (by simp) _)))) (by omega) (by omega) (by omega)).mono ?_
          rintro e wd1 ⟨p5, rfl, p5_l, p5_u, hR_, hG_⟩
          replace hGd := grown_trans_ hGd (grown_trans_ (grown_of_below (by (repeat (first | exact Below.refl _ _ | refine ext_alloc ?_ _ | refine Below.setCell ?_ (by simp) _))) _) hG_)
          replace hRd := hR_
          replace hb4 := (hb4.below (by (repeat (first | exact Below.refl _ _ | refine ext_alloc ?_ _ | refine Below.setCell ?_ (by simp) _)))).grown hG_ (fun e => by cases e; omega)
          replace hb6 := (hb6.below (by (repeat (first | exact Below.refl _ _ | refine ext_alloc ?_ _ | refine Below.setCell ?_ (by simp) _)))).grown hG_ (fun e => by cases e; omega)
          replace hx := (hx.below (by (repeat (first | exact Below.refl _ _ | refine ext_alloc ?_ _ | refine Below.setCell ?_ (by simp) _)))).grown hG_ (fun k e => by cases e; omega)
          clear hR_ hG_
          go_wp2
          go_roundw
          case rel => exact ⟨j - 1, x + p5, by omega, by go_num, rfl, by omega, hx.mono (n' := 7 - (j - 1)) (by omega), hRd.mono (by omega), hGd, hb4, hb6⟩
          case measure => simp [intOf]; omega
    · skip
      go_wp2_with fail
      refine (odd_d (hRd.below (by (repeat (first | exact Below.refl _ _ | refine ext_alloc ?_ _ | refine Below.setCell ?_ (by simp) _)))) (by omega) (by omega) (by omega)).mono ?_
      rintro e wd21 ⟨b1, rfl, hR_, hG_⟩
      replace hGd := grown_trans_ hGd (grown_trans_ (grown_of_below (by (repeat (first | exact Below.refl _ _ | refine ext_alloc ?_ _ | refine Below.setCell ?_ (by simp) _))) _) hG_)
      replace hRd := hR_
      replace hDr := (hDr.below (by (repeat (first | exact Below.refl _ _ | refine ext_alloc ?_ _ | refine Below.setCell ?_ (by simp) _)))).grown hG_ (fun k e => by cases e; omega)
      replace hb4 := (hb4.below (by (repeat (first | exact Below.refl _ _ | refine ext_alloc ?_ _ | refine Below.setCell ?_ (by simp) _)))).grown hG_ (fun e => by cases e; omega)
      replace hb6 := (hb6.below (by (repeat (first | exact Below.refl _ _ | refine ext_alloc ?_ _ | refine Below.setCell ?_ (by simp) _)))).grown hG_ (fun e => by cases e; omega)
      clear hR_ hG_
      cases b1
      · skip
        obtain ⟨_, ⟨e0, e1, rfl, ⟨x0, rfl, x0l, x0u⟩, ⟨x1, rfl, x1l, x1u⟩⟩, hx6⟩ := hb6
        obtain ⟨_, ⟨y0, y1, rfl, ⟨z0, rfl, _, _⟩, ⟨z1, rfl, _, _⟩⟩, hx4⟩ := hb4
        have c0 : wd21.cell? ⟨g6, 0, none⟩ = some (.int .i64 x0) := (cell_of_row wd21 g6 0 _ _ _ hx6).trans rfl
        have c1 : wd21.cell? ⟨g6, 1, none⟩ = some (.int .i64 x1) := (cell_of_row wd21 g6 1 _ _ _ hx6).trans rfl
        have d0 : wd21.cell? ⟨w.heap.size, 0, none⟩ = some (.int .i64 z0) := (cell_of_row wd21 w.heap.size 0 _ _ _ hx4).trans rfl
        have d1 : wd21.cell? ⟨w.heap.size, 1, none⟩ = some (.int .i64 z1) := (cell_of_row wd21 w.heap.size 1 _ _ _ hx4).trans rfl
        have f0 := frozen_of_row wd21 w.heap.size 0 _ _ hx4
        have f1 := frozen_of_row wd21 w.heap.size 1 _ _ hx4
        have hs4 := setCells_grown w.heap.size [.int .i64 x0, .int .i64 x1] wd21 0
        have HRO := Lib.hid (hDr.apart hs4 (fun k hk e => by cases e; exact dr_ne hDr hx4 (by decide) hk))
        have HRR := Lib.hid (hRd.grown hs4 (fun k e => by cases e; have := hRd.cb_; omega))
        have HRG := Lib.hid (grown_new hGd hs4 (fun k e => by cases e; exact Nat.le_refl _))
        clear hs4 hx6 hx4
        go_wp2
        try simp only [Exit.inBlock, Exit.then]
        obtain ⟨l5, hl5, hq5, A5, c5, hv5, ho5⟩ := HRO.out
        subst hv5
        exact bodyPost_ret (v := .tuple #[.agg #[.int .i64 x0, .int .i64 x1], .slice A5 l5.length c5]) (by simp only [results, Try.results37]; go_simp) rfl ⟨_, x0, x1, rfl, by omega, by omega, ⟨l5, by omega, hq5, A5, c5, rfl, ho5⟩, HRR.out.mono (by omega), HRG.out⟩
      · skip
        go_wp2_with fail
        refine (pick_d (hRd.below (by (repeat (first | exact Below.refl _ _ | refine ext_alloc ?_ _ | refine Below.setCell ?_ (by simp) _)))) (by omega) (by omega) (by omega)).mono ?_
        rintro e wd22 ⟨p6, rfl, p6_l, p6_u, hR_, hG_⟩
        replace hGd := grown_trans_ hGd (grown_trans_ (grown_of_below (by (repeat (first | exact Below.refl _ _ | refine ext_alloc ?_ _ | refine Below.setCell ?_ (by simp) _))) _) hG_)
        replace hRd := hR_
        replace hDr := (hDr.below (by (repeat (first | exact Below.refl _ _ | refine ext_alloc ?_ _ | refine Below.setCell ?_ (by simp) _)))).grown hG_ (fun k e => by cases e; omega)
        replace hb4 := (hb4.below (by (repeat (first | exact Below.refl _ _ | refine ext_alloc ?_ _ | refine Below.setCell ?_ (by simp) _)))).grown hG_ (fun e => by cases e; omega)
        replace hb6 := (hb6.below (by (repeat (first | exact Below.refl _ _ | refine ext_alloc ?_ _ | refine Below.setCell ?_ (by simp) _)))).grown hG_ (fun e => by cases e; omega)
        clear hR_ hG_
        obtain rfl | rfl | rfl | rfl : p6 = 0 ∨ p6 = 1 ∨ p6 = 2 ∨ p6 = 3 := by omega
        · skip
          go_wp2_with fail
          refine (pick_d (hRd.below (by (repeat (first | exact Below.refl _ _ | refine ext_alloc ?_ _ | refine Below.setCell ?_ (by simp) _)))) (by omega) (by omega) (by omega)).mono ?_
          rintro e wd23 ⟨p7, rfl, p7_l, p7_u, hR_, hG_⟩
          have hbr_ := hRd.lt
          have hblk_ := (hG_.block _ (by simp) (by simp; omega)).trans (heap_alloc_new _ _)
          have q0_ := cell_of_row _ _ 0 _ _ _ hblk_
          have q1_ := cell_of_row _ _ 1 _ _ _ hblk_
          replace hGd := grown_trans_ hGd (grown_trans_ (grown_of_below (by (repeat (first | exact Below.refl _ _ | refine ext_alloc ?_ _ | refine Below.setCell ?_ (by simp) _))) _) hG_)
          replace hRd := hR_
          replace hDr := (hDr.below (by (repeat (first | exact Below.refl _ _ | refine ext_alloc ?_ _ | refine Below.setCell ?_ (by simp) _)))).grown hG_ (fun k e => by cases e; omega)
          replace hb4 := (hb4.below (by (repeat (first | exact Below.refl _ _ | refine ext_alloc ?_ _ | refine Below.setCell ?_ (by simp) _)))).grown hG_ (fun e => by cases e; omega)
          replace hb6 := (hb6.below (by (repeat (first | exact Below.refl _ _ | refine ext_alloc ?_ _ | refine Below.setCell ?_ (by simp) _)))).grown hG_ (fun e => by cases e; omega)
          clear hR_ hG_
          obtain rfl | rfl : p7 = 0 ∨ p7 = 1 := by omega
          · skip
            obtain ⟨_, ⟨e0, e1, rfl, ⟨x0, rfl, x0l, x0u⟩, ⟨x1, rfl, x1l, x1u⟩⟩, hx6⟩ := hb6
            obtain ⟨_, ⟨y0, y1, rfl, ⟨z0, rfl, _, _⟩, ⟨z1, rfl, _, _⟩⟩, hx4⟩ := hb4
            have c0 : wd23.cell? ⟨g6, 0, none⟩ = some (.int .i64 x0) := (cell_of_row wd23 g6 0 _ _ _ hx6).trans rfl
            have c1 : wd23.cell? ⟨g6, 1, none⟩ = some (.int .i64 x1) := (cell_of_row wd23 g6 1 _ _ _ hx6).trans rfl
            have d0 : wd23.cell? ⟨w.heap.size, 0, none⟩ = some (.int .i64 z0) := (cell_of_row wd23 w.heap.size 0 _ _ _ hx4).trans rfl
            have d1 : wd23.cell? ⟨w.heap.size, 1, none⟩ = some (.int .i64 z1) := (cell_of_row wd23 w.heap.size 1 _ _ _ hx4).trans rfl
            have f0 := frozen_of_row wd23 w.heap.size 0 _ _ hx4
            have f1 := frozen_of_row wd23 w.heap.size 1 _ _ hx4
            have fz := frozen_of_row wd23 g6 0 _ _ hx6
            have hgs := setCells_grown g6 [.int .i64 0] wd23 0
            have hD2 := hDr.apart hgs (fun k hk e => by cases e; exact dr_ne hDr hx6 (by decide) hk)
            have hR2 := hRd.grown hgs (fun k e => by cases e; have := hRd.cb_; omega)
            have hG2 := grown_new hGd hgs (fun k e => by cases e; omega)
            have hs4 := setCells_grown w.heap.size [.int .i64 (0), .int .i64 x1] (setCells wd23 g6 0 [.int .i64 0]) 0
            have HRO := Lib.hid (hD2.apart hs4 (fun k hk e => by cases e; exact dr_ne hDr hx4 (by decide) hk))
            have HRR := Lib.hid (hR2.grown hs4 (fun k e => by cases e; have := hRd.cb_; omega))
            have HRG := Lib.hid (grown_new hG2 hs4 (fun k e => by cases e; exact Nat.le_refl _))
            have hne6 : g6 ≠ w.heap.size := by omega
            clear hs4 hx6 hx4 hgs hD2 hR2 hG2 hDr hRd hGd
            go_wp2
            try simp only [Exit.inBlock, Exit.then]
            obtain ⟨l5, hl5, hq5, A5, c5, hv5, ho5⟩ := HRO.out
            subst hv5
            exact bodyPost_ret (v := .tuple #[.agg #[.int .i64 (0), .int .i64 x1], .slice A5 l5.length c5]) (by simp only [results, Try.results37]; go_simp) rfl ⟨_, (0), x1, rfl, by omega, by omega, ⟨l5, by omega, hq5, A5, c5, rfl, ho5⟩, HRR.out.mono (by omega), HRG.out⟩
          · skip
            obtain ⟨_, ⟨e0, e1, rfl, ⟨x0, rfl, x0l, x0u⟩, ⟨x1, rfl, x1l, x1u⟩⟩, hx6⟩ := hb6
            obtain ⟨_, ⟨y0, y1, rfl, ⟨z0, rfl, _, _⟩, ⟨z1, rfl, _, _⟩⟩, hx4⟩ := hb4
            have c0 : wd23.cell? ⟨g6, 0, none⟩ = some (.int .i64 x0) := (cell_of_row wd23 g6 0 _ _ _ hx6).trans rfl
            have c1 : wd23.cell? ⟨g6, 1, none⟩ = some (.int .i64 x1) := (cell_of_row wd23 g6 1 _ _ _ hx6).trans rfl
            have d0 : wd23.cell? ⟨w.heap.size, 0, none⟩ = some (.int .i64 z0) := (cell_of_row wd23 w.heap.size 0 _ _ _ hx4).trans rfl
            have d1 : wd23.cell? ⟨w.heap.size, 1, none⟩ = some (.int .i64 z1) := (cell_of_row wd23 w.heap.size 1 _ _ _ hx4).trans rfl
            have f0 := frozen_of_row wd23 w.heap.size 0 _ _ hx4
            have f1 := frozen_of_row wd23 w.heap.size 1 _ _ hx4
            have fz := frozen_of_row wd23 g6 0 _ _ hx6
            have hgs := setCells_grown g6 [.int .i64 1001] wd23 0
            have hD2 := hDr.apart hgs (fun k hk e => by cases e; exact dr_ne hDr hx6 (by decide) hk)
            have hR2 := hRd.grown hgs (fun k e => by cases e; have := hRd.cb_; omega)
            have hG2 := grown_new hGd hgs (fun k e => by cases e; omega)
            have hs4 := setCells_grown w.heap.size [.int .i64 (1001), .int .i64 x1] (setCells wd23 g6 0 [.int .i64 1001]) 0
            have HRO := Lib.hid (hD2.apart hs4 (fun k hk e => by cases e; exact dr_ne hDr hx4 (by decide) hk))
            have HRR := Lib.hid (hR2.grown hs4 (fun k e => by cases e; have := hRd.cb_; omega))
            have HRG := Lib.hid (grown_new hG2 hs4 (fun k e => by cases e; exact Nat.le_refl _))
            have hne6 : g6 ≠ w.heap.size := by omega
            clear hs4 hx6 hx4 hgs hD2 hR2 hG2 hDr hRd hGd
            go_wp2
            try simp only [Exit.inBlock, Exit.then]
            obtain ⟨l5, hl5, hq5, A5, c5, hv5, ho5⟩ := HRO.out
            subst hv5
            exact bodyPost_ret (v := .tuple #[.agg #[.int .i64 (1001), .int .i64 x1], .slice A5 l5.length c5]) (by simp only [results, Try.results37]; go_simp) rfl ⟨_, (1001), x1, rfl, by omega, by omega, ⟨l5, by omega, hq5, A5, c5, rfl, ho5⟩, HRR.out.mono (by omega), HRG.out⟩
        · skip
          obtain ⟨_, ⟨e0, e1, rfl, ⟨x0, rfl, x0l, x0u⟩, ⟨x1, rfl, x1l, x1u⟩⟩, hx6⟩ := hb6
          obtain ⟨_, ⟨y0, y1, rfl, ⟨z0, rfl, _, _⟩, ⟨z1, rfl, _, _⟩⟩, hx4⟩ := hb4
          have c0 : wd22.cell? ⟨g6, 0, none⟩ = some (.int .i64 x0) := (cell_of_row wd22 g6 0 _ _ _ hx6).trans rfl
          have c1 : wd22.cell? ⟨g6, 1, none⟩ = some (.int .i64 x1) := (cell_of_row wd22 g6 1 _ _ _ hx6).trans rfl
          have d0 : wd22.cell? ⟨w.heap.size, 0, none⟩ = some (.int .i64 z0) := (cell_of_row wd22 w.heap.size 0 _ _ _ hx4).trans rfl
          have d1 : wd22.cell? ⟨w.heap.size, 1, none⟩ = some (.int .i64 z1) := (cell_of_row wd22 w.heap.size 1 _ _ _ hx4).trans rfl
          have f0 := frozen_of_row wd22 w.heap.size 0 _ _ hx4
          have f1 := frozen_of_row wd22 w.heap.size 1 _ _ hx4
          have fz := frozen_of_row wd22 g6 1 _ _ hx6
          have hgs := setCells_grown g6 [.int .i64 0] wd22 1
          have hD2 := hDr.apart hgs (fun k hk e => by cases e; exact dr_ne hDr hx6 (by decide) hk)
          have hR2 := hRd.grown hgs (fun k e => by cases e; have := hRd.cb_; omega)
          have hG2 := grown_new hGd hgs (fun k e => by cases e; omega)
          have hs4 := setCells_grown w.heap.size [.int .i64 x0, .int .i64 (0)] (setCells wd22 g6 1 [.int .i64 0]) 0
          have HRO := Lib.hid (hD2.apart hs4 (fun k hk e => by cases e; exact dr_ne hDr hx4 (by decide) hk))
          have HRR := Lib.hid (hR2.grown hs4 (fun k e => by cases e; have := hRd.cb_; omega))
          have HRG := Lib.hid (grown_new hG2 hs4 (fun k e => by cases e; exact Nat.le_refl _))
          have hne6 : g6 ≠ w.heap.size := by omega
          clear hs4 hx6 hx4 hgs hD2 hR2 hG2 hDr hRd hGd
          go_wp2
          try simp only [Exit.inBlock, Exit.then]
          obtain ⟨l5, hl5, hq5, A5, c5, hv5, ho5⟩ := HRO.out
          subst hv5
          exact bodyPost_ret (v := .tuple #[.agg #[.int .i64 x0, .int .i64 (0)], .slice A5 l5.length c5]) (by simp only [results, Try.results37]; go_simp) rfl ⟨_, x0, (0), rfl, by omega, by omega, ⟨l5, by omega, hq5, A5, c5, rfl, ho5⟩, HRR.out.mono (by omega), HRG.out⟩
        · skip
          have hn4 := dr_box_ne hDr hb4 (by decide)
          have hn6 := dr_box_ne hDr hb6 (by decide)
          go_wp2_with (at_builtin; go_must (refine wpList_append_dr (enc := viEnc) ((7, 1, 1)) rfl (.tmp 65) (.tmp 67) 29 38 _ 3 24 rfl Try.underlying29 Try.infoVisit rfl (by decide) (fun _ => rfl) viEnc_one (hDr.below (by (repeat (first | exact Below.refl _ _ | refine ext_alloc ?_ _ | refine Below.setCell ?_ (by simp) _)))) rfl (heap_alloc_new _ _) rfl trivial (by omega) (by omega) (Nat.le_trans hGd.size (show Below _ _ _ by (repeat (first | exact Below.refl _ _ | refine ext_alloc ?_ _ | refine Below.setCell ?_ (by simp) _))).size) ?_); intro v_ wd23 ho_ hg_ hb_; replace hb4 := (hb4.below (by (repeat (first | exact Below.refl _ _ | refine ext_alloc ?_ _ | refine Below.setCell ?_ (by simp) _)))).grown hg_ hn4; replace hb6 := (hb6.below (by (repeat (first | exact Below.refl _ _ | refine ext_alloc ?_ _ | refine Below.setCell ?_ (by simp) _)))).grown hg_ hn6; obtain ⟨_, ⟨e0, e1, rfl, ⟨x0, rfl, x0l, x0u⟩, ⟨x1, rfl, x1l, x1u⟩⟩, hx6⟩ := hb6; obtain ⟨_, ⟨y0, y1, rfl, ⟨z0, rfl, _, _⟩, ⟨z1, rfl, _, _⟩⟩, hx4⟩ := hb4; have c0 : wd23.cell? ⟨g6, 0, none⟩ = some (.int .i64 x0) := (cell_of_row wd23 g6 0 _ _ _ hx6).trans rfl; have c1 : wd23.cell? ⟨g6, 1, none⟩ = some (.int .i64 x1) := (cell_of_row wd23 g6 1 _ _ _ hx6).trans rfl; have d0 : wd23.cell? ⟨w.heap.size, 0, none⟩ = some (.int .i64 z0) := (cell_of_row wd23 w.heap.size 0 _ _ _ hx4).trans rfl; have d1 : wd23.cell? ⟨w.heap.size, 1, none⟩ = some (.int .i64 z1) := (cell_of_row wd23 w.heap.size 1 _ _ _ hx4).trans rfl; have f0 := frozen_of_row wd23 w.heap.size 0 _ _ hx4; have f1 := frozen_of_row wd23 w.heap.size 1 _ _ hx4; replace hGd := grown_new (grown_trans_ hGd (grown_of_below (by (repeat (first | exact Below.refl _ _ | refine ext_alloc ?_ _ | refine Below.setCell ?_ (by simp) _))) _)) hg_ hb_; replace hRd := (hRd.below (by (repeat (first | exact Below.refl _ _ | refine ext_alloc ?_ _ | refine Below.setCell ?_ (by simp) _)))).grown hg_ (fun k e => by have := hb_ k e; have := hRd.cb_; omega); clear hDr hg_ hb_)
          try simp only [Exit.inBlock, Exit.then]
          have hs4 := setCells_grown w.heap.size [.int .i64 x0, .int .i64 x1] wd23 0
          have hro := ho_.apart hs4 (fun k hk e => by cases e; exact dr_ne ho_ hx4 (by decide) hk)
          have hrr := hRd.grown hs4 (fun k e => by cases e; have := hRd.cb_; omega)
          have hrg := grown_new hGd hs4 (fun k e => by cases e; exact Nat.le_refl _)
          obtain ⟨l5, hl5, hq5, A5, c5, hv5, ho5⟩ := hro
          subst hv5
          exact bodyPost_ret (v := .tuple #[.agg #[.int .i64 x0, .int .i64 x1], .slice A5 l5.length c5]) (by simp only [results, Try.results37]; go_simp) rfl ⟨_, x0, x1, rfl, by omega, by omega, ⟨l5, by omega, hq5, A5, c5, rfl, ho5⟩, hrr.mono (by omega), hrg⟩
        · skip
          have hn4 := dr_box_ne hDr hb4 (by decide)
          have hn6 := dr_box_ne hDr hb6 (by decide)
          go_wp2_with (at_builtin; go_must (refine wpList_append_dr (enc := viEnc) ((0, 5, 4)) rfl (.tmp 48) (.tmp 50) 29 38 _ 3 24 rfl Try.underlying29 Try.infoVisit rfl (by decide) (fun _ => rfl) viEnc_one (hDr.below (by (repeat (first | exact Below.refl _ _ | refine ext_alloc ?_ _ | refine Below.setCell ?_ (by simp) _)))) rfl (heap_alloc_new _ _) rfl trivial (by omega) (by omega) (Nat.le_trans hGd.size (show Below _ _ _ by (repeat (first | exact Below.refl _ _ | refine ext_alloc ?_ _ | refine Below.setCell ?_ (by simp) _))).size) ?_); intro v_ wd23 ho_ hg_ hb_; replace hb4 := (hb4.below (by (repeat (first | exact Below.refl _ _ | refine ext_alloc ?_ _ | refine Below.setCell ?_ (by simp) _)))).grown hg_ hn4; replace hb6 := (hb6.below (by (repeat (first | exact Below.refl _ _ | refine ext_alloc ?_ _ | refine Below.setCell ?_ (by simp) _)))).grown hg_ hn6; obtain ⟨_, ⟨e0, e1, rfl, ⟨x0, rfl, x0l, x0u⟩, ⟨x1, rfl, x1l, x1u⟩⟩, hx6⟩ := hb6; obtain ⟨_, ⟨y0, y1, rfl, ⟨z0, rfl, _, _⟩, ⟨z1, rfl, _, _⟩⟩, hx4⟩ := hb4; have c0 : wd23.cell? ⟨g6, 0, none⟩ = some (.int .i64 x0) := (cell_of_row wd23 g6 0 _ _ _ hx6).trans rfl; have c1 : wd23.cell? ⟨g6, 1, none⟩ = some (.int .i64 x1) := (cell_of_row wd23 g6 1 _ _ _ hx6).trans rfl; have d0 : wd23.cell? ⟨w.heap.size, 0, none⟩ = some (.int .i64 z0) := (cell_of_row wd23 w.heap.size 0 _ _ _ hx4).trans rfl; have d1 : wd23.cell? ⟨w.heap.size, 1, none⟩ = some (.int .i64 z1) := (cell_of_row wd23 w.heap.size 1 _ _ _ hx4).trans rfl; have f0 := frozen_of_row wd23 w.heap.size 0 _ _ hx4; have f1 := frozen_of_row wd23 w.heap.size 1 _ _ hx4; replace hGd := grown_new (grown_trans_ hGd (grown_of_below (by (repeat (first | exact Below.refl _ _ | refine ext_alloc ?_ _ | refine Below.setCell ?_ (by simp) _))) _)) hg_ hb_; replace hRd := (hRd.below (by (repeat (first | exact Below.refl _ _ | refine ext_alloc ?_ _ | refine Below.setCell ?_ (by simp) _)))).grown hg_ (fun k e => by have := hb_ k e; have := hRd.cb_; omega); clear hDr hg_ hb_)
          try simp only [Exit.inBlock, Exit.then]
          have hs4 := setCells_grown w.heap.size [.int .i64 x0, .int .i64 x1] wd23 0
          have hro := ho_.apart hs4 (fun k hk e => by cases e; exact dr_ne ho_ hx4 (by decide) hk)
          have hrr := hRd.grown hs4 (fun k e => by cases e; have := hRd.cb_; omega)
          have hrg := grown_new hGd hs4 (fun k e => by cases e; exact Nat.le_refl _)
          obtain ⟨l5, hl5, hq5, A5, c5, hv5, ho5⟩ := hro
          subst hv5
          exact bodyPost_ret (v := .tuple #[.agg #[.int .i64 x0, .int .i64 x1], .slice A5 l5.length c5]) (by simp only [results, Try.results37]; go_simp) rfl ⟨_, x0, x1, rfl, by omega, by omega, ⟨l5, by omega, hq5, A5, c5, rfl, ho5⟩, hrr.mono (by omega), hrg⟩
end Go.Proofs.Ytflhmkpabhedjaa

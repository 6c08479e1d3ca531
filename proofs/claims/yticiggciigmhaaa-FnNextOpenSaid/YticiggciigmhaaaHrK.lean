/- Drawn hours. -/
import Derived.Test.YticiggciigmhaaaCode
import Derived.Test.YticiggciigmhaaaAlv
import Derived.Test.YticiggciigmhaaaHrT
import Derived.Test.YticiggciigmhaaaHrD
import Derived.OwnWalk
namespace Go.Proofs.Yticiggciigmhaaa
open Go.RowKit


set_option maxRecDepth 100000 in
set_option maxHeartbeats 4000000 in
theorem l20Hours_d {br cb N : Nat} {n : Int} {w : World} (hR : RdrT w br cb N) (hN : N ≤ 100000000) (h0 : 0 ≤ n) (h1 : n ≤ 1000000) :
    Calls Try.prog 31 #[.pointer (some ⟨br, 0, Option.none⟩), .int .i64 n] w fun e w' => ∃ v, e = .returned v ∧ DrS w.heap.size 32 3 hrEnc 5 (fun _ => True) w' v ∧ RdrT w' br cb (N + 200) ∧ w.grownBy w' (some br) := by
  have hbrW := hR.lt
  go_enter Try.func31, Try.ntmps31
  go_wp2_with fail
  have hDr : DrS w.heap.size 32 3 hrEnc 0 (fun _ => True) (w.alloc (.cells #[] 32)) (.slice (some ⟨w.heap.size, 0, Option.none⟩) 0 0) := DrS.empty (Nat.le_refl _)
  have hRd := hR.below (below_alloc w (.cells #[] 32))
  have hGd := grown_alloc_ w (.cells #[] 32) (some br)
  clear hR
  go_wp2_with fail
  refine (pick_d (hRd.below (by (repeat (first | exact Below.refl _ _ | refine ext_alloc ?_ _ | refine Below.setCell ?_ (by simp) _)))) (by omega) (by omega) (by omega)).mono ?_
  rintro e wd1 ⟨k0, rfl, k0_l, k0_u, hR_, hG_⟩
  replace hGd := grown_trans_ hGd (grown_trans_ (grown_of_below (by (repeat (first | exact Below.refl _ _ | refine ext_alloc ?_ _ | refine Below.setCell ?_ (by simp) _))) _) hG_)
  replace hRd := hR_
  replace hDr := (hDr.below (by (repeat (first | exact Below.refl _ _ | refine ext_alloc ?_ _ | refine Below.setCell ?_ (by simp) _)))).grown hG_ (fun k e => by cases e; omega)
  clear hR_ hG_
  go_wp2_with fail
  have HD := Lib.hid hDr
  have HR := Lib.hid hRd
  have HG := Lib.hid hGd
  clear hDr hRd hGd
  go_loopw [5, 6] (fun ov kv wr => ∃ (j : Nat), j ≤ 3 ∧ kv = .int .i64 j ∧ DrS w.heap.size 32 3 hrEnc (3 - j) (fun _ => True) wr ov ∧ RdrT wr br cb (N + 1 + 30 * (3 - j)) ∧ w.grownBy wr (some br)) (fun _ kv _ => (intOf kv).toNat)
  case atStart =>
    obtain ⟨k1, rfl⟩ := Int.eq_ofNat_of_zero_le k0_l
    exact ⟨k1, by omega, rfl, HD.out.mono (by omega), HR.out.mono (by omega), HG.out⟩
  case round =>
    obtain ⟨j, hj, rfl, hDr, hRd, hGd⟩ := hrel
    clear HD HR HG
    by_cases hlt : 0 < j
    · skip
      go_wp2_with fail
      refine (pick_d (hRd.below (by (repeat (first | exact Below.refl _ _ | refine ext_alloc ?_ _ | refine Below.setCell ?_ (by simp) _)))) (by omega) (by omega) (by omega)).mono ?_
      rintro e wd3 ⟨p1, rfl, p1_l, p1_u, hR_, hG_⟩
      replace hGd := grown_trans_ hGd (grown_trans_ (grown_of_below (by (repeat (first | exact Below.refl _ _ | refine ext_alloc ?_ _ | refine Below.setCell ?_ (by simp) _))) _) hG_)
      replace hRd := hR_
      replace hDr := (hDr.below (by (repeat (first | exact Below.refl _ _ | refine ext_alloc ?_ _ | refine Below.setCell ?_ (by simp) _)))).grown hG_ (fun k e => by cases e; omega)
      clear hR_ hG_
      go_wp2_with fail
      refine (pick_d (hRd.below (by (repeat (first | exact Below.refl _ _ | refine ext_alloc ?_ _ | refine Below.setCell ?_ (by simp) _)))) (by omega) (by omega) (by omega)).mono ?_
      rintro e wd4 ⟨p2, rfl, p2_l, p2_u, hR_, hG_⟩
      replace hGd := grown_trans_ hGd (grown_trans_ (grown_of_below (by (repeat (first | exact Below.refl _ _ | refine ext_alloc ?_ _ | refine Below.setCell ?_ (by simp) _))) _) hG_)
      replace hRd := hR_
      replace hDr := (hDr.below (by (repeat (first | exact Below.refl _ _ | refine ext_alloc ?_ _ | refine Below.setCell ?_ (by simp) _)))).grown hG_ (fun k e => by cases e; omega)
      clear hR_ hG_
      by_cases e : p1 = p2
      · have e' : (p1 == p2) = true := by simpa using e
        go_wp2
        go_roundw
        case rel => exact ⟨j - 1, by omega, by go_num, hDr.mono (by omega), hRd.mono (by omega), hGd⟩
        case measure => simp [intOf]; omega
      · have e' : (p1 == p2) = false := by simpa using e
        go_wp2_with fail
        refine (pick_d (hRd.below (by (repeat (first | exact Below.refl _ _ | refine ext_alloc ?_ _ | refine Below.setCell ?_ (by simp) _)))) (by omega) (by omega) (by omega)).mono ?_
        rintro e wd5 ⟨p3, rfl, p3_l, p3_u, hR_, hG_⟩
        replace hGd := grown_trans_ hGd (grown_trans_ (grown_of_below (by (repeat (first | exact Below.refl _ _ | refine ext_alloc ?_ _ | refine Below.setCell ?_ (by simp) _))) _) hG_)
        replace hRd := hR_
        replace hDr := (hDr.below (by (repeat (first | exact Below.refl _ _ | refine ext_alloc ?_ _ | refine Below.setCell ?_ (by simp) _)))).grown hG_ (fun k e => by cases e; omega)
        clear hR_ hG_
        go_wp2_with fail
        refine (pick_d (hRd.below (by (repeat (first | exact Below.refl _ _ | refine ext_alloc ?_ _ | refine Below.setCell ?_ (by simp) _)))) (by omega) (by omega) (by omega)).mono ?_
        rintro e wd6 ⟨p4, rfl, p4_l, p4_u, hR_, hG_⟩
        have hbr_ := hRd.lt
        have hblk_ := (hG_.block _ (by simp) (by simp; omega)).trans (heap_alloc_new _ _)
        have q0_ := cell_of_row _ _ 0 _ _ _ hblk_
        have q1_ := cell_of_row _ _ 1 _ _ _ hblk_
        have q2_ := cell_of_row _ _ 2 _ _ _ hblk_
        replace hGd := grown_trans_ hGd (grown_trans_ (grown_of_below (by (repeat (first | exact Below.refl _ _ | refine ext_alloc ?_ _ | refine Below.setCell ?_ (by simp) _))) _) hG_)
        replace hRd := hR_
        replace hDr := (hDr.below (by (repeat (first | exact Below.refl _ _ | refine ext_alloc ?_ _ | refine Below.setCell ?_ (by simp) _)))).grown hG_ (fun k e => by cases e; omega)
        clear hR_ hG_
        obtain rfl | rfl | rfl : p4 = 0 ∨ p4 = 1 ∨ p4 = 2 := by omega
        all_goals
          go_wp2_with (at_builtin; (first | ((refine wpList_append_dr (enc := hrEnc) ((31, p1, p2)) rfl (.tmp 23) (.tmp 35) 25 32 _ 3 24 rfl Try.underlying25 Try.infoHours rfl (by decide) (fun _ => rfl) hrEnc_one (hDr.below (by (repeat (first | exact Below.refl _ _ | refine ext_alloc ?_ _ | refine Below.setCell ?_ (by simp) _)))) rfl (heap_alloc_new _ _) rfl (trivial) (by omega) (by omega) (Nat.le_trans hGd.size (show Below _ _ _ by (repeat (first | exact Below.refl _ _ | refine ext_alloc ?_ _ | refine Below.setCell ?_ (by simp) _))).size) ?_)) | ((refine wpList_append_dr (enc := hrEnc) ((96, p1, p2)) rfl (.tmp 23) (.tmp 35) 25 32 _ 3 24 rfl Try.underlying25 Try.infoHours rfl (by decide) (fun _ => rfl) hrEnc_one (hDr.below (by (repeat (first | exact Below.refl _ _ | refine ext_alloc ?_ _ | refine Below.setCell ?_ (by simp) _)))) rfl (heap_alloc_new _ _) rfl (trivial) (by omega) (by omega) (Nat.le_trans hGd.size (show Below _ _ _ by (repeat (first | exact Below.refl _ _ | refine ext_alloc ?_ _ | refine Below.setCell ?_ (by simp) _))).size) ?_)) | ((refine wpList_append_dr (enc := hrEnc) ((1 + p3, p1, p2)) rfl (.tmp 23) (.tmp 35) 25 32 _ 3 24 rfl Try.underlying25 Try.infoHours rfl (by decide) (fun _ => rfl) hrEnc_one (hDr.below (by (repeat (first | exact Below.refl _ _ | refine ext_alloc ?_ _ | refine Below.setCell ?_ (by simp) _)))) rfl (heap_alloc_new _ _) rfl (trivial) (by omega) (by omega) (Nat.le_trans hGd.size (show Below _ _ _ by (repeat (first | exact Below.refl _ _ | refine ext_alloc ?_ _ | refine Below.setCell ?_ (by simp) _))).size) ?_))); intro v_ wd7 ho_ hg_ hb_)
          replace hGd := grown_new (grown_trans_ hGd (grown_of_below (by (repeat (first | exact Below.refl _ _ | refine ext_alloc ?_ _ | refine Below.setCell ?_ (by simp) _))) _)) hg_ hb_
          replace hRd := (hRd.below (by (repeat (first | exact Below.refl _ _ | refine ext_alloc ?_ _ | refine Below.setCell ?_ (by simp) _)))).grown hg_ (fun k e => by have := hb_ k e; have := hRd.cb_; omega)
          replace hDr := ho_
          clear ho_ hg_ hb_
          go_wp2
          go_roundw
          case rel => exact ⟨j - 1, by omega, by go_num, hDr.mono (by omega), hRd.mono (by omega), hGd⟩
          case measure => simp [intOf]; omega
    · skip
      go_wp2_with fail
      refine (odd_d (hRd.below (by (repeat (first | exact Below.refl _ _ | refine ext_alloc ?_ _ | refine Below.setCell ?_ (by simp) _)))) (by omega) (by omega) (by omega)).mono ?_
      rintro e wd3 ⟨b1, rfl, hR_, hG_⟩
      replace hGd := grown_trans_ hGd (grown_trans_ (grown_of_below (by (repeat (first | exact Below.refl _ _ | refine ext_alloc ?_ _ | refine Below.setCell ?_ (by simp) _))) _) hG_)
      replace hRd := hR_
      replace hDr := (hDr.below (by (repeat (first | exact Below.refl _ _ | refine ext_alloc ?_ _ | refine Below.setCell ?_ (by simp) _)))).grown hG_ (fun k e => by cases e; omega)
      clear hR_ hG_
      cases b1
      · go_wp2
        go_ret
        exact ⟨_, rfl, hDr.mono (by omega), hRd.mono (by omega), hGd⟩
      · skip
        go_wp2_with fail
        refine (pick_d (hRd.below (by (repeat (first | exact Below.refl _ _ | refine ext_alloc ?_ _ | refine Below.setCell ?_ (by simp) _)))) (by omega) (by omega) (by omega)).mono ?_
        rintro e wd4 ⟨p3, rfl, p3_l, p3_u, hR_, hG_⟩
        have hbr_ := hRd.lt
        have hblk_ := (hG_.block _ (by simp) (by simp; omega)).trans (heap_alloc_new _ _)
        have q0_ := cell_of_row _ _ 0 _ _ _ hblk_
        have q1_ := cell_of_row _ _ 1 _ _ _ hblk_
        have q2_ := cell_of_row _ _ 2 _ _ _ hblk_
        have q3_ := cell_of_row _ _ 3 _ _ _ hblk_
        have q4_ := cell_of_row _ _ 4 _ _ _ hblk_
        have q5_ := cell_of_row _ _ 5 _ _ _ hblk_
        have q6_ := cell_of_row _ _ 6 _ _ _ hblk_
        have q7_ := cell_of_row _ _ 7 _ _ _ hblk_
        have q8_ := cell_of_row _ _ 8 _ _ _ hblk_
        have q9_ := cell_of_row _ _ 9 _ _ _ hblk_
        have q10_ := cell_of_row _ _ 10 _ _ _ hblk_
        have q11_ := cell_of_row _ _ 11 _ _ _ hblk_
        replace hGd := grown_trans_ hGd (grown_trans_ (grown_of_below (by (repeat (first | exact Below.refl _ _ | refine ext_alloc ?_ _ | refine Below.setCell ?_ (by simp) _))) _) hG_)
        replace hRd := hR_
        replace hDr := (hDr.below (by (repeat (first | exact Below.refl _ _ | refine ext_alloc ?_ _ | refine Below.setCell ?_ (by simp) _)))).grown hG_ (fun k e => by cases e; omega)
        clear hR_ hG_
        obtain rfl | rfl | rfl | rfl : p3 = 0 ∨ p3 = 1 ∨ p3 = 2 ∨ p3 = 3 := by omega
        all_goals
          go_wp2_with (at_builtin; (first | ((refine wpList_append_dr (enc := hrEnc) ((1, 5, 5)) rfl (.tmp 40) (.tmp 50) 25 32 _ 3 24 rfl Try.underlying25 Try.infoHours rfl (by decide) (fun _ => rfl) hrEnc_one (hDr.below (by (repeat (first | exact Below.refl _ _ | refine ext_alloc ?_ _ | refine Below.setCell ?_ (by simp) _)))) rfl (heap_alloc_new _ _) rfl (trivial) (by omega) (by omega) (Nat.le_trans hGd.size (show Below _ _ _ by (repeat (first | exact Below.refl _ _ | refine ext_alloc ?_ _ | refine Below.setCell ?_ (by simp) _))).size) ?_)) | ((refine wpList_append_dr (enc := hrEnc) ((0, 5, 6)) rfl (.tmp 40) (.tmp 50) 25 32 _ 3 24 rfl Try.underlying25 Try.infoHours rfl (by decide) (fun _ => rfl) hrEnc_one (hDr.below (by (repeat (first | exact Below.refl _ _ | refine ext_alloc ?_ _ | refine Below.setCell ?_ (by simp) _)))) rfl (heap_alloc_new _ _) rfl (trivial) (by omega) (by omega) (Nat.le_trans hGd.size (show Below _ _ _ by (repeat (first | exact Below.refl _ _ | refine ext_alloc ?_ _ | refine Below.setCell ?_ (by simp) _))).size) ?_)) | ((refine wpList_append_dr (enc := hrEnc) ((128, 0, 1)) rfl (.tmp 40) (.tmp 50) 25 32 _ 3 24 rfl Try.underlying25 Try.infoHours rfl (by decide) (fun _ => rfl) hrEnc_one (hDr.below (by (repeat (first | exact Below.refl _ _ | refine ext_alloc ?_ _ | refine Below.setCell ?_ (by simp) _)))) rfl (heap_alloc_new _ _) rfl (trivial) (by omega) (by omega) (Nat.le_trans hGd.size (show Below _ _ _ by (repeat (first | exact Below.refl _ _ | refine ext_alloc ?_ _ | refine Below.setCell ?_ (by simp) _))).size) ?_)) | ((refine wpList_append_dr (enc := hrEnc) ((1, 25, 3)) rfl (.tmp 40) (.tmp 50) 25 32 _ 3 24 rfl Try.underlying25 Try.infoHours rfl (by decide) (fun _ => rfl) hrEnc_one (hDr.below (by (repeat (first | exact Below.refl _ _ | refine ext_alloc ?_ _ | refine Below.setCell ?_ (by simp) _)))) rfl (heap_alloc_new _ _) rfl (trivial) (by omega) (by omega) (Nat.le_trans hGd.size (show Below _ _ _ by (repeat (first | exact Below.refl _ _ | refine ext_alloc ?_ _ | refine Below.setCell ?_ (by simp) _))).size) ?_))); intro v_ wd5 ho_ hg_ hb_)
          replace hGd := grown_new (grown_trans_ hGd (grown_of_below (by (repeat (first | exact Below.refl _ _ | refine ext_alloc ?_ _ | refine Below.setCell ?_ (by simp) _))) _)) hg_ hb_
          replace hRd := (hRd.below (by (repeat (first | exact Below.refl _ _ | refine ext_alloc ?_ _ | refine Below.setCell ?_ (by simp) _)))).grown hg_ (fun k e => by have := hb_ k e; have := hRd.cb_; omega)
          replace hDr := ho_
          clear ho_ hg_ hb_
          go_wp2
          go_ret
          exact ⟨_, rfl, hDr.mono (by omega), hRd.mono (by omega), hGd⟩

set_option maxHeartbeats 1000000 in
theorem DrawHoursValid_d {A : Option Addr} {l : List Int} {c : Nat} {w : World} (hC : CodeR w w.heap.size A l) (hc : l.length ≤ c) :
    Calls Try.prog 16 #[.slice A l.length c] w fun e w' => ∃ (us : HrL) (v : Value), e = .returned v ∧ us.length ≤ 5 ∧ OwnA w.heap.size 32 3 hrEnc w' v us ∧ Below w.heap.size w w' := by
  go_enter Try.func16, Try.ntmps16
  go_wp2_with fail
  refine (l20Open_any (Nat.le_refl _) hC hc hC.1).mono ?_
  rintro e w1 ⟨rfl, hR, hB1⟩
  go_wp2_with fail
  refine (l20Hours_d (N := 0) ⟨0, by omega, by omega, hR⟩ (by omega) (by omega) (by omega)).mono ?_
  rintro e w2 ⟨v, rfl, ⟨us, h1, _, h2⟩, _, hG⟩
  go_wp2
  go_ret
  exact ⟨us, v, rfl, h1, h2.lower hB1.size, below_of_new hB1 hG (fun k e => by cases e; omega)⟩
set_option maxHeartbeats 1000000 in
theorem DrawHoursOpen_d {A : Option Addr} {l : List Int} {c : Nat} {w : World} (hC : CodeR w w.heap.size A l) (hc : l.length ≤ c) :
    Calls Try.prog 26 #[.slice A l.length c] w fun e w' => ∃ (us : HrL) (v : Value), e = .returned v ∧ us.length ≤ 5 ∧ OwnA w.heap.size 32 3 hrEnc w' v us ∧ Below w.heap.size w w' := by
  go_enter Try.func26, Try.ntmps26
  go_wp2_with fail
  refine (l20Open_any (Nat.le_refl _) hC hc hC.1).mono ?_
  rintro e w1 ⟨rfl, hR, hB1⟩
  go_wp2_with fail
  refine (l20Hours_d (N := 0) ⟨0, by omega, by omega, hR⟩ (by omega) (by omega) (by omega)).mono ?_
  rintro e w2 ⟨v, rfl, ⟨us, h1, _, h2⟩, _, hG⟩
  go_wp2
  go_ret
  exact ⟨us, v, rfl, h1, h2.lower hB1.size, below_of_new hB1 hG (fun k e => by cases e; omega)⟩
set_option maxHeartbeats 1000000 in
theorem DrawInHours_d {A : Option Addr} {l : List Int} {c : Nat} {w : World} (hC : CodeR w w.heap.size A l) (hc : l.length ≤ c) :
    Calls Try.prog 20 #[.slice A l.length c] w fun e w' => ∃ (us : HrL) (v : Value) (x y : Int), e = .returned (.tuple #[v, .int .i64 x, .int .i64 y]) ∧ us.length ≤ 5 ∧ (-1 ≤ x ∧ x ≤ 7) ∧ (-1 ≤ y ∧ y ≤ 24) ∧ OwnA w.heap.size 32 3 hrEnc w' v us ∧ Below w.heap.size w w' := by
  go_enter Try.func20, Try.ntmps20
  go_wp2_with fail
  refine (l20Open_any (Nat.le_refl _) hC hc hC.1).mono ?_
  rintro e w1 ⟨rfl, hR, hB1⟩
  go_wp2_with fail
  refine (l20Hours_d (N := 0) ⟨0, by omega, by omega, hR⟩ (by omega) (by omega) (by omega)).mono ?_
  rintro e w2 ⟨v, rfl, hDr, hRd, hG⟩
  obtain ⟨br, hbr⟩ : ∃ br, br = w.heap.size := ⟨_, rfl⟩
  rw [← hbr] at hRd hG ⊢
  have hw1 := hR.lt
  rw [← hbr] at hw1
  have hGd := hG
  have HB := Lib.hid hbr
  have HB1 := Lib.hid hB1
  clear hG hR hbr hB1
  go_wp2_with fail
  refine (pick_d (hRd.below (by (repeat (first | exact Below.refl _ _ | refine ext_alloc ?_ _ | refine Below.setCell ?_ (by simp) _)))) (by omega) (by omega) (by omega)).mono ?_
  rintro e wd3 ⟨p1, rfl, p1_l, p1_u, hR_, hG_⟩
  replace hGd := grown_trans_ hGd (grown_trans_ (grown_of_below (by (repeat (first | exact Below.refl _ _ | refine ext_alloc ?_ _ | refine Below.setCell ?_ (by simp) _))) _) hG_)
  replace hRd := hR_
  replace hDr := (hDr.below (by (repeat (first | exact Below.refl _ _ | refine ext_alloc ?_ _ | refine Below.setCell ?_ (by simp) _)))).grown hG_ (fun k e => by cases e; omega)
  clear hR_ hG_
  go_wp2_with fail
  refine (pick_d (hRd.below (by (repeat (first | exact Below.refl _ _ | refine ext_alloc ?_ _ | refine Below.setCell ?_ (by simp) _)))) (by omega) (by omega) (by omega)).mono ?_
  rintro e wd4 ⟨p2, rfl, p2_l, p2_u, hR_, hG_⟩
  replace hGd := grown_trans_ hGd (grown_trans_ (grown_of_below (by (repeat (first | exact Below.refl _ _ | refine ext_alloc ?_ _ | refine Below.setCell ?_ (by simp) _))) _) hG_)
  replace hRd := hR_
  replace hDr := (hDr.below (by (repeat (first | exact Below.refl _ _ | refine ext_alloc ?_ _ | refine Below.setCell ?_ (by simp) _)))).grown hG_ (fun k e => by cases e; omega)
  clear hR_ hG_
  go_wp2_with fail
  refine (pick_d (hRd.below (by (repeat (first | exact Below.refl _ _ | refine ext_alloc ?_ _ | refine Below.setCell ?_ (by simp) _)))) (by omega) (by omega) (by omega)).mono ?_
  rintro e wd5 ⟨p3, rfl, p3_l, p3_u, hR_, hG_⟩
  replace hGd := grown_trans_ hGd (grown_trans_ (grown_of_below (by (repeat (first | exact Below.refl _ _ | refine ext_alloc ?_ _ | refine Below.setCell ?_ (by simp) _))) _) hG_)
  replace hRd := hR_
  replace hDr := (hDr.below (by (repeat (first | exact Below.refl _ _ | refine ext_alloc ?_ _ | refine Below.setCell ?_ (by simp) _)))).grown hG_ (fun k e => by cases e; omega)
  clear hR_ hG_
  go_wp2_with fail
  refine (pick_d (hRd.below (by (repeat (first | exact Below.refl _ _ | refine ext_alloc ?_ _ | refine Below.setCell ?_ (by simp) _)))) (by omega) (by omega) (by omega)).mono ?_
  rintro e wd6 ⟨p4, rfl, p4_l, p4_u, hR_, hG_⟩
  replace hGd := grown_trans_ hGd (grown_trans_ (grown_of_below (by (repeat (first | exact Below.refl _ _ | refine ext_alloc ?_ _ | refine Below.setCell ?_ (by simp) _))) _) hG_)
  replace hRd := hR_
  replace hDr := (hDr.below (by (repeat (first | exact Below.refl _ _ | refine ext_alloc ?_ _ | refine Below.setCell ?_ (by simp) _)))).grown hG_ (fun k e => by cases e; omega)
  clear hR_ hG_
  go_wp2
  go_ret3
  obtain ⟨us, h1, _, h2⟩ := hDr
  exact ⟨us, v, _, _, rfl, h1, by omega, by omega, h2.lower (by have := HB.out; omega), below_of_new HB1.out hGd (fun k e => by cases e; have := HB.out; omega)⟩
set_option maxHeartbeats 1000000 in
theorem DrawNextOpen_d {A : Option Addr} {l : List Int} {c : Nat} {w : World} (hC : CodeR w w.heap.size A l) (hc : l.length ≤ c) :
    Calls Try.prog 25 #[.slice A l.length c] w fun e w' => ∃ (us : HrL) (v : Value) (x y : Int), e = .returned (.tuple #[v, .int .i64 x, .int .i64 y]) ∧ us.length ≤ 5 ∧ (-1 ≤ x ∧ x ≤ 7) ∧ (-1 ≤ y ∧ y ≤ 24) ∧ OwnA w.heap.size 32 3 hrEnc w' v us ∧ Below w.heap.size w w' := by
  go_enter Try.func25, Try.ntmps25
  go_wp2_with fail
  refine (DrawInHours_d hC hc).mono ?_
  rintro e w2 ⟨us, v, x, y, rfl, h⟩
  go_wp2
  go_ret3
  exact ⟨us, v, x, y, rfl, h⟩
end Go.Proofs.Yticiggciigmhaaa

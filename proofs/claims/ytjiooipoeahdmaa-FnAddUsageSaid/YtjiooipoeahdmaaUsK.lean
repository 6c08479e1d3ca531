/- Drawn uses. -/
import Derived.Test.YtjiooipoeahdmaaDrk
import Derived.Test.YtjiooipoeahdmaaUsG
namespace Go.Proofs.Ytjiooipoeahdmaa
open Go.RowKit

set_option maxRecDepth 100000 in
set_option maxHeartbeats 4000000 in
theorem l20Usages_d {br cb N : Nat} {n : Int} {w : World} (hR : RdrT w br cb N) (hN : N ≤ 100000000) (h0 : 0 ≤ n) (h1 : n ≤ 1000000) :
    Calls Try.prog 30 #[.pointer (some ⟨br, 0, Option.none⟩), .int .i64 n] w fun e w' => ∃ v, e = .returned v ∧ DrS w.heap.size 32 2 usEnc 7 (fun _ => True) w' v ∧ RdrT w' br cb (N + 200) ∧ w.grownBy w' (some br) := by
  have hbrW := hR.lt
  go_enter Try.func30, Try.ntmps30
  go_wp2_with fail
  have hDr : DrS w.heap.size 32 2 usEnc 0 (fun _ => True) (w.alloc (.cells #[] 32)) (.slice (some ⟨w.heap.size, 0, Option.none⟩) 0 0) := DrS.empty (Nat.le_refl _)
  have hRd := hR.below (below_alloc w (.cells #[] 32))
  have hGd := grown_alloc_ w (.cells #[] 32) (some br)
  clear hR
  go_wp2_with fail
  refine (pick_d (hRd.below (by (repeat (first | exact Below.refl _ _ | refine ext_alloc ?_ _ | refine Below.setCell ?_ (by simp) _)))) (by omega) (by omega) (by omega)).mono ?_
  rintro e wd1 ⟨at0, rfl, at0_l, at0_u, hR_, hG_⟩
  replace hGd := grown_trans_ hGd (grown_trans_ (grown_of_below (by (repeat (first | exact Below.refl _ _ | refine ext_alloc ?_ _ | refine Below.setCell ?_ (by simp) _))) _) hG_)
  replace hRd := hR_
  replace hDr := (hDr.below (by (repeat (first | exact Below.refl _ _ | refine ext_alloc ?_ _ | refine Below.setCell ?_ (by simp) _)))).grown hG_ (fun k e => by cases e; omega)
  clear hR_ hG_
  go_wp2_with fail
  refine (pick_d (hRd.below (by (repeat (first | exact Below.refl _ _ | refine ext_alloc ?_ _ | refine Below.setCell ?_ (by simp) _)))) (by omega) (by omega) (by omega)).mono ?_
  rintro e wd2 ⟨k0, rfl, k0_l, k0_u, hR_, hG_⟩
  replace hGd := grown_trans_ hGd (grown_trans_ (grown_of_below (by (repeat (first | exact Below.refl _ _ | refine ext_alloc ?_ _ | refine Below.setCell ?_ (by simp) _))) _) hG_)
  replace hRd := hR_
  replace hDr := (hDr.below (by (repeat (first | exact Below.refl _ _ | refine ext_alloc ?_ _ | refine Below.setCell ?_ (by simp) _)))).grown hG_ (fun k e => by cases e; omega)
  clear hR_ hG_
  go_wp2_with fail
  have HD := Lib.hid hDr
  have HR := Lib.hid hRd
  have HG := Lib.hid hGd
  clear hDr hRd hGd
  go_loopw [5, 6, 7] (fun ov av kv wr => ∃ (j : Nat) (x : Int), j ≤ 5 ∧ kv = .int .i64 j ∧ av = .int .i64 x ∧ (0 ≤ x ∧ x ≤ 8 * (6 - j)) ∧ DrS w.heap.size 32 2 usEnc (5 - j) (fun _ => True) wr ov ∧ RdrT wr br cb (N + 2 + 30 * (5 - j)) ∧ w.grownBy wr (some br)) (fun _ _ kv _ => (intOf kv).toNat)
  case atStart =>
    obtain ⟨k1, rfl⟩ := Int.eq_ofNat_of_zero_le k0_l
    exact ⟨k1, at0, by omega, rfl, rfl, by omega, HD.out.mono (by omega), HR.out.mono (by omega), HG.out⟩
  case round =>
    obtain ⟨j, x, hj, rfl, rfl, ⟨hx0, hx1⟩, hDr, hRd, hGd⟩ := hrel
    clear HD HR HG
    by_cases hlt : 0 < j
    · skip
      go_wp2_with fail
      refine (pick_d (hRd.below (by (repeat (first | exact Below.refl _ _ | refine ext_alloc ?_ _ | refine Below.setCell ?_ (by simp) _)))) (by omega) (by omega) (by omega)).mono ?_
      rintro e wd3 ⟨p1, rfl, p1_l, p1_u, hR_, hG_⟩
      replace hGd := grown_trans_ hGd (grown_trans_ (grown_of_below (by (repeat (first | exact Below.refl _ _ | refine ext_alloc ?_ _ | refine Below.setCell ?_ (by simp) _))) _) hG_)
      replace hRd := hR_
      replace hDr := (hDr.below (by (repeat (first | exact Below.refl _ _ | refine ext_alloc ?_ _ | refine Below.setCell ?_ (by simp) _)))).grown hG_ (fun k e => by cases e; omega)
      clear hR_ hG_
      go_wp2_with (at_builtin; go_must (refine wpList_append_dr (enc := usEnc) ((x, 1 + p1)) rfl (.tmp 17) (.tmp 23) 25 32 _ 2 16 rfl Try.underlying25 Try.infoUsage rfl (by decide) (fun _ => rfl) usEnc_one (hDr.below (by (repeat (first | exact Below.refl _ _ | refine ext_alloc ?_ _ | refine Below.setCell ?_ (by simp) _)))) rfl (heap_alloc_new _ _) rfl (trivial) (by omega) (by omega) (Nat.le_trans hGd.size (show Below _ _ _ by (repeat (first | exact Below.refl _ _ | refine ext_alloc ?_ _ | refine Below.setCell ?_ (by simp) _))).size) ?_); intro v_ wd4 ho_ hg_ hb_)
      replace hGd := grown_new (grown_trans_ hGd (grown_of_below (by (repeat (first | exact Below.refl _ _ | refine ext_alloc ?_ _ | refine Below.setCell ?_ (by simp) _))) _)) hg_ hb_
      replace hRd := (hRd.below (by (repeat (first | exact Below.refl _ _ | refine ext_alloc ?_ _ | refine Below.setCell ?_ (by simp) _)))).grown hg_ (fun k e => by have := hb_ k e; have := hRd.cb_; omega)
      replace hDr := ho_
      clear ho_ hg_ hb_
      go_wp2_with fail
      refine (pick_d (hRd.below (by (repeat (first | exact Below.refl _ _ | refine ext_alloc ?_ _ | refine Below.setCell ?_ (by simp) _)))) (by omega) (by omega) (by omega)).mono ?_
      rintro e wd5 ⟨p2, rfl, p2_l, p2_u, hR_, hG_⟩
      replace hGd := grown_trans_ hGd (grown_trans_ (grown_of_below (by (repeat (first | exact Below.refl _ _ | refine ext_alloc ?_ _ | refine Below.setCell ?_ (by simp) _))) _) hG_)
      replace hRd := hR_
      replace hDr := (hDr.below (by (repeat (first | exact Below.refl _ _ | refine ext_alloc ?_ _ | refine Below.setCell ?_ (by simp) _)))).grown hG_ (fun k e => by cases e; omega)
      clear hR_ hG_
      go_wp2
      go_roundw
      case rel => exact ⟨j - 1, x + p2, by omega, by go_num, rfl, by omega, hDr.mono (by omega), hRd.mono (by omega), hGd⟩
      case measure => simp [intOf]; omega
    · skip
      go_wp2_with fail
      refine (odd_d (hRd.below (by (repeat (first | exact Below.refl _ _ | refine ext_alloc ?_ _ | refine Below.setCell ?_ (by simp) _)))) (by omega) (by omega) (by omega)).mono ?_
      rintro e wd3 ⟨b1, rfl, hR_, hG_⟩
      replace hGd := grown_trans_ hGd (grown_trans_ (grown_of_below (by (repeat (first | exact Below.refl _ _ | refine ext_alloc ?_ _ | refine Below.setCell ?_ (by simp) _))) _) hG_)
      replace hRd := hR_
      replace hDr := (hDr.below (by (repeat (first | exact Below.refl _ _ | refine ext_alloc ?_ _ | refine Below.setCell ?_ (by simp) _)))).grown hG_ (fun k e => by cases e; omega)
      clear hR_ hG_
      cases b1
      · go_wp2_with fail
        go_ret
        exact ⟨_, rfl, hDr.mono (by omega), hRd.mono (by omega), hGd⟩
      · skip
        go_wp2_with fail
        refine (pick_d (hRd.below (by (repeat (first | exact Below.refl _ _ | refine ext_alloc ?_ _ | refine Below.setCell ?_ (by simp) _)))) (by omega) (by omega) (by omega)).mono ?_
        rintro e wd4 ⟨p3, rfl, p3_l, p3_u, hR_, hG_⟩
        have hbr_ := hRd.lt
        have hblk_ := (hG_.block _ (by simp) (by simp; omega)).trans (heap_alloc_new _ _)
        have q0_ := cell_of_row _ _ 0 _ _ _ hblk_
        have q1_ := cell_of_row _ _ 1 _ _ _ hblk_
        have q2_ := cell_of_row _ _ 2 _ _ _ hblk_
        have q3_ := cell_of_row _ _ 3 _ _ _ hblk_
        have q4_ := cell_of_row _ _ 4 _ _ _ hblk_
        have q5_ := cell_of_row _ _ 5 _ _ _ hblk_
        have q6_ := cell_of_row _ _ 6 _ _ _ hblk_
        have q7_ := cell_of_row _ _ 7 _ _ _ hblk_
        replace hGd := grown_trans_ hGd (grown_trans_ (grown_of_below (by (repeat (first | exact Below.refl _ _ | refine ext_alloc ?_ _ | refine Below.setCell ?_ (by simp) _))) _) hG_)
        replace hRd := hR_
        replace hDr := (hDr.below (by (repeat (first | exact Below.refl _ _ | refine ext_alloc ?_ _ | refine Below.setCell ?_ (by simp) _)))).grown hG_ (fun k e => by cases e; omega)
        clear hR_ hG_
        obtain rfl | rfl | rfl | rfl : p3 = 0 ∨ p3 = 1 ∨ p3 = 2 ∨ p3 = 3 := by omega
        all_goals
          go_wp2_with (at_builtin; (first | ((refine wpList_append_dr (enc := usEnc) ((x, 0)) rfl (.tmp 32) (.tmp 44) 25 32 _ 2 16 rfl Try.underlying25 Try.infoUsage rfl (by decide) (fun _ => rfl) usEnc_one (hDr.below (by (repeat (first | exact Below.refl _ _ | refine ext_alloc ?_ _ | refine Below.setCell ?_ (by simp) _)))) rfl (heap_alloc_new _ _) rfl (trivial) (by omega) (by omega) (Nat.le_trans hGd.size (show Below _ _ _ by (repeat (first | exact Below.refl _ _ | refine ext_alloc ?_ _ | refine Below.setCell ?_ (by simp) _))).size) ?_)) | ((refine wpList_append_dr (enc := usEnc) ((-1, 1)) rfl (.tmp 32) (.tmp 44) 25 32 _ 2 16 rfl Try.underlying25 Try.infoUsage rfl (by decide) (fun _ => rfl) usEnc_one (hDr.below (by (repeat (first | exact Below.refl _ _ | refine ext_alloc ?_ _ | refine Below.setCell ?_ (by simp) _)))) rfl (heap_alloc_new _ _) rfl (trivial) (by omega) (by omega) (Nat.le_trans hGd.size (show Below _ _ _ by (repeat (first | exact Below.refl _ _ | refine ext_alloc ?_ _ | refine Below.setCell ?_ (by simp) _))).size) ?_)) | ((refine wpList_append_dr (enc := usEnc) ((1001, 1)) rfl (.tmp 32) (.tmp 44) 25 32 _ 2 16 rfl Try.underlying25 Try.infoUsage rfl (by decide) (fun _ => rfl) usEnc_one (hDr.below (by (repeat (first | exact Below.refl _ _ | refine ext_alloc ?_ _ | refine Below.setCell ?_ (by simp) _)))) rfl (heap_alloc_new _ _) rfl (trivial) (by omega) (by omega) (Nat.le_trans hGd.size (show Below _ _ _ by (repeat (first | exact Below.refl _ _ | refine ext_alloc ?_ _ | refine Below.setCell ?_ (by simp) _))).size) ?_)) | ((refine wpList_append_dr (enc := usEnc) ((x, 1001)) rfl (.tmp 32) (.tmp 44) 25 32 _ 2 16 rfl Try.underlying25 Try.infoUsage rfl (by decide) (fun _ => rfl) usEnc_one (hDr.below (by (repeat (first | exact Below.refl _ _ | refine ext_alloc ?_ _ | refine Below.setCell ?_ (by simp) _)))) rfl (heap_alloc_new _ _) rfl (trivial) (by omega) (by omega) (Nat.le_trans hGd.size (show Below _ _ _ by (repeat (first | exact Below.refl _ _ | refine ext_alloc ?_ _ | refine Below.setCell ?_ (by simp) _))).size) ?_))); intro v_ wd5 ho_ hg_ hb_)
          replace hGd := grown_new (grown_trans_ hGd (grown_of_below (by (repeat (first | exact Below.refl _ _ | refine ext_alloc ?_ _ | refine Below.setCell ?_ (by simp) _))) _)) hg_ hb_
          replace hRd := (hRd.below (by (repeat (first | exact Below.refl _ _ | refine ext_alloc ?_ _ | refine Below.setCell ?_ (by simp) _)))).grown hg_ (fun k e => by have := hb_ k e; have := hRd.cb_; omega)
          replace hDr := ho_
          clear ho_ hg_ hb_
          go_wp2
          go_ret
          exact ⟨_, rfl, hDr.mono (by omega), hRd.mono (by omega), hGd⟩
end Go.Proofs.Ytjiooipoeahdmaa

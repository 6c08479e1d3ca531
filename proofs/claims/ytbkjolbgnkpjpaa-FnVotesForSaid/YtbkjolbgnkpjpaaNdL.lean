/- Drawn votes. -/
import Derived.Test.YtbkjolbgnkpjpaaNdJ
namespace Go.Proofs.Ytbkjolbgnkpjpaa
open Go.RowKit

def VoQ (v : Int × Bool) : Prop := 0 ≤ v.1 ∧ v.1 ≤ 5
theorem flatMap_rep : (List.replicate 21 ((0 : Int), false)).flatMap voEnc = (madeCells (Value.agg #[.int .i64 0, .bool false]).cells (21 * 2)).toList := by
  simp only [madeCells, Array.toList_map, Array.toList_range]
  rfl
set_option maxRecDepth 100000 in
set_option maxHeartbeats 4000000 in
theorem l20Ballots_d {br cb N : Nat} {w : World} (hR : RdrT w br cb N) (hN : N ≤ 100000000) :
    Calls Try.prog 46 #[.pointer (some ⟨br, 0, Option.none⟩)] w fun e w' => ∃ v, e = .returned v ∧ DrS w.heap.size 42 2 voEnc 21 VoQ w' v ∧ RdrT w' br cb (N + 300) ∧ w.grownBy w' (some br) := by
  have hbrW := hR.lt
  go_enter Try.func46, Try.ntmps46
  go_wp2_with fail
  have hDr : DrS w.heap.size 42 2 voEnc 0 VoQ (w.alloc (.cells #[] 42)) (.slice (some ⟨w.heap.size, 0, Option.none⟩) 0 0) := DrS.empty (Nat.le_refl _)
  have hRd := hR.below (below_alloc w (.cells #[] 42))
  have hGd := grown_alloc_ w (.cells #[] 42) (some br)
  clear hR
  go_wp2_with fail
  refine (pick_d (hRd.below (by (repeat (first | exact Below.refl _ _ | refine ext_alloc ?_ _ | refine Below.setCell ?_ (by simp) _)))) (by omega) (by omega) (by omega)).mono ?_
  rintro e wd1 ⟨k0, rfl, k0_l, k0_u, hR_, hG_⟩
  replace hGd := grown_trans_ hGd (grown_trans_ (grown_of_below (by (repeat (first | exact Below.refl _ _ | refine ext_alloc ?_ _ | refine Below.setCell ?_ (by simp) _))) _) hG_)
  replace hRd := hR_
  replace hDr := (hDr.below (by (repeat (first | exact Below.refl _ _ | refine ext_alloc ?_ _ | refine Below.setCell ?_ (by simp) _)))).grown hG_ (fun k e => by cases e; omega)
  clear hR_ hG_
  go_wp2_with fail
  have HD := Lib.hid hDr
  have HR := Lib.hid hRd
  have HG := Lib.hid hGd
  clear hDr hRd hGd
  go_loopw [3, 4] (fun ov kv wr => ∃ (j : Nat), j ≤ 8 ∧ kv = .int .i64 j ∧ DrS w.heap.size 42 2 voEnc (8 - j) VoQ wr ov ∧ RdrT wr br cb (N + 1 + 30 * (8 - j)) ∧ w.grownBy wr (some br)) (fun _ kv _ => (intOf kv).toNat)
  case atStart =>
    obtain ⟨k1, rfl⟩ := Int.eq_ofNat_of_zero_le k0_l
    exact ⟨k1, by omega, rfl, HD.out.mono (by omega), HR.out.mono (by omega), HG.out⟩
  case round =>
    obtain ⟨j, hj, rfl, hDr, hRd, hGd⟩ := hrel
    clear HD HR HG
    by_cases hlt : 0 < j
    · skip
      go_wp2_with fail
      refine (pick_d (hRd.below (by (repeat (first | exact Below.refl _ _ | refine ext_alloc ?_ _ | refine Below.setCell ?_ (by simp) _)))) (by omega) (by omega) (by omega)).mono ?_
      rintro e wd3 ⟨p1, rfl, p1_l, p1_u, hR_, hG_⟩
      replace hGd := grown_trans_ hGd (grown_trans_ (grown_of_below (by (repeat (first | exact Below.refl _ _ | refine ext_alloc ?_ _ | refine Below.setCell ?_ (by simp) _))) _) hG_)
      replace hRd := hR_
      replace hDr := (hDr.below (by (repeat (first | exact Below.refl _ _ | refine ext_alloc ?_ _ | refine Below.setCell ?_ (by simp) _)))).grown hG_ (fun k e => by cases e; omega)
      clear hR_ hG_
      go_wp2_with fail
      refine (pick_d (hRd.below (by (repeat (first | exact Below.refl _ _ | refine ext_alloc ?_ _ | refine Below.setCell ?_ (by simp) _)))) (by omega) (by omega) (by omega)).mono ?_
      rintro e wd4 ⟨p2, rfl, p2_l, p2_u, hR_, hG_⟩
      replace hGd := grown_trans_ hGd (grown_trans_ (grown_of_below (by (repeat (first | exact Below.refl _ _ | refine ext_alloc ?_ _ | refine Below.setCell ?_ (by simp) _))) _) hG_)
      replace hRd := hR_
      replace hDr := (hDr.below (by (repeat (first | exact Below.refl _ _ | refine ext_alloc ?_ _ | refine Below.setCell ?_ (by simp) _)))).grown hG_ (fun k e => by cases e; omega)
      clear hR_ hG_
      go_wp2_with (at_builtin; go_must (refine wpList_append_dr (enc := voEnc) ((p1, decide (0 < p2))) rfl (.tmp 12) (.tmp 19) 35 42 _ 2 16 rfl Try.underlying35 Try.infoVote rfl (by decide) (fun _ => rfl) voEnc_one (hDr.below (by (repeat (first | exact Below.refl _ _ | refine ext_alloc ?_ _ | refine Below.setCell ?_ (by simp) _)))) rfl (heap_alloc_new _ _) rfl ((by unfold VoQ; omega)) (by omega) (by omega) (Nat.le_trans hGd.size (show Below _ _ _ by (repeat (first | exact Below.refl _ _ | refine ext_alloc ?_ _ | refine Below.setCell ?_ (by simp) _))).size) ?_); intro v_ wd5 ho_ hg_ hb_)
      replace hGd := grown_new (grown_trans_ hGd (grown_of_below (by (repeat (first | exact Below.refl _ _ | refine ext_alloc ?_ _ | refine Below.setCell ?_ (by simp) _))) _)) hg_ hb_
      replace hRd := (hRd.below (by (repeat (first | exact Below.refl _ _ | refine ext_alloc ?_ _ | refine Below.setCell ?_ (by simp) _)))).grown hg_ (fun k e => by have := hb_ k e; have := hRd.cb_; omega)
      replace hDr := ho_
      clear ho_ hg_ hb_
      go_wp2
      go_roundw
      case rel => exact ⟨j - 1, by omega, by go_num, hDr.mono (by omega), hRd.mono (by omega), hGd⟩
      case measure => simp [intOf]; omega
    · skip
      go_wp2_with fail
      refine (odd_d (hRd.below (by (repeat (first | exact Below.refl _ _ | refine ext_alloc ?_ _ | refine Below.setCell ?_ (by simp) _)))) (by omega) (by omega) (by omega)).mono ?_
      rintro e wd3 ⟨b1, rfl, hR_, hG_⟩
      replace hGd := grown_trans_ hGd (grown_trans_ (grown_of_below (by (repeat (first | exact Below.refl _ _ | refine ext_alloc ?_ _ | refine Below.setCell ?_ (by simp) _))) _) hG_)
      replace hRd := hR_
      replace hDr := (hDr.below (by (repeat (first | exact Below.refl _ _ | refine ext_alloc ?_ _ | refine Below.setCell ?_ (by simp) _)))).grown hG_ (fun k e => by cases e; omega)
      clear hR_ hG_
      cases b1
      · go_wp2
        go_ret
        exact ⟨_, rfl, hDr.mono (by omega), hRd.mono (by omega), hGd⟩
      · obtain ⟨i0, hi, hz0, hz1, hz2⟩ := info_parts Try.infoVote
        obtain ⟨wm, hmk, hown, hgr⟩ := run_make_full (P := Try.prog) wd3 w.heap.size 35 42 i0 _ 2 Try.underlying35 hi hz0 hz1 .i64 .i64 21 (by rw [hz2]; omega) (by simp only [maxLen]; omega) hGd.size
        have hDm : DrS w.heap.size 42 2 voEnc 21 VoQ wm (.slice (some ⟨wd3.heap.size, 0, none⟩) 21 21) := by
          refine ⟨List.replicate 21 ((0 : Int), false), by simp, fun a ha => by rw [List.eq_of_mem_replicate ha]; unfold VoQ; omega, OwnA.of ?_⟩
          rw [flatMap_rep]
          simpa using hown
        have hRm := hRd.grown hgr (fun k e => by cases e)
        have hGm := grown_new hGd hgr (fun k e => by cases e)
        have hmk2 : (Instr.makeSlice 35 (.int .i64 21) (.int .i64 21)).run Try.prog wd3 = .ok (.slice (some ⟨wd3.heap.size, 0, none⟩) 21 21) wm := hmk
        clear hmk hown hgr
        go_wp2
        go_ret
        exact ⟨_, rfl, hDm, hRm.mono (by omega), hGm⟩
end Go.Proofs.Ytbkjolbgnkpjpaa

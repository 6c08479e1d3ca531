/- VotesFor. -/
import Derived.Test.YtbkjolbgnkpjpaaNdB
import Derived.Test.YtbkjolbgnkpjpaaMap
namespace Go.Proofs.Ytbkjolbgnkpjpaa
open Go.RowKit

def WfI (x : Int) : Prop := (Lit.int .i64 x).wf = true
def WfV (l : VoL) : Prop := ∀ v ∈ l, WfI v.1
theorem WfV.at {l : VoL} (h : WfV l) {k : Nat} (hk : k < l.length) : (Lit.int .i64 (vo0 l k)).wf = true := by
  have := h _ (List.getElem_mem hk)
  rw [← vo_elem hk] at this
  exact this
theorem WfV.take {l : VoL} (h : WfV l) (m : Nat) : WfV (l.take m) := fun v hv => h v (List.mem_of_mem_take hv)
theorem voF_ext (l : VoL) (k : Nat) (z : Int) : (if z = vo0 l k then vo1 l k else voF l k z) = voF l (k + 1) z := rfl
def voP (asked : Int) (l : VoL) (who : Int) : Bool := decide (who ≠ asked) && voF l l.length who
theorem voFor_eq (may : IL) (asked : Int) (l : VoL) : voFor may asked l = may.filter (voP asked l) := rfl
theorem voFor_succ (may : IL) (asked : Int) (l : VoL) {k : Nat} (hk : k < may.length) : (may.take (k + 1)).filter (voP asked l) = if voP asked l (il0 may k) = true then (may.take k).filter (voP asked l) ++ [il0 may k] else (may.take k).filter (voP asked l) := by
  rw [il_get hk, filter_take_succ _ _ _ hk]
theorem filter_take_len {α : Type} (p : α → Bool) (l : List α) (k : Nat) : ((l.take k).filter p).length ≤ k := Nat.le_trans (List.length_filter_le _ _) (by simp; omega)

set_option maxRecDepth 100000 in
set_option maxHeartbeats 4000000 in
theorem votesFor_any {A B : Option Addr} {may : IL} {l : VoL} {c c2 : Nat} {least asked : Int} {w : World} (hU : ilR w A may) (hV : voR w B l) (hok : ndOk may least asked = true) (hwf : WfV l) :
    Calls Try.prog 45 #[.agg #[.slice A may.length c, .int .i64 least, .int .i64 asked], .slice B l.length c2] w (SlPost 3 1 ilEnc w (voFor may asked l)) := by
  have hmm := @run_makeMap Try.prog
  have hl := hV.len
  have hm7 := ndOk_len hok
  have hasc : ∀ k, k < may.length → 0 ≤ il0 may k ∧ il0 may k ≤ 6 := fun k hk => by
    simp only [ndOk, Bool.and_eq_true] at hok
    exact (ascAt_iff.1 (ascB_iff.1 hok.1 k hk)).1
  have HASC := Lib.hid hasc
  obtain ⟨W, hW⟩ : ∃ W, W = w.alloc (.cells #[.slice A may.length c, .int .i64 least, .int .i64 asked] 25) := ⟨_, rfl⟩
  have q0 : W.cell? ⟨w.heap.size, 0, none⟩ = some (.slice A may.length c) := by rw [hW]; exact box_cell w #[.slice A may.length c, .int .i64 least, .int .i64 asked] 25 0 (.slice A may.length c) rfl
  have q2 : W.cell? ⟨w.heap.size, 2, none⟩ = some (.int .i64 asked) := by rw [hW]; exact box_cell w #[.slice A may.length c, .int .i64 least, .int .i64 asked] 25 2 (.int .i64 asked) rfl
  have hB0 : Below w.heap.size w W := by rw [hW]; exact below_alloc _ _
  replace hU := hU.below hB0
  replace hV := hV.below hB0
  have hsz : W.heap.size = w.heap.size + 1 := by rw [hW]; simp
  have hM0 := MapB.made W
  rw [hsz] at hM0
  obtain ⟨bm, hbm⟩ : ∃ b, b = w.heap.size + 1 := ⟨_, rfl⟩
  rw [← hbm] at hM0 hsz
  have hWb : W.heap.size ≤ bm := by omega
  have HW := Lib.hid hW
  have HB := Lib.hid hbm
  have HM0 := Lib.hid hM0
  have HWF := Lib.hid hwf
  clear hW hbm hsz hM0 hasc hok hwf
  go_enter Try.func45, Try.ntmps45
  go_wp2_with fail
  rw [← HW.out, ← HB.out]
  go_loopw [14] (fun i wr => ∃ k : Nat, k ≤ l.length ∧ i = .int .i64 k ∧ MapB wr bm k (voF l k) ∧ Below W.heap.size W wr) (fun i _ => l.length - (intOf i).toNat)
  case atStart => exact ⟨0, Nat.zero_le _, rfl, HM0.out, below_alloc _ _⟩
  case round =>
    clear HM0
    obtain ⟨k, hk, rfl, hM, hC⟩ := hrel
    by_cases hlt : k < l.length
    · obtain ⟨b, off, rfl, hc⟩ := hV.cells (by omega)
      obtain ⟨c0, c1⟩ := hc k hlt
      have m0 := below_cell hC c0
      have m1 := below_cell hC c1
      clear c0 c1 hc
      have y0 := box_cell wr #[.int .i64 (vo0 l k), .bool (vo1 l k)] 42 0 (.int .i64 (vo0 l k)) rfl
      have y1 := box_cell wr #[.int .i64 (vo0 l k), .bool (vo1 l k)] 42 1 (.bool (vo1 l k)) rfl
      replace hC := ext_alloc hC (.cells #[.int .i64 (vo0 l k), .bool (vo1 l k)] 42)
      replace hM := hM.below (below_alloc wr (.cells #[.int .i64 (vo0 l k), .bool (vo1 l k)] 42))
      go_wp2_with (at_mapUpdate; go_must (refine wpList_put_mapB rfl (.tmp 18) (.tmp 20) (.tmp 22) rfl hM rfl rfl rfl (HWF.out.at hlt) (by omega) ?_); intro w4 hM4 hg4)
      have hC4 := ext_grown hC hg4 (fun k e => by cases e; exact hWb)
      clear hg4
      go_roundw
      case rel => exact ⟨k + 1, by omega, by go_num, hM4, hC4⟩
      case measure => simp [intOf]; omega
    · obtain rfl : k = l.length := by omega
      obtain ⟨wo, hwo⟩ : ∃ wo : World, wo = wr := ⟨_, rfl⟩
      subst hwo
      replace q0 := below_cell hC q0
      replace q2 := below_cell hC q2
      replace hU := hU.below hC
      clear hV
      go_wp2
      go_loopw [8, 27] (fun ov i w2 => ∃ j : Nat, j ≤ may.length ∧ i = .int .i64 j ∧ OwnA wo.heap.size 3 1 ilEnc w2 ov ((may.take j).filter (voP asked l)) ∧ Below wo.heap.size wo w2) (fun _ i _ => may.length - (intOf i).toNat)
      case atStart => exact ⟨0, Nat.zero_le _, rfl, OwnA.nil, Below.refl _ _⟩
      case round =>
        rename_i w2
        obtain ⟨j, hj, rfl, hO, hD⟩ := hrel
        have hlk := filter_take_len (voP asked l) may j
        by_cases hlt2 : j < may.length
        · obtain ⟨b, off, rfl, hc⟩ := hU.cells (by omega)
          have m0 := below_cell hD (hc j hlt2)
          have p2 := below_cell hD q2
          obtain ⟨a0, a1⟩ := HASC.out j hlt2
          have HS := Lib.hid (voFor_succ may asked l hlt2)
          have hM2 := hM.below hD
          have hlook := hM2.look (x := il0 may j) (WalkArith.wf_i64 (by omega))
          clear hc
          have HP : Hid (voP asked l (il0 may j) = (decide (il0 may j ≠ asked) && voF l l.length (il0 may j))) := Lib.hid rfl
          by_cases g1 : il0 may j = asked
          · have g1' : (il0 may j != asked) = false := by simpa using g1
            have HP2 : Hid (voP asked l (il0 may j) = false) := Lib.hid (by rw [HP.out]; simp [g1])
            clear g1
            go_wp2
            go_roundw
            case rel => exact ⟨j + 1, by omega, by go_num, hO.eq (by rw [HS.out, if_neg (by rw [HP2.out]; simp)]), hD⟩
            case measure => simp [intOf]; omega
          · have g1' : (il0 may j != asked) = true := by simpa using g1
            have HP2 : Hid (voP asked l (il0 may j) = voF l l.length (il0 may j)) := Lib.hid (by rw [HP.out]; simp [g1])
            clear g1
            cases g2 : voF l l.length (il0 may j)
            · go_wp2
              go_roundw
              case rel => exact ⟨j + 1, by omega, by go_num, hO.eq (by rw [HS.out, if_neg (by rw [HP2.out, g2]; simp)]), hD⟩
              case measure => simp [intOf]; omega
            · skip
              go_wp2_with (at_builtin; go_must (refine wpList_push (enc := ilEnc) (il0 may j) rfl (.tmp 40) (.tmp 42) 23 3 _ 1 8 rfl Try.underlying23 Try.infoInt rfl (by decide) (fun _ => rfl) ilEnc_one (hO.below (by (repeat (first | exact Below.refl _ _ | refine ext_alloc ?_ _ | refine Below.setCell ?_ (by simp) _)))) rfl (heap_alloc_at (by simp)) (by rfl) (by omega) (by omega) (Nat.le_trans hD.size (show Below _ _ _ by (repeat (first | exact Below.refl _ _ | refine ext_alloc ?_ _ | refine Below.setCell ?_ (by simp) _))).size) ?_); intro v_ wq1 ho_ hb_ hg_)
              replace hD := (ext_trans hD (by (repeat (first | exact Below.refl _ _ | refine ext_alloc ?_ _ | refine Below.setCell ?_ (by simp) _)))).trans hb_
              replace hO := ho_
              clear ho_ hb_ hg_
              go_wp2
              go_roundw
              case rel => exact ⟨j + 1, by omega, by go_num, hO.eq (by rw [HS.out, if_pos (by rw [HP2.out, g2])]), hD⟩
              case measure => simp [intOf]; omega
        · obtain rfl : j = may.length := by omega
          go_wp2
          go_ret
          exact SlPost.of (by rw [voFor_eq, List.take_length]) (hO.lower (by have := hB0.size; have := hC.size; omega)) (hB0.trans ((ext_trans hC hD).mono hB0.size))

theorem ndFor_no {may : IL} {least asked : Int} {l : VoL} (h : ndOk may least asked = false ∨ 20 < l.length) : ndFor may least asked l = [] := by
  unfold ndFor
  rcases h with h | h
  · simp [h]
  · rw [if_neg]; simp; omega
theorem ndFor_yes {may : IL} {least asked : Int} {l : VoL} (h : ndOk may least asked = true) (h2 : l.length ≤ 20) : ndFor may least asked l = voFor may asked l := by
  simp [ndFor, h, h2]

set_option maxHeartbeats 4000000 in
theorem implVotesFor {A B : Option Addr} {may : IL} {l : VoL} {c c2 : Nat} {least asked : Int} {w : World} (hU : ilR w A may) (hV : voR w B l) (hwf : WfV l) :
    Calls Try.prog 21 #[.agg #[.slice A may.length c, .int .i64 least, .int .i64 asked], .slice B l.length c2] w (SlPost 3 1 ilEnc w (ndFor may least asked l)) := by
  have q0 := box_cell w #[.slice A may.length c, .int .i64 least, .int .i64 asked] 25 0 (.slice A may.length c) rfl
  have q1 := box_cell w #[.slice A may.length c, .int .i64 least, .int .i64 asked] 25 1 (.int .i64 least) rfl
  have q2 := box_cell w #[.slice A may.length c, .int .i64 least, .int .i64 asked] 25 2 (.int .i64 asked) rfl
  have hB := below_alloc w (.cells #[.slice A may.length c, .int .i64 least, .int .i64 asked] 25)
  have hl := hV.len
  replace hU := hU.below hB
  replace hV := hV.below hB
  have HWF := Lib.hid hwf
  clear hwf
  cases g1 : ndOk may least asked
  · have HE : Hid (ndFor may least asked l = []) := Lib.hid (ndFor_no (.inl g1))
    go_enter Try.func21, Try.ntmps21
    go_wp2_with fail
    refine (implNeedValid hU).mono ?_
    rintro e w1 ⟨rfl, hBc⟩
    replace hB := ext_trans hB hBc
    clear hBc
    go_wp2
    go_ret
    exact SlPost.of HE.out OwnA.nil hB
  · by_cases g2 : 20 < l.length
    · have HE : Hid (ndFor may least asked l = []) := Lib.hid (ndFor_no (.inr g2))
      go_enter Try.func21, Try.ntmps21
      go_wp2_with fail
      refine (implNeedValid hU).mono ?_
      rintro e w1 ⟨rfl, hBc⟩
      replace hB := ext_trans hB hBc
      clear hBc
      go_wp2
      go_ret
      exact SlPost.of HE.out OwnA.nil hB
    · have HE : Hid (ndFor may least asked l = voFor may asked l) := Lib.hid (ndFor_yes g1 (by omega))
      have HG := Lib.hid g1
      go_enter Try.func21, Try.ntmps21
      go_wp2_with fail
      refine (implNeedValid hU).mono ?_
      rintro e w1 ⟨rfl, hBc⟩
      replace hB := ext_trans hB hBc
      replace hU := hU.below hBc
      replace hV := hV.below hBc
      replace q0 := below_cell hBc q0
      replace q1 := below_cell hBc q1
      replace q2 := below_cell hBc q2
      clear hBc
      go_wp2_with fail
      refine (votesFor_any hU hV HG.out HWF.out).mono ?_
      rintro e w3 ⟨A3, c3, rfl, ho3, hB3⟩
      go_wp2
      go_ret
      exact SlPost.of HE.out ((OwnA.of ho3).lower hB.size) (ext_trans hB hB3)
end Go.Proofs.Ytbkjolbgnkpjpaa

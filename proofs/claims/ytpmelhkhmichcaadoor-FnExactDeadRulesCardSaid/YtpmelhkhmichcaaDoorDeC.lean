/- Rules that never decide: the exact law. -/
import Derived.Test.YtpmelhkhmichcaaDoorDeB
import Derived.Test.YtpmelhkhmichcaaDoorMkT
import Derived.Test.YtpmelhkhmichcaaDoorFrC
import Derived.Test.YtpmelhkhmichcaaDoorDrk
namespace Go.Proofs.YtpmelhkhmichcaaDoor
set_option linter.unusedSimpArgs false
set_option linter.unusedVariables false
open Go.RowKit

theorem deV_len (l : RuL) : (deV l).length ≤ l.length := by
  rw [deV]
  split
  · exact deadL_len l _
  · exact Nat.zero_le _
def ruMark (k : Int) (n : Nat) : RuL := (List.range n).map fun (i : Nat) => (mkT (k + 3 * (i : Int)), k + 3 * (i : Int) + 1, decide ((k + 3 * (i : Int) + 1 + 1) % 3 = 0))
theorem ruMark_succ (k : Int) (j : Nat) : (ruMark k (j + 1)).flatMap ruEnc = (ruMark k j).flatMap ruEnc ++ [.string (mkT (k + 3 * j)), .int .i64 (k + 3 * j + 1), .bool (decide ((k + 3 * j + 1 + 1) % 3 = 0))] := by
  simp [ruMark, List.range_succ, ruEnc]
set_option maxRecDepth 100000 in
set_option maxHeartbeats 4000000 in
theorem markRuleS_any {A : Option Addr} {l : RuL} {B c : Nat} {k0 : Int} {w : World} (ho : w.ownsRow B 25 3 (.slice A l.length c) l.length (l.flatMap ruEnc)) (hn : l.length ≤ 4194304) (hk0 : 0 ≤ k0) (hk1 : k0 ≤ 100000000) :
    Calls Tryd.prog 39 #[.slice A l.length c, .int .i64 k0] w fun e w' => e = .returned (.int .i64 (k0 + 3 * l.length)) ∧
      w'.ownsRow B 25 3 (.slice A l.length c) l.length ((ruMark k0 l.length).flatMap ruEnc) ∧ w.grownBy w' (Value.slice A l.length c).ownBlock := by
  go_enter Tryd.func39, Tryd.ntmps39
  go_wp2
  go_loopw [1, 5] (fun kk i wr => ∃ j : Nat, j ≤ l.length ∧ i = .int .i64 j ∧ kk = .int .i64 (k0 + 3 * j) ∧ w.grownBy wr (Value.slice A l.length c).ownBlock ∧ ∃ xs, wr.ownsRow B 25 3 (.slice A l.length c) l.length xs ∧ xs.take (j * 3) = (ruMark k0 j).flatMap ruEnc) (fun _ i _ => l.length - (intOf i).toNat)
  case atStart => exact ⟨0, Nat.zero_le _, rfl, by simp, World.grownBy.refl _ _, _, ho, by simp [ruMark]⟩
  case round =>
    clear ho
    obtain ⟨j, hj, rfl, rfl, hG, xs, hown, htake⟩ := hrel
    have HT := Lib.hid htake
    clear htake
    by_cases hlt : j < l.length
    · obtain ⟨g, cap, hv, hBg, hglt⟩ := hown.form (by omega)
      simp only [Value.slice.injEq, true_and] at hv
      obtain ⟨rfl, rfl⟩ := hv
      go_wp2_with fail
      refine (markText_any _ (by omega)).mono ?_
      rintro e w1 ⟨rfl, hb⟩
      replace hG := grown_trans_ hG (grown_of_below hb (some g))
      replace hown := own_below hown hb
      replace hglt := Nat.lt_of_lt_of_le hglt hb.size
      clear hb
      obtain ⟨v0, f0⟩ := own_cell hown (j := j * 3) (by omega)
      obtain ⟨v1, f1⟩ := own_cell hown (j := j * 3 + 1) (by omega)
      obtain ⟨v2, f2⟩ := own_cell hown (j := j * 3 + 2) (by omega)
      have z0 := hown.frozenAt (j * 3)
      have z1 := hown.frozenAt (j * 3 + 1)
      have z2 := hown.frozenAt (j * 3 + 2)
      go_wp2
      go_roundw
      case rel =>
        obtain ⟨xs', h1, h2⟩ := own_elem [.string (mkT (k0 + 3 * j)), .int .i64 (k0 + 3 * j + 1), .bool (decide ((k0 + 3 * j + 1 + 1) % 3 = 0))] hown hlt rfl HT.out
        exact ⟨j + 1, by omega, by go_num, by congr 1; omega, grown_trans_ hG (setCells_grown _ [.string (mkT (k0 + 3 * j)), .int .i64 (k0 + 3 * j + 1), .bool (decide ((k0 + 3 * j + 1 + 1) % 3 = 0))] _ (j * 3)), xs', h1, by rw [h2, ruMark_succ]⟩
      case measure => simp [intOf]; omega
    · obtain rfl : j = l.length := by omega
      go_wp2
      go_ret
      refine ⟨rfl, ?_, hG⟩
      have e := HT.out
      rw [List.take_of_length_le (Nat.le_of_eq hown.1)] at e
      rw [← e]; exact hown
set_option maxRecDepth 100000 in
set_option maxHeartbeats 8000000 in
theorem lawExactDeadRules {A : Option Addr} {l : RuL} {c : Nat} {w : World} (hU : ruR w A l) (hw : WfRu l) :
    Calls Tryd.prog 11 #[.slice A l.length c] w fun e w' => e = .returned (.bool true) ∧ Below w.heap.size w w' := by
  have HWF := Lib.hid hw
  clear hw
  obtain ⟨r, hr⟩ : ∃ r, r = deV l := ⟨_, rfl⟩
  have hrl : r.length ≤ l.length := by rw [hr]; exact deV_len l
  have HR := Lib.hid hr
  clear hr
  go_enter Tryd.func11, Tryd.ntmps11
  go_wp2_with fail
  refine (szRuleS_any hU HWF.out (by omega) (by omega)).mono ?_
  rintro e w1 ⟨y, rfl, hy, hB⟩
  rcases hy with rfl | ⟨y0, y1, hf⟩
  · go_wp2
    go_ret
    exact ⟨rfl, hB⟩
  · have HF := Lib.hid hf
    clear hf
    have hl0 : l.length ≤ 1048576 := by omega
    go_wp2_with fail
    refine (toRuleS_any (hU.below hB) (by omega)).mono ?_
    rintro e w2 ⟨rfl, ho1, hBc⟩
    replace hB := ext_trans hB hBc
    clear hBc
    go_wp2_with fail
    refine (specDeadRules (ruR.own rfl (by omega) ho1) HF.out).mono ?_
    rintro e w3 ⟨_, rfl, ⟨Aw, cw, rfl, how⟩, hBc⟩
    rw [← HR.out] at how ⊢
    replace hB := ext_trans hB hBc
    clear hBc ho1
    have hwl := fun k hk => (how.lt k hk).2
    have hwb := hB.size
    go_wp2_with fail
    refine (toRuleS_any (hU.below hB) (by omega)).mono ?_
    rintro e w4 ⟨rfl, hox, hBc⟩
    replace hB := ext_trans hB hBc
    replace how := own_below how hBc
    clear hBc
    have hxl := (own_lt hox).2
    have hxb := (own_lt hox).1
    go_wp2_with fail
    refine (implDeadRules (ruR.own rfl (by omega) hox) HF.out (Nat.le_refl _)).mono ?_
    rintro e w5 ⟨_, rfl, ⟨Ag, cg, rfl, hog⟩, hBc⟩
    rw [← HR.out] at hog ⊢
    replace hB := ext_trans hB hBc
    replace how := own_below how hBc
    replace hox := own_below hox hBc
    clear hBc
    have hgb := fun k hk => (hog.lt k hk).1
    go_wp2_with fail
    refine (eqIntS_any (ilR.own rfl (by omega) hog) (ilR.own rfl (by omega) how)).mono ?_
    rintro e w6 ⟨rfl, hBc⟩
    replace hB := ext_trans hB hBc
    replace how := own_below how hBc
    replace hox := own_below hox hBc
    replace hog := own_below hog hBc
    clear hBc
    rw [sameB_self]
    go_wp2_with fail
    refine (toRuleS_any (hU.below hB) (by omega)).mono ?_
    rintro e w7 ⟨rfl, hoy, hBc⟩
    replace hB := ext_trans hB hBc
    replace how := own_below how hBc
    replace hox := own_below hox hBc
    replace hog := own_below hog hBc
    clear hBc
    go_wp2_with fail
    refine (eqRuleS_any (ruR.own rfl (by omega) hox) (ruR.own rfl (by omega) hoy)).mono ?_
    rintro e w8 ⟨rfl, hBc⟩
    replace hB := ext_trans hB hBc
    replace how := own_below how hBc
    replace hox := own_below hox hBc
    replace hog := own_below hog hBc
    clear hBc
    rw [sameB_self]
    clear hoy
    go_wp2_with fail
    refine (markRuleS_any hox (by omega) (by omega) (by omega)).mono ?_
    rintro e w9 ⟨rfl, hoxm, hgm⟩
    have hgm' : World.grownBy _ w9 (some w3.heap.size) := hgm
    replace how := own_apart how hgm' (fun k hk => by have := hwl k hk; omega)
    replace hog := own_apart hog hgm' (fun k hk => by have := hgb k hk; omega)
    replace hB := below_grown_at hB hgm' hB.size (by omega)
    clear hoxm hgm hgm' hox
    go_wp2_with fail
    refine (eqIntS_any (ilR.own rfl (by omega) hog) (ilR.own rfl (by omega) how)).mono ?_
    rintro e w10 ⟨rfl, hBc⟩
    replace hB := ext_trans hB hBc
    replace how := own_below how hBc
    replace hog := own_below hog hBc
    clear hBc
    rw [sameB_self]
    go_wp2_with fail
    refine (markIntS_any hog (by omega) (by omega) (by omega)).mono ?_
    rintro e w11 ⟨rfl, hogm, hgm⟩
    replace how := own_apart_ how hgm (fun k hk e => by have := hwl k hk; have := hgb k e; omega)
    replace hB := hB.grown hgm hB.size (fun k hk => by have := hgb k hk; omega)
    clear hgm hog
    go_wp2_with fail
    refine (heldIntS_m (ilR.own (ilMark_length _ _) (by omega) hogm) (by omega) (by omega) (by omega)).mono ?_
    rintro e w12 ⟨rfl, hBc⟩
    replace hB := ext_trans hB hBc
    replace how := own_below how hBc
    replace hogm := own_below hogm hBc
    clear hBc
    go_wp2_with fail
    refine (toRuleS_any (hU.below hB) (by omega)).mono ?_
    rintro e w13 ⟨rfl, ho1, hBc⟩
    replace hB := ext_trans hB hBc
    replace how := own_below how hBc
    replace hogm := own_below hogm hBc
    clear hBc
    go_wp2_with fail
    refine (implDeadRules (ruR.own rfl (by omega) ho1) HF.out (Nat.le_refl _)).mono ?_
    rintro e w14 ⟨_, rfl, ⟨Ah, ch, rfl, hoh⟩, hBc⟩
    rw [← HR.out] at hoh ⊢
    replace hB := ext_trans hB hBc
    replace how := own_below how hBc
    replace hogm := own_below hogm hBc
    clear hBc ho1
    go_wp2_with fail
    refine (eqIntS_any (ilR.own rfl (by omega) hoh) (ilR.own rfl (by omega) how)).mono ?_
    rintro e w15 ⟨rfl, hBc⟩
    replace hB := ext_trans hB hBc
    replace how := own_below how hBc
    replace hogm := own_below hogm hBc
    clear hBc
    rw [sameB_self]
    go_wp2_with fail
    refine (heldIntS_m (ilR.own (ilMark_length _ _) (by omega) hogm) (by omega) (by omega) (by omega)).mono ?_
    rintro e w16 ⟨rfl, hBc⟩
    replace hB := ext_trans hB hBc
    replace how := own_below how hBc
    replace hogm := own_below hogm hBc
    clear hBc
    go_wp2
    go_ret
    exact ⟨rfl, hB⟩
end Go.Proofs.YtpmelhkhmichcaaDoor

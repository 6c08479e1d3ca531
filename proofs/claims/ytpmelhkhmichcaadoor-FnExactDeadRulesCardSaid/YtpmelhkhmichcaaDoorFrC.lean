/- The exact laws of the first rule and of whether rules allow, walked. -/
import Derived.Test.YtpmelhkhmichcaaDoorFrB
namespace Go.Proofs.YtpmelhkhmichcaaDoor
set_option linter.unusedSimpArgs false
set_option linter.unusedVariables false
open Go.RowKit

set_option maxRecDepth 100000 in
set_option maxHeartbeats 4000000 in
theorem lawExactFirstRule {A : Option Addr} {l : RuL} {c : Nat} {path : ByteArray} {act : Int} {w : World} (hU : ruR w A l) (hw : WfRu l) (hps : path.size ≤ 9223372036854775807) :
    Calls Tryd.prog 6 #[.slice A l.length c, .string path, .int .i64 act] w fun e w' => e = .returned (.bool true) ∧ Below w.heap.size w w' := by
  have HWF := Lib.hid hw
  clear hw
  by_cases hpl : (1048576 : Int) < path.size
  · go_enter Tryd.func6, Tryd.ntmps6
    go_wp2
    go_ret
    exact ⟨rfl, Below.refl _ _⟩
  · have hp : path.size ≤ 2097152 := by omega
    go_enter Tryd.func6, Tryd.ntmps6
    go_wp2_with fail
    refine (szRuleS_any hU HWF.out (by omega) (by omega)).mono ?_
    rintro e w1 ⟨y, rfl, hy, hB⟩
    replace hU := hU.below hB
    rcases hy with rfl | ⟨y0, y1, hf⟩
    · go_wp2
      go_ret
      exact ⟨rfl, hB⟩
    · have HF := Lib.hid hf
      clear hf
      go_wp2_with fail
      refine (toRuleS_any hU (by omega)).mono ?_
      rintro e w2 ⟨rfl, ho2, hBc⟩
      replace hB := ext_trans hB hBc
      replace hU := hU.below hBc
      clear hBc
      go_wp2_with fail
      refine (specFirstRule (ruR.own rfl (by omega) ho2) HF.out hp).mono ?_
      rintro e w3 ⟨v0, rfl, hv0, hBc⟩
      replace hB := ext_trans hB hBc
      replace hU := hU.below hBc
      have HV0 := Lib.hid hv0
      clear hv0 ho2 hBc
      go_wp2_with fail
      refine (toRuleS_any hU (by omega)).mono ?_
      rintro e w4 ⟨rfl, ho4, hBc⟩
      replace hB := ext_trans hB hBc
      replace hU := hU.below hBc
      have hV : ruR w4 (some ⟨w3.heap.size, 0, none⟩) l := ruR.own rfl (by omega) ho4
      clear hBc ho4
      go_wp2_with fail
      refine (implFirstRule hV HF.out hp).mono ?_
      rintro e w5 ⟨v1, rfl, hv1, hBc⟩
      obtain rfl := hv1.uniq HV0.out
      replace hB := ext_trans hB hBc
      replace hU := hU.below hBc
      replace hV := hV.below hBc
      clear hBc hv1
      go_wp2_with fail
      refine (toRuleS_any hU (by omega)).mono ?_
      rintro e w6 ⟨rfl, ho6, hBc⟩
      replace hB := ext_trans hB hBc
      replace hV := hV.below hBc
      clear hBc
      go_wp2_with fail
      refine (eqRuleS_any hV (ruR.own rfl (by omega) ho6)).mono ?_
      rintro e w7 ⟨rfl, hBc⟩
      rw [sameB_self]
      replace hB := ext_trans hB hBc
      clear hBc ho6
      go_wp2
      go_ret
      exact ⟨rfl, hB⟩
set_option maxRecDepth 100000 in
set_option maxHeartbeats 4000000 in
theorem lawExactRulesAllow {A : Option Addr} {l : RuL} {c : Nat} {path : ByteArray} {act : Int} {w : World} (hU : ruR w A l) (hw : WfRu l) (hps : path.size ≤ 9223372036854775807) :
    Calls Tryd.prog 8 #[.slice A l.length c, .string path, .int .i64 act] w fun e w' => e = .returned (.bool true) ∧ Below w.heap.size w w' := by
  have HWF := Lib.hid hw
  clear hw
  by_cases hpl : (1048576 : Int) < path.size
  · go_enter Tryd.func8, Tryd.ntmps8
    go_wp2
    go_ret
    exact ⟨rfl, Below.refl _ _⟩
  · have hp : path.size ≤ 2097152 := by omega
    go_enter Tryd.func8, Tryd.ntmps8
    go_wp2_with fail
    refine (szRuleS_any hU HWF.out (by omega) (by omega)).mono ?_
    rintro e w1 ⟨y, rfl, hy, hB⟩
    replace hU := hU.below hB
    rcases hy with rfl | ⟨y0, y1, hf⟩
    · go_wp2
      go_ret
      exact ⟨rfl, hB⟩
    · have HF := Lib.hid hf
      clear hf
      go_wp2_with fail
      refine (toRuleS_any hU (by omega)).mono ?_
      rintro e w2 ⟨rfl, ho2, hBc⟩
      replace hB := ext_trans hB hBc
      replace hU := hU.below hBc
      clear hBc
      go_wp2_with fail
      refine (specRulesAllow (ruR.own rfl (by omega) ho2) HF.out hp).mono ?_
      rintro e w3 ⟨v0, rfl, hv0, hBc⟩
      replace hB := ext_trans hB hBc
      replace hU := hU.below hBc
      have HV0 := Lib.hid hv0
      clear hv0 ho2 hBc
      go_wp2_with fail
      refine (toRuleS_any hU (by omega)).mono ?_
      rintro e w4 ⟨rfl, ho4, hBc⟩
      replace hB := ext_trans hB hBc
      replace hU := hU.below hBc
      have hV : ruR w4 (some ⟨w3.heap.size, 0, none⟩) l := ruR.own rfl (by omega) ho4
      clear hBc ho4
      go_wp2_with fail
      refine (implRulesAllow hV HF.out hp).mono ?_
      rintro e w5 ⟨v1, rfl, hv1, hBc⟩
      obtain rfl := hv1.uniq HV0.out
      replace hB := ext_trans hB hBc
      replace hU := hU.below hBc
      replace hV := hV.below hBc
      clear hBc hv1
      go_wp2_with fail
      refine (toRuleS_any hU (by omega)).mono ?_
      rintro e w6 ⟨rfl, ho6, hBc⟩
      replace hB := ext_trans hB hBc
      replace hV := hV.below hBc
      clear hBc
      go_wp2_with fail
      refine (eqRuleS_any hV (ruR.own rfl (by omega) ho6)).mono ?_
      rintro e w7 ⟨rfl, hBc⟩
      rw [sameB_self]
      replace hB := ext_trans hB hBc
      clear hBc ho6
      go_wp2
      go_ret
      exact ⟨rfl, hB⟩
end Go.Proofs.YtpmelhkhmichcaaDoor

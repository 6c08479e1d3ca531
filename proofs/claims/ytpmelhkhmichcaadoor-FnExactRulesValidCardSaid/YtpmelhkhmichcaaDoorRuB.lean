/- The exact law of valid rules, walked. -/
import Derived.Test.YtpmelhkhmichcaaDoorRuA
namespace Go.Proofs.YtpmelhkhmichcaaDoor
set_option linter.unusedSimpArgs false
set_option linter.unusedVariables false
open Go.RowKit

set_option maxRecDepth 100000 in
set_option maxHeartbeats 4000000 in
theorem lawExactRulesValid {A : Option Addr} {l : RuL} {c : Nat} {w : World} (hU : ruR w A l) (hw : WfRu l) :
    Calls Tryd.prog 5 #[.slice A l.length c] w fun e w' => e = .returned (.bool true) ∧ Below w.heap.size w w' := by
  have HWF := Lib.hid hw
  clear hw
  go_enter Tryd.func5, Tryd.ntmps5
  go_wp2_with fail
  refine (szRuleS_any hU HWF.out (by omega) (by omega)).mono ?_
  rintro e w1 ⟨y, rfl, hy, hB⟩
  replace hU := hU.below hB
  rcases hy with rfl | ⟨y0, y1, hf⟩
  · go_wp2
    go_ret
    exact ⟨rfl, hB⟩
  · have HF := Lib.hid hf
    clear hf
    go_wp2_with fail
    refine (toRuleS_any hU (by omega)).mono ?_
    rintro e w2 ⟨rfl, ho2, hBc⟩
    replace hB := ext_trans hB hBc
    replace hU := hU.below hBc
    clear hBc
    go_wp2_with fail
    refine (specRulesValid (ruR.own rfl (by omega) ho2) HF.out).mono ?_
    rintro e w3 ⟨rfl, hBc⟩
    replace hB := ext_trans hB hBc
    replace hU := hU.below hBc
    clear hBc
    clear ho2
    go_wp2_with fail
    refine (toRuleS_any hU (by omega)).mono ?_
    rintro e w4 ⟨rfl, ho4, hBc⟩
    replace hB := ext_trans hB hBc
    replace hU := hU.below hBc
    clear hBc
    go_wp2_with fail
    refine (implRulesValid (ruR.own rfl (by omega) ho4) HF.out).mono ?_
    rintro e w5 ⟨rfl, hBc⟩
    replace hB := ext_trans hB hBc
    replace hU := hU.below hBc
    replace ho4 := own_below ho4 hBc
    clear hBc
    go_wp2_with fail
    refine (toRuleS_any hU (by omega)).mono ?_
    rintro e w6 ⟨rfl, ho6, hBc⟩
    replace hB := ext_trans hB hBc
    replace hU := hU.below hBc
    replace ho4 := own_below ho4 hBc
    clear hBc
    go_wp2_with fail
    refine (eqRuleS_any (ruR.own rfl (by omega) ho4) (ruR.own rfl (by omega) ho6)).mono ?_
    rintro e w7 ⟨rfl, hBc⟩
    replace hB := ext_trans hB hBc
    replace hU := hU.below hBc
    replace ho4 := own_below ho4 hBc
    clear hBc
    rw [sameB_self]
    go_wp2
    go_ret
    exact ⟨rfl, hB⟩
end Go.Proofs.YtpmelhkhmichcaaDoor

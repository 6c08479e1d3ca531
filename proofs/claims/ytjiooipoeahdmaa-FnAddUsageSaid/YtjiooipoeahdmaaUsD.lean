/- the law FnExactUsagesValid, walked -/
import Derived.Test.YtjiooipoeahdmaaUsB
import Derived.Test.YtjiooipoeahdmaaUsC
namespace Go.Proofs.Ytjiooipoeahdmaa
open Go.RowKit

theorem us_own {w : World} {B n c : Nat} {e : TypeId} {A : Option Addr} {us : List (Int × Int)} (hl : us.length = n) (hb : n ≤ 4194304) (h : w.ownsRow B e 2 (.slice A n c) n (us.flatMap usEnc)) : Us w A us :=
  RdL.of_own (fun _ => rfl) hl (by omega) h

set_option maxHeartbeats 1000000 in
theorem lawExactUsagesValid {A : Option Addr} {us : List (Int × Int)} {c : Nat} {w : World} (hU : Us w A us) :
    Calls Try.prog 3 #[.slice A us.length c] w fun e w' => e = .returned (.bool true) ∧ Below w.heap.size w w' := by
  by_cases h : (1048576 : Int) < us.length
  · go_enter Try.func3, Try.ntmps3
    go_wp2_with (go_at_call 9; refine (szUsageS_any hU (by omega) (by omega)).mono ?_; rintro e w1 ⟨rfl, hB1⟩; rw [if_pos (by omega)])
    go_ret
    exact ⟨rfl, hB1⟩
  · have hB := Below.refl w.heap.size w
    go_enter Try.func3, Try.ntmps3
    go_wp2_with fail
    refine (szUsageS_any hU (by omega) (by omega)).mono ?_
    rintro e w1 ⟨rfl, hBc⟩
    replace hB := ext_trans hB hBc
    replace hU := hU.below hBc
    clear hBc
    rw [if_neg (by omega)]
    go_wp2_with fail
    refine (toUsageS_any hU (by omega)).mono ?_
    rintro e w2 ⟨rfl, ho2, hBc⟩
    replace hB := ext_trans hB hBc
    replace hU := hU.below hBc
    clear hBc
    go_wp2_with fail
    refine (specUsagesValid (us_own rfl (by omega) ho2)).mono ?_
    rintro e w3 ⟨rfl, hBc⟩
    replace hB := ext_trans hB hBc
    replace hU := hU.below hBc
    clear hBc
    clear ho2
    go_wp2_with fail
    refine (toUsageS_any hU (by omega)).mono ?_
    rintro e w4 ⟨rfl, ho4, hBc⟩
    replace hB := ext_trans hB hBc
    replace hU := hU.below hBc
    clear hBc
    go_wp2_with fail
    refine (implUsagesValid (us_own rfl (by omega) ho4)).mono ?_
    rintro e w5 ⟨rfl, hBc⟩
    replace hB := ext_trans hB hBc
    replace hU := hU.below hBc
    replace ho4 := own_below ho4 hBc
    clear hBc
    go_wp2_with fail
    refine (toUsageS_any hU (by omega)).mono ?_
    rintro e w6 ⟨rfl, ho6, hBc⟩
    replace hB := ext_trans hB hBc
    replace hU := hU.below hBc
    replace ho4 := own_below ho4 hBc
    clear hBc
    go_wp2_with fail
    refine (eqUsageS_any (us_own rfl (by omega) ho4) (us_own rfl (by omega) ho6)).mono ?_
    rintro e w7 ⟨rfl, hBc⟩
    replace hB := ext_trans hB hBc
    replace hU := hU.below hBc
    replace ho4 := own_below ho4 hBc
    clear hBc
    rw [sameB_self]
    go_wp2
    go_ret
    exact ⟨rfl, hB⟩
end Go.Proofs.Ytjiooipoeahdmaa

/- the exact laws of hours, walked -/
import Derived.Test.YticiggciigmhaaaHrD
namespace Go.Proofs.Yticiggciigmhaaa
open Go.RowKit

set_option maxHeartbeats 1000000 in
theorem lawExactHoursValid {A : Option Addr} {l : _} {c : Nat} {w : World} (hU : hrR w A l) :
    Calls Try.prog 3 #[.slice A l.length c] w fun e w' => e = .returned (.bool true) ∧ Below w.heap.size w w' := by
  have hB := Below.refl w.heap.size w
  have hlen := hU.len
  by_cases h : (1048576 : Int) < l.length
  · go_enter Try.func3, Try.ntmps3
    go_wp2_with fail
    refine (szHoursS_any hU (by omega) (by omega)).mono ?_
    rintro e w1 ⟨rfl, hBc⟩
    replace hB := ext_trans hB hBc
    replace hU := hU.below hBc
    clear hBc
    rw [if_pos (by omega)]
    go_wp2
    go_ret
    exact ⟨rfl, hB⟩
  · go_enter Try.func3, Try.ntmps3
    go_wp2_with fail
    refine (szHoursS_any hU (by omega) (by omega)).mono ?_
    rintro e w1 ⟨rfl, hBc⟩
    replace hB := ext_trans hB hBc
    replace hU := hU.below hBc
    clear hBc
    rw [if_neg (by omega)]
    go_wp2_with fail
    refine (toHoursS_any hU (by omega)).mono ?_
    rintro e w2 ⟨rfl, ho2, hBc⟩
    replace hB := ext_trans hB hBc
    replace hU := hU.below hBc
    clear hBc
    go_wp2_with fail
    refine (specHoursValid (hrR.own rfl (by omega) ho2)).mono ?_
    rintro e w3 ⟨rfl, hBc⟩
    replace hB := ext_trans hB hBc
    replace hU := hU.below hBc
    clear hBc
    clear ho2
    go_wp2_with fail
    refine (toHoursS_any hU (by omega)).mono ?_
    rintro e w4 ⟨rfl, ho4, hBc⟩
    replace hB := ext_trans hB hBc
    replace hU := hU.below hBc
    clear hBc
    go_wp2_with fail
    refine (implHoursValid (hrR.own rfl (by omega) ho4)).mono ?_
    rintro e w5 ⟨rfl, hBc⟩
    replace hB := ext_trans hB hBc
    replace hU := hU.below hBc
    replace ho4 := own_below ho4 hBc
    clear hBc
    go_wp2_with fail
    refine (toHoursS_any hU (by omega)).mono ?_
    rintro e w6 ⟨rfl, ho6, hBc⟩
    replace hB := ext_trans hB hBc
    replace hU := hU.below hBc
    replace ho4 := own_below ho4 hBc
    clear hBc
    go_wp2_with fail
    refine (eqHoursS_any (hrR.own rfl (by omega) ho4) (hrR.own rfl (by omega) ho6)).mono ?_
    rintro e w7 ⟨rfl, hBc⟩
    replace hB := ext_trans hB hBc
    replace hU := hU.below hBc
    replace ho4 := own_below ho4 hBc
    clear hBc
    rw [sameB_self]
    go_wp2
    go_ret
    exact ⟨rfl, hB⟩

set_option maxHeartbeats 1000000 in
theorem lawExactInHours {A : Option Addr} {l : _} {c : Nat} {day : Int} {hour : Int} {w : World} (hU : hrR w A l) :
    Calls Try.prog 5 #[.slice A l.length c, .int .i64 day, .int .i64 hour] w fun e w' => e = .returned (.bool true) ∧ Below w.heap.size w w' := by
  have hB := Below.refl w.heap.size w
  have hlen := hU.len
  by_cases h : (1048576 : Int) < l.length
  · go_enter Try.func5, Try.ntmps5
    go_wp2_with fail
    refine (szHoursS_any hU (by omega) (by omega)).mono ?_
    rintro e w1 ⟨rfl, hBc⟩
    replace hB := ext_trans hB hBc
    replace hU := hU.below hBc
    clear hBc
    rw [if_pos (by omega)]
    go_wp2
    go_ret
    exact ⟨rfl, hB⟩
  · go_enter Try.func5, Try.ntmps5
    go_wp2_with fail
    refine (szHoursS_any hU (by omega) (by omega)).mono ?_
    rintro e w1 ⟨rfl, hBc⟩
    replace hB := ext_trans hB hBc
    replace hU := hU.below hBc
    clear hBc
    rw [if_neg (by omega)]
    go_wp2_with fail
    refine (toHoursS_any hU (by omega)).mono ?_
    rintro e w2 ⟨rfl, ho2, hBc⟩
    replace hB := ext_trans hB hBc
    replace hU := hU.below hBc
    clear hBc
    go_wp2_with fail
    refine (specInHours (hrR.own rfl (by omega) ho2)).mono ?_
    rintro e w3 ⟨rfl, hBc⟩
    replace hB := ext_trans hB hBc
    replace hU := hU.below hBc
    clear hBc
    clear ho2
    go_wp2_with fail
    refine (toHoursS_any hU (by omega)).mono ?_
    rintro e w4 ⟨rfl, ho4, hBc⟩
    replace hB := ext_trans hB hBc
    replace hU := hU.below hBc
    clear hBc
    go_wp2_with fail
    refine (implInHours (hrR.own rfl (by omega) ho4)).mono ?_
    rintro e w5 ⟨rfl, hBc⟩
    replace hB := ext_trans hB hBc
    replace hU := hU.below hBc
    replace ho4 := own_below ho4 hBc
    clear hBc
    go_wp2_with fail
    refine (toHoursS_any hU (by omega)).mono ?_
    rintro e w6 ⟨rfl, ho6, hBc⟩
    replace hB := ext_trans hB hBc
    replace hU := hU.below hBc
    replace ho4 := own_below ho4 hBc
    clear hBc
    go_wp2_with fail
    refine (eqHoursS_any (hrR.own rfl (by omega) ho4) (hrR.own rfl (by omega) ho6)).mono ?_
    rintro e w7 ⟨rfl, hBc⟩
    replace hB := ext_trans hB hBc
    replace hU := hU.below hBc
    replace ho4 := own_below ho4 hBc
    clear hBc
    rw [sameB_self]
    go_wp2
    go_ret
    exact ⟨rfl, hB⟩

set_option maxHeartbeats 1000000 in
theorem lawExactHoursOpen {A : Option Addr} {l : _} {c : Nat} {w : World} (hU : hrR w A l) :
    Calls Try.prog 7 #[.slice A l.length c] w fun e w' => e = .returned (.bool true) ∧ Below w.heap.size w w' := by
  have hB := Below.refl w.heap.size w
  have hlen := hU.len
  by_cases h : (1048576 : Int) < l.length
  · go_enter Try.func7, Try.ntmps7
    go_wp2_with fail
    refine (szHoursS_any hU (by omega) (by omega)).mono ?_
    rintro e w1 ⟨rfl, hBc⟩
    replace hB := ext_trans hB hBc
    replace hU := hU.below hBc
    clear hBc
    rw [if_pos (by omega)]
    go_wp2
    go_ret
    exact ⟨rfl, hB⟩
  · go_enter Try.func7, Try.ntmps7
    go_wp2_with fail
    refine (szHoursS_any hU (by omega) (by omega)).mono ?_
    rintro e w1 ⟨rfl, hBc⟩
    replace hB := ext_trans hB hBc
    replace hU := hU.below hBc
    clear hBc
    rw [if_neg (by omega)]
    go_wp2_with fail
    refine (toHoursS_any hU (by omega)).mono ?_
    rintro e w2 ⟨rfl, ho2, hBc⟩
    replace hB := ext_trans hB hBc
    replace hU := hU.below hBc
    clear hBc
    go_wp2_with fail
    refine (specHoursOpen (hrR.own rfl (by omega) ho2)).mono ?_
    rintro e w3 ⟨rfl, hBc⟩
    replace hB := ext_trans hB hBc
    replace hU := hU.below hBc
    clear hBc
    clear ho2
    go_wp2_with fail
    refine (toHoursS_any hU (by omega)).mono ?_
    rintro e w4 ⟨rfl, ho4, hBc⟩
    replace hB := ext_trans hB hBc
    replace hU := hU.below hBc
    clear hBc
    go_wp2_with fail
    refine (implHoursOpen (hrR.own rfl (by omega) ho4)).mono ?_
    rintro e w5 ⟨rfl, hBc⟩
    replace hB := ext_trans hB hBc
    replace hU := hU.below hBc
    replace ho4 := own_below ho4 hBc
    clear hBc
    go_wp2_with fail
    refine (toHoursS_any hU (by omega)).mono ?_
    rintro e w6 ⟨rfl, ho6, hBc⟩
    replace hB := ext_trans hB hBc
    replace hU := hU.below hBc
    replace ho4 := own_below ho4 hBc
    clear hBc
    go_wp2_with fail
    refine (eqHoursS_any (hrR.own rfl (by omega) ho4) (hrR.own rfl (by omega) ho6)).mono ?_
    rintro e w7 ⟨rfl, hBc⟩
    replace hB := ext_trans hB hBc
    replace hU := hU.below hBc
    replace ho4 := own_below ho4 hBc
    clear hBc
    rw [sameB_self]
    go_wp2
    go_ret
    exact ⟨rfl, hB⟩

set_option maxHeartbeats 1000000 in
theorem lawExactNextOpen {A : Option Addr} {l : _} {c : Nat} {day : Int} {hour : Int} {w : World} (hU : hrR w A l) :
    Calls Try.prog 8 #[.slice A l.length c, .int .i64 day, .int .i64 hour] w fun e w' => e = .returned (.bool true) ∧ Below w.heap.size w w' := by
  have hB := Below.refl w.heap.size w
  have hlen := hU.len
  by_cases h : (1048576 : Int) < l.length
  · go_enter Try.func8, Try.ntmps8
    go_wp2_with fail
    refine (szHoursS_any hU (by omega) (by omega)).mono ?_
    rintro e w1 ⟨rfl, hBc⟩
    replace hB := ext_trans hB hBc
    replace hU := hU.below hBc
    clear hBc
    rw [if_pos (by omega)]
    go_wp2
    go_ret
    exact ⟨rfl, hB⟩
  · go_enter Try.func8, Try.ntmps8
    go_wp2_with fail
    refine (szHoursS_any hU (by omega) (by omega)).mono ?_
    rintro e w1 ⟨rfl, hBc⟩
    replace hB := ext_trans hB hBc
    replace hU := hU.below hBc
    clear hBc
    rw [if_neg (by omega)]
    go_wp2_with fail
    refine (toHoursS_any hU (by omega)).mono ?_
    rintro e w2 ⟨rfl, ho2, hBc⟩
    replace hB := ext_trans hB hBc
    replace hU := hU.below hBc
    clear hBc
    go_wp2_with fail
    refine (specNextOpen (hrR.own rfl (by omega) ho2)).mono ?_
    rintro e w3 ⟨rfl, hBc⟩
    replace hB := ext_trans hB hBc
    replace hU := hU.below hBc
    clear hBc
    clear ho2
    go_wp2_with fail
    refine (toHoursS_any hU (by omega)).mono ?_
    rintro e w4 ⟨rfl, ho4, hBc⟩
    replace hB := ext_trans hB hBc
    replace hU := hU.below hBc
    clear hBc
    go_wp2_with fail
    refine (implNextOpen (hrR.own rfl (by omega) ho4)).mono ?_
    rintro e w5 ⟨rfl, hBc⟩
    replace hB := ext_trans hB hBc
    replace hU := hU.below hBc
    replace ho4 := own_below ho4 hBc
    clear hBc
    go_wp2_with fail
    refine (toHoursS_any hU (by omega)).mono ?_
    rintro e w6 ⟨rfl, ho6, hBc⟩
    replace hB := ext_trans hB hBc
    replace hU := hU.below hBc
    replace ho4 := own_below ho4 hBc
    clear hBc
    go_wp2_with fail
    refine (eqHoursS_any (hrR.own rfl (by omega) ho4) (hrR.own rfl (by omega) ho6)).mono ?_
    rintro e w7 ⟨rfl, hBc⟩
    replace hB := ext_trans hB hBc
    replace hU := hU.below hBc
    replace ho4 := own_below ho4 hBc
    clear hBc
    rw [sameB_self]
    go_wp2
    go_ret
    exact ⟨rfl, hB⟩
end Go.Proofs.Yticiggciigmhaaa

/- Roles: validity. -/
import Derived.Test.YtbimcababidjgaaRoT
import Derived.Test.YtbimcababidjgaaIlB
import Derived.Test.YtbimcababidjgaaAlv
import Derived.Test.YtbimcababidjgaaMaS
namespace Go.Proofs.Ytbimcababidjgaa
set_option linter.unusedSimpArgs false
set_option linter.unusedVariables false
open Go.RowKit

/-- Is the text the name of one of the first k roles? -/
def seenF (l : RoL) : Nat → ByteArray → Bool
  | 0, _ => false
  | k + 1, z => if z = ro0 l k then true else seenF l k z
def roGood (l : RoL) (k : Nat) : Bool := (nmOk (ro0 l k) && !seenF l k (ro0 l k)) && (inB (ro1 l k) 0 15 && ascB (ro2 l k) (l.length - 1))
def roOk (l : RoL) : Bool := decide (∀ k, k < l.length → roGood l k = true) && decide (l.length ≤ 8)
theorem roOk_no {l : RoL} {k : Nat} (hk : k < l.length) (h : roGood l k = false) : false = roOk l := by
  have : ¬ ∀ k, k < l.length → roGood l k = true := fun hh => by rw [hh k hk] at h; cases h
  simp [roOk, this]
theorem roOk_yes {l : RoL} (h : ∀ k, k < l.length → roGood l k = true) : roOk l = decide (l.length ≤ 8) := by
  unfold roOk
  rw [decide_eq_true h, Bool.true_and]
theorem roOk_good {l : RoL} (h : roOk l = true) : l.length ≤ 8 ∧ ∀ k, k < l.length → roGood l k = true := by
  simp only [roOk, Bool.and_eq_true, decide_eq_true_eq] at h
  exact ⟨h.2, h.1⟩
theorem WfRoL.sz {l : RoL} (h : WfRoL l) {k : Nat} (hk : k < l.length) : (ro0 l k).size ≤ 9223372036854775807 := (h.at hk).1
set_option maxRecDepth 100000 in
set_option maxHeartbeats 4000000 in
theorem implRolesValid {A : Option Addr} {l : RoL} {c : Nat} {w : World} (hU : roR w A l) (hw : WfRoL l) (hn : l.length ≤ 2097152) :
    Calls Try.prog 54 #[.slice A l.length c] w fun e w' => e = .returned (.bool (roOk l)) ∧ Below w.heap.size w w' := by
  have hmm := @run_makeMap Try.prog
  have hl := hU.len
  have HWF := Lib.hid hw
  clear hw
  have hM0 := MapS.made w
  obtain ⟨bm, hbm⟩ : ∃ b, b = w.heap.size := ⟨_, rfl⟩
  rw [← hbm] at hM0
  have hWb : w.heap.size ≤ bm := by omega
  have HB := Lib.hid hbm
  have HM0 := Lib.hid hM0
  clear hbm hM0
  go_enter Try.func54, Try.ntmps54
  go_wp2_with fail
  rw [← HB.out]
  go_loopw [9] (fun i wr => ∃ k : Nat, k ≤ l.length ∧ i = .int .i64 k ∧ MapS wr bm k (seenF l k) ∧ Hid (∀ j, j < k → roGood l j = true) ∧ Below w.heap.size w wr) (fun i _ => l.length - (intOf i).toNat)
  case atStart => exact ⟨0, Nat.zero_le _, rfl, HM0.out, Lib.hid (fun j h => by omega), below_alloc _ _⟩
  case round =>
    clear HM0 HB
    obtain ⟨k, hk, rfl, hM, HG, hB⟩ := hrel
    by_cases hlt : k < l.length
    · obtain ⟨b, off, rfl, hc⟩ := roR.cells hU (by omega)
      obtain ⟨A', c', hfd, c0, c1, c2⟩ := hc k hlt
      replace c0 := below_cell hB c0
      replace c1 := below_cell hB c1
      replace c2 := below_cell hB c2
      replace hfd := hfd.below hB
      have hll := hfd.len
      have hsz := HWF.out.sz hlt
      have hszm : (ro0 l k).size ≤ maxLen := by unfold maxLen; omega
      have HGD : Hid (roGood l k = ((nmOk (ro0 l k) && !seenF l k (ro0 l k)) && (inB (ro1 l k) 0 15 && ascB (ro2 l k) (l.length - 1)))) := Lib.hid rfl
      have HSF : Hid (∀ z, (if z = ro0 l k then true else seenF l k z) = seenF l (k + 1) z) := Lib.hid (fun _ => rfl)
      clear hc
      have y0 := box_cell wr #[.string (ro0 l k), .int .i64 (ro1 l k), .slice A' (ro2 l k).length c'] 73 0 (.string (ro0 l k)) rfl
      have y1 := box_cell wr #[.string (ro0 l k), .int .i64 (ro1 l k), .slice A' (ro2 l k).length c'] 73 1 (.int .i64 (ro1 l k)) rfl
      have y2 := box_cell wr #[.string (ro0 l k), .int .i64 (ro1 l k), .slice A' (ro2 l k).length c'] 73 2 (.slice A' (ro2 l k).length c') rfl
      have hbl := below_alloc wr (.cells #[.string (ro0 l k), .int .i64 (ro1 l k), .slice A' (ro2 l k).length c'] 73)
      obtain ⟨X, hX⟩ : ∃ X, X = wr.alloc (.cells #[.string (ro0 l k), .int .i64 (ro1 l k), .slice A' (ro2 l k).length c'] 73) := ⟨_, rfl⟩
      obtain ⟨g, hg⟩ : ∃ g, g = wr.heap.size := ⟨_, rfl⟩
      rw [← hX] at y0 y1 y2 hbl
      rw [← hg] at y0 y1 y2
      replace hB := ext_trans hB hbl
      replace hfd := hfd.below hbl
      replace hM := hM.below hbl
      have HX := Lib.hid hX
      have HGG := Lib.hid hg
      clear hX hg hbl
      go_wp2_with fail
      rw [← HX.out, ← HGG.out]
      clear c0 c1 c2
      refine (implNameValid _ hsz _).mono ?_
      rintro e w1 ⟨rfl, hBc⟩
      replace hB := ext_trans hB hBc
      replace y0 := below_cell hBc y0
      replace y1 := below_cell hBc y1
      replace y2 := below_cell hBc y2
      replace hfd := hfd.below hBc
      replace hM := hM.below hBc
      clear hBc
      cases g1 : nmOk (ro0 l k)
      · have HG1 := Lib.hid g1
        go_wp2
        go_ret
        exact ⟨ret_bool (roOk_no hlt (by rw [HGD.out, HG1.out]; rfl)), hB⟩
      · have hlook := hM.look hszm
        cases g2 : seenF l k (ro0 l k)
        · rw [g2] at hlook
          have HG1 := Lib.hid g1
          have HG2 := Lib.hid g2
          clear g1 g2
          go_wp2_with fail
          refine (in_any _ _ _ _).mono ?_
          rintro e w2 ⟨rfl, hBc⟩
          replace hB := ext_trans hB hBc
          replace y0 := below_cell hBc y0
          replace y1 := below_cell hBc y1
          replace y2 := below_cell hBc y2
          replace hfd := hfd.below hBc
          replace hM := hM.below hBc
          clear hBc
          clear hlook
          cases g3 : inB (ro1 l k) 0 15
          · have HG3 := Lib.hid g3
            go_wp2
            go_ret
            exact ⟨ret_bool (roOk_no hlt (by rw [HGD.out, HG3.out]; simp)), hB⟩
          · have HG3 := Lib.hid g3
            clear g3
            go_wp2_with fail
            refine (ascends_any (hi := (l.length : Int) - 1) hfd (by omega) (by omega)).mono ?_
            rintro e w3 ⟨rfl, hBc⟩
            replace hB := ext_trans hB hBc
            replace y0 := below_cell hBc y0
            replace y1 := below_cell hBc y1
            replace y2 := below_cell hBc y2
            replace hfd := hfd.below hBc
            replace hM := hM.below hBc
            clear hBc
            cases g4 : ascB (ro2 l k) (l.length - 1)
            · have HG4 := Lib.hid g4
              go_wp2
              go_ret
              exact ⟨ret_bool (roOk_no hlt (by rw [HGD.out, HG4.out]; simp)), hB⟩
            · have HG4 := Lib.hid g4
              clear g4
              have HGS : Hid (∀ j, j < k + 1 → roGood l j = true) := Lib.hid (all_succ HG.out (by rw [HGD.out, HG1.out, HG2.out, HG3.out, HG4.out]; rfl))
              go_wp2_with (at_mapUpdate; go_must (refine wpList_put_mapS rfl (.tmp 38) (.tmp 40) (.const (.bool true)) rfl hM rfl rfl rfl hszm (by omega) ?_); intro w4 hM4 hg4)
              have hC4 := ext_grown hB hg4 (fun k e => by cases e; exact hWb)
              clear hg4
              replace hM4 := hM4.ext HSF.out
              go_roundw
              case rel => exact ⟨k + 1, by omega, by go_num, hM4, HGS, hC4⟩
              case measure => simp [intOf]; omega
        · rw [g2] at hlook
          have HG2 := Lib.hid g2
          go_wp2
          go_ret
          exact ⟨ret_bool (roOk_no hlt (by rw [HGD.out, HG2.out]; simp)), hB⟩
    · obtain rfl : k = l.length := by omega
      have HO := Lib.hid (roOk_yes HG.out)
      go_wp2
      go_ret
      exact ⟨ret_bool (by rw [HO.out]; simp; omega), hB⟩
set_option maxHeartbeats 1000000 in
theorem specNameValid (s : ByteArray) (hs : s.size ≤ 9223372036854775807) (w : World) :
    Calls Try.prog 55 #[.string s] w fun e w' => e = .returned (.bool (nmOk s)) ∧ Below w.heap.size w w' := by
  go_enter Try.func55, Try.ntmps55
  go_wp2
  go_loopw [3] (fun i wr => ∃ k : Nat, k ≤ s.size ∧ i = .int .i64 k ∧ (∀ j, j < k → nmGood s j = true) ∧ Below w.heap.size w wr) (fun i _ => s.size - (intOf i).toNat)
  case atStart => exact ⟨0, Nat.zero_le _, rfl, fun j h => by omega, Below.refl _ _⟩
  case round =>
    obtain ⟨k, hk, rfl, hgood, hB⟩ := hrel
    have HG := Lib.hid hgood
    clear hgood
    by_cases hlt : k < s.size
    · have hx := byteAt_of hlt
      by_cases h1 : ((s[k]'hlt).toNat : Int) < 97
      · go_wp2
        go_ret
        exact ⟨ret_bool (nmOk_no hlt (by rw [nmGood, inB_false]; omega)), hB⟩
      · by_cases h2 : 122 < ((s[k]'hlt).toNat : Int)
        · go_wp2
          go_ret
          exact ⟨ret_bool (nmOk_no hlt (by rw [nmGood, inB_false]; omega)), hB⟩
        · go_wp2
          go_roundw
          case rel => exact ⟨k + 1, by omega, by go_num, all_succ HG.out (by rw [nmGood, inB_true]; omega), hB⟩
          case measure => simp [intOf]; omega
    · obtain rfl : k = s.size := by omega
      go_wp2_with fail
      refine (l1In_any _ _ _ _).mono ?_
      rintro e w2 ⟨rfl, hB2⟩
      go_wp2
      go_ret
      exact ⟨ret_bool (nmOk_yes HG.out).symm, ext_trans hB hB2⟩
end Go.Proofs.Ytbimcababidjgaa

/- Rules have acts: the law, walked. -/
import Derived.Test.YtpmelhkhmichcaaDoorRuA
import Derived.Test.YtpmelhkhmichcaaDoorRuD
import Derived.Test.YtpmelhkhmichcaaDoorCode
namespace Go.Proofs.YtpmelhkhmichcaaDoor
set_option linter.unusedSimpArgs false
set_option linter.unusedVariables false
open Go.RowKit

theorem implRulesValid_n {A : Option Addr} {l : RuL} {c n : Nat} {w : World} (hn : l.length = n) (hU : ruR w A l) (hf : FewP l) :
    Calls Tryd.prog 21 #[.slice A n c] w fun e w' => e = .returned (.bool (ruOk l)) ∧ Below w.heap.size w w' := by
  subst hn; exact implRulesValid hU hf
theorem ru_drop (l : RuL) (m k : Nat) : ru0 (l.drop m) k = ru0 l (m + k) ∧ ru1 (l.drop m) k = ru1 l (m + k) ∧ ru2 (l.drop m) k = ru2 l (m + k) := by
  simp [ru0, ru1, ru2]
theorem FewP.drop {l : RuL} (h : FewP l) (m : Nat) : FewP (l.drop m) := fun k hk => by
  rw [(ru_drop l m k).1]
  simp only [List.length_drop] at hk
  exact h _ (by omega)
theorem ruOk_drop {l : RuL} (m : Nat) (h : ruOk l = true) : ruOk (l.drop m) = true := by
  simp only [ruOk, Bool.and_eq_true, decide_eq_true_eq] at h ⊢
  refine ⟨by rw [List.length_drop]; omega, fun k hk => ?_⟩
  simp only [List.length_drop] at hk
  rw [ruGood, (ru_drop l m k).1, (ru_drop l m k).2.1]
  exact h.2 _ (by omega)
theorem ruOk_bad {s : ByteArray} {b : Bool} (l : RuL) : ruOk ((s, 0, b) :: l) = false := ruOk_no (k := 0) (by simp) (by
  have : ru1 ((s, 0, b) :: l) 0 = 0 := rfl
  rw [ruGood, this, show inB 0 1 15 = false by decide, Bool.and_false])
theorem FewP.cons {s : ByteArray} {a : Int} {b : Bool} {l : RuL} (hs : s.size ≤ 1048576) (h : FewP l) : FewP ((s, a, b) :: l) := fun k hk => by
  cases k with
  | zero => exact hs
  | succ k => exact h k (by simpa using hk)
set_option maxRecDepth 100000 in
set_option maxHeartbeats 4000000 in
theorem lawRulesValid {A : Option Addr} {l : List Int} {c : Nat} {w : World} (hC : CodeR w w.heap.size A l) (hc : l.length ≤ c) :
    Calls Tryd.prog 4 #[.slice A l.length c] w fun e w' => e = .returned (.bool true) ∧ Below w.heap.size w w' := by
  by_cases h : (1048576 : Int) < l.length
  · go_enter Tryd.func4, Tryd.ntmps4
    go_wp2
    go_ret
    exact ⟨rfl, Below.refl _ _⟩
  · go_enter Tryd.func4, Tryd.ntmps4
    go_wp2_with fail
    refine (DrawRulesValid_d hC hc).mono ?_
    rintro e w1 ⟨us, Au, cu, rfl, hn, hf, hU, hcu, hcu2, hsp, hB⟩
    have HF := Lib.hid hf
    have hsp := Lib.hid hsp
    clear hf
    go_wp2_with fail
    refine (implRulesValid hU HF.out).mono ?_
    rintro e w2 ⟨rfl, hB2⟩
    replace hB := ext_trans hB hB2
    replace hU := hU.below hB2
    clear hB2
    go_wp2_with fail
    refine (specRulesValid hU HF.out).mono ?_
    rintro e w3 ⟨rfl, hB3⟩
    replace hB := ext_trans hB hB3
    replace hU := hU.below hB3
    clear hB3
    obtain ⟨ok, hok⟩ : ∃ ok, ok = ruOk us := ⟨_, rfl⟩
    rw [← hok]
    have HOK := Lib.hid hok
    clear hok
    go_wp2_with (at_builtin; go_must (refine wpList_append_rd (enc := ruEnc) rfl (.tmp 17) (.tmp 18) w3.heap.size 31 25 _ 3 32 rfl Tryd.underlying31 Tryd.infoRule rfl (by decide) (fun _ => rfl) ruEnc_one rfl (own_fresh (Nat.le_refl _) rfl (by decide)) rfl (hU.below (by (repeat (first | exact Below.refl _ _ | refine ext_alloc ?_ _ | refine Below.setCell ?_ (by simp) _)))) (by omega) (by omega) (show Below _ _ _ by (repeat (first | exact Below.refl _ _ | refine ext_alloc ?_ _ | refine Below.setCell ?_ (by simp) _))).size ?_); intro v1 w4 ho1 hg1 hs1)
    have hB34 : Below w3.heap.size w3 w4 := Below.grown (show Below w3.heap.size w3 _ by (repeat (first | exact Below.refl _ _ | refine ext_alloc ?_ _ | refine Below.setCell ?_ (by simp) _))) hg1 (by simp) (fun k e => by cases e; exact Nat.le_refl _)
    have ho2 : w4.ownsRow w3.heap.size 25 3 v1 ((⟨#[97]⟩, 0, false) :: us).length ((((⟨#[97]⟩ : ByteArray), (0 : Int), false) :: us).flatMap ruEnc) := by simpa [ruEnc, Nat.add_comm] using ho1
    obtain ⟨A1, c1, rfl⟩ := own_slice_ ho2
    have hU1 : ruR w4 A1 ((⟨#[97]⟩, 0, false) :: us) := ruR.own rfl (by simp; omega) ho2
    replace hB := ext_trans hB hB34
    replace hU := hU.below hB34
    clear ho1 hg1 hs1 hB34 ho2
    refine (implRulesValid hU1 (HF.out.cons (by decide))).mono ?_
    rintro e w5 ⟨rfl, hB5⟩
    rw [ruOk_bad]
    replace hB := ext_trans hB hB5
    replace hU := hU.below hB5
    clear hB5 hU1
    cases ok
    · go_wp2_with fail
      refine (alive_any _).mono ?_
      rintro e w6 ⟨rfl, hB6⟩
      go_wp2
      go_ret
      exact ⟨rfl, ext_trans hB hB6⟩
    · have hdrop := ruOk_drop (us.length / 2) HOK.out.symm
      have hfd := HF.out.drop (us.length / 2)
      have HFD := Lib.hid hfd
      clear hfd
      have hl2 : (us.drop (us.length / 2)).length = us.length - us.length / 2 := by simp
      rcases Nat.eq_zero_or_pos us.length with h0 | h0
      · obtain rfl := List.eq_nil_of_length_eq_zero h0
        rw [List.drop_nil] at hdrop
        rcases hsp.out with ⟨rfl, rfl⟩ | ⟨b, off, rfl⟩
        all_goals
          go_wp2_with fail
        all_goals
          refine (implRulesValid_n (l := []) rfl (RdL.nil _) (fun k hk => by simp at hk)).mono ?_
          rintro e w6 ⟨rfl, hB6⟩
          rw [hdrop]
          go_wp2_with fail
          refine (alive_any _).mono ?_
          rintro e w7 ⟨rfl, hB7⟩
          go_wp2
          go_ret
          exact ⟨rfl, ext_trans (ext_trans hB hB6) hB7⟩
      · rcases hsp.out with ⟨rfl, rfl⟩ | ⟨b, off, rfl⟩
        · omega
        have hlt : us.length / 2 < cu := by omega
        have hd := RdL.dropAt hU (us.length / 2)
        go_wp2_with fail
        refine (implRulesValid_n hl2 hd HFD.out).mono ?_
        rintro e w6 ⟨rfl, hB6⟩
        rw [hdrop]
        go_wp2_with fail
        refine (alive_any _).mono ?_
        rintro e w7 ⟨rfl, hB7⟩
        go_wp2
        go_ret
        exact ⟨rfl, ext_trans (ext_trans hB hB6) hB7⟩
end Go.Proofs.YtpmelhkhmichcaaDoor

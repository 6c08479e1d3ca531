/- DrawUsagesValid; FnUsagesValid. -/
import Derived.Test.YtjiooipoeahdmaaUsK
import Derived.Test.YtjiooipoeahdmaaCode
import Derived.Test.YtjiooipoeahdmaaAlv
import Derived.Test.YtjiooipoeahdmaaUsD
import Derived.Test.YtjiooipoeahdmaaUsB
namespace Go.Proofs.Ytjiooipoeahdmaa
open Go.RowKit

set_option maxHeartbeats 1000000 in
theorem DrawUsagesValid_d {A : Option Addr} {l : List Int} {c : Nat} {w : World} (hC : CodeR w w.heap.size A l) (hc : l.length ≤ c) :
    Calls Try.prog 14 #[.slice A l.length c] w fun e w' => ∃ (us : List (Int × Int)) (v : Value), e = .returned v ∧ us.length ≤ 7 ∧ OwnA w.heap.size 32 2 usEnc w' v us ∧ Below w.heap.size w w' := by
  go_enter Try.func14, Try.ntmps14
  go_wp2_with fail
  refine (l20Open_any (Nat.le_refl _) hC hc hC.1).mono ?_
  rintro e w1 ⟨rfl, hR, hB1⟩
  go_wp2_with fail
  refine (l20Usages_d (N := 0) ⟨0, by omega, by omega, hR⟩ (by omega) (by omega) (by omega)).mono ?_
  rintro e w2 ⟨v, rfl, ⟨us, h1, _, h2⟩, _, hG⟩
  go_wp2
  go_ret
  exact ⟨us, v, rfl, h1, h2.lower hB1.size, below_of_new hB1 hG (fun k e => by cases e; omega)⟩

theorem usOk_zero (us : List (Int × Int)) : usOk ((0, 0) :: us) = false :=
  (usOk_no (us := (0, 0) :: us) (k := 0) (by simp) (by simp [usGood, uMuch, inB])).symm
theorem uAt_drop (us : List (Int × Int)) (m k : Nat) : uAt (us.drop m) k = uAt us (m + k) ∧ uMuch (us.drop m) k = uMuch us (m + k) := by
  simp [uAt, uMuch, List.getD_eq_getElem?_getD]
theorem usOk_drop (us : List (Int × Int)) (m : Nat) (h : usOk us = true) : usOk (us.drop m) = true := by
  simp only [usOk, decide_eq_true_eq] at h ⊢
  refine ⟨by simp; omega, fun k hk => ?_⟩
  simp only [List.length_drop] at hk
  have := h.2 (m + k) (by omega)
  unfold usGood at this ⊢
  simp only [uAt_drop]
  refine ⟨this.1, this.2.1, fun hk0 => ?_⟩
  have h3 := this.2.2 (by omega)
  rwa [show m + (k - 1) = m + k - 1 by omega]

theorem implUsagesValid_n {A : Option Addr} {us : List (Int × Int)} {c n : Nat} {w : World} (hn : us.length = n) (hU : Us w A us) :
    Calls Try.prog 12 #[.slice A n c] w fun e w' => e = .returned (.bool (usOk us)) ∧ Below w.heap.size w w' := by
  subst hn; exact implUsagesValid hU

set_option maxHeartbeats 4000000 in
theorem lawUsagesValid {A : Option Addr} {l : List Int} {c : Nat} {w : World} (hC : CodeR w w.heap.size A l) (hc : l.length ≤ c) :
    Calls Try.prog 4 #[.slice A l.length c] w fun e w' => e = .returned (.bool true) ∧ Below w.heap.size w w' := by
  by_cases h : (1048576 : Int) < l.length
  · go_enter Try.func4, Try.ntmps4
    go_wp2
    go_ret
    exact ⟨rfl, Below.refl _ _⟩
  · go_enter Try.func4, Try.ntmps4
    go_wp2_with fail
    refine (DrawUsagesValid_d hC hc).mono ?_
    rintro e w1 ⟨us, _, rfl, hn, ⟨Au, cu, rfl, ho⟩, hB⟩
    have hU : Us w1 Au us := us_own rfl (by omega) ho
    have hsp := Lib.hid (own_split ho)
    go_wp2_with fail
    refine (implUsagesValid hU).mono ?_
    rintro e w2 ⟨rfl, hB2⟩
    replace hB := ext_trans hB hB2
    replace hU := hU.below hB2
    clear ho hB2
    go_wp2_with fail
    refine (specUsagesValid hU).mono ?_
    rintro e w3 ⟨rfl, hB3⟩
    replace hB := ext_trans hB hB3
    replace hU := hU.below hB3
    clear hB3
    obtain ⟨ok, hok⟩ : ∃ ok, ok = usOk us := ⟨_, rfl⟩
    rw [← hok]
    have HOK := Lib.hid hok
    clear hok
    go_wp2_with (at_builtin; go_must (refine wpList_append_rd (enc := usEnc) rfl (.tmp 17) (.tmp 18) w3.heap.size 25 32 _ 2 16 rfl Try.underlying25 Try.infoUsage rfl (by decide) (fun _ => rfl) usEnc_one rfl (own_fresh (Nat.le_refl _) rfl (by decide)) rfl (hU.below (by (repeat (first | exact Below.refl _ _ | refine ext_alloc ?_ _ | refine Below.setCell ?_ (by simp) _)))) (by omega) (by omega) (show Below _ _ _ by (repeat (first | exact Below.refl _ _ | refine ext_alloc ?_ _ | refine Below.setCell ?_ (by simp) _))).size ?_); intro v1 w4 ho1 hg1 hs1)
    have hB34 : Below w3.heap.size w3 w4 := Below.grown (show Below w3.heap.size w3 _ by (repeat (first | exact Below.refl _ _ | refine ext_alloc ?_ _ | refine Below.setCell ?_ (by simp) _))) hg1 (by simp) (fun k e => by cases e; exact Nat.le_refl _)
    have ho2 : w4.ownsRow w3.heap.size 32 2 v1 ((0, 0) :: us).length (((0, 0) :: us).flatMap usEnc) := by simpa [usEnc, Nat.add_comm] using ho1
    obtain ⟨A1, c1, rfl⟩ := own_slice_ ho2
    have hU1 : Us w4 A1 ((0, 0) :: us) := us_own rfl (by simp; omega) ho2
    replace hB := ext_trans hB hB34
    replace hU := hU.below hB34
    clear ho1 hg1 hs1 hB34 ho2
    refine (implUsagesValid hU1).mono ?_
    rintro e w5 ⟨rfl, hB5⟩
    rw [usOk_zero]
    replace hB := ext_trans hB hB5
    replace hU := hU.below hB5
    clear hB5 hU1
    cases ok
    · go_wp2_with fail
      refine (alive_any _).mono ?_
      rintro e w6 ⟨rfl, hB6⟩
      go_wp2
      go_ret
      exact ⟨rfl, ext_trans hB hB6⟩
    · have hdrop := usOk_drop us (us.length / 2) HOK.out.symm
      have hl2 : (us.drop (us.length / 2)).length = us.length - us.length / 2 := by simp
      rcases Nat.eq_zero_or_pos us.length with h0 | h0
      · obtain rfl := List.eq_nil_of_length_eq_zero h0
        rw [List.drop_nil] at hdrop
        rcases hsp.out with ⟨rfl, _, rfl⟩ | ⟨g, rfl, hcap, hcap2⟩
        all_goals
          go_wp2_with fail
        all_goals
          refine (implUsagesValid_n (us := []) rfl (RdL.nil _)).mono ?_
          rintro e w6 ⟨rfl, hB6⟩
          rw [hdrop]
          go_wp2_with fail
          refine (alive_any _).mono ?_
          rintro e w7 ⟨rfl, hB7⟩
          go_wp2
          go_ret
          exact ⟨rfl, ext_trans (ext_trans hB hB6) hB7⟩
      · rcases hsp.out with ⟨_, h1, _⟩ | ⟨g, rfl, hcap, hcap2⟩
        · omega
        have hlt : us.length / 2 < cu := by omega
        have hd := RdL.dropAt hU (us.length / 2)
        rw [Nat.zero_add] at hd
        go_wp2_with fail
        refine (implUsagesValid_n hl2 hd).mono ?_
        rintro e w6 ⟨rfl, hB6⟩
        rw [hdrop]
        go_wp2_with fail
        refine (alive_any _).mono ?_
        rintro e w7 ⟨rfl, hB7⟩
        go_wp2
        go_ret
        exact ⟨rfl, ext_trans (ext_trans hB hB6) hB7⟩
end Go.Proofs.Ytjiooipoeahdmaa

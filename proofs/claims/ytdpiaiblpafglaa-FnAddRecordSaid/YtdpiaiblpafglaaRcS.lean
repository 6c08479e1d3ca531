/- FnRecordsRight, walked. -/
import Derived.Test.YtdpiaiblpafglaaRcR
import Derived.Test.YtdpiaiblpafglaaAlv
namespace Go.Proofs.Ytdpiaiblpafglaa
set_option linter.unusedSimpArgs false
set_option linter.unusedVariables false
open Go.RowKit

theorem firstOf_at {p : Nat → Bool} {m : Nat} (hm : p m = true) (hb : ∀ j, j < m → p j = false) : ∀ (f i : Nat), i ≤ m → m < i + f → firstOf p f i = m
  | 0, i, h1, h2 => by omega
  | f + 1, i, h1, h2 => by
    rw [firstOf]
    by_cases e : i = m
    · subst e; rw [if_pos hm]
    · rw [hb i (by omega)]
      simp only [Bool.false_eq_true, if_false]
      exact firstOf_at hm hb f (i + 1) (by omega) (by omega)
theorem rcAt_take {l : RcL} {m k : Nat} (hk : k < m) : rcAt (l.take m) k = rcAt l k := by
  simp only [rcAt, List.getD_eq_getElem?_getD, List.getElem?_take_of_lt hk]
theorem sealAt_take {l : RcL} {m : Nat} : ∀ {k : Nat}, k ≤ m → sealAt (l.take m) k = sealAt l k
  | 0, _ => rfl
  | k + 1, h => by rw [sealAt, sealAt, sealAt_take (by omega), rcAt_take (by omega)]
theorem rcBad_take {l : RcL} {m k : Nat} (hk : k < m) : rcBad (l.take m) k = rcBad l k := by
  unfold rcBad rcGood
  rw [sealAt_take (by omega), rc6, rc6, rcAt_take hk]
  have h3 : decide (0 < k → rc0 (l.take m) (k - 1) ≤ rc0 (l.take m) k) = decide (0 < k → rc0 l (k - 1) ≤ rc0 l k) := by
    rw [rc0, rc0, rc0, rc0, rcAt_take hk, rcAt_take (by omega)]
  rw [h3]
theorem rcRight_take {l : RcL} (h : rcRight l = -1) (m : Nat) : rcRight (l.take m) = -1 := by
  have hf := rcRight_few h
  have hlen : (l.take m).length ≤ l.length := by simp; omega
  unfold rcRight at h ⊢
  rw [if_neg (by omega)] at h ⊢
  rcases firstOf_cases (p := rcBad l) l.length 0 with ⟨_, h2⟩ | h2
  · refine firstOf_none _ _ (fun j _ hj => ?_)
    simp at hj
    rw [rcBad_take (by omega)]
    exact h2 j (by omega) (by omega)
  · omega
theorem rcRight_first {l : RcL} {n : Int} (h : rcRight l = n) (hn : 0 ≤ n) : ∃ m : Nat, n = m ∧ m < l.length ∧ l.length ≤ 20 ∧ rcRight (l.take m) = -1 ∧ rcRight (l.take (m + 1)) = m := by
  unfold rcRight at h
  split at h
  · omega
  · rename_i hl
    obtain ⟨m, h1, _, h3, h4, h5⟩ := firstOf_some _ _ _ h hn
    refine ⟨m, h1, by omega, by omega, ?_, ?_⟩
    · have : (l.take m).length ≤ m := by simp; omega
      unfold rcRight
      rw [if_neg (by omega)]
      refine firstOf_none _ _ (fun j _ hj => ?_)
      rw [rcBad_take (by omega)]
      exact h5 j (by omega) (by omega)
    · have : (l.take (m + 1)).length = m + 1 := by simp; omega
      unfold rcRight
      rw [if_neg (by omega)]
      refine firstOf_at ?_ (fun j hj => ?_) _ _ (Nat.zero_le _) (by omega)
      · rw [rcBad_take (by omega)]; exact h4
      · rw [rcBad_take (by omega)]; exact h5 j (by omega) hj
theorem implRecordsRight_v {A : Option Addr} {l : RcL} {c n : Nat} {v : Int} {w : World} (hn : l.length = n) (hv : rcRight l = v) (hU : rcR w A l) :
    Calls Try.prog 16 #[.slice A n c] w fun e w' => e = .returned (.int .i64 v) ∧ Below w.heap.size w w' := by
  subst hn; subst hv; exact implRecordsRight hU
theorem specRecordsRight_v {A : Option Addr} {l : RcL} {c n : Nat} {v : Int} {w : World} (hn : l.length = n) (hv : rcRight l = v) (hU : rcR w A l) :
    Calls Try.prog 17 #[.slice A n c] w fun e w' => e = .returned (.int .i64 v) ∧ Below w.heap.size w w' := by
  subst hn; subst hv; exact specRecordsRight hU
set_option maxRecDepth 100000 in
set_option maxHeartbeats 8000000 in
theorem lawRecordsRight {A : Option Addr} {l : List Int} {c : Nat} {w : World} (hC : CodeR w w.heap.size A l) (hc : l.length ≤ c) :
    Calls Try.prog 4 #[.slice A l.length c] w fun e w' => e = .returned (.bool true) ∧ Below w.heap.size w w' := by
  by_cases h : (1048576 : Int) < l.length
  · go_enter Try.func4, Try.ntmps4
    go_wp2
    go_ret
    exact ⟨rfl, Below.refl _ _⟩
  · go_enter Try.func4, Try.ntmps4
    go_wp2_with fail
    refine (DrawRecordsRight_d hC hc).mono ?_
    rintro e w1 ⟨us, Au, cu, rfl, hn, hU, hlc, hcu, hform, hB⟩
    obtain ⟨n, hn1⟩ : ∃ n, rcRight us = n := ⟨_, rfl⟩
    have hge := rcRight_ge us
    rw [hn1] at hge
    rcases hform with ⟨rfl, rfl, rfl⟩ | ⟨b, off, rfl⟩
    · have hn2 : rcRight [] = -1 := by decide
      obtain rfl : n = -1 := by rw [← hn1, hn2]
      have HN := Lib.hid hn1
      clear hn1 hn2 hge
      go_wp2_with fail
      refine (implRecordsRight_v rfl HN.out hU).mono ?_
      rintro e w2 ⟨rfl, hBc⟩
      replace hB := ext_trans hB hBc
      replace hU := hU.below hBc
      clear hBc
      go_wp2_with fail
      refine (specRecordsRight_v rfl HN.out hU).mono ?_
      rintro e w3 ⟨rfl, hBc⟩
      replace hB := ext_trans hB hBc
      replace hU := hU.below hBc
      clear hBc
      go_wp2_with fail
      refine (implRecordsRight_v rfl HN.out hU).mono ?_
      rintro e w4 ⟨rfl, hBc⟩
      replace hB := ext_trans hB hBc
      replace hU := hU.below hBc
      clear hBc
      go_wp2
      go_ret
      exact ⟨rfl, hB⟩
    · by_cases h2 : n = -2
      · subst h2
        have h20 : (20 : Int) < us.length := by
          unfold rcRight at hn1
          split at hn1
          · omega
          · rcases firstOf_cases (p := rcBad us) us.length 0 with ⟨h, _⟩ | h <;> omega
        have HN := Lib.hid hn1
        clear hn1 hge
        go_wp2_with fail
        refine (implRecordsRight_v rfl HN.out hU).mono ?_
        rintro e w2 ⟨rfl, hBc⟩
        replace hB := ext_trans hB hBc
        replace hU := hU.below hBc
        clear hBc
        go_wp2_with fail
        refine (specRecordsRight_v rfl HN.out hU).mono ?_
        rintro e w3 ⟨rfl, hBc⟩
        replace hB := ext_trans hB hBc
        replace hU := hU.below hBc
        clear hBc
        go_wp2_with fail
        refine (alive_any _).mono ?_
        rintro e w4 ⟨rfl, hBc⟩
        replace hB := ext_trans hB hBc
        replace hU := hU.below hBc
        clear hBc
        go_wp2
        go_ret
        exact ⟨rfl, hB⟩
      · by_cases h1 : n = -1
        · subst h1
          have HN := Lib.hid hn1
          have HT := Lib.hid (rcRight_take hn1 (us.length / 2))
          have HL : Hid ((us.take (us.length / 2)).length = us.length / 2) := Lib.hid (by simp; omega)
          clear hn1 hge h2
          go_wp2_with fail
          refine (implRecordsRight_v rfl HN.out hU).mono ?_
          rintro e w2 ⟨rfl, hBc⟩
          replace hB := ext_trans hB hBc
          replace hU := hU.below hBc
          clear hBc
          go_wp2_with fail
          refine (specRecordsRight_v rfl HN.out hU).mono ?_
          rintro e w3 ⟨rfl, hBc⟩
          replace hB := ext_trans hB hBc
          replace hU := hU.below hBc
          clear hBc
          have hle : (us.length : Int) / 2 ≤ cu := by omega
          go_wp2_with fail
          refine (implRecordsRight_v (l := us.take (us.length / 2)) (by rw [HL.out]) HT.out (hU.take _)).mono ?_
          rintro e w4 ⟨rfl, hBc⟩
          replace hB := ext_trans hB hBc
          replace hU := hU.below hBc
          clear hBc
          go_wp2
          go_ret
          exact ⟨rfl, hB⟩
        · obtain ⟨m, rfl, hm, h20, hR1, hR2⟩ := rcRight_first hn1 (by omega)
          have HN := Lib.hid hn1
          have H1 := Lib.hid hR1
          have H2 := Lib.hid hR2
          have HL1 : Hid ((us.take m).length = m) := Lib.hid (by simp; omega)
          have HL2 : Hid ((us.take (m + 1)).length = m + 1) := Lib.hid (by simp; omega)
          have hmc : (m : Int) ≤ cu := by omega
          have hmc2 : (m : Int) + 1 ≤ cu := by omega
          have hm2 : (m : Int) < us.length := by omega
          clear hn1 hge h2 h1 hR1 hR2
          go_wp2_with fail
          refine (implRecordsRight_v rfl HN.out hU).mono ?_
          rintro e w2 ⟨rfl, hBc⟩
          replace hB := ext_trans hB hBc
          replace hU := hU.below hBc
          clear hBc
          go_wp2_with fail
          refine (specRecordsRight_v rfl HN.out hU).mono ?_
          rintro e w3 ⟨rfl, hBc⟩
          replace hB := ext_trans hB hBc
          replace hU := hU.below hBc
          clear hBc
          go_wp2_with fail
          refine (implRecordsRight_v (l := us.take m) (by rw [HL1.out]) H1.out (hU.take _)).mono ?_
          rintro e w4 ⟨rfl, hBc⟩
          replace hB := ext_trans hB hBc
          replace hU := hU.below hBc
          clear hBc
          go_wp2_with fail
          refine (implRecordsRight_v (l := us.take (m + 1)) (by rw [HL2.out]) H2.out (hU.take _)).mono ?_
          rintro e w5 ⟨rfl, hBc⟩
          replace hB := ext_trans hB hBc
          replace hU := hU.below hBc
          clear hBc
          go_wp2
          go_ret
          exact ⟨rfl, hB⟩
end Go.Proofs.Ytdpiaiblpafglaa

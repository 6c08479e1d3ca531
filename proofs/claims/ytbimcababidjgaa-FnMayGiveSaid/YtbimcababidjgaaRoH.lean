/- Roles: all that a role has, as a list; whether a role may be given: the program. -/
import Derived.Test.YtbimcababidjgaaRoF
import Derived.Test.YtbimcababidjgaaApD
namespace Go.Proofs.Ytbimcababidjgaa
set_option linter.unusedSimpArgs false
set_option linter.unusedVariables false
open Go.RowKit

def mbOf (R k : Nat) : IL := ((List.range k).filter R.testBit).map (fun (i : Nat) => (i : Int))
theorem mbOf_succ (R k : Nat) : mbOf R (k + 1) = if R.testBit k = true then mbOf R k ++ [(k : Int)] else mbOf R k := by
  unfold mbOf
  rw [List.range_succ, List.filter_append]
  cases h : R.testBit k <;> simp [List.filter_cons, h]
theorem mbOf_len (R k : Nat) : (mbOf R k).length ≤ k := by
  unfold mbOf
  rw [List.length_map]
  exact Nat.le_trans (List.length_filter_le _ _) (by simp)
theorem mbOf_stop {R k : Nat} (h : ∀ i, k ≤ i → R.testBit i = false) : ∀ d, mbOf R (k + d) = mbOf R k
  | 0 => rfl
  | d + 1 => by rw [show k + (d + 1) = (k + d) + 1 by omega, mbOf_succ, h (k + d) (by omega)]; simpa using mbOf_stop h d
theorem mbOf_to {R k m : Nat} (h : ∀ i, k ≤ i → R.testBit i = false) (hk : k ≤ m) : mbOf R m = mbOf R k := by
  have := mbOf_stop h (m - k)
  rwa [show k + (m - k) = m by omega] at this
theorem mem_mbOf {R k : Nat} {n : Int} : n ∈ mbOf R k ↔ ∃ i : Nat, n = i ∧ i < k ∧ R.testBit i = true := by
  unfold mbOf
  simp only [List.mem_map, List.mem_filter, List.mem_range]
  constructor
  · rintro ⟨i, ⟨h1, h2⟩, rfl⟩; exact ⟨i, rfl, h1, h2⟩
  · rintro ⟨i, rfl, h1, h2⟩; exact ⟨i, ⟨h1, h2⟩, rfl⟩
theorem div_zero_bits {R k : Nat} (h : R / 2 ^ k = 0) : ∀ i, k ≤ i → R.testBit i = false := fun i hi => by
  have hp := Nat.two_pow_pos k
  have : R < 2 ^ k := by
    rcases Nat.lt_or_ge R (2 ^ k) with h1 | h1
    · exact h1
    · have := (Nat.div_pos_iff).2 ⟨hp, h1⟩; omega
  exact tb_high this hi
theorem reach_from {l : RoL} {n : Nat} (hok : roOk l = true) : ∀ (d s : Nat), 256 ≤ s + d → s < 256 → s.testBit n = true → (∀ R', R'.testBit n = true → Closed l R' → SubB s R') → ∃ R, Reach l n R
  | 0, s, h1, h2, _, _ => by omega
  | d + 1, s, h1, h2, h3, h4 => by
    by_cases hc : Closed l s
    · exact ⟨s, h3, hc, h4⟩
    · obtain ⟨h8, hg⟩ := roOk_good hok
      simp only [Closed, Classical.not_forall] at hc
      obtain ⟨i, hi, hb, j, hj, hn⟩ := hc
      have hr := roGood_has (hg i hi) hi j hj
      obtain ⟨m, hm⟩ : ∃ m : Nat, (il0 (ro2 l i) j).toNat = m := ⟨_, rfl⟩
      have hm8 : m < 8 := by omega
      rw [hm] at hn
      have hsub : SubB s (s ||| 2 ^ m) := SubB.or_l _ _
      have hle := hsub.le
      have hne : s ≠ s ||| 2 ^ m := fun e => hn (by rw [e, Nat.testBit_or]; simp [Nat.testBit_two_pow])
      have hlt := or_lt h2 (two_lt hm8)
      refine reach_from hok d (s ||| 2 ^ m) (by omega) hlt (hsub n h3) (fun R' g1 g2 => SubB.or (h4 R' g1 g2) (SubB.two ?_))
      rw [← hm]
      exact g2 i hi (h4 R' g1 g2 i hb) j hj
theorem reach_ok {l : RoL} {n : Nat} (hok : roOk l = true) (hn : n < l.length) : Reach l n (roReach l n) := by
  have h8 := (roOk_good hok).1
  obtain ⟨R, hR⟩ := reach_from (n := n) hok 256 (2 ^ n) (Nat.le_add_left _ _) (two_lt (by omega)) (by rw [Nat.testBit_two_pow]; simp) (fun R' h _ => SubB.two h)
  rw [hR.eq]; exact hR
theorem reach_lt {l : RoL} {n : Nat} (hok : roOk l = true) (hn : n < l.length) : roReach l n < 256 := (reach_ok hok hn).lt8 hok hn
noncomputable def rwOf (l : RoL) (n : Int) : IL := if (roOk l && inB n 0 (l.length - 1)) = true then mbOf (roReach l n.toNat) 8 else []
set_option maxHeartbeats 2000000 in
theorem members_any {R : Nat} (hR : R < 256) (w : World) :
    Calls Try.prog 46 #[.int .i64 (R : Int)] w (SlPost 3 1 ilEnc w (mbOf R 8)) := by
  go_enter Try.func46, Try.ntmps46
  go_wp2
  go_loopw [3, 4] (fun ov kv wr => ∃ k : Nat, k ≤ 8 ∧ kv = .int .i64 k ∧ OwnA w.heap.size 3 1 ilEnc wr ov (mbOf R k) ∧ Below w.heap.size w wr) (fun _ kv _ => 8 - (intOf kv).toNat)
  case atStart => exact ⟨0, Nat.zero_le _, rfl, OwnA.nil, Below.refl _ _⟩
  case round =>
    obtain ⟨k, hk, rfl, hO, hB⟩ := hrel
    have hlk := mbOf_len R k
    have hneg : ¬ (k : Int) < 0 := by omega
    obtain ⟨q, hq⟩ : ∃ q : Nat, R / 2 ^ k = q := ⟨_, rfl⟩
    have hqe : ((R : Int) / 2 ^ k) = (q : Int) := by rw [← hq]; simp
    by_cases h0 : q = 0
    · have HZ := Lib.hid (mbOf_to (div_zero_bits (by rw [hq, h0])) hk)
      subst h0
      clear hq
      go_wp2
      go_ret
      exact SlPost.of HZ.out hO hB
    · have hk8 : k < 8 := by
        rcases Nat.lt_or_ge k 8 with h1 | h1
        · exact h1
        · exfalso
          have : R < 2 ^ k := Nat.lt_of_lt_of_le hR (by have := Nat.pow_le_pow_right (n := 2) (by omega) h1; simpa using this)
          rw [Nat.div_eq_of_lt this] at hq
          omega
      have hq0 : (0 : Int) < q := by omega
      have hbt := bit_test hR hk8
      rw [hqe] at hbt
      have HS := Lib.hid (mbOf_succ R k)
      cases g : R.testBit k
      · rw [g] at hbt
        have HGB := Lib.hid g
        simp only [Bool.toNat_false] at hbt
        clear g hq
        go_wp2
        go_roundw
        case rel => exact ⟨k + 1, by omega, by go_num, hO.eq (by rw [HS.out, if_neg (by rw [HGB.out]; simp)]), hB⟩
        case measure => simp [intOf]; omega
      · rw [g] at hbt
        have HGB := Lib.hid g
        simp only [Bool.toNat_true] at hbt
        clear g hq
        go_wp2_with (at_builtin; go_must (refine wpList_push (enc := ilEnc) ((k : Int)) rfl (.tmp 16) (.tmp 18) 24 3 _ 1 8 rfl Try.underlying24 Try.infoInt rfl (by decide) (fun _ => rfl) ilEnc_one (hO.below (by (repeat (first | exact Below.refl _ _ | refine ext_alloc ?_ _ | refine Below.setCell ?_ (by simp) _)))) rfl (heap_alloc_at (by simp)) (by rfl) (by omega) (by omega) (Nat.le_trans hB.size (show Below _ _ _ by (repeat (first | exact Below.refl _ _ | refine ext_alloc ?_ _ | refine Below.setCell ?_ (by simp) _))).size) ?_); intro v_ wq1 ho_ hb_ hg_)
        replace hB := (ext_trans hB (by (repeat (first | exact Below.refl _ _ | refine ext_alloc ?_ _ | refine Below.setCell ?_ (by simp) _)))).trans hb_
        replace hO := ho_
        clear ho_ hb_ hg_
        go_wp2
        go_roundw
        case rel => exact ⟨k + 1, by omega, by go_num, hO.eq (by rw [HS.out, if_pos HGB.out]), hB⟩
        case measure => simp [intOf]; omega
theorem isRole_any {A : Option Addr} {l : RoL} {c : Nat} {n : Int} {w : World} (hU : roR w A l) (hw : WfRoL l) (hn : l.length ≤ 2097152) :
    Calls Try.prog 41 #[.slice A l.length c, .int .i64 n] w fun e w' => e = .returned (.bool (roOk l && inB n 0 (l.length - 1))) ∧ Below w.heap.size w w' := by
  have hl := hU.len
  cases g : roOk l
  all_goals
    have HG := Lib.hid g
    clear g
    go_enter Try.func41, Try.ntmps41
    go_wp2_with fail
    refine (implRolesValid hU hw hn).mono ?_
    rintro e w1 ⟨rfl, hB⟩
    rw [HG.out]
  · go_wp2
    go_ret
    exact ⟨ret_bool (by simp), hB⟩
  · go_wp2_with fail
    refine (in_any _ _ _ _).mono ?_
    rintro e w2 ⟨rfl, hB2⟩
    replace hB := ext_trans hB hB2
    go_wp2
    go_ret
    exact ⟨ret_bool (by simp), hB⟩
theorem roIn_nat {l : RoL} {n : Int} (h : inB n 0 (l.length - 1) = true) : ∃ m : Nat, n = m ∧ m < l.length := by
  have := inB_true.1 h
  exact ⟨n.toNat, by omega, by omega⟩
theorem implRolesWith {A : Option Addr} {l : RoL} {c : Nat} {n : Int} {w : World} (hU : roR w A l) (hw : WfRoL l) (hn : l.length ≤ 2097152) :
    Calls Try.prog 23 #[.slice A l.length c, .int .i64 n] w (SlPost 3 1 ilEnc w (rwOf l n)) := by
  have hl := hU.len
  cases g : (roOk l && inB n 0 (l.length - 1))
  · have HE : Hid (rwOf l n = []) := Lib.hid (by rw [rwOf, g]; rfl)
    have HG := Lib.hid g
    clear g
    go_enter Try.func23, Try.ntmps23
    go_wp2_with fail
    refine (isRole_any hU hw hn).mono ?_
    rintro e w1 ⟨rfl, hB⟩
    rw [HG.out]
    go_wp2
    go_ret
    exact SlPost.of HE.out OwnA.nil hB
  · have HE : Hid (rwOf l n = mbOf (roReach l n.toNat) 8) := Lib.hid (by rw [rwOf, g]; rfl)
    have HG := Lib.hid g
    simp only [Bool.and_eq_true] at g
    obtain ⟨m, rfl, hm⟩ := roIn_nat g.2
    have hR := reach_lt g.1 hm
    have HK := Lib.hid g.1
    clear g
    go_enter Try.func23, Try.ntmps23
    go_wp2_with fail
    refine (isRole_any hU hw hn).mono ?_
    rintro e w1 ⟨rfl, hB⟩
    rw [HG.out]
    go_wp2_with fail
    refine (rolesWith_any (hU.below hB) HK.out hm).mono ?_
    rintro e w2 ⟨rfl, hB2⟩
    replace hB := ext_trans hB hB2
    go_wp2_with fail
    refine (members_any hR _).mono ?_
    rintro e w3 ⟨A3, c3, rfl, ho, hB3⟩
    go_wp2
    go_ret
    exact SlPost.of (by rw [HE.out]; rfl) ((OwnA.of ho).lower (by have := hB.size; omega)) (ext_trans hB hB3)
/-- All that someone would have, after the first k of what there is. -/
noncomputable def mgSet (l : RoL) (role : Int) (has : IL) : Nat → Nat
  | 0 => roReach l role.toNat
  | k + 1 => if inB (il0 has k) 0 (l.length - 1) = true then mgSet l role has k ||| roReach l (il0 has k).toNat else mgSet l role has k
noncomputable def mayG (l : RoL) (list : ApL) (has : IL) (role : Int) : Bool := (roOk l && inB role 0 (l.length - 1)) && (apOk l.length list && decide ((apBrk (mgSet l role has has.length) list list.length).length = 0))
theorem mgSet_lt {l : RoL} {role : Int} {has : IL} (hok : roOk l = true) (hr : inB role 0 (l.length - 1) = true) : ∀ k, mgSet l role has k < 256
  | 0 => by
    obtain ⟨m, rfl, hm⟩ := roIn_nat hr
    exact reach_lt hok hm
  | k + 1 => by
    have ih := mgSet_lt (has := has) hok hr k
    rw [mgSet]
    split
    · rename_i h
      obtain ⟨m, e, hm⟩ := roIn_nat h
      rw [e]
      exact or_lt ih (reach_lt hok hm)
    · exact ih
set_option maxRecDepth 100000 in
set_option maxHeartbeats 4000000 in
theorem implMayGive {A A1 A2 : Option Addr} {l : RoL} {list : ApL} {has : IL} {c c1 c2 : Nat} {role : Int} {w : World} (hU : roR w A l) (hw : WfRoL l) (hn : l.length ≤ 2097152) (hP : apR w A1 list) (hV : ilR w A2 has) :
    Calls Try.prog 21 #[.slice A l.length c, .slice A1 list.length c1, .slice A2 has.length c2, .int .i64 role] w fun e w' => e = .returned (.bool (mayG l list has role)) ∧ Below w.heap.size w w' := by
  have hl := hU.len
  have hl2 := hV.len
  cases g1 : (roOk l && inB role 0 (l.length - 1))
  · have HE : Hid (mayG l list has role = false) := Lib.hid (by rw [mayG, g1]; rfl)
    have HG := Lib.hid g1
    clear g1
    go_enter Try.func21, Try.ntmps21
    go_wp2_with fail
    refine (isRole_any hU hw hn).mono ?_
    rintro e w1 ⟨rfl, hB⟩
    rw [HG.out]
    go_wp2
    go_ret
    exact ⟨ret_bool HE.out.symm, hB⟩
  · cases g2 : apOk l.length list
    · have HE : Hid (mayG l list has role = false) := Lib.hid (by rw [mayG, g2]; simp)
      have HG := Lib.hid g1
      have HG2 := Lib.hid g2
      clear g1 g2
      go_enter Try.func21, Try.ntmps21
      go_wp2_with fail
      refine (isRole_any hU hw hn).mono ?_
      rintro e w1 ⟨rfl, hB⟩
      rw [HG.out]
      go_wp2_with fail
      refine (implApartValid (hP.below hB)).mono ?_
      rintro e w2 ⟨rfl, hB2⟩
      rw [HG2.out]
      go_wp2
      go_ret
      exact ⟨ret_bool HE.out.symm, ext_trans hB hB2⟩
    · have HE : Hid (mayG l list has role = decide ((apBrk (mgSet l role has has.length) list list.length).length = 0)) := Lib.hid (by rw [mayG, g1, g2]; rfl)
      have hlt := mgSet_lt (has := has) (Bool.and_eq_true_iff.1 g1).1 (Bool.and_eq_true_iff.1 g1).2
      have HLT := Lib.hid hlt
      have HG := Lib.hid g1
      have HG2 := Lib.hid g2
      have HK := Lib.hid (Bool.and_eq_true_iff.1 g1).1
      obtain ⟨m, rfl, hm⟩ := roIn_nat (Bool.and_eq_true_iff.1 g1).2
      have HM0 : Hid (roReach l m = mgSet l m has 0) := Lib.hid rfl
      have hlpos : 0 < l.length := by omega
      clear g1 g2 hlt
      go_enter Try.func21, Try.ntmps21
      go_wp2_with fail
      refine (isRole_any hU hw hn).mono ?_
      rintro e w1 ⟨rfl, hB⟩
      rw [HG.out]
      go_wp2_with fail
      refine (implApartValid (hP.below hB)).mono ?_
      rintro e w2 ⟨rfl, hB2⟩
      rw [HG2.out]
      replace hB := ext_trans hB hB2
      go_wp2_with fail
      refine (rolesWith_any (hU.below hB) HK.out hm).mono ?_
      rintro e w3 ⟨rfl, hB3⟩
      replace hB := ext_trans hB hB3
      rw [HM0.out]
      clear hB2 hB3
      obtain ⟨W, hW⟩ : ∃ W, W = w3 := ⟨_, rfl⟩
      rw [← hW] at hB
      have HW := Lib.hid hW
      have HB := Lib.hid hB
      clear hW hB
      go_wp2
      go_loopw [9, 28] (fun sv iv wr => ∃ k s : Nat, k ≤ has.length ∧ iv = .int .i64 k ∧ sv = .int .i64 (s : Int) ∧ Hid (s = mgSet l m has k) ∧ s < 256 ∧ Below W.heap.size W wr) (fun _ iv _ => has.length - (intOf iv).toNat)
      case atStart => exact ⟨0, _, Nat.zero_le _, rfl, rfl, Lib.hid rfl, HLT.out 0, by rw [HW.out]; exact Below.refl _ _⟩
      case round =>
        obtain ⟨k, s, hk, rfl, rfl, HS, hs, hC⟩ := hrel
        by_cases hlt : k < has.length
        · have HT : Hid (mgSet l m has (k + 1) = if inB (il0 has k) 0 (l.length - 1) = true then mgSet l m has k ||| roReach l (il0 has k).toNat else mgSet l m has k) := Lib.hid rfl
          have hV2 := (hV.below HB.out).below hC
          obtain ⟨b, off, rfl, hc⟩ := hV2.cells (by omega)
          have m0 := hc k hlt
          clear hc
          cases g : inB (il0 has k) 0 (l.length - 1)
          · have HGI := Lib.hid g
            clear g
            go_wp2_with fail
            refine (in_any _ _ _ _).mono ?_
            rintro e w4 ⟨rfl, hB4⟩
            rw [HGI.out]
            replace hC := ext_trans hC hB4
            go_wp2
            go_roundw
            case rel => exact ⟨k + 1, s, by omega, by go_num, rfl, Lib.hid (by rw [HT.out, if_neg (by rw [HGI.out]; simp)]; exact HS.out), hs, hC⟩
            case measure => simp [intOf]; omega
          · obtain ⟨q, hq, hql⟩ := roIn_nat g
            have HGI := Lib.hid g
            have HQ := Lib.hid hq
            have HI : Hid (inB (q : Int) 0 (l.length - 1) = true) := Lib.hid (by rw [← hq]; exact g)
            rw [hq] at m0
            clear g hq
            have hrl := reach_lt HK.out hql
            have ho := or_lt hs hrl
            have HBO := Lib.hid (bits_or64 hs hrl)
            go_wp2_with fail
            refine (in_any _ _ _ _).mono ?_
            rintro e w4 ⟨rfl, hB4⟩
            rw [HI.out]
            replace hC := ext_trans hC hB4
            clear hB4
            go_wp2_with fail
            refine (rolesWith_any ((hU.below HB.out).below hC) HK.out hql).mono ?_
            rintro e w5 ⟨rfl, hB5⟩
            replace hC := ext_trans hC hB5
            go_wp2
            rw [HBO.out]
            go_roundw
            case rel => exact ⟨k + 1, s ||| roReach l q, by omega, by go_num, rfl, Lib.hid (by rw [HT.out, if_pos HGI.out, HS.out, HQ.out]; rfl), ho, hC⟩
            case measure => simp [intOf]; omega
        · obtain rfl : k = has.length := by omega
          go_wp2_with fail
          refine (broken_any ((hP.below HB.out).below hC) HG2.out hs).mono ?_
          rintro e w4 ⟨A4, c4, rfl, ho4, hB4⟩
          have HSS : Hid ((apBrk (mgSet l m has has.length) list list.length).length = (apBrk s list list.length).length) := Lib.hid (by rw [← HS.out])
          replace hC := ext_trans hC hB4
          clear ho4 hB4
          generalize (apBrk s list list.length).length = z at HSS ⊢
          go_wp2
          go_ret
          exact ⟨ret_bool (by rw [HE.out, HSS.out]; rw [Bool.eq_iff_iff]; simp), ext_trans HB.out hC⟩
end Go.Proofs.Ytbimcababidjgaa

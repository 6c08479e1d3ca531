/- The first rule that fits decides; rules that allow all allow: the laws, walked. -/
import Derived.Test.YtpmelhkhmichcaaDoorFrB
import Derived.Test.YtpmelhkhmichcaaDoorFrD
import Derived.Test.YtpmelhkhmichcaaDoorRuE
import Derived.Test.YtpmelhkhmichcaaDoorCode
namespace Go.Proofs.YtpmelhkhmichcaaDoor
set_option linter.unusedSimpArgs false
set_option linter.unusedVariables false
open Go.RowKit

theorem bit_rem {a d : Int} (h0 : 0 ≤ a) : ((a / 2 ^ d.toNat).tmod 2 == 1) = bitB a d := by
  obtain ⟨n, rfl⟩ := Int.eq_ofNat_of_zero_le h0
  have e : ((n : Int) / 2 ^ d.toNat) = ((n / 2 ^ d.toNat : Nat) : Int) := by
    rw [Int.natCast_ediv]; congr 1
  rw [e, Int.tmod_eq_emod_of_nonneg (Int.natCast_nonneg _), bitB, halfN_nat, Bool.eq_iff_iff]
  simp
theorem implRulesValid_v {A : Option Addr} {l : RuL} {c : Nat} {b : Bool} {w : World} (hb : ruOk l = b) (hU : ruR w A l) (hf : FewP l) :
    Calls Tryd.prog 21 #[.slice A l.length c] w fun e w' => e = .returned (.bool b) ∧ Below w.heap.size w w' := hb ▸ implRulesValid hU hf
set_option maxRecDepth 100000 in
set_option maxHeartbeats 4000000 in
theorem lawFirstRule {A : Option Addr} {l : List Int} {c : Nat} {w : World} (hC : CodeR w w.heap.size A l) (hc : l.length ≤ c) :
    Calls Tryd.prog 7 #[.slice A l.length c] w fun e w' => e = .returned (.bool true) ∧ Below w.heap.size w w' := by
  by_cases h : (1048576 : Int) < l.length
  · go_enter Tryd.func7, Tryd.ntmps7
    go_wp2
    go_ret
    exact ⟨rfl, Below.refl _ _⟩
  · go_enter Tryd.func7, Tryd.ntmps7
    go_wp2_with fail
    refine (DrawFirstRule_d hC hc).mono ?_
    rintro e w1 ⟨us, path, act, Au, cu, rfl, hn, hf, hp, ⟨ha0, ha1⟩, hU, hcu, hcu2, _, hB⟩
    have HF := Lib.hid hf
    clear hf
    go_wp2_with fail
    refine (implFirstRule hU HF.out (by omega)).mono ?_
    rintro e w2 ⟨n, rfl, hn1, hb⟩
    have HN := Lib.hid hn1
    have hnr := hn1.range
    replace hB := ext_trans hB hb
    replace hU := hU.below hb
    clear hb hn1
    go_wp2_with fail
    refine (specFirstRule hU HF.out (by omega)).mono ?_
    rintro e w3 ⟨n', rfl, hn2, hb⟩
    obtain rfl := hn2.uniq HN.out
    replace hB := ext_trans hB hb
    replace hU := hU.below hb
    clear hb hn2
    obtain ⟨ok, hok⟩ : ∃ ok, ruOk us = ok := ⟨_, rfl⟩
    have HOK := Lib.hid hok
    cases ok
    · have hm : n' = -1 := HN.out.2 (.inl hok)
      subst hm
      go_wp2_with fail
      refine (implRulesValid_v hok hU HF.out).mono ?_
      rintro e w4 ⟨rfl, hb⟩
      replace hB := ext_trans hB hb
      clear hb
      go_wp2_with fail
      refine (alive_any _).mono ?_
      rintro e w5 ⟨rfl, hb⟩
      replace hB := ext_trans hB hb
      go_wp2
      go_ret
      exact ⟨rfl, hB⟩
    · obtain ⟨ia, hia⟩ : ∃ b, inB act 0 3 = b := ⟨_, rfl⟩
      have HIA := Lib.hid hia
      cases ia
      · have hm : n' = -1 := HN.out.2 (.inr hia)
        subst hm
        rw [inB_false] at hia
        rcases hia with hia | hia
        all_goals
          go_wp2_with fail
          refine (implRulesValid_v hok hU HF.out).mono ?_
          rintro e w4 ⟨rfl, hb⟩
          replace hB := ext_trans hB hb
          clear hb
          go_wp2_with fail
          refine (alive_any _).mono ?_
          rintro e w5 ⟨rfl, hb⟩
          replace hB := ext_trans hB hb
          go_wp2
          go_ret
          exact ⟨rfl, hB⟩
      · have hact := inB_true.1 hia
        have HFP := Lib.hid (HN.out.1 HOK.out HIA.out)
        go_wp2_with fail
        refine (implRulesValid_v hok hU HF.out).mono ?_
        rintro e w4 ⟨rfl, hb⟩
        replace hB := ext_trans hB hb
        replace hU := hU.below hb
        have HB4 := Lib.hid hB
        have hlen := hU.len
        clear hb hB hok hia
        go_wp2
        go_loopw [7] (fun iv wr => ∃ k : Nat, k ≤ us.length ∧ iv = .int .i64 k ∧ Hid (∀ j, j < k → frHit us path act j = false) ∧ Below w4.heap.size w4 wr) (fun iv _ => us.length - (intOf iv).toNat)
        case atStart => exact ⟨0, Nat.zero_le _, rfl, Lib.hid (fun j h => by omega), Below.refl _ _⟩
        case round =>
          obtain ⟨k, hk, rfl, HG, hB⟩ := hrel
          by_cases hlt : k < us.length
          · obtain ⟨b, off, rfl, hc⟩ := hU.cells (by omega)
            obtain ⟨c0, c1, _⟩ := hc k hlt
            replace c0 := below_cell hB c0
            replace c1 := below_cell hB c1
            have hs := HF.out k hlt
            have hat := ruOk_at HOK.out hlt
            clear hc
            cases hfit : fitB path (ru0 us k)
            · have HNo := Lib.hid (show frHit us path act k = false by rw [frHit, hfit]; rfl)
              go_wp2_with fail
              refine (implPathFits_v hfit (by omega) (by omega) _).mono ?_
              rintro e w5 ⟨rfl, hb⟩
              replace hB := ext_trans hB hb
              clear hb c0 c1
              go_wp2
              go_roundw
              case rel => exact ⟨k + 1, by omega, by go_num, Lib.hid (all_succ HG.out HNo.out), hB⟩
              case measure => simp [intOf]; omega
            · obtain ⟨q, hq⟩ : ∃ q, bitB (ru1 us k) act = q := ⟨_, rfl⟩
              have eb := bit_rem (a := ru1 us k) (d := act) (by omega)
              rw [hq] at eb
              cases q
              · have HNo := Lib.hid (show frHit us path act k = false by rw [frHit, hfit, hq]; rfl)
                clear hq
                go_wp2_with fail
                refine (implPathFits_v hfit (by omega) (by omega) _).mono ?_
                rintro e w5 ⟨rfl, hb⟩
                replace hB := ext_trans hB hb
                replace c1 := below_cell hb c1
                clear hb c0
                go_wp2
                go_roundw
                case rel => exact ⟨k + 1, by omega, by go_num, Lib.hid (all_succ HG.out HNo.out), hB⟩
                case measure => simp [intOf]; omega
              · have hnk : n' = (k : Int) := HFP.out.uniq (.inr ⟨k, rfl, hlt, (by rw [frHit, hfit, hq]; rfl), HG.out⟩)
                have enk : (n' == (k : Int)) = true := by simpa using hnk
                clear hq hnk
                go_wp2_with fail
                refine (implPathFits_v hfit (by omega) (by omega) _).mono ?_
                rintro e w5 ⟨rfl, hb⟩
                replace hB := ext_trans hB hb
                replace c1 := below_cell hb c1
                clear hb c0
                go_wp2
                go_ret
                exact ⟨by rw [← enk]; rfl, ext_trans HB4.out hB⟩
          · obtain rfl : k = us.length := by omega
            have hnk : n' = -1 := HFP.out.uniq (.inl ⟨rfl, HG.out⟩)
            subst hnk
            go_wp2
            go_ret
            exact ⟨rfl, ext_trans HB4.out hB⟩
theorem fit_all {p : ByteArray} (h : pathOk p = true) : fitB p star2 = true := by
  rw [fit_same, fitS, h]
  have h1 : patOk star2 = true := by decide +kernel
  have h2 : pws star2 = [star2] := by decide +kernel
  rw [h1, h2]
  have h3 := pws_pos p
  cases hw : pws p with
  | nil => rw [hw] at h3; simp at h3
  | cons x a => rw [fitG, if_pos rfl]; rfl
theorem fit_no {p s : ByteArray} (h : pathOk p = false) : fitB p s = false := by rw [fitB, h]; rfl
/-- A rule that allows all, ahead of others. -/
theorem ra_all {us : RuL} {p : ByteArray} {act : Int} {b : Bool} (h : RaP ((star2, 15, true) :: us) p act b) : b = (ruOk ((star2, 15, true) :: us) && (pathOk p && inB act 0 3)) := by
  obtain ⟨i, hi, rfl⟩ := h
  cases h1 : ruOk ((star2, 15, true) :: us)
  · rw [hi.2 (.inl h1)]; rfl
  · cases h2 : inB act 0 3
    · rw [hi.2 (.inr h2), Bool.and_false]; rfl
    · have hf := hi.1 h1 h2
      cases h3 : pathOk p
      · have hm : i = -1 := hf.uniq (.inl ⟨rfl, fun k _ => by rw [frHit, fit_no h3]; rfl⟩)
        rw [hm]; rfl
      · have hm : i = ((0 : Nat) : Int) := hf.uniq (.inr ⟨0, rfl, by simp, (by
          have e0 : ru0 ((star2, 15, true) :: us) 0 = star2 := rfl
          have e1 : ru1 ((star2, 15, true) :: us) 0 = 15 := rfl
          rw [frHit, e0, e1, fit_all h3, Bool.true_and]
          have := inB_true.1 h2
          have ha : act = 0 ∨ act = 1 ∨ act = 2 ∨ act = 3 := by omega
          rcases ha with rfl | rfl | rfl | rfl <;> decide), fun j hj => by omega⟩)
        rw [hm]; rfl
theorem ra_none {p : ByteArray} {act : Int} {b : Bool} (h : RaP [] p act b) : b = false := by
  obtain ⟨i, hi, rfl⟩ := h
  rcases hi.range with rfl | ⟨k, _, hk⟩
  · rfl
  · simp at hk
set_option maxRecDepth 100000 in
set_option maxHeartbeats 4000000 in
theorem lawRulesAllow {A : Option Addr} {l : List Int} {c : Nat} {w : World} (hC : CodeR w w.heap.size A l) (hc : l.length ≤ c) :
    Calls Tryd.prog 9 #[.slice A l.length c] w fun e w' => e = .returned (.bool true) ∧ Below w.heap.size w w' := by
  by_cases h : (1048576 : Int) < l.length
  · go_enter Tryd.func9, Tryd.ntmps9
    go_wp2
    go_ret
    exact ⟨rfl, Below.refl _ _⟩
  · go_enter Tryd.func9, Tryd.ntmps9
    go_wp2_with fail
    refine (DrawRulesAllow_d hC hc).mono ?_
    rintro e w1 ⟨us, path, act, Au, cu, rfl, hn, hf, hp, ⟨ha0, ha1⟩, hU, hcu, hcu2, _, hB⟩
    have HF := Lib.hid hf
    clear hf
    go_wp2_with fail
    refine (implRulesAllow hU HF.out (by omega)).mono ?_
    rintro e w2 ⟨n, rfl, hn1, hb⟩
    have HN := Lib.hid hn1
    replace hB := ext_trans hB hb
    replace hU := hU.below hb
    clear hb hn1
    go_wp2_with fail
    refine (specRulesAllow hU HF.out (by omega)).mono ?_
    rintro e w3 ⟨n', rfl, hn2, hb⟩
    obtain rfl := hn2.uniq HN.out
    replace hB := ext_trans hB hb
    replace hU := hU.below hb
    clear hb hn2
    go_wp2_with (at_builtin; go_must (refine wpList_append_rd (enc := ruEnc) rfl (.tmp 29) (.tmp 30) w3.heap.size 31 25 _ 3 32 rfl Tryd.underlying31 Tryd.infoRule rfl (by decide) (fun _ => rfl) ruEnc_one rfl (own_fresh (Nat.le_refl _) rfl (by decide)) rfl (hU.below (by (repeat (first | exact Below.refl _ _ | refine ext_alloc ?_ _ | refine Below.setCell ?_ (by simp) _)))) (by omega) (by omega) (show Below _ _ _ by (repeat (first | exact Below.refl _ _ | refine ext_alloc ?_ _ | refine Below.setCell ?_ (by simp) _))).size ?_); intro v1 w4 ho1 hg1 hs1)
    have hB34 : Below w3.heap.size w3 w4 := Below.grown (show Below w3.heap.size w3 _ by (repeat (first | exact Below.refl _ _ | refine ext_alloc ?_ _ | refine Below.setCell ?_ (by simp) _))) hg1 (by simp) (fun k e => by cases e; exact Nat.le_refl _)
    have ho2 : w4.ownsRow w3.heap.size 25 3 v1 ((star2, 15, true) :: us).length (((star2, (15 : Int), true) :: us).flatMap ruEnc) := by
      have h9 := ho1
      simp only [List.length_cons, List.flatMap_cons]
      rw [Nat.add_comm] at h9
      exact h9
    obtain ⟨A1, c1, rfl⟩ := own_slice_ ho2
    have hU1 : ruR w4 A1 ((star2, 15, true) :: us) := ruR.own rfl (by simp; omega) ho2
    replace hB := ext_trans hB hB34
    have HFC := Lib.hid (HF.out.cons (s := star2) (a := 15) (b := true) (by decide))
    obtain ⟨all, hall⟩ : ∃ all, all = ((star2, (15 : Int), true) :: us) := ⟨_, rfl⟩
    have HALL := Lib.hid hall
    rw [← hall] at hU1 HFC ⊢
    clear ho1 hg1 hs1 hB34 ho2 hall hU
    obtain ⟨ok, hok⟩ : ∃ ok, ruOk all = ok := ⟨_, rfl⟩
    obtain ⟨pk, hpk⟩ : ∃ pk, pathOk path = pk := ⟨_, rfl⟩
    obtain ⟨ia, hia⟩ : ∃ b, inB act 0 3 = b := ⟨_, rfl⟩
    have HR : Hid (∀ b, RaP all path act b → b = (ok && (pk && ia))) := Lib.hid (fun b hb => by
      rw [HALL.out] at hb
      have := ra_all hb
      rw [← HALL.out, hok, hpk, hia] at this
      exact this)
    have hps : path.size ≤ 2097152 := by omega
    have HPS := Lib.hid hps
    clear hps
    cases ok
    · go_wp2_with fail
      refine (implRulesValid_v hok hU1 HFC.out).mono ?_
      rintro e w5 ⟨rfl, hb⟩
      replace hB := ext_trans hB hb
      replace hU1 := hU1.below hb
      clear hb
      go_wp2_with fail
      refine (implRulesAllow hU1 HFC.out HPS.out).mono ?_
      rintro e w6 ⟨b1, rfl, h1, hb⟩
      obtain rfl := HR.out _ h1
      replace hB := ext_trans hB hb
      clear hb h1
      go_wp2_with fail
      refine (implRulesAllow (l := []) (RdL.nil _) (fun k hk => by simp at hk) HPS.out).mono ?_
      rintro e w7 ⟨b2, rfl, h2, hb⟩
      obtain rfl := ra_none h2
      replace hB := ext_trans hB hb
      clear hb h2
      go_wp2_with fail
      refine (alive_any _).mono ?_
      rintro e w8 ⟨rfl, hb⟩
      go_wp2
      go_ret
      exact ⟨rfl, ext_trans hB hb⟩
    · cases pk
      · go_wp2_with fail
        refine (implRulesValid_v hok hU1 HFC.out).mono ?_
        rintro e w5 ⟨rfl, hb⟩
        replace hB := ext_trans hB hb
        replace hU1 := hU1.below hb
        clear hb
        go_wp2_with fail
        refine (implPathValid_v hpk HPS.out _).mono ?_
        rintro e w9 ⟨rfl, hb⟩
        replace hB := ext_trans hB hb
        replace hU1 := hU1.below hb
        clear hb
        go_wp2_with fail
        refine (implRulesAllow hU1 HFC.out HPS.out).mono ?_
        rintro e w6 ⟨b1, rfl, h1, hb⟩
        obtain rfl := HR.out _ h1
        replace hB := ext_trans hB hb
        clear hb h1
        go_wp2_with fail
        refine (implRulesAllow (l := []) (RdL.nil _) (fun k hk => by simp at hk) HPS.out).mono ?_
        rintro e w7 ⟨b2, rfl, h2, hb⟩
        obtain rfl := ra_none h2
        replace hB := ext_trans hB hb
        clear hb h2
        go_wp2_with fail
        refine (alive_any _).mono ?_
        rintro e w8 ⟨rfl, hb⟩
        go_wp2
        go_ret
        exact ⟨rfl, ext_trans hB hb⟩
      · have hia2 : decide (0 ≤ act) = true ∧ decide (act ≤ 3) = true ∧ ia = true ∨ ((decide (0 ≤ act) = false ∨ decide (0 ≤ act) = true ∧ decide (act ≤ 3) = false) ∧ ia = false) := by
          cases ia
          · rw [inB_false] at hia
            right
            refine ⟨?_, rfl⟩
            by_cases h0 : 0 ≤ act
            · right; exact ⟨by simpa using h0, by simp; omega⟩
            · left; simpa using h0
          · rw [inB_true] at hia
            left
            exact ⟨by simpa using hia.1, by simpa using hia.2, rfl⟩
        clear hia
        rcases hia2 with ⟨d1, d2, rfl⟩ | ⟨d1 | ⟨d1, d2⟩, rfl⟩
        all_goals
          go_wp2_with fail
          refine (implRulesValid_v hok hU1 HFC.out).mono ?_
          rintro e w5 ⟨rfl, hb⟩
          replace hB := ext_trans hB hb
          replace hU1 := hU1.below hb
          clear hb
          go_wp2_with fail
          refine (implPathValid_v hpk HPS.out _).mono ?_
          rintro e w9 ⟨rfl, hb⟩
          replace hB := ext_trans hB hb
          replace hU1 := hU1.below hb
          clear hb
          go_wp2_with fail
          refine (implRulesAllow hU1 HFC.out HPS.out).mono ?_
          rintro e w6 ⟨b1, rfl, h1, hb⟩
          obtain rfl := HR.out _ h1
          replace hB := ext_trans hB hb
          clear hb h1
          go_wp2_with fail
          refine (implRulesAllow (l := []) (RdL.nil _) (fun k hk => by simp at hk) HPS.out).mono ?_
          rintro e w7 ⟨b2, rfl, h2, hb⟩
          obtain rfl := ra_none h2
          replace hB := ext_trans hB hb
          clear hb h2
          go_wp2_with fail
          refine (alive_any _).mono ?_
          rintro e w8 ⟨rfl, hb⟩
          go_wp2
          go_ret
          exact ⟨rfl, ext_trans hB hb⟩
end Go.Proofs.YtpmelhkhmichcaaDoor

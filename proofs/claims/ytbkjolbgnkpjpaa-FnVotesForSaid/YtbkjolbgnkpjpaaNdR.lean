/- FnVotesFor, walked. -/
import Derived.Test.YtbkjolbgnkpjpaaNdP
import Derived.Test.YtbkjolbgnkpjpaaNdC
import Derived.Test.YtbkjolbgnkpjpaaNdD
import Derived.Test.YtbkjolbgnkpjpaaIlS
import Derived.Test.YtbkjolbgnkpjpaaKi3
import Derived.Test.YtbkjolbgnkpjpaaKi4
namespace Go.Proofs.Ytbkjolbgnkpjpaa
open Go.RowKit

theorem rel_ne {p : Prop} [Decidable p] {a b : Nat} {w w' : World} (h : ¬ p) (hb : Below b w w') : Below (if p then a else b) w w' := by rw [if_neg h]; exact hb
theorem rel_eq {p : Prop} [Decidable p] {a b : Nat} {w w' : World} (h : p) (hb : Below a w w') : Below (if p then a else b) w w' := by rw [if_pos h]; exact hb
theorem rel_un {p : Prop} [Decidable p] {a b : Nat} {w w' : World} (h : ¬ p) (hb : Below (if p then a else b) w w') : Below b w w' := by rwa [if_neg h] at hb

theorem asc_lt {l : IL} {hi : Int} (h : ascB l hi = true) : l.Pairwise (· < ·) := by
  have hs := ascB_iff.1 h
  have step : ∀ d i, i + d + 1 < l.length → il0 l i < il0 l (i + d + 1) := by
    intro d
    induction d with
    | zero => intro i hi'; exact (ascAt_iff.1 (hs (i + 1) hi')).2 (by omega)
    | succ d ih =>
      intro i hi'
      have h1 := ih i (by omega)
      have h2 := (ascAt_iff.1 (hs (i + (d + 1) + 1) hi')).2 (by omega)
      have e : i + (d + 1) + 1 - 1 = i + d + 1 := by omega
      rw [e] at h2
      omega
  rw [List.pairwise_iff_getElem]
  intro i j hi' hj hij
  have := step (j - i - 1) i (by omega)
  rw [show i + (j - i - 1) + 1 = j by omega] at this
  rwa [il_get hi', il_get hj] at this
theorem ndFor_props (may : IL) (least asked : Int) (l : VoL) :
    (∀ k, k < (ndFor may least asked l).length → ∃ j, j < may.length ∧ il0 may j = il0 (ndFor may least asked l) k) ∧ (∀ k, k < (ndFor may least asked l).length → il0 (ndFor may least asked l) k ≠ asked) ∧
    (∀ k, k < (ndFor may least asked l).length → 0 < k → il0 (ndFor may least asked l) (k - 1) < il0 (ndFor may least asked l) k) := by
  by_cases h : ndOk may least asked = true ∧ l.length ≤ 20
  · obtain ⟨h1, h2⟩ := h
    rw [ndFor_yes h1 h2]
    have hasc : ascB may 6 = true := by simp only [ndOk, Bool.and_eq_true] at h1; exact h1.1
    have hp := (asc_lt hasc).sublist (List.filter_sublist (p := fun who => decide (who ≠ asked) && voF l l.length who))
    have hmem : ∀ k (hk : k < (voFor may asked l).length), (voFor may asked l)[k] ∈ may ∧ (voFor may asked l)[k] ≠ asked := fun k hk => by
      have := List.mem_filter.1 (show (voFor may asked l)[k] ∈ may.filter _ from List.getElem_mem hk)
      simp only [Bool.and_eq_true, decide_eq_true_eq] at this
      exact ⟨this.1, this.2.1⟩
    refine ⟨fun k hk => ?_, fun k hk => ?_, fun k hk h0 => ?_⟩
    · obtain ⟨j, hj, e⟩ := List.getElem_of_mem (hmem k hk).1
      exact ⟨j, hj, by rw [il_get hj, il_get hk, e]⟩
    · rw [il_get hk]; exact (hmem k hk).2
    · rw [il_get hk, il_get (by omega : k - 1 < _)]
      exact List.pairwise_iff_getElem.1 hp (k - 1) k (show k - 1 < (voFor may asked l).length by omega) hk (by omega)
  · have e : ndFor may least asked l = [] := by
      apply ndFor_no
      by_cases h1 : ndOk may least asked = true
      · exact .inr (by have : ¬ l.length ≤ 20 := fun h2 => h ⟨h1, h2⟩
                       omega)
      · exact .inl (by simpa using h1)
    rw [e]
    exact ⟨fun k hk => by simp at hk, fun k hk => by simp at hk, fun k hk => by simp at hk⟩
theorem voF_step (l : VoL) (k : Nat) (z : Int) : voF l (k + 1) z = if z = vo0 l k then vo1 l k else voF l k z := rfl
theorem voF_app (l : VoL) (x : Int × Bool) : ∀ k, k ≤ l.length → ∀ z, voF (l ++ [x]) k z = voF l k z
  | 0, _, _ => rfl
  | k + 1, h, z => by
    have e : (l ++ [x]).getD k voD = l.getD k voD := by simp [List.getD_eq_getElem?_getD, List.getElem?_append_left (by omega : k < l.length)]
    have e0 : vo0 (l ++ [x]) k = vo0 l k := by unfold vo0; rw [e]
    have e1 : vo1 (l ++ [x]) k = vo1 l k := by unfold vo1; rw [e]
    rw [voF_step, voF_step, e0, e1, voF_app l x k (by omega) z]
theorem ndFor_again {may : IL} {least asked : Int} {l : VoL} (h0 : 0 < l.length) (h20 : l.length < 20) : ndFor may least asked (l ++ [(vo0 l (l.length - 1), vo1 l (l.length - 1))]) = ndFor may least asked l := by
  have e : ∀ z, voF (l ++ [(vo0 l (l.length - 1), vo1 l (l.length - 1))]) (l ++ [(vo0 l (l.length - 1), vo1 l (l.length - 1))]).length z = voF l l.length z := fun z => by
    have e1 : (l ++ [(vo0 l (l.length - 1), vo1 l (l.length - 1))]).length = l.length + 1 := by simp
    have e2 : (l ++ [(vo0 l (l.length - 1), vo1 l (l.length - 1))]).getD l.length voD = (vo0 l (l.length - 1), vo1 l (l.length - 1)) := by simp [List.getD_eq_getElem?_getD]
    have e3 : vo0 (l ++ [(vo0 l (l.length - 1), vo1 l (l.length - 1))]) l.length = vo0 l (l.length - 1) := by rw [vo0, e2]
    have e4 : vo1 (l ++ [(vo0 l (l.length - 1), vo1 l (l.length - 1))]) l.length = vo1 l (l.length - 1) := by rw [vo1, e2]
    rw [e1, voF_step, e3, e4, voF_app _ _ _ (Nat.le_refl _)]
    obtain ⟨n, hn⟩ : ∃ n, l.length = n + 1 := ⟨l.length - 1, by omega⟩
    rw [hn, Nat.add_sub_cancel, voF_step]
    split <;> rfl
  have e3 : voFor may asked (l ++ [(vo0 l (l.length - 1), vo1 l (l.length - 1))]) = voFor may asked l := by
    unfold voFor
    congr 1
    funext who
    rw [e]
  unfold ndFor
  rw [e3]
  have a1 : decide ((l ++ [(vo0 l (l.length - 1), vo1 l (l.length - 1))]).length ≤ 20) = true := by simp; omega
  have a2 : decide (l.length ≤ 20) = true := by simp; omega
  rw [a1, a2]

set_option maxRecDepth 100000 in
set_option maxHeartbeats 4000000 in
theorem lawVotesFor {A : Option Addr} {l : List Int} {c : Nat} {w : World} (hC : CodeR w w.heap.size A l) (hc : l.length ≤ c) :
    Calls Try.prog 6 #[.slice A l.length c] w fun e w' => e = .returned (.bool true) ∧ Below w.heap.size w w' := by
  by_cases h : (1048576 : Int) < l.length
  · go_enter Try.func6, Try.ntmps6
    go_wp2
    go_ret
    exact ⟨rfl, Below.refl _ _⟩
  · go_enter Try.func6, Try.ntmps6
    go_wp2_with fail
    refine (DrawVotesFor_d hC hc).mono ?_
    rintro e w1 ⟨_, _, rfl, ⟨A2, c2, may, least, asked, rfl, hn, h1, h2, ho⟩, ⟨us, hun, huq, B2, d2, rfl, hou⟩, hB⟩
    have q0 := box_cell w1 #[.slice A2 may.length c2, .int .i64 least, .int .i64 asked] 25 0 (.slice A2 may.length c2) rfl
    have q1 := box_cell w1 #[.slice A2 may.length c2, .int .i64 least, .int .i64 asked] 25 1 (.int .i64 least) rfl
    have q2 := box_cell w1 #[.slice A2 may.length c2, .int .i64 least, .int .i64 asked] 25 2 (.int .i64 asked) rfl
    have hbl := below_alloc w1 (.cells #[.slice A2 may.length c2, .int .i64 least, .int .i64 asked] 25)
    have hU : ilR _ A2 may := (ilR.own rfl (by omega) ho).below hbl
    have hV : voR _ B2 us := (voR.own rfl (by omega) hou).below hbl
    obtain ⟨X, hX⟩ : ∃ X, X = w1.alloc (.cells #[.slice A2 may.length c2, .int .i64 least, .int .i64 asked] 25) := ⟨_, rfl⟩
    obtain ⟨g, hg⟩ : ∃ g, g = w1.heap.size := ⟨_, rfl⟩
    rw [← hX] at q0 q1 q2 hU hV hbl
    rw [← hg] at q0 q1 q2
    replace hB := ext_trans hB hbl
    have HX := Lib.hid hX
    have HG := Lib.hid hg
    have HWF := Lib.hid (VoQ.wf huq)
    obtain ⟨r, hr⟩ : ∃ x, x = ndFor may least asked us := ⟨_, rfl⟩
    have hrl : r.length ≤ may.length := by rw [hr]; exact ndFor_len _ _ _ _
    obtain ⟨h1_, h2_, h3_⟩ := ndFor_props may least asked us
    have HR := Lib.hid hr
    have H1 := Lib.hid h1_
    have H2 := Lib.hid h2_
    have H3 := Lib.hid h3_
    have HR4 : Hid (0 < us.length → us.length < 20 → ndFor may least asked (us ++ [(vo0 us (us.length - 1), vo1 us (us.length - 1))]) = r) := Lib.hid (fun h0 h20 => by rw [hr]; exact ndFor_again h0 h20)
    rw [← hr] at H1 H2 H3
    clear hX hg hbl ho hou huq hr h1_ h2_ h3_
    go_wp2_with fail
    rw [← HX.out, ← HG.out]
    refine (implVotesFor hU hV HWF.out).mono ?_
    rintro e w2 ⟨A5, c5, rfl, ho5, hBc⟩
    rw [← HR.out] at ho5 ⊢
    replace hB := ext_trans hB hBc
    replace q0 := below_cell hBc q0
    replace q1 := below_cell hBc q1
    replace q2 := below_cell hBc q2
    replace hU := hU.below hBc
    replace hV := hV.below hBc
    clear hBc
    go_wp2_with fail
    refine (specVotesFor hU hV).mono ?_
    rintro e w3 ⟨A6, c6, rfl, ho6, hBc⟩
    rw [← HR.out] at ho6 ⊢
    replace hB := ext_trans hB hBc
    replace q0 := below_cell hBc q0
    replace q1 := below_cell hBc q1
    replace q2 := below_cell hBc q2
    replace hU := hU.below hBc
    replace hV := hV.below hBc
    replace ho5 := own_below ho5 hBc
    have hX : ilR w3 A5 r := ilR.own rfl (by omega) ho5
    have hY : ilR w3 A6 r := ilR.own rfl (by omega) ho6
    clear hBc ho5 ho6
    go_wp2_with fail
    refine (sameInts_any hX hY).mono ?_
    rintro e w4 ⟨rfl, hBc⟩
    replace hB := ext_trans hB hBc
    replace hX := hX.below hBc
    replace q0 := below_cell hBc q0
    replace q1 := below_cell hBc q1
    replace q2 := below_cell hBc q2
    replace hU := hU.below hBc
    replace hV := hV.below hBc
    clear hBc
    clear hY
    rw [sameB_self]
    obtain ⟨W, hW⟩ : ∃ W, W = w4 := ⟨_, rfl⟩
    rw [← hW] at q0 q1 q2 hU hV hB hX
    have HW := Lib.hid hW
    have HB := Lib.hid hB
    have HXW := Lib.hid hX
    have HUW := Lib.hid hU
    have HVW := Lib.hid hV
    clear hW hB hU hV hX
    go_wp2
    go_loopw [6] (fun i wr => ∃ k : Nat, k ≤ r.length ∧ i = .int .i64 k ∧ Below W.heap.size W wr) (fun i _ => r.length - (intOf i).toNat)
    case atStart => exact ⟨0, Nat.zero_le _, rfl, by rw [HW.out]; exact Below.refl _ _⟩
    case round =>
      obtain ⟨k, hk, rfl, hC⟩ := hrel
      by_cases hlt : k < r.length
      · obtain ⟨wo, rfl⟩ : ∃ wo : World, wo = wr := ⟨_, rfl⟩
        have HC0 := Lib.hid hC
        clear hC
        go_wp2
        go_loopw [7, 8] (fun bv jv wr => ∃ (j : Nat) (b : Bool), j ≤ may.length ∧ jv = .int .i64 j ∧ bv = .bool b ∧ Hid (b = false → ∀ i, i < j → il0 may i ≠ il0 r k) ∧ Below W.heap.size W wr) (fun _ jv _ => may.length - (intOf jv).toNat)
        case atStart => exact ⟨0, false, Nat.zero_le _, rfl, rfl, Lib.hid (fun _ i h => by omega), HC0.out⟩
        case round =>
          obtain ⟨j, b1, hj, rfl, rfl, HI, hC⟩ := hrel
          obtain ⟨bx, ox, rfl, hcx⟩ := HXW.out.cells (by omega)
          have x0 := hcx k hlt
          have ex := cell_regrown (below_cell hC x0)
          by_cases hjt : j < may.length
          · obtain ⟨bm, om, rfl, hcm⟩ := HUW.out.cells (by omega)
            have m0 := hcm j hjt
            have em := cell_regrown (below_cell hC m0)
            have e0 := cell_regrown (below_cell hC q0)
            have f0 := below_cell hC q0
            clear m0 x0 hcx hcm
            cases b1
            · by_cases g1 : il0 may j = il0 r k
              · have g2 : (il0 may j == il0 r k) = true := by simp [g1]
                clear g1
                go_wp2
                refine wp_region_quiet_below (by kernel_rfl) (by kernel_rfl) ?_
                repeat (go_big_quiet_step (fail))
                refine wpQuiet_nil ?_
                intro w2 hw'regrown
                replace hC := ext_trans hC (below_of_regrown hw'regrown (Nat.le_refl _))
                clear hw'regrown ex em e0 f0
                go_wp2
                go_roundw
                case rel => exact ⟨j + 1, true, by omega, by go_num, rfl, Lib.hid (fun e => by cases e), hC⟩
                case measure => simp [intOf]; omega
              · have g2 : (il0 may j == il0 r k) = false := by simp [g1]
                have HI1 := Lib.hid (HI.out rfl)
                have G1 := Lib.hid g1
                clear g1
                go_wp2
                refine wp_region_quiet_below (by kernel_rfl) (by kernel_rfl) ?_
                repeat (go_big_quiet_step (fail))
                refine wpQuiet_nil ?_
                intro w2 hw'regrown
                replace hC := ext_trans hC (below_of_regrown hw'regrown (Nat.le_refl _))
                clear hw'regrown ex em e0 f0
                go_wp2
                go_roundw
                case rel => exact ⟨j + 1, false, by omega, by go_num, rfl, Lib.hid (fun _ => all_succ HI1.out G1.out), hC⟩
                case measure => simp [intOf]; omega
            · go_wp2
              refine wp_region_quiet_below (by kernel_rfl) (by kernel_rfl) ?_
              repeat (go_big_quiet_step (fail))
              refine wpQuiet_nil ?_
              intro w2 hw'regrown
              replace hC := ext_trans hC (below_of_regrown hw'regrown (Nat.le_refl _))
              clear hw'regrown ex em e0 f0
              go_wp2
              go_roundw
              case rel => exact ⟨j + 1, true, by omega, by go_num, rfl, Lib.hid (fun e => by cases e), hC⟩
              case measure => simp [intOf]; omega
          · obtain rfl : j = may.length := by omega
            have f0 := below_cell hC q0
            have e2 := cell_regrown (below_cell hC q2)
            cases b1
            · obtain ⟨i, hi, he⟩ := H1.out k hlt
              exact absurd he (HI.out rfl i hi)
            · have g1 : (il0 r k == asked) = false := by simp [H2.out k hlt]
              rcases Nat.eq_zero_or_pos k with hk0 | hk0
              · have g4 : decide (0 < k) = false := by simp; omega
                clear x0 hcx hk0
                go_wp2
                refine wp_region_quiet_below (by kernel_rfl) (by kernel_rfl) ?_
                repeat (go_big_quiet_step (fail))
                refine wpQuiet_nil ?_
                intro w2 hw'regrown
                replace hC := ext_trans hC (below_of_regrown hw'regrown (Nat.le_refl _))
                clear hw'regrown ex e2 f0
                go_wp2
                go_roundw
                case rel => exact ⟨k + 1, by omega, by go_num, hC⟩
                case measure => simp [intOf]; omega
              · have x1 := hcx (k - 1) (by omega)
                have ey := cell_regrown (below_cell hC x1)
                have g3 : decide (il0 r k ≤ il0 r (k - 1)) = false := by have := H3.out k hlt hk0; simp; omega
                have g4 : decide (0 < k) = true := by simp; omega
                clear x0 x1 hcx
                go_wp2
                refine wp_region_quiet_below (by kernel_rfl) (by kernel_rfl) ?_
                repeat (go_big_quiet_step (fail))
                refine wpQuiet_nil ?_
                intro w2 hw'regrown
                replace hC := ext_trans hC (below_of_regrown hw'regrown (Nat.le_refl _))
                clear hw'regrown ex ey e2 f0
                go_wp2
                go_roundw
                case rel => exact ⟨k + 1, by omega, by go_num, hC⟩
                case measure => simp [intOf]; omega
      · obtain rfl : k = r.length := by omega
        obtain ⟨W9, rfl⟩ : ∃ wo : World, wo = wr := ⟨_, rfl⟩
        replace q0 := below_cell hC q0
        replace q1 := below_cell hC q1
        replace q2 := below_cell hC q2
        have hX := HXW.out.below hC
        have hU := HUW.out.below hC
        have hV := HVW.out.below hC
        have hB := ext_trans HB.out hC
        clear HXW HUW HVW HB HW hC HR
        rcases Nat.eq_zero_or_pos us.length with h0 | h0
        · obtain rfl := List.eq_nil_of_length_eq_zero h0
          clear h0 HR4 hX hU hV q0 q1 q2
          go_wp2_with fail
          refine (alive_any _).mono ?_
          rintro e w11 ⟨rfl, hBc⟩
          replace hB := ext_trans hB hBc
          clear hBc
          go_wp2
          go_ret
          exact ⟨rfl, hB⟩
        by_cases h20 : 20 ≤ us.length
        · have hz : ((us.length : Int) == 0) = false := by simp only [beq_eq_false_iff_ne, ne_eq]; omega
          clear HR4 hX hU hV q0 q1 q2
          go_wp2_with fail
          refine (alive_any _).mono ?_
          rintro e w11 ⟨rfl, hBc⟩
          replace hB := ext_trans hB hBc
          clear hBc
          go_wp2
          go_ret
          exact ⟨rfl, hB⟩
        · have hz : ((us.length : Int) == 0) = false := by simp only [beq_eq_false_iff_ne, ne_eq]; omega
          have hr4 := HR4.out h0 (by omega)
          obtain ⟨us2, hus2⟩ : ∃ x, x = us ++ [(vo0 us (us.length - 1), vo1 us (us.length - 1))] := ⟨_, rfl⟩
          rw [← hus2] at hr4
          have hwf2 : WfV us2 := by
            rw [hus2]
            intro v hv
            rcases List.mem_append.1 hv with hv | hv
            · exact HWF.out v hv
            · rw [List.mem_singleton.1 hv, vo_elem (by omega)]; exact HWF.out _ (List.getElem_mem _)
          have HUSL := Lib.hid (show us2.length = us.length + 1 by rw [hus2]; simp)
          have HUS2 := Lib.hid hus2
          have HWF2 := Lib.hid hwf2
          clear HR4
          have HR4 := Lib.hid hr4
          obtain ⟨bv, ov, rfl, hcv⟩ := hV.cells h0
          obtain ⟨d0, d1⟩ := hcv (us.length - 1) (by omega)
          clear hus2 hwf2 hr4 hcv
          go_wp2_with fail
          have hi1 : (1 : Int) ≤ us.length := by omega
          have hi2 : (us.length : Int) - 1 < us.length := by omega
          refine wp_region_kinds (fun i wz vz => match i with | 0 => vz = .agg #[.slice A2 may.length c2, .int .i64 least, .int .i64 asked] | 1 => ∃ g, vz = .slice (some ⟨g, 0, none⟩) 0 0 | 2 => vz = .slice (some ⟨bv, ov, none⟩) us.length d2 | 3 => OwnA W9.heap.size 42 2 voEnc wz vz us | 4 => vz = .slice (some ⟨bv, ov, none⟩) us.length d2 | 5 => vz = .slice (some ⟨bv, ov, none⟩) us.length d2 | 6 => vz = .int .i64 us.length | 7 => vz = .int .i64 (us.length - 1) | 8 => vz = .pointer (some ⟨bv, ov + (us.length - 1) * 2, none⟩) | 9 => vz = .agg #[.int .i64 (vo0 us (us.length - 1)), .bool (vo1 us (us.length - 1))] | 10 => FrB W9.heap.size 42 1 #[.int .i64 (vo0 us (us.length - 1)), .bool (vo1 us (us.length - 1))] wz vz | 11 => OwnA W9.heap.size 42 2 voEnc wz vz us2 | 12 => OwnA W9.heap.size 3 1 ilEnc wz vz r | 13 => vz = .slice A5 r.length c5 | 14 => vz = .bool true | 15 => vz = .bool true | _ => True) (fun _ wz => Below W9.heap.size W9 wz) (fun i w w' => Below (if i = 11 then W9.heap.size else w.heap.size) w w') (fun j => match j with | 3 => some 11 | 10 => some 11 | _ => Option.none) (by kernel_rfl) (by kernel_rfl) (by kernel_rfl) ?stab19 (ext_drew (Below.refl _ _)) ?all19 ?fin19
          case stab19 =>
            intro i j wa wb v hR hk hne hd _ hT
            match j, hk, hne, hd, hT with
            | 0, hk, hne, hd, hT => exact hT
            | 1, hk, hne, hd, hT => exact hT
            | 2, hk, hne, hd, hT => exact hT
            | 3, hk, hne, hd, hT => exact OwnA.below hT (rel_un (fun e => hk (by subst e; rfl)) hR)
            | 4, hk, hne, hd, hT => exact hT
            | 5, hk, hne, hd, hT => exact hT
            | 6, hk, hne, hd, hT => exact hT
            | 7, hk, hne, hd, hT => exact hT
            | 8, hk, hne, hd, hT => exact hT
            | 9, hk, hne, hd, hT => exact hT
            | 10, hk, hne, hd, hT => exact FrB.below hT (rel_un (fun e => hk (by subst e; rfl)) hR)
            | 11, hk, hne, hd, hT => exact OwnA.below hT (rel_un (fun e => hne e.symm) hR)
            | 12, hk, hne, hd, hT => exact OwnA.below hT (rel_un (fun e => by subst e; exact Bool.noConfusion (hd.symm.trans (show depB _ 12 11 = true from by kernel_rfl))) hR)
            | 13, hk, hne, hd, hT => exact hT
            | 14, hk, hne, hd, hT => exact hT
            | 15, hk, hne, hd, hT => exact hT
            | n + 16, _, _, _, _ => trivial
          case all19 =>
            refine RAll.cons rfl ?_ (RAll.cons rfl ?_ (RAll.cons rfl ?_ (RAll.cons rfl ?_ (RAll.cons rfl ?_ (RAll.cons rfl ?_ (RAll.cons rfl ?_ (RAll.cons rfl ?_ (RAll.cons rfl ?_ (RAll.cons rfl ?_ (RAll.cons rfl ?_ (RAll.cons rfl ?_ (RAll.cons rfl ?_ (RAll.cons rfl ?_ (RAll.cons rfl ?_ (RAll.cons rfl ?_ (RAll.none_))))))))))))))))
            · intro a k wa K Q _ hI hp hK
              have e3 := tmp_of (show a.eval (.tmp 3) = .pointer (some ⟨g, 0, none⟩) from hp.keep 3 (by kernel_rfl))
              have q0_ := below_cell hI q0
              have q1_ := below_cell hI q1
              have q2_ := below_cell hI q2
              go_simp
              exact hK _ _ rfl (Below.refl _ _) hI
            · intro a k wa K Q _ hI hp hK
              go_simp
              exact hK _ _ ⟨_, rfl⟩ (rel_ne (by decide) (below_alloc _ _)) (ext_alloc hI _)
            · intro a k wa K Q _ hI hp hK
              exact op_move _ (.inl rfl) (hK _ _ (hp.keep 4 (by kernel_rfl)) (Below.refl _ _) hI)
            · intro a k wa K Q _ hI hp hK
              have t89 : ∃ g, (a.eval (.tmp 89)) = .slice (some ⟨g, 0, none⟩) 0 0 := hp.dep 1 89 (by kernel_rfl)
              have e90 := tmp_of (show a.eval (.tmp 90) = .slice (some ⟨bv, ov, none⟩) us.length d2 from hp.dep 2 90 (by kernel_rfl))
              obtain ⟨g9, e89⟩ := t89
              refine op_append_fresh (enc := voEnc) (l := us) (.tmp 89) (.tmp 90) 35 42 _ 2 16 rfl Try.underlying35 Try.infoVote rfl (by decide) (fun _ => rfl) e89 (hp.dep 2 90 (by kernel_rfl)) (hV.below hI) h0 (by omega) (by omega) ?_
              intro v' wb ho' hb
              exact hK _ _ (ho'.lower hI.size) (rel_ne (by decide) hb) (ext_trans hI hb)
            · intro a k wa K Q _ hI hp hK
              exact op_move _ (.inl rfl) (hK _ _ (hp.keep 4 (by kernel_rfl)) (Below.refl _ _) hI)
            · intro a k wa K Q _ hI hp hK
              exact op_move _ (.inl rfl) (hK _ _ (hp.keep 4 (by kernel_rfl)) (Below.refl _ _) hI)
            · intro a k wa K Q _ hI hp hK
              have e93 := tmp_of (show a.eval (.tmp 93) = .slice (some ⟨bv, ov, none⟩) us.length d2 from hp.dep 5 93 (by kernel_rfl))
              go_simp
              exact hK _ _ (rfl) (Below.refl _ _) hI
            · intro a k wa K Q _ hI hp hK
              have e94 := tmp_of (show a.eval (.tmp 94) = .int .i64 us.length from hp.dep 6 94 (by kernel_rfl))
              go_simp
              exact hK _ _ (show Value.int .i64 (IntKind.i64.wrap (us.length - 1)) = .int .i64 (us.length - 1) by rw [IntWalk.i64_in _ (by omega)]) (Below.refl _ _) hI
            · intro a k wa K Q _ hI hp hK
              have e92 := tmp_of (show a.eval (.tmp 92) = .slice (some ⟨bv, ov, none⟩) us.length d2 from hp.dep 4 92 (by kernel_rfl))
              have e95 := tmp_of (show a.eval (.tmp 95) = .int .i64 (us.length - 1) from hp.dep 7 95 (by kernel_rfl))
              go_simp
              exact hK _ _ (rfl) (Below.refl _ _) hI
            · intro a k wa K Q _ hI hp hK
              have e96 := tmp_of (show a.eval (.tmp 96) = .pointer (some ⟨bv, ov + (us.length - 1) * 2, none⟩) from hp.dep 8 96 (by kernel_rfl))
              have d0_ := below_cell hI d0
              have d1_ := below_cell hI d1
              go_simp
              exact hK _ _ rfl (Below.refl _ _) hI
            · intro a k wa K Q _ hI hp hK
              have e97 := tmp_of (show a.eval (.tmp 97) = .agg #[.int .i64 (vo0 us (us.length - 1)), .bool (vo1 us (us.length - 1))] from hp.dep 9 97 (by kernel_rfl))
              go_simp
              exact hK _ _ ⟨_, rfl, hI.size, heap_alloc_new _ _⟩ (rel_ne (by decide) (below_alloc _ _)) (ext_alloc hI _)
            · intro a k wa K Q _ hI hp hK
              have t91 : OwnA W9.heap.size 42 2 voEnc wa (a.eval (.tmp 91)) us := hp.dep 3 91 (by kernel_rfl)
              have t98 : FrB W9.heap.size 42 1 #[.int .i64 (vo0 us (us.length - 1)), .bool (vo1 us (us.length - 1))] wa (a.eval (.tmp 98)) := hp.dep 10 98 (by kernel_rfl)
              obtain ⟨A9, c9, e91, ho9⟩ := t91
              obtain ⟨g8, e98, hB8, hg8⟩ := t98
              refine op_append_rd (enc := voEnc) (l := [(vo0 us (us.length - 1), vo1 us (us.length - 1))]) (.tmp 91) (.tmp 98) W9.heap.size 35 42 _ 2 16 rfl Try.underlying35 Try.infoVote rfl (by decide) (fun _ => rfl) voEnc_one e91 ho9 e98 (rd_block (fun _ => rfl) hg8 rfl) (by simp; omega) (by simp; omega) hI.size ?_
              intro v' wb ho' hgr _
              have hb := grown_below hgr hI.size (fun k hk => (ho9.lt k hk).1)
              refine hK _ _ ?_ (rel_eq rfl hb) (hI.trans hb)
              have ho2 : wb.ownsRow W9.heap.size 42 2 v' us2.length (us2.flatMap voEnc) := by rw [HUS2.out]; simpa using ho'
              exact OwnA.of ho2
            · intro a k wa K Q _ hI hp hK
              have e88 := tmp_of (show a.eval (.tmp 88) = .agg #[.slice A2 may.length c2, .int .i64 least, .int .i64 asked] from hp.dep 0 88 (by kernel_rfl))
              have t99 : OwnA W9.heap.size 42 2 voEnc wa (a.eval (.tmp 99)) us2 := hp.dep 11 99 (by kernel_rfl)
              obtain ⟨A9, c9, e99, ho9⟩ := t99
              replace e99 := tmp_of e99
              go_simp
              refine (implVotesFor (hU.below hI) (voR.own rfl (by have := HUSL.out; omega) ho9) HWF2.out).mono ?_
              rintro e wb ⟨A8, c8, rfl, ho8, hb⟩
              rw [HR4.out] at ho8 ⊢
              exact hK _ _ ⟨A8, c8, rfl, own_lower ho8 hI.size⟩ (rel_ne (by decide) hb) (ext_trans hI hb)
            · intro a k wa K Q _ hI hp hK
              exact op_move _ (.inl rfl) (hK _ _ (hp.keep 5 (by kernel_rfl)) (Below.refl _ _) hI)
            · intro a k wa K Q _ hI hp hK
              have t100 : OwnA W9.heap.size 3 1 ilEnc wa (a.eval (.tmp 100)) r := hp.dep 12 100 (by kernel_rfl)
              have e101 := tmp_of (show a.eval (.tmp 101) = .slice A5 r.length c5 from hp.dep 13 101 (by kernel_rfl))
              obtain ⟨A8, c8, e100, ho8⟩ := t100
              replace e100 := tmp_of e100
              go_simp
              refine (sameInts_any (ilR.own rfl (by omega) ho8) (hX.below hI)).mono ?_
              rintro e wb ⟨rfl, hb⟩
              rw [sameB_self]
              exact hK _ _ rfl (rel_ne (by decide) hb) (ext_trans hI hb)
            · intro a k wa K Q _ hI hp hK
              exact op_move _ (.inr rfl) (hK _ _ (hp.dep 14 102 (by kernel_rfl)) (Below.refl _ _) hI)
          case fin19 =>
            intro f w19 hT hI0
            have hI : Below W9.heap.size W9 w19 := hI0
            have hr15 : (f 15) = .bool true := hT 15 (by decide) rfl rfl
            clear hT hI0
            simp only [putAll, hr15]
            go_simp
            go_wp2
            go_ret
            exact ⟨rfl, ext_trans hB hI⟩
end Go.Proofs.Ytbkjolbgnkpjpaa

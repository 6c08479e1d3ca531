/- Rules that never decide: by the reference. -/
import Derived.Test.YtpmelhkhmichcaaDoorDeA
import Derived.Test.YtpmelhkhmichcaaDoorFrB
namespace Go.Proofs.YtpmelhkhmichcaaDoor
set_option linter.unusedSimpArgs false
set_option linter.unusedVariables false
open Go.RowKit

/-- Covered by the first j before. -/
def covJ (l : RuL) (k d j : Nat) : Bool := !bitB (ru1 l k) d || (List.range j).any (covD l k d)
theorem covJ_succ (l : RuL) (k d j : Nat) : covJ l k d (j + 1) = (covJ l k d j || covD l k d j) := by
  rw [covJ, covJ, List.range_succ, List.any_append]
  simp [Bool.or_assoc]
def deadJ (l : RuL) (k d : Nat) : Bool := (List.range d).all (covA l k)
theorem deadJ_succ (l : RuL) (k d : Nat) : deadJ l k (d + 1) = (deadJ l k d && covA l k d) := by
  rw [deadJ, deadJ, List.range_succ, List.all_append]
  simp
theorem deV_zero {l : RuL} (h : l.length = 0) : deV l = deadL l 0 := by
  have : l = [] := List.length_eq_zero_iff.1 h
  subst this; rfl
set_option maxRecDepth 100000 in
set_option maxHeartbeats 8000000 in
theorem specDeadRules {A : Option Addr} {l : RuL} {c : Nat} {w : World} (hU : ruR w A l) (hf : FewP l) :
    Calls Tryd.prog 37 #[.slice A l.length c] w fun e w' => ∃ v, e = .returned v ∧ OwnA w.heap.size 3 1 ilEnc w' v (deV l) ∧ Below w.heap.size w w' := by
  have hlen := hU.len
  go_enter Tryd.func37, Tryd.ntmps37
  go_wp2
  go_loopw [3, 4, 5, 6, 7, 8] (fun ov kv _ _ _ _ wr => ∃ k : Nat, k ≤ l.length ∧ kv = .int .i64 k ∧ Hid (k = 0 ∨ ruOk l = true) ∧ OwnA w.heap.size 3 1 ilEnc wr ov (deadL l k) ∧ Below w.heap.size w wr) (fun _ kv _ _ _ _ _ => l.length - (intOf kv).toNat)
  case atStart => exact ⟨0, Nat.zero_le _, rfl, Lib.hid (.inl rfl), OwnA.empty (Nat.le_refl _), by (repeat (first | exact Below.refl _ _ | refine ext_alloc ?_ _ | refine Below.setCell ?_ (by simp) _))⟩
  case round =>
    obtain ⟨k, hk, rfl, HK0, hO, hB⟩ := hrel
    by_cases hlt : k < l.length
    · cases hok : ruOk l
      · have HD : Hid (deV l = []) := Lib.hid (by rw [deV, hok]; rfl)
        have hk0 : k = 0 := HK0.out.resolve_right (by rw [hok]; simp)
        subst hk0
        go_wp2_with fail
        refine (specRulesValid_v hok (hU.below hB) hf).mono ?_
        rintro e w1 ⟨rfl, hb⟩
        replace hO := hO.below hb
        replace hB := ext_trans hB hb
        clear hb
        have HO := Lib.hid hO
        clear hO
        go_wp2
        go_ret
        exact ⟨_, rfl, by rw [HD.out]; exact HO.out, hB⟩
      · have HOK := Lib.hid hok
        have h8 := ruOk_len hok
        have hk1 := ruOk_acts hok k hlt
        have hsk := hf k hlt
        go_wp2_with fail
        refine (specRulesValid_v hok (hU.below hB) hf).mono ?_
        rintro e w1 ⟨rfl, hb⟩
        replace hO := hO.below hb
        replace hB := ext_trans hB hb
        clear hb
        obtain ⟨b, off, rfl, hc⟩ := hU.cells (by omega)
        have HC := Lib.hid hc
        have HB := Lib.hid hB
        have HO := Lib.hid hO
        clear hc hO hB hok
        go_wp2
        go_loopw [5, 6, 7, 8] (fun dv av _ _ wi => ∃ d : Nat, d ≤ 4 ∧ av = .int .i64 d ∧ dv = .bool (deadJ l k d) ∧ Below w1.heap.size w1 wi) (fun _ av _ _ _ => 4 - (intOf av).toNat)
        case atStart => exact ⟨0, by omega, rfl, rfl, Below.refl _ _⟩
        case round =>
          obtain ⟨d, hd, rfl, rfl, hI⟩ := hrel
          by_cases hd4 : d < 4
          · obtain ⟨_, c1, _⟩ := HC.out k hlt
            replace c1 := below_cell (ext_trans HB.out hI) c1
            have HI := Lib.hid hI
            clear hI
            go_wp2_with fail
            refine (l12Act_any _ (by omega) (by omega) (by omega) (by omega)).mono ?_
            rintro e w3 ⟨rfl, hb⟩
            have HI3 := Lib.hid (ext_trans HI.out hb)
            clear hb c1
            go_wp2
            go_loopw [7, 8] (fun cv jv wj => ∃ j : Nat, j ≤ k ∧ jv = .int .i64 j ∧ cv = .bool (covJ l k d j) ∧ Below w3.heap.size w3 wj) (fun _ jv _ => k - (intOf jv).toNat)
            case atStart => exact ⟨0, by omega, rfl, by rw [covJ]; simp, Below.refl _ _⟩
            case round =>
              obtain ⟨j, hj, rfl, rfl, hJ⟩ := hrel
              by_cases hjk : j < k
              · have hIW := ext_trans HB.out (ext_trans HI3.out hJ)
                obtain ⟨d0, d1, _⟩ := HC.out j (by omega)
                replace d0 := cell_regrown (below_cell hIW d0)
                replace d1 := cell_regrown (below_cell hIW d1)
                obtain ⟨e0, _, _⟩ := HC.out k hlt
                replace e0 := cell_regrown (below_cell hIW e0)
                have hj1 := ruOk_acts HOK.out j (by omega)
                have hsj := hf j (by omega)
                have HS := Lib.hid (covJ_succ l k d j)
                obtain ⟨q, hq⟩ : ∃ q, covJ l k d j = q := ⟨_, rfl⟩
                obtain ⟨x, hx⟩ : ∃ x, bitB (ru1 l j) d = x := ⟨_, rfl⟩
                obtain ⟨p, hp⟩ : ∃ p, pcB (ru0 l j) (ru0 l k) = p := ⟨_, rfl⟩
                have HE := Lib.hid (show covD l k d j = (x && p) by rw [covD, hx, hp])
                have HQ := Lib.hid hq
                have HX := Lib.hid hx
                have HP := Lib.hid hp
                rw [hq]
                clear hx hp hq hIW
                have HJ := Lib.hid hJ
                clear hJ
                cases q <;> cases x <;> cases p
                all_goals
                  go_wp2
                  refine wp_region_quiet_below (by kernel_rfl) (by kernel_rfl) ?_
                  repeat (go_big_quiet_step (first | (go_at_call 64; (with_reducible exact Calls.regrown_of (l12Act_v HX.out _ (by omega) (by omega) (by omega) (by omega)))) | (go_at_call 74; (with_reducible exact Calls.regrown_of (specPatternCovers_v HP.out (by omega) (by omega) _)))))
                  refine wpQuiet_nil ?_
                  intro w2 hw'regrown
                  have hJ := ext_trans HJ.out (below_of_regrown hw'regrown (Nat.le_refl _))
                  clear hw'regrown
                  go_wp2
                  go_roundw
                  case rel => exact ⟨j + 1, by omega, by go_num, by rw [HS.out, HQ.out, HE.out]; rfl, hJ⟩
                  case measure => simp [intOf]; omega
              · obtain rfl : j = k := by omega
                have HS := Lib.hid (deadJ_succ l j d)
                have HCA : Hid (covA l j d = covJ l j d j) := Lib.hid rfl
                have hI := ext_trans HI3.out hJ
                clear hJ
                obtain ⟨q, hq⟩ : ∃ q, deadJ l j d = q := ⟨_, rfl⟩
                have HQ := Lib.hid hq
                rw [hq]
                clear hq
                cases q
                all_goals
                  go_wp2
                  go_roundw
                  case rel => exact ⟨d + 1, by omega, by go_num, by rw [HS.out, HCA.out, HQ.out]; rfl, hI⟩
                  case measure => simp [intOf]; omega
          · obtain rfl : d = 4 := by omega
            have hB := ext_trans HB.out hI
            have hO := HO.out.below hI
            have HDB : Hid (deadB l k = deadJ l k 4) := Lib.hid rfl
            obtain ⟨q, hq⟩ : ∃ q, deadJ l k 4 = q := ⟨_, rfl⟩
            have HQ := Lib.hid hq
            rw [hq]
            clear hI hq
            cases q
            · have HS := Lib.hid (show deadL l (k + 1) = deadL l k by rw [deadL_succ, HDB.out, HQ.out]; rfl)
              have HO1 := Lib.hid hO
              clear hO
              go_wp2
              go_roundw
              case rel => exact ⟨k + 1, by omega, by go_num, Lib.hid (.inr (by first | exact HOK.out | trivial)), by rw [HS.out]; exact HO1.out, hB⟩
              case measure => simp [intOf]; omega
            · have HS := Lib.hid (show deadL l (k + 1) = deadL l k ++ [(k : Int)] by rw [deadL_succ, HDB.out, HQ.out]; rfl)
              have hle := deadL_len l k
              go_wp2_with (at_builtin; go_must (refine wpList_push (enc := ilEnc) ((k : Int)) rfl (.tmp 65) (.tmp 67) 46 3 _ 1 8 rfl Tryd.underlying46 Tryd.infoInt rfl (by decide) (fun _ => rfl) ilEnc_one (hO.below (by (repeat (first | exact Below.refl _ _ | refine ext_alloc ?_ _ | refine Below.setCell ?_ (by simp) _)))) rfl (heap_alloc_at (by simp)) (by rfl) (by omega) (by omega) (Nat.le_trans hB.size (show Below _ _ _ by (repeat (first | exact Below.refl _ _ | refine ext_alloc ?_ _ | refine Below.setCell ?_ (by simp) _))).size) ?_); intro v_ wq1 ho_ hb_ hg_)
              replace hB := (ext_trans hB (by (repeat (first | exact Below.refl _ _ | refine ext_alloc ?_ _ | refine Below.setCell ?_ (by simp) _)))).trans hb_
              replace hO := ho_
              clear ho_ hb_ hg_
              go_wp2
              go_roundw
              case rel => exact ⟨k + 1, by omega, by go_num, Lib.hid (.inr (by first | exact HOK.out | trivial)), by rw [HS.out]; exact hO, hB⟩
              case measure => simp [intOf]; omega
    · obtain rfl : k = l.length := by omega
      have HO := Lib.hid hO
      have HD : Hid (deV l = deadL l l.length) := by
        rcases HK0.out with h | h
        · exact Lib.hid (by rw [deV_zero h, h])
        · exact Lib.hid (by rw [deV, h]; rfl)
      clear hO
      go_wp2
      go_ret
      exact ⟨_, rfl, by rw [HD.out]; exact HO.out, hB⟩
end Go.Proofs.YtpmelhkhmichcaaDoor

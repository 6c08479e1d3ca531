/- Guards that are added, by the reference: whether a request is asked for, what must be there. -/
import Derived.Test.YtodjokdaofefdaaGreatQ8
import Derived.Test.YtodjokdaofefdaaGreatQ4
import Derived.Test.YtodjokdaofefdaaGreatQ1
namespace Go.Proofs.YtodjokdaofefdaaGreat
set_option linter.unusedSimpArgs false
set_option linter.unusedVariables false
open Go.RowKit

def AsQ (d : Nat) : Prop := ∀ (A : Option Addr) (r : Ex) (c : Nat) (w : World), exW d w A r.ps → 
  Calls Tryz.prog 35 #[.agg #[.int .i64 r.k, .int .i64 r.n, .string r.s, .slice A r.ps.length c]] w fun e w' => e = .returned (.bool (asB (d + 1) r)) ∧ Below w.heap.size w w'
theorem as_yes {d : Nat} {r : Ex} {k : Nat} (hk : k < r.ps.length) (h : asB d (exAt r.ps k) = true) : asB (d + 1) r = true := by
  rw [asB, Bool.or_eq_true, List.any_eq_true]
  exact .inl ⟨_, List.getElem_mem hk, by rw [← exAt_eq hk]; exact h⟩
theorem as_no {d : Nat} {r : Ex} (h : ∀ k, k < r.ps.length → asB d (exAt r.ps k) = false) : asB (d + 1) r = decide (r.k = 7) := by
  have : r.ps.any (asB d) = false := by
    rw [List.any_eq_false]
    intro x hx
    obtain ⟨k, hk, rfl⟩ := List.getElem_of_mem hx
    have := h k hk
    rw [exAt_eq hk] at this
    rw [this]; simp
  rw [asB, this]; simp
set_option maxRecDepth 100000 in
set_option maxHeartbeats 4000000 in
theorem asQ_of {d : Nat} (hQ : ∀ m, d = m + 1 → AsQ m) : AsQ d := by
  intro A r c w hU
  have hlen := exS.len hU
  have HQ := Lib.hid hQ
  clear hQ
  obtain ⟨W, hW⟩ : ∃ W, W = w.alloc (.cells #[.int .i64 r.k, .int .i64 r.n, .string r.s, .slice A r.ps.length c] 36) := ⟨_, rfl⟩
  obtain ⟨gx, hgx⟩ : ∃ g, g = w.heap.size := ⟨_, rfl⟩
  have hBW : Below w.heap.size w W := by rw [hW]; (repeat (first | exact Below.refl _ _ | refine ext_alloc ?_ _ | refine Below.setCell ?_ (by simp) _))
  have b0 : W.cell? ⟨gx, 0, none⟩ = some (.int .i64 r.k) := by rw [hW, hgx]; exact box_cell w _ _ 0 _ rfl
  have b3 : W.cell? ⟨gx, 3, none⟩ = some (.slice A r.ps.length c) := by rw [hW, hgx]; exact box_cell w _ _ 3 _ rfl
  have hUW := hU.below hBW
  have HW := Lib.hid hW
  have HGX := Lib.hid hgx
  have HBW := Lib.hid hBW
  have HB0 := Lib.hid b0
  have HB3 := Lib.hid b3
  clear hW hgx hBW hU b0 b3
  go_enter Tryz.func35, Tryz.ntmps35
  go_wp2
  rw [← HW.out, ← HGX.out]
  go_loopw [3] (fun i wr => ∃ k : Nat, k ≤ r.ps.length ∧ i = .int .i64 k ∧ Hid (∀ j, j < k → asB d (exAt r.ps j) = false) ∧ Below W.heap.size W wr) (fun i _ => r.ps.length - (intOf i).toNat)
  case atStart => exact ⟨0, Nat.zero_le _, rfl, Lib.hid (fun j h => by omega), Below.refl _ _⟩
  case round =>
    obtain ⟨k, hk, rfl, HA, hB⟩ := hrel
    have b0 := below_cell hB HB0.out
    have b3 := below_cell hB HB3.out
    by_cases hlt : k < r.ps.length
    · have hd : ∃ m, d = m + 1 := by
        cases d with
        | zero => have := exS.zero hUW; rw [this] at hlt; simp at hlt
        | succ m => exact ⟨m, rfl⟩
      obtain ⟨m, hm⟩ := hd
      subst hm
      have HQ1 := Lib.hid (HQ.out m rfl)
      obtain ⟨b, off, rfl, hc⟩ := hUW.cells (by omega)
      obtain ⟨A1, c1, hfd, hs1, p0, p1, p2, p3⟩ := hc k hlt
      replace p0 := below_cell hB p0
      replace p1 := below_cell hB p1
      replace p2 := below_cell hB p2
      replace p3 := below_cell hB p3
      replace hfd := hfd.below hB
      clear hc
      obtain ⟨y, hy⟩ : ∃ y, asB (m + 1) (exAt r.ps k) = y := ⟨_, rfl⟩
      have HY := Lib.hid hy
      clear hy
      cases y
      all_goals
        go_wp2_with fail
        refine (HQ1.out _ _ _ _ hfd).mono ?_
        rintro e w4 ⟨rfl, hb⟩
        rw [HY.out]
        replace hB := ext_trans hB hb
        clear hb p0 p1 p2 p3 b0 b3
        go_wp2
      · go_roundw
        case rel => exact ⟨k + 1, by omega, by go_num, Lib.hid (all_succ HA.out HY.out), hB⟩
        case measure => simp [intOf]; omega
      · go_ret
        exact ⟨by rw [as_yes hlt HY.out]; rfl, ext_trans HBW.out hB⟩
    · obtain rfl : k = r.ps.length := by omega
      go_wp2
      go_ret
      exact ⟨by rw [as_no HA.out]; first | rfl | (apply ret_bool; simp), ext_trans HBW.out hB⟩
theorem asQ_all : ∀ d, AsQ d
  | 0 => asQ_of (fun m h => by cases h)
  | d + 1 => asQ_of (fun m h => by cases h; exact asQ_all d)
def FiQ (d D : Nat) : Prop := ∀ (A Ak : Option Addr) (r : Ex) (kl : ExL) (c ck : Nat) (w : World), exW d w A r.ps → r.s.size ≤ 9223372036854775807 → exW D w Ak kl → d + 1 ≤ D → kl.length + 1 + cntR (d + 1) r ≤ 1048576 →
  Calls Tryz.prog 36 #[.agg #[.int .i64 r.k, .int .i64 r.n, .string r.s, .slice A r.ps.length c], .slice Ak kl.length ck] w fun e w' => ∃ A' c', e = .returned (.slice A' (fiS (d + 1) r kl).length c') ∧ exW D w' A' (fiS (d + 1) r kl) ∧ Below w.heap.size w w'
set_option maxRecDepth 100000 in
set_option maxHeartbeats 8000000 in
theorem fiQ_of {d D : Nat} (hQ : ∀ m, d = m + 1 → FiQ m D) : FiQ d D := by
  intro A Ak r kl c ck w hU hs hK0 hD hn
  have hlen := exS.len hU
  have HQ := Lib.hid hQ
  have HN := Lib.hid hn
  have HFL := Lib.hid (fi_len (d + 1) r kl)
  clear hQ hn
  obtain ⟨W, hW⟩ : ∃ W, W = w.alloc (.cells #[.int .i64 r.k, .int .i64 r.n, .string r.s, .slice A r.ps.length c] 36) := ⟨_, rfl⟩
  obtain ⟨gx, hgx⟩ : ∃ g, g = w.heap.size := ⟨_, rfl⟩
  have hBW : Below w.heap.size w W := by rw [hW]; (repeat (first | exact Below.refl _ _ | refine ext_alloc ?_ _ | refine Below.setCell ?_ (by simp) _))
  have b0 : W.cell? ⟨gx, 0, none⟩ = some (.int .i64 r.k) := by rw [hW, hgx]; exact box_cell w _ _ 0 _ rfl
  have b2 : W.cell? ⟨gx, 2, none⟩ = some (.string r.s) := by rw [hW, hgx]; exact box_cell w _ _ 2 _ rfl
  have b3 : W.cell? ⟨gx, 3, none⟩ = some (.slice A r.ps.length c) := by rw [hW, hgx]; exact box_cell w _ _ 3 _ rfl
  have hUW := hU.below hBW
  have hKW := hK0.below hBW
  have HW := Lib.hid hW
  have HGX := Lib.hid hgx
  have HBW := Lib.hid hBW
  have HB0 := Lib.hid b0
  have HB2 := Lib.hid b2
  have HB3 := Lib.hid b3
  clear hW hgx hBW hU hK0 b0 b2 b3
  go_enter Tryz.func36, Tryz.ntmps36
  go_wp2
  rw [← HW.out, ← HGX.out]
  go_loopw [1, 5] (fun kv i wr => ∃ k : Nat, k ≤ r.ps.length ∧ i = .int .i64 k ∧ KnV D (fiF d r.ps kl k) wr kv ∧ Below W.heap.size W wr) (fun _ i _ => r.ps.length - (intOf i).toNat)
  case atStart => exact ⟨0, Nat.zero_le _, rfl, ⟨Ak, ck, rfl, hKW⟩, Below.refl _ _⟩
  case round =>
    clear hKW
    obtain ⟨k, hk, rfl, ⟨A5, c5, rfl, hk5⟩, hB⟩ := hrel
    have b3 := below_cell hB HB3.out
    by_cases hlt : k < r.ps.length
    · have hd : ∃ m, d = m + 1 := by
        cases d with
        | zero => have := exS.zero hUW; rw [this] at hlt; simp at hlt
        | succ m => exact ⟨m, rfl⟩
      obtain ⟨m, hm⟩ := hd
      subst hm
      have HQ1 := Lib.hid (HQ.out m rfl)
      have hstep := fiF_succ (d := m + 1) (l := kl) hlt
      have hfl := fiF_len (d := m + 1) (t := r) (l := kl) hlt
      have HC := Lib.hid (Nat.le_trans hfl HN.out)
      obtain ⟨K1, hK1⟩ : ∃ K, K = fiF (m + 1) r.ps kl k := ⟨_, rfl⟩
      rw [← hK1] at hstep HC hk5 ⊢
      have HS := Lib.hid hstep
      obtain ⟨b, off, rfl, hc⟩ := hUW.cells (by omega)
      obtain ⟨A1, c1, hfd, hs1, p0, p1, p2, p3⟩ := hc k hlt
      replace p0 := below_cell hB p0
      replace p1 := below_cell hB p1
      replace p2 := below_cell hB p2
      replace p3 := below_cell hB p3
      replace hfd := hfd.below hB
      clear hc hstep hfl hK1
      go_wp2_with fail
      refine (HQ1.out _ _ _ K1 c1 c5 _ hfd hs1 hk5 (by omega) HC.out).mono ?_
      rw [← HS.out]
      rintro e w4 ⟨A6, c6, rfl, hk6, hb⟩
      replace hB := ext_trans hB hb
      clear hb p0 p1 p2 p3 b3 hk5
      go_wp2
      go_roundw
      case rel => exact ⟨k + 1, by omega, by go_num, ⟨A6, c6, rfl, hk6⟩, hB⟩
      case measure => simp [intOf]; omega
    · obtain rfl : k = r.ps.length := by omega
      obtain ⟨K1, hK1⟩ : ∃ K, K = fiF d r.ps kl r.ps.length := ⟨_, rfl⟩
      have HR : Hid (fiS (d + 1) r kl = addS r K1) := Lib.hid (by rw [fiS, hK1, fiF_all])
      rw [← hK1] at hk5 ⊢
      clear hK1
      have b0 := below_cell hB HB0.out
      have b2 := below_cell hB HB2.out
      have HKL := Lib.hid (show (addS r K1).length ≤ 1048576 by rw [← HR.out]; have := HFL.out; have := HN.out; omega)
      have hD2 : ∃ D', D = D' + 1 := ⟨D - 1, by omega⟩
      obtain ⟨D', hD'⟩ := hD2
      subst hD'
      obtain ⟨Y, hY⟩ : ∃ Y, Y = wr.alloc (.cells #[.int .i64 9, .int .i64 0, .string r.s, .slice A r.ps.length c] 36) := ⟨_, rfl⟩
      obtain ⟨gy, hgy⟩ : ∃ g, g = wr.heap.size := ⟨_, rfl⟩
      have hbY : Below wr.heap.size wr Y := by rw [hY]; (repeat (first | exact Below.refl _ _ | refine ext_alloc ?_ _ | refine Below.setCell ?_ (by simp) _))
      have y0 : Y.cell? ⟨gy, 0, none⟩ = some (.int .i64 9) := by rw [hY, hgy]; exact box_cell _ _ _ 0 _ rfl
      have y1 : Y.cell? ⟨gy, 1, none⟩ = some (.int .i64 0) := by rw [hY, hgy]; exact box_cell _ _ _ 1 _ rfl
      have y2 : Y.cell? ⟨gy, 2, none⟩ = some (.string r.s) := by rw [hY, hgy]; exact box_cell _ _ _ 2 _ rfl
      have y3 : Y.cell? ⟨gy, 3, none⟩ = some (.slice A r.ps.length c) := by rw [hY, hgy]; exact box_cell _ _ _ 3 _ rfl
      have a0 : (wr.alloc (.cells #[.int .i64 9, .int .i64 0, .string r.s, .slice A r.ps.length c] 36)).cell? ⟨gx, 0, none⟩ = some (.int .i64 r.k) := by rw [← hY]; exact below_cell hbY b0
      have hk6 := hk5.below hbY
      have hU6 := (hUW.below hB).below hbY
      have hB6 := ext_trans hB hbY
      have HY := Lib.hid hY
      have HGY := Lib.hid hgy
      have HK6 := Lib.hid hk6
      have HU6 := Lib.hid hU6
      clear hY hgy hk6 hU6 hbY hlt
      by_cases h8 : r.k = 8
      · have e8 : (r.k == 8) = true := by simp [h8]
        obtain ⟨y, hy⟩ : ∃ y, hasB K1 (asHas0 r) = y := ⟨_, rfl⟩
        have hcon : Calls Tryz.prog 64 #[.slice A5 K1.length c5, .agg #[.int .i64 9, .int .i64 0, .string r.s, .slice A r.ps.length c]] Y fun e w' => e = .returned (.bool y) ∧ Below Y.heap.size Y w' := by
          have h := specHas_any (D := D') (l := K1) (r := asHas0 r) (A := A5) (A' := A) (c := c5) (c' := c) (w := Y) HK6.out (exS.deeper HU6.out (by omega))
          rw [hy] at h
          exact h
        have HCON := Lib.hid hcon
        cases y
        · have HR2 : Hid (addS r K1 = K1 ++ [asHas0 r]) := Lib.hid (by rw [addS, if_pos ⟨h8, hy⟩])
          rw [HR2.out] at HKL
          clear hcon hy h8
          go_wp2_with fail
          rw [← HY.out, ← HGY.out]
          refine HCON.out.mono ?_
          rintro e w5 ⟨rfl, hb⟩
          replace hB := ext_trans hB6 hb
          replace y0 := below_cell hb y0
          replace y1 := below_cell hb y1
          replace y2 := below_cell hb y2
          replace y3 := below_cell hb y3
          have hK5 := HK6.out.below hb
          have hU5 := exS.deeper (HU6.out.below hb) (show d ≤ D' by omega)
          clear hb a0 b0 b2 b3
          go_wp2_with fail
          refine wp_region_kinds2 (fun i wz vz => match i with | 0 => FrB w5.heap.size 36 0 #[] wz vz | 1 => vz = .slice A5 K1.length c5 | 2 => OwnE (D' + 1) w5.heap.size w5.heap.size K1 wz vz | 3 => vz = .agg #[.int .i64 9, .int .i64 0, .string r.s, .slice A r.ps.length c] | 4 => FrB w5.heap.size 36 1 #[.int .i64 9, .int .i64 0, .string r.s, .slice A r.ps.length c] wz vz | 5 => OwnE (D' + 1) w5.heap.size w5.heap.size (K1 ++ [asHas0 r]) wz vz | 6 => OwnE (D' + 1) w5.heap.size w5.heap.size (K1 ++ [asHas0 r]) wz vz | _ => True) (fun _ wz => Below w5.heap.size w5 wz) (fun i w w' => Below (if i = 5 then w5.heap.size else w.heap.size) w w') (fun j => match j with | 0 => some 5 | 2 => some 5 | 4 => some 5 | _ => Option.none) (by kernel_rfl) (by kernel_rfl) (by kernel_rfl) ?stab7 (ext_drew (Below.refl _ _)) ?all7 ?fin7
          case stab7 =>
            intro i j wa wb v hR hk hne hd _ h2 hT
            match j, hk, hne, hd, h2, hT with
            | 0, hk, hne, hd, h2, hT => exact FrB.below hT (rel_un (fun e => hk (by subst e; rfl)) hR)
            | 1, hk, hne, hd, h2, hT => exact hT
            | 2, hk, hne, hd, h2, hT => exact OwnE.below hT (rel_un (fun e => hk (by subst e; rfl)) hR)
            | 3, hk, hne, hd, h2, hT => exact hT
            | 4, hk, hne, hd, h2, hT => exact FrB.below hT (rel_un (fun e => hk (by subst e; rfl)) hR)
            | 5, hk, hne, hd, h2, hT => exact OwnE.below hT (rel_un (fun e => hne e.symm) hR)
            | 6, hk, hne, hd, h2, hT => exact OwnE.below hT (rel_un (fun e => by subst e; exact Bool.noConfusion (hd.symm.trans (show depB _ 6 5 = true from by kernel_rfl))) hR)
            | n + 7, _, _, _, _, _ => trivial
          case all7 =>
            refine RAll.cons rfl ?_ (RAll.cons rfl ?_ (RAll.cons rfl ?_ (RAll.cons rfl ?_ (RAll.cons rfl ?_ (RAll.cons rfl ?_ (RAll.cons rfl ?_ (RAll.none_)))))))
            · intro a k wa K Q _ hI hp hK
              go_simp
              exact hK _ _ ⟨_, rfl, hI.size, heap_alloc_new _ _⟩ (rel_ne (by decide) (below_alloc _ _)) (ext_alloc hI _)
            · intro a k wa K Q _ hI hp hK
              exact op_move _ (.inl rfl) (hK _ _ (hp.keep 1 (by kernel_rfl)) (Below.refl _ _) hI)
            · intro a k wa K Q _ hI hp hK
              have t35 : FrB w5.heap.size 36 0 #[] wa (a.eval (.tmp 35)) := hp.dep 0 35 (by kernel_rfl)
              have e36 := tmp_of (show a.eval (.tmp 36) = .slice A5 K1.length c5 from hp.dep 1 36 (by kernel_rfl))
              refine op_append_emptyG (R := exR (D' + 1) 0 w5.heap.size) (l := K1) (B := w5.heap.size) (.tmp 35) (.tmp 36) 34 36 _ 4 56 rfl Tryz.underlying34 Tryz.infoExpr rfl (by decide) t35 (hp.dep 1 36 (by kernel_rfl)) (exS.below hK5 (Nat.le_refl _) hI).1 (fun w' hb a cs h => exR.below h hI.size hb) hI.size (by have := HKL.out; simp at this; omega) (by have := HKL.out; simp at this; omega) ?_
              intro v' wb ho' hb
              exact hK _ _ ⟨⟨Nat.le_trans hI.size hb.size, Nat.le_refl _⟩, ho'⟩ (rel_ne (by decide) hb) (ext_trans hI hb)
            · intro a k wa K Q _ hI hp hK
              have e6 := tmp_of (show a.eval (.tmp 6) = .pointer (some ⟨gy, 0, none⟩) from hp.keep 6 (by kernel_rfl))
              have y0_ := below_cell hI y0
              have y1_ := below_cell hI y1
              have y2_ := below_cell hI y2
              have y3_ := below_cell hI y3
              go_simp
              exact hK _ _ rfl (Below.refl _ _) hI
            · intro a k wa K Q _ hI hp hK
              have e38 := tmp_of (show a.eval (.tmp 38) = .agg #[.int .i64 9, .int .i64 0, .string r.s, .slice A r.ps.length c] from hp.dep 3 38 (by kernel_rfl))
              go_simp
              exact hK _ _ ⟨_, rfl, hI.size, heap_alloc_new _ _⟩ (rel_ne (by decide) (below_alloc _ _)) (ext_alloc hI _)
            · intro a k wa K Q _ hI hp hK
              have t37 : OwnE (D' + 1) w5.heap.size w5.heap.size K1 wa (a.eval (.tmp 37)) := hp.dep 2 37 (by kernel_rfl)
              have t39 : FrB w5.heap.size 36 1 #[.int .i64 9, .int .i64 0, .string r.s, .slice A r.ps.length c] wa (a.eval (.tmp 39)) := hp.dep 4 39 (by kernel_rfl)
              have hM := t37.2
              obtain ⟨A9, c9, e39, hr9⟩ := ((OwnE.one (t := asHas0 r) (exS.below hU5 (Nat.le_refl _) hI) hs (Nat.le_refl _) hI.size t39)).2.rd (by simp)
              refine op_appendG (R := exR (D' + 1) 0 w5.heap.size) (l := K1) (l2 := [asHas0 r]) (.tmp 37) (.tmp 39) 34 36 _ 4 56 rfl Tryz.underlying34 Tryz.infoExpr rfl (by decide) (fun a cs h => exR.one h) rfl hM e39 hr9 (fun w' hg a cs h => exR.row hI.size hg (fun k hk => (hM.ge k hk).1) h) (by have := HKL.out; simp at this; simp; omega) (by have := HKL.out; simp at this; simp; omega) hI.size ?_
              intro v' wb ho' hb' hgr _
              exact hK _ _ ⟨⟨Nat.le_trans hI.size hb'.size, Nat.le_refl _⟩, ho'⟩ (rel_eq rfl hb') (hI.trans hb')
            · intro a k wa K Q _ hI hp hK
              exact op_move _ (.inr rfl) (hK _ _ (hp.dep 5 40 (by kernel_rfl)) (Below.refl _ _) hI)
          case fin7 =>
            intro f w9 hT hI0
            have hI : Below w5.heap.size w5 w9 := hI0
            have hr6 : OwnE (D' + 1) w5.heap.size w5.heap.size (K1 ++ [asHas0 r]) w9 (f 6) := hT 6 (by decide) rfl rfl
            clear hT hI0
            obtain ⟨A6, c6, e6, h6⟩ := hr6.rd (by have := HKL.out; omega)
            simp only [putAll, e6]
            go_simp
            go_wp2
            go_ret
            rw [HR.out, HR2.out]
            exact ⟨A6, c6, by simp, h6, ext_trans HBW.out (ext_trans hB hI)⟩
        · have HR2 : Hid (addS r K1 = K1) := Lib.hid (by rw [addS, if_neg (fun h => by rw [hy] at h; cases h.2)])
          clear hcon hy h8
          go_wp2_with fail
          rw [← HY.out, ← HGY.out]
          refine HCON.out.mono ?_
          rintro e w5 ⟨rfl, hb⟩
          replace hB := ext_trans hB6 hb
          have hK5 := HK6.out.below hb
          clear hb a0 b0 b2 b3 y0 y1 y2 y3
          go_wp2
          go_ret
          rw [HR.out, HR2.out]
          exact ⟨A5, c5, rfl, hK5, ext_trans HBW.out hB⟩
      · have e8 : (r.k == 8) = false := by simp [h8]
        have HR2 : Hid (addS r K1 = K1) := Lib.hid (by rw [addS, if_neg (fun h => h8 h.1)])
        clear h8
        go_wp2
        go_ret
        rw [HR.out, HR2.out]
        rw [← HY.out]
        exact ⟨A5, c5, rfl, HK6.out, ext_trans HBW.out hB6⟩
theorem fiQ_all (D : Nat) : ∀ d, FiQ d D
  | 0 => fiQ_of (fun m h => by cases h)
  | d + 1 => fiQ_of (fun m h => by cases h; exact fiQ_all D d)
end Go.Proofs.YtodjokdaofefdaaGreat
/- A region that draws its order with an append and a store behind it: what holds ahead of the append, what holds behind the store. -/
namespace Go.Proofs.YtodjokdaofefdaaGreat
set_option linter.unusedSimpArgs false
set_option linter.unusedVariables false
open Go.RowKit

/-- What c waits for, straight or through others. -/
def reachB (ops : Array Oper) : Nat → Nat → Nat → Bool
  | 0, c, i => i == c
  | n + 1, c, i => i == c || (List.range ops.size).any fun m => depB ops c m && reachB ops n m i
structure RPreK (ops : Array Oper) (a0 : Act) (T : Nat → World → Value → Prop) (gc : Option Nat) (G : World → Prop) (i : Nat) (a : Act) (w : World) : Prop where
  dep : ∀ j s, depSlot ops i s j = true → T j w (a.eval (.tmp s))
  keep : ∀ s, keepSlot ops i s = true → a.eval (.tmp s) = a0.eval (.tmp s)
  pre : ∀ n, (∀ c, gc = some c → reachB ops n c i = true) → G w
theorem reach_listed {ops : Array Oper} {listed : Array Bool} (h : ∀ i j, listed.getD i false = true → depB ops i j = true → listed.getD j false = true) : ∀ n c i, listed.getD c false = true → reachB ops n c i = true → listed.getD i false = true
  | 0, c, i, hc, hr => by
    have e : i = c := by simpa [reachB] using hr
    rw [e]; exact hc
  | n + 1, c, i, hc, hr => by
    rw [reachB, Bool.or_eq_true] at hr
    rcases hr with hr | hr
    · have e : i = c := by simpa using hr
      rw [e]; exact hc
    · obtain ⟨m, _, hm⟩ := List.any_eq_true.1 hr
      obtain ⟨h1, h2⟩ := Bool.and_eq_true_iff.1 hm
      exact reach_listed h n m i (h c m hc h1) h2
structure RGoodK (ops : Array Oper) (a0 : Act) (T : Nat → World → Value → Prop) (Inv : Nat → World → Prop) (kill : Nat → Option Nat) (gc gd : Option Nat) (G H : World → Prop) (k : Nat) (listed : Array Bool) (a : Act) (w : World) : Prop where
  size : a.tmps.size = a0.tmps.size
  defers : a.defers = a0.defers
  inv : Inv k w
  lsize : listed.size = ops.size
  closed : ∀ i j, listed.getD i false = true → depB ops i j = true → listed.getD j false = true
  done : ∀ i d, dstOf ops i = some d → listed.getD i false = true → (∀ c, kill i = some c → listed.getD c false = false) → T i w (a.eval (.tmp d))
  todo : ∀ s, (∀ i, dstOf ops i = some s → listed.getD i false = false) → a.eval (.tmp s) = a0.eval (.tmp s)
  pre : (∀ c, gc = some c → listed.getD c false = false) → G w
  post : ∀ c, gd = some c → listed.getD c false = true → H w

def ROneK (P : Program) (ops : Array Oper) (a0 : Act) (T : Nat → World → Value → Prop) (Inv : Nat → World → Prop) (Rel : Nat → World → World → Prop) (gc gd : Option Nat) (G H : World → Prop) (i : Nat) (o : Oper) : Prop :=
  ∀ (a : Act) (k : Nat) (w : World) (K : Act → World → Prop) (Q : Exit → Act → World → Prop), k < ops.size → Inv k w → RPreK ops a0 T gc G i a w →
    (∀ v w', T i w' v → Rel i w w' → Inv (k + 1) w' → (gd = some i → H w') → K (a.put o.dst v) w') → if Region.wanted o (yielded ops a.tmps) = true then o.wp P a w K Q else K (a.put o.dst undef) w

section
variable {P : Program} {ops : Array Oper} {n : Nat} {a0 : Act} {T : Nat → World → Value → Prop} {Inv : Nat → World → Prop} {Rel : Nat → World → World → Prop} {kill : Nat → Option Nat} {gc gd : Option Nat} {G H : World → Prop}
theorem region_any_stepK (hok : okRegion ops a0.tmps.size = true) (hkill : okKill ops kill = true) (hstab : ∀ i j w w' v, Rel i w w' → kill j ≠ some i → j ≠ i → depB ops j i = false → (∀ c, kill j = some c → depB ops i c = false) → (∀ m, depB ops j m = true → depB ops m i = false) → T j w v → T j w' v)
    (hstabG : ∀ i w w', Rel i w w' → gc ≠ some i → (∀ c, gc = some c → depB ops i c = false) → G w → G w') (hstabH : ∀ i w w', Rel i w w' → gd ≠ some i → (∀ c, gd = some c → depB ops c i = false) → H w → H w') (hone : ∀ i o, ops[i]? = some o → ROneK P ops a0 T Inv Rel gc gd G H i o) {Q : Exit → Act → World → Prop}
    (hQ : ∀ listed a w, (∀ i, i < ops.size → listed.getD i true = true) → RGoodK ops a0 T Inv kill gc gd G H ops.size listed a w → Q .normal a w) :
    ∀ (fuel k : Nat) (listed : Array Bool) (a : Act) (w : World), k + fuel = ops.size → unl ops.size (fun i => !listed.getD i true) = fuel → RGoodK ops a0 T Inv kill gc gd G H k listed a w → wpAny P .any ops Q fuel listed a w := by
  intro fuel
  induction fuel with
  | zero =>
    intro k listed a w hk hu hg
    have hall := unl_zero hu
    have hr : Region.ready .any ops listed = [] := by
      apply List.eq_nil_iff_forall_not_mem.2
      intro i hi
      obtain ⟨h1, h2, _⟩ := mem_ready_iff.1 hi
      have := hall i h1
      simp [h2] at this
    obtain rfl : k = ops.size := by omega
    exact ⟨hr, hQ listed a w (fun i hi => by simpa using hall i hi) hg⟩
  | succ fuel ih =>
    intro k listed a w hk hu hg
    refine ⟨fun hr => ?_, fun i hi => ?_⟩
    · exfalso
      have hex : ∃ i, i < ops.size ∧ listed.getD i true = false := by
        by_cases h : ∃ i, i < ops.size ∧ listed.getD i true = false
        · exact h
        · exfalso
          have : unl ops.size (fun i => !listed.getD i true) = 0 := by
            unfold unl
            rw [List.filter_eq_nil_iff.2]
            · rfl
            · intro j hj
              simp only [Bool.not_eq_true', Bool.not_eq_false]
              cases hh : listed.getD j true with
              | true => rfl
              | false => exact absurd ⟨j, List.mem_range.1 hj, hh⟩ h
          omega
      have hmin : ∀ m, (∃ i, i < m ∧ i < ops.size ∧ listed.getD i true = false) → ∃ i, i < ops.size ∧ listed.getD i true = false ∧ ∀ j, j < i → listed.getD j true = true := by
        intro m
        induction m with
        | zero => rintro ⟨i, h, _⟩; omega
        | succ m ihm =>
          rintro ⟨i, h1, h2, h3⟩
          by_cases h : ∃ i, i < m ∧ i < ops.size ∧ listed.getD i true = false
          · exact ihm h
          · refine ⟨i, h2, h3, fun j hj => ?_⟩
            cases hh : listed.getD j true with
            | true => rfl
            | false => exact absurd ⟨j, by omega, by omega, hh⟩ h
      obtain ⟨i, h1, h2⟩ := hex
      obtain ⟨i, h1, h2, h3⟩ := hmin (i + 1) ⟨i, by omega, h1, h2⟩
      have := ready_first hok hg.lsize h1 h2 h3
      rw [hr] at this
      cases this
    · obtain ⟨h1, h2, h3⟩ := mem_ready_iff.1 hi
      have hli : listed.getD i false = false := by
        rw [Array.getD_eq_getD_getElem?, Array.getElem?_eq_getElem (by rw [hg.lsize]; exact h1)] at h2 ⊢
        exact h2
      have hdeps : ∀ j, depB ops i j = true → listed.getD j false = true := by
        intro j hd
        simp only [depB, Array.getElem?_eq_getElem h1, Option.map_some, Option.getD_some] at hd
        obtain ⟨e, he, hd⟩ := Array.any_eq_true.1 hd
        rw [Array.getElem?_eq_getElem h1] at h3
        simp only [Option.map_some, Option.getD_some] at h3
        have := Array.all_eq_true.1 h3 e he
        simp only [Bool.and_eq_true, beq_iff_eq] at hd
        rw [hd.1, hd.2] at this
        simpa using this
      have hpre : RPreK ops a0 T gc G i a w := by
        refine ⟨fun j s hd => ?_, fun s hs => ?_, fun n hpr => hg.pre fun c hc => ?_⟩
        · simp only [depSlot, Bool.and_eq_true, beq_iff_eq] at hd
          have hd1 := readB_dep hd.1
          refine hg.done j s hd.2 (hdeps j hd1) (fun c hc => ?_)
          have hji := okRegion_dep hok hd1
          have := List.all_eq_true.1 (List.all_eq_true.1 hkill i (List.mem_range.2 hji.2)) j (List.mem_range.2 (by omega))
          simp only [hd.1, hc, Bool.not_true, Bool.false_or, Bool.or_eq_true, beq_iff_eq] at this
          rcases this with rfl | hci
          · exact hli
          · cases hh : listed.getD c false with
            | false => rfl
            | true =>
              have := hg.closed c i hh hci
              rw [hli] at this
              cases this
        · refine hg.todo s (fun j hj => ?_)
          have hjs : j < ops.size := by
            unfold dstOf at hj
            cases ho : ops[j]? with
            | none => simp [ho] at hj
            | some o => exact (Array.getElem?_eq_some_iff.1 ho).1
          have := List.all_eq_true.1 hs j (List.mem_range.2 hjs)
          simp only [hj, bne_self_eq_false, Bool.false_or] at this
          cases hh : listed.getD j false with
          | false => rfl
          | true =>
            have := hg.closed j i hh this
            rw [hli] at this
            cases this
        · cases hh : listed.getD c false with
          | false => rfl
          | true =>
            have := reach_listed hg.closed n c i hh (hpr c hc)
            rw [hli] at this
            cases this
      have hgood : ∀ v w', T i w' v → Rel i w w' → Inv (k + 1) w' → (gd = some i → H w') → RGoodK ops a0 T Inv kill gc gd G H (k + 1) (listed.setIfInBounds i true) (a.put ((ops[i]?).bind (·.dst)) v) w' := by
        intro v w' hT hR hI hH
        have hset : ∀ j, (listed.setIfInBounds i true).getD j false = if j = i then true else listed.getD j false := by
          intro j
          simp only [Array.getD_eq_getD_getElem?, Array.getElem?_setIfInBounds]
          by_cases hji : j = i
          · subst hji; simp [hg.lsize, h1]
          · rw [if_neg (fun e => hji e.symm), if_neg hji]
        refine ⟨?_, ?_, hI, by simpa using hg.lsize, ?_, ?_, ?_, fun hpr => hstabG i w w' hR (fun e => ?_) (fun c hc => ?_) (hg.pre fun c hc => ?_), fun c hc hl => ?_⟩
        · cases h : (ops[i]?).bind (·.dst) <;> simpa [Act.put] using hg.size
        · cases h : (ops[i]?).bind (·.dst) <;> simpa [Act.put] using hg.defers
        · intro x y hx hd
          rw [hset] at hx ⊢
          by_cases hyi : y = i
          · rw [if_pos hyi]
          · rw [if_neg hyi]
            by_cases hxi : x = i
            · subst hxi; exact hdeps y hd
            · rw [if_neg hxi] at hx; exact hg.closed x y hx hd
        · intro x d hd hx hkx
          rw [hset] at hx
          by_cases hxi : x = i
          · subst hxi
            have hd' : (ops[x]?).bind (·.dst) = some d := hd
            rw [hd', eval_put, if_pos ⟨rfl, by rw [hg.size]; exact (okRegion_dst hok hd).1⟩]
            exact hT
          · rw [if_neg hxi] at hx
            have hv : (a.put ((ops[i]?).bind (·.dst)) v).eval (.tmp d) = a.eval (.tmp d) := by
              cases h : (ops[i]?).bind (·.dst) with
              | none => rfl
              | some d' =>
                rw [eval_put, if_neg]
                rintro ⟨rfl, _⟩
                exact hxi (okRegion_uniq hok hd h)
            rw [hv]
            refine hstab _ _ _ _ _ hR (fun e => ?_) hxi ?_ (fun c hc => ?_) (fun m hm => ?_) (hg.done x d hd hx (fun c hc => ?_))
            · have := hkx i e
              rw [hset, if_pos rfl] at this
              cases this
            · cases hh : depB ops x i with
              | false => rfl
              | true =>
                have := hg.closed x i hx hh
                rw [hli] at this
                cases this
            · cases hh : depB ops i c with
              | false => rfl
              | true =>
                have hl1 := hdeps c hh
                have hl2 := hkx c hc
                rw [hset] at hl2
                by_cases hci : c = i
                · subst hci; exact Bool.noConfusion (hl1.symm.trans hli)
                · rw [if_neg hci, hl1] at hl2; cases hl2
            · cases hh : depB ops m i with
              | false => rfl
              | true =>
                have := hg.closed m i (hg.closed x m hx hm) hh
                rw [hli] at this
                cases this
            · have := hkx c hc
              rw [hset] at this
              by_cases hci : c = i
              · subst hci; exact hli
              · rwa [if_neg hci] at this
        · intro s hs
          have hsi : dstOf ops i ≠ some s := fun e => by
            have := hs i e
            rw [hset, if_pos rfl] at this
            cases this
          have hv : (a.put ((ops[i]?).bind (·.dst)) v).eval (.tmp s) = a.eval (.tmp s) := by
            cases h : (ops[i]?).bind (·.dst) with
            | none => rfl
            | some d' =>
              rw [eval_put, if_neg]
              rintro ⟨rfl, _⟩
              exact hsi h
          rw [hv]
          refine hg.todo s (fun j hj => ?_)
          have := hs j hj
          rw [hset] at this
          by_cases hji : j = i
          · subst hji; exact hli
          · rwa [if_neg hji] at this
        · have := hpr i e
          rw [hset, if_pos rfl] at this
          cases this
        · cases hh : depB ops i c with
          | false => rfl
          | true =>
            have h1 := hdeps c hh
            have := hpr c hc
            rw [hset] at this
            by_cases hci : c = i
            · subst hci; rw [if_pos rfl] at this; cases this
            · rw [if_neg hci, h1] at this; cases this
        · have := hpr c hc
          rw [hset] at this
          by_cases hji : c = i
          · subst hji; exact hli
          · rwa [if_neg hji] at this
        · rw [hset] at hl
          by_cases hci : c = i
          · subst hci; exact hH hc
          · rw [if_neg hci] at hl
            refine hstabH i w w' hR (fun e => hci (by rw [hc] at e; cases e; rfl)) (fun c' hc' => ?_) (hg.post c hc hl)
            rw [hc] at hc'
            cases hc'
            cases hh : depB ops c i with
            | false => rfl
            | true =>
              have := hg.closed c i hl hh
              rw [hli] at this
              cases this
      have hunl : unl ops.size (fun j => !(listed.setIfInBounds i true).getD j true) = fuel := by
        have := unl_set (p := fun j => !listed.getD j true) (p' := fun j => !(listed.setIfInBounds i true).getD j true) (i := i) (by simp [h2]) (by
          simp [Array.getD_eq_getD_getElem?, Array.getElem?_setIfInBounds, hg.lsize, h1]) (fun j hj => by
          simp only [Array.getD_eq_getD_getElem?, Array.getElem?_setIfInBounds]
          rw [if_neg (fun e => hj e.symm)]) ops.size
        rw [if_pos h1] at this
        omega
      have h := hone i ops[i] (Array.getElem?_eq_getElem h1) a k w (wpAny P .any ops Q fuel (listed.setIfInBounds i true)) Q (by omega) hg.inv hpre (fun v w' hT hR hI hH => by
        have := hgood v w' hT hR hI hH
        rw [Array.getElem?_eq_getElem h1] at this
        exact ih (k + 1) _ _ _ (by omega) hunl this)
      unfold wpOp
      rw [Array.getElem?_eq_getElem h1]
      simp only
      split
      · rename_i hw; rw [if_pos hw] at h; exact .inl h
      · rename_i hw; rw [if_neg hw] at h; exact h

/-- The obligations, an operation at a time. -/
def RAllK (P : Program) (ops : Array Oper) (a0 : Act) (T : Nat → World → Value → Prop) (Inv : Nat → World → Prop) (Rel : Nat → World → World → Prop) (gc gd : Option Nat) (G H : World → Prop) : List Oper → Nat → Prop
  | [], _ => True
  | o :: l, i => ROneK P ops a0 T Inv Rel gc gd G H i o ∧ RAllK P ops a0 T Inv Rel gc gd G H l (i + 1)
theorem RAllK.at {l : List Oper} {i : Nat} (h : RAllK P ops a0 T Inv Rel gc gd G H l i) : ∀ (j : Nat) (o : Oper), l[j]? = some o → ROneK P ops a0 T Inv Rel gc gd G H (i + j) o := by
  induction l generalizing i with
  | nil => intro j o hj; simp at hj
  | cons o' l ih =>
    intro j o hj
    cases j with
    | zero => obtain rfl : o' = o := by simpa using hj
              exact h.1
    | succ j =>
      have := ih h.2 j o (by simpa using hj)
      rwa [show i + 1 + j = i + (j + 1) by omega] at this

theorem wp_region_draws2K (gc gd : Option Nat) (G H : World → Prop) (T : Nat → World → Value → Prop) (Inv : Nat → World → Prop) (Rel : Nat → World → World → Prop) (kill : Nat → Option Nat) {id : Nat} {Q : Exit → Act → World → Prop} {w : World} {l : List Oper} (hm : P.follows .mixedOrders = true)
    (hok : okRegion l.toArray a0.tmps.size = true) (hkill : okKill l.toArray kill = true) (hstab : ∀ i j w w' v, Rel i w w' → kill j ≠ some i → j ≠ i → depB l.toArray j i = false → (∀ c, kill j = some c → depB l.toArray i c = false) → (∀ m, depB l.toArray j m = true → depB l.toArray m i = false) → T j w v → T j w' v) (hstabG : ∀ i w w', Rel i w w' → gc ≠ some i → (∀ c, gc = some c → depB l.toArray i c = false) → G w → G w') (hstabH : ∀ i w w', Rel i w w' → gd ≠ some i → (∀ c, gd = some c → depB l.toArray c i = false) → H w → H w') (hI : Inv 0 w.drew) (hG : G w.drew) (hone : RAllK P l.toArray a0 T Inv Rel gc gd G H l 0)
    (hQ : ∀ (f : Nat → Value) (w' : World), (∀ i, i < l.length → (dstOf l.toArray i).isSome = true → (kill i).isNone = true → T i w' (f i)) → Inv l.length w' → (∀ c, gd = some c → c < l.length → H w') → Q .normal (putAll f l 0 a0) w') : (Code.region id l.toArray true).wp P Q a0 w := by
  refine wp_region_any hm (region_any_stepK (a0 := a0) (T := T) (Inv := Inv) (Rel := Rel) (kill := kill) (gc := gc) (gd := gd) (G := G) (H := H) hok hkill hstab hstabG hstabH (fun i o ho => by
    have := RAllK.at hone i o (by simpa using ho)
    simpa using this) ?_ _ 0 _ a0 _ (by simp) ?_ ?_)
  · intro listed a w' hall hg
    have hlist : ∀ i, i < l.length → listed.getD i false = true := fun i hi => by
      have := hall i (by simpa using hi)
      rw [Array.getD_eq_getD_getElem?, Array.getElem?_eq_getElem (by rw [hg.lsize]; simpa using hi)] at this ⊢
      exact this
    have hlt : ∀ i d, dstOf l.toArray i = some d → i < l.length := fun i d hd => by
      unfold dstOf at hd
      cases ho : l.toArray[i]? with
      | none => simp [ho] at hd
      | some o => simpa using (Array.getElem?_eq_some_iff.1 ho).1
    have he : a = putAll (fun i => a.eval (.tmp ((dstOf l.toArray i).getD 0))) l 0 a0 := by
      have hp := putAll_defers (fun i => a.eval (.tmp ((dstOf l.toArray i).getD 0))) l 0 a0
      refine act_ext (hg.size.trans hp.2.symm) (hg.defers.trans hp.1.symm) (fun s hs => ?_)
      by_cases h : ∃ i, dstOf l.toArray i = some s
      · obtain ⟨i, hi⟩ := h
        have hi' := hi
        unfold dstOf at hi'
        cases ho : l.toArray[i]? with
        | none => simp [ho] at hi'
        | some o =>
          simp only [ho, Option.bind_some] at hi'
          rw [putAll_some _ l 0 a0 s i o (by simpa using ho) hi' (fun j o' ho' hd' => okRegion_uniq hok (d := s) (by simp [dstOf, ho', hd']) hi) (by rw [← hg.size]; exact hs)]
          simp [hi]
      · rw [putAll_none _ l 0 a0 s (fun j o ho hd => h ⟨j, by simp [dstOf, ho, hd]⟩)]
        exact hg.todo s (fun i hi => absurd ⟨i, hi⟩ h)
    rw [he]
    refine hQ _ _ (fun i hi hs hk => ?_) (by simpa using hg.inv) (fun c hc hl => hg.post c hc (hlist c hl))
    obtain ⟨d, hd⟩ := Option.isSome_iff_exists.1 hs
    simp only [hd, Option.getD_some]
    exact hg.done i d hd (hlist i hi) (fun c hc => by rw [hc] at hk; cases hk)
  · have : ∀ N, unl N (fun i => !(Array.replicate N false).getD i true) = N := by
      intro N
      unfold unl
      rw [List.filter_eq_self.2]
      · simp
      · intro i hi
        simp [Array.getD_eq_getD_getElem?, List.mem_range.1 hi]
    exact this _
  · refine ⟨rfl, rfl, hI, by simp, ?_, ?_, fun _ _ => rfl, fun _ => hG, fun c _ h => ?_⟩
    · intro i j h
      simp [Array.getD_eq_getD_getElem?, Array.getElem?_replicate] at h
      split at h <;> simp at h
    · intro i d _ h _
      simp [Array.getD_eq_getD_getElem?, Array.getElem?_replicate] at h
      split at h <;> simp at h
    · simp [Array.getD_eq_getD_getElem?, Array.getElem?_replicate] at h
      split at h <;> simp at h

end
section
variable {P : Program} {ops : Array Oper} {a0 : Act} {T : Nat → World → Value → Prop} {Inv : Nat → World → Prop} {Rel : Nat → World → World → Prop} {gc gd : Option Nat} {G H : World → Prop}
theorem RAllK.none_ {i : Nat} : RAllK P ops a0 T Inv Rel gc gd G H [] i := trivial
theorem RAllK.cons {o : Oper} {l : List Oper} {i : Nat} (hg : o.guard = Option.none) (h : ∀ (a : Act) (k : Nat) (w : World) (K : Act → World → Prop) (Q : Exit → Act → World → Prop), k < ops.size → Inv k w → RPreK ops a0 T gc G i a w →
    (∀ v w', T i w' v → Rel i w w' → Inv (k + 1) w' → (gd = some i → H w') → K (a.put o.dst v) w') → o.wp P a w K Q) (hl : RAllK P ops a0 T Inv Rel gc gd G H l (i + 1)) : RAllK P ops a0 T Inv Rel gc gd G H (o :: l) i :=
  ⟨fun a k w K Q h1 h2 h3 h4 => by
    have : Region.wanted o (yielded ops a.tmps) = true := by simp [Region.wanted, hg]
    rw [if_pos this]
    exact h a k w K Q h1 h2 h3 h4, hl⟩
end
end Go.Proofs.YtodjokdaofefdaaGreat
/- Guards that are added, by the reference: copies. -/
namespace Go.Proofs.YtodjokdaofefdaaGreat
set_option linter.unusedSimpArgs false
set_option linter.unusedVariables false
open Go.RowKit

/-- The box of a copy that grows. -/
def CpB (g : Nat) (r : Ex) (w : World) (v : Value) : Prop := w.heap[g]? = some (.cells #[.int .i64 r.k, .int .i64 r.n, .string r.s, v] 36 (0, 0))
def CpH (d g : Nat) (r : Ex) (W : World) (k : Nat) (w : World) : Prop := ∃ A c l' N, CpB g r w (.slice A k c) ∧ l'.map Prod.fst = r.ps.take k ∧ ExO d (g + 1) N w (.slice A k c) l' ∧ Below g W w
def CpA (d g : Nat) (r : Ex) (W : World) (k : Nat) (w : World) (v : Value) : Prop := ∃ A c u l' N, v = .slice A k c ∧ CpB g r w u ∧ l'.map Prod.fst = r.ps.take k ∧ ExO d (g + 1) N w (.slice A k c) l' ∧ Below g W w
/-- A copy. -/
def ChV (d lo : Nat) (t : Ex) (w : World) (v : Value) : Prop := ∃ A c a b, v = .agg #[.int .i64 t.k, .int .i64 t.n, .string t.s, .slice A t.ps.length c] ∧ (lo ≤ a ∧ a ≤ b ∧ b ≤ w.heap.size) ∧ exT d a b w (.slice A t.ps.length c) t.ps
def ChR (d lo : Nat) (t : Ex) (w : World) (v : Value) : Prop := ∃ g A c a b, v = .slice (some ⟨g, 0, none⟩) 1 1 ∧ w.heap[g]? = some (.cells #[.int .i64 t.k, .int .i64 t.n, .string t.s, .slice A t.ps.length c] 36 (0, 0)) ∧ (lo ≤ a ∧ a ≤ b ∧ b ≤ w.heap.size) ∧ exT d a b w (.slice A t.ps.length c) t.ps
theorem block_below {w w' : World} {g : Nat} {o : Obj} (h : w.heap[g]? = some o) (hb : Below w.heap.size w w') : w'.heap[g]? = some o := (hb.block g (Array.getElem?_eq_some_iff.1 h).1).trans h
section
variable {d g k lo : Nat} {r t : Ex} {W w w' : World} {v : Value}
theorem CpH.below (h : CpH d g r W k w) (hb : Below w.heap.size w w') : CpH d g r W k w' := by
  obtain ⟨A, c, l', N, h1, h2, h3, h4⟩ := h
  have hg := (Array.getElem?_eq_some_iff.1 h1).1
  exact ⟨A, c, l', N, block_below h1 hb, h2, h3.below hb, h4.trans (hb.mono (by omega))⟩
theorem CpA.below (h : CpA d g r W k w v) (hb : Below w.heap.size w w') : CpA d g r W k w' v := by
  obtain ⟨A, c, u, l', N, h0, h1, h2, h3, h4⟩ := h
  have hg := (Array.getElem?_eq_some_iff.1 h1).1
  exact ⟨A, c, u, l', N, h0, block_below h1 hb, h2, h3.below hb, h4.trans (hb.mono (by omega))⟩
theorem ChV.below (h : ChV d lo t w v) (hb : Below w.heap.size w w') : ChV d lo t w' v := by
  obtain ⟨A, c, a, b, h0, h1, h2⟩ := h
  exact ⟨A, c, a, b, h0, ⟨h1.1, h1.2.1, Nat.le_trans h1.2.2 hb.size⟩, h2.below h1.2.2 hb⟩
theorem ChR.below (h : ChR d lo t w v) (hb : Below w.heap.size w w') : ChR d lo t w' v := by
  obtain ⟨g, A, c, a, b, h0, hg, h1, h2⟩ := h
  exact ⟨g, A, c, a, b, h0, block_below hg hb, ⟨h1.1, h1.2.1, Nat.le_trans h1.2.2 hb.size⟩, h2.below h1.2.2 hb⟩
theorem ExO.grown {N : Nat} {l' : List ExX} {row : Option Nat} (h : ExO d lo N w v l') (hg : w.grownBy w' row) (hr : ∀ k, row = some k → k < lo) : ExO d lo N w' v l' := by
  obtain ⟨h1, h2, h3⟩ := h
  have hge := h3.ge
  obtain ⟨A, c, xs, e, ho, hc⟩ := h3
  refine ⟨h1, Nat.le_trans h2 hg.size, A, c, xs, e, own_apart_ ho hg (fun k hk e2 => ?_), hc.mono_mem (fun a ha cs hcs => ?_)⟩
  · rw [← e] at hk
    have := (hge k hk).1
    have := hr k e2
    omega
  · obtain ⟨g1, g2, g3, g4⟩ := hcs
    have hb := h1.1 a ha
    exact ⟨g1.keep (fun k k1 k2 => hg.block k (by omega) (fun e2 => by have := hr k e2.symm; omega)), g2, g3, g4⟩
end
end Go.Proofs.YtodjokdaofefdaaGreat

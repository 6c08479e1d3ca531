/- Guards, by the reference: whether an expression is guarded. -/
import Derived.Test.YtodjokdaofefdaaGdO
namespace Go.Proofs.Ytodjokdaofefdaa
set_option linter.unusedSimpArgs false
set_option linter.unusedVariables false
open Go.RowKit

def GsQ (d D : Nat) : Prop := ∀ (A Ak : Option Addr) (r : Ex) (kl : ExL) (c ck : Nat) (w : World), exW d w A r.ps → r.s.size ≤ 9223372036854775807 → exW D w Ak kl → d + 1 ≤ D → gdR (d + 1) r = true → kl.length + 1 + cntR (d + 1) r ≤ 1048576 →
  Calls Try.prog 73 #[.agg #[.int .i64 r.k, .int .i64 r.n, .string r.s, .slice A r.ps.length c], .slice Ak kl.length ck] w fun e w' => e = .returned (.bool (guS (d + 1) r kl)) ∧ Below w.heap.size w w'
theorem cnt_part {d : Nat} {t : Ex} {k : Nat} (hk : k < t.ps.length) : 1 + cntR d (exAt t.ps k) ≤ cntR (d + 1) t := by
  have := cnt_at (d := d) hk
  rw [cntR]; omega
theorem guS_no {d : Nat} {r : Ex} {kl : ExL} {k : Nat} (h7 : ¬ r.k = 7) (h8 : ¬ r.k = 8) (h14 : ¬ r.k = 14) (hk : k < r.ps.length) (h : guS d (exAt r.ps k) kl = false) : guS (d + 1) r kl = false := by
  rw [guS, if_neg h7, if_neg h8, if_neg h14, List.all_eq_false]
  exact ⟨_, List.getElem_mem hk, by rw [← exAt_eq hk, h]; simp⟩
theorem guS_yes {d : Nat} {r : Ex} {kl : ExL} (h7 : ¬ r.k = 7) (h8 : ¬ r.k = 8) (h14 : ¬ r.k = 14) (h : ∀ k, k < r.ps.length → guS d (exAt r.ps k) kl = true) : guS (d + 1) r kl = true := by
  rw [guS, if_neg h7, if_neg h8, if_neg h14, all_at]
  exact h
theorem exW.one {d : Nat} {w : World} {A : Option Addr} {l : ExL} (h : exW (d + 1) w A l) (hl : l.length = 1) : ∃ b off A0 c0, A = some ⟨b, off, none⟩ ∧ exW d w A0 (exAt l 0).ps ∧ (exAt l 0).s.size ≤ 9223372036854775807 ∧
    w.cell? ⟨b, off, none⟩ = some (.int .i64 (exAt l 0).k) ∧ w.cell? ⟨b, off + 1, none⟩ = some (.int .i64 (exAt l 0).n) ∧ w.cell? ⟨b, off + 2, none⟩ = some (.string (exAt l 0).s) ∧ w.cell? ⟨b, off + 3, none⟩ = some (.slice A0 (exAt l 0).ps.length c0) := by
  obtain ⟨b, off, rfl, hc⟩ := h.cells (by omega)
  obtain ⟨A0, c0, g0⟩ := hc 0 (by omega)
  rw [show off + 0 * 4 = off by omega] at g0
  exact ⟨b, off, A0, c0, rfl, g0⟩
set_option maxRecDepth 100000 in
set_option maxHeartbeats 8000000 in
theorem gsQ_of {d D : Nat} (hQ : ∀ m, d = m + 1 → GsQ m D) : GsQ d D := by
  intro A Ak r kl c ck w hU hs hK0 hD hg hn
  have hlen := exS.len hU
  have HG := Lib.hid hg
  have HQ := Lib.hid hQ
  have HN := Lib.hid hn
  clear hg hQ hn
  obtain ⟨W, hW⟩ : ∃ W, W = w.alloc (.cells #[.int .i64 r.k, .int .i64 r.n, .string r.s, .slice A r.ps.length c] 28) := ⟨_, rfl⟩
  obtain ⟨gx, hgx⟩ : ∃ g, g = w.heap.size := ⟨_, rfl⟩
  have hBW : Below w.heap.size w W := by rw [hW]; (repeat (first | exact Below.refl _ _ | refine ext_alloc ?_ _ | refine Below.setCell ?_ (by simp) _))
  have b0 : W.cell? ⟨gx, 0, none⟩ = some (.int .i64 r.k) := by rw [hW, hgx]; exact box_cell w _ _ 0 _ rfl
  have b1 : W.cell? ⟨gx, 1, none⟩ = some (.int .i64 r.n) := by rw [hW, hgx]; exact box_cell w _ _ 1 _ rfl
  have b2 : W.cell? ⟨gx, 2, none⟩ = some (.string r.s) := by rw [hW, hgx]; exact box_cell w _ _ 2 _ rfl
  have b3 : W.cell? ⟨gx, 3, none⟩ = some (.slice A r.ps.length c) := by rw [hW, hgx]; exact box_cell w _ _ 3 _ rfl
  have hUW := hU.below hBW
  have hKW := hK0.below hBW
  have HW := Lib.hid hW
  have HGX := Lib.hid hgx
  have HBW := Lib.hid hBW
  clear hW hgx hBW hU hK0
  by_cases h7 : r.k = 7
  · have e7 : (r.k == 7) = true := by simp [h7]
    have HR : Hid (guS (d + 1) r kl = false) := Lib.hid (by rw [guS, if_pos h7])
    clear h7
    go_enter Try.func73, Try.ntmps73
    go_wp2
    rw [← HW.out]
    go_ret
    exact ⟨by rw [HR.out]; rfl, HBW.out⟩
  have e7 : (r.k == 7) = false := by simp [h7]
  by_cases h8 : r.k = 8
  · have e8 : (r.k == 8) = true := by simp [h8]
    have hl := (head_8 (gd_head HG.out) h8).2
    have hd : ∃ m, d = m + 1 := by
      cases d with
      | zero => have := exS.zero hUW; rw [this] at hl; simp at hl
      | succ m => exact ⟨m, rfl⟩
    obtain ⟨m, hm⟩ := hd
    subst hm
    obtain ⟨D', hD'⟩ : ∃ D', D = D' + 1 := ⟨D - 1, by omega⟩
    subst hD'
    have HR : Hid (guS (m + 1 + 1) r kl = (hasB kl (asHas0 r) && guS (m + 1) (exAt r.ps 0) kl)) := Lib.hid (by rw [guS, if_neg h7, if_pos h8])
    have hcp := cnt_part (d := m + 1) (t := r) (k := 0) (by omega)
    have HC := Lib.hid (show kl.length + 1 + cntR (m + 1) (exAt r.ps 0) ≤ 1048576 by have := HN.out; omega)
    have HG0 := Lib.hid (gd_part HG.out (k := 0) (by omega))
    have HQ1 := Lib.hid (HQ.out m rfl)
    have HW2 := Lib.hid (show W = w.alloc (.cells #[.int .i64 r.k, .int .i64 r.n, .string r.s, .slice A 1 c] 28) by rw [HW.out, hl])
    obtain ⟨b, off, A0, c0, rfl, u0, s0, p0, p1, p2, p3⟩ := exW.one hUW hl
    rw [hl] at b3
    rw [hl]
    have HL := Lib.hid hl
    clear hcp h7 h8 hl hlen
    obtain ⟨Y, hY⟩ : ∃ Y, Y = W.alloc (.cells #[.int .i64 9, .int .i64 0, .string r.s, .slice (some ⟨b, off, none⟩) 1 c] 28) := ⟨_, rfl⟩
    have hBY : Below W.heap.size W Y := by rw [hY]; (repeat (first | exact Below.refl _ _ | refine ext_alloc ?_ _ | refine Below.setCell ?_ (by simp) _))
    have HUY := Lib.hid ((hUW.below hBY).deeper (show m + 1 ≤ D' by omega))
    have HKY := Lib.hid (hKW.below hBY)
    have HY := Lib.hid hY
    have HBY := Lib.hid hBY
    clear hY hBY
    obtain ⟨y, hy⟩ : ∃ y, hasB kl (asHas0 r) = y := ⟨_, rfl⟩
    have hcon : ∀ (X : World), X = Y → Calls Try.prog 120 #[.slice Ak kl.length ck, .agg #[.int .i64 9, .int .i64 0, .string r.s, .slice (some ⟨b, off, none⟩) 1 c]] X fun e w' => e = .returned (.bool y) ∧ Below Y.heap.size Y w' := by
      rintro X rfl
      have h := specHas_any (D := D') (l := kl) (r := asHas0 r) (A := Ak) (A' := some ⟨b, off, none⟩) (c := ck) (c' := c) (w := X) HKY.out HUY.out
      rw [hy] at h
      have hl2 : (asHas0 r).ps.length = 1 := HL.out
      rw [hl2] at h
      exact h
    have HCON := Lib.hid hcon
    have HYY := Lib.hid hy
    clear hcon hy
    cases y
    · go_enter Try.func73, Try.ntmps73
      go_wp2_with fail
      rw [← HW2.out]
      first | refine (HCON.out _ HY.out.symm).mono ?_ | (rw [← HY.out]; refine (HCON.out _ rfl).mono ?_)
      rintro e w1 ⟨rfl, hB⟩
      replace hB := ext_trans HBW.out (ext_trans HBY.out hB)
      clear b0 b1 b2 b3 p0 p1 p2 p3
      go_wp2
      go_ret
      exact ⟨by rw [HR.out, HYY.out]; rfl, hB⟩
    · go_enter Try.func73, Try.ntmps73
      go_wp2_with fail
      rw [← HW2.out, ← HGX.out]
      first | refine (HCON.out _ HY.out.symm).mono ?_ | (rw [← HY.out]; refine (HCON.out _ rfl).mono ?_)
      rintro e w1 ⟨rfl, hB⟩
      replace hB := ext_trans HBY.out hB
      replace b0 := below_cell hB b0
      replace b1 := below_cell hB b1
      replace b2 := below_cell hB b2
      replace b3 := below_cell hB b3
      replace p0 := below_cell hB p0
      replace p1 := below_cell hB p1
      replace p2 := below_cell hB p2
      replace p3 := below_cell hB p3
      replace u0 := u0.below hB
      replace hKW := hKW.below hB
      have HB := Lib.hid (ext_trans HBW.out hB)
      clear hB
      go_wp2_with fail
      refine (HQ1.out _ _ _ kl c0 ck _ u0 s0 hKW (by omega) HG0.out HC.out).mono ?_
      rintro e w2 ⟨rfl, hB⟩
      replace hB := ext_trans HB.out hB
      clear b0 b1 b2 b3 p0 p1 p2 p3
      go_wp2
      go_ret
      exact ⟨by rw [HR.out, HYY.out]; rfl, hB⟩
  have e8 : (r.k == 8) = false := by simp [h8]
  by_cases h14 : r.k = 14
  · have e14 : (r.k == 14) = true := by simp [h14]
    have hl := head_14 (gd_head HG.out) h14
    have HW2 := Lib.hid (show W = w.alloc (.cells #[.int .i64 r.k, .int .i64 r.n, .string r.s, .slice A 2 c] 28) by rw [HW.out, hl])
    have hd : ∃ m, d = m + 1 := by
      cases d with
      | zero => have := exS.zero hUW; rw [this] at hl; simp at hl
      | succ m => exact ⟨m, rfl⟩
    obtain ⟨m, hm⟩ := hd
    subst hm
    have HQ1 := Lib.hid (HQ.out m rfl)
    have HR : Hid (guS (m + 1 + 1) r kl = (guS (m + 1) (exAt r.ps 0) kl && guS (m + 1) (exAt r.ps 1) (knS (m + 1) (exAt r.ps 0) kl))) := Lib.hid (by rw [guS, if_neg h7, if_neg h8, if_pos h14])
    have hg0 := gd_part HG.out (k := 0) (by omega)
    have hg1 := gd_part HG.out (k := 1) (by omega)
    have hct := cnt_two (d := m + 1) hl
    have hkl := kn_len (m + 1) (exAt r.ps 0) kl hg0
    have hn := HN.out
    have hn0 : kl.length + 1 + cntR (m + 1) (exAt r.ps 0) ≤ 1048576 := by omega
    have hn1 : (knS (m + 1) (exAt r.ps 0) kl).length + 1 + cntR (m + 1) (exAt r.ps 1) ≤ 1048576 := by omega
    obtain ⟨b, off, A0, A1, c0, c1, rfl, ⟨u0, s0, p0, p1, p2, p3⟩, ⟨u1, s1, q0, q1, q2, q3⟩⟩ := exW.two hUW hl
    obtain ⟨K1, hK1⟩ : ∃ K1, K1 = knS (m + 1) (exAt r.ps 0) kl := ⟨_, rfl⟩
    rw [← hK1] at hn1
    have HC1 := Lib.hid hn0
    have HC2 := Lib.hid hn1
    have HG0 := Lib.hid hg0
    have HG1 := Lib.hid hg1
    have HK1 := Lib.hid hK1
    rw [hl] at b3
    rw [hl]
    have HL := Lib.hid hl
    obtain ⟨x, hx⟩ : ∃ x, guS (m + 1) (exAt r.ps 0) kl = x := ⟨_, rfl⟩
    obtain ⟨y, hy⟩ : ∃ y, guS (m + 1) (exAt r.ps 1) K1 = y := ⟨_, rfl⟩
    have HX := Lib.hid hx
    have HY := Lib.hid hy
    clear hlen hl h7 h8 h14 hn hn0 hn1 hct hkl hg0 hg1 hK1 hx hy
    cases x
    · go_enter Try.func73, Try.ntmps73
      go_wp2_with fail
      rw [← HW2.out, ← HGX.out]
      go_wp2_with fail
      refine wp_region_kinds2 (fun i wz vz => match i with | 0 => vz = .pointer (some ⟨gx, 3, Option.none⟩) | 1 => vz = .slice (some ⟨b, off, none⟩) 2 c | 2 => vz = .pointer (some ⟨b, off, Option.none⟩) | 3 => vz = .agg #[.int .i64 (exAt r.ps 0).k, .int .i64 (exAt r.ps 0).n, .string (exAt r.ps 0).s, .slice A0 (exAt r.ps 0).ps.length c0] | 4 => vz = .slice Ak kl.length ck | 5 => vz = .bool false | 6 => vz = .bool false | 18 => vz = .bool false | 19 => vz = .bool false | _ => True) (fun _ wz => Below W.heap.size W wz) (fun i w w' => Below w.heap.size w w') (fun _ => Option.none) (by kernel_rfl) (by kernel_rfl) (by kernel_rfl) ?stab8 (ext_drew (Below.refl _ _)) ?all8 ?fin8
      case stab8 =>
        intro i j wa wb v hR hk hne hd _ h2 hT
        match j, hk, hne, hd, h2, hT with
        | 0, hk, hne, hd, h2, hT => exact hT
        | 1, hk, hne, hd, h2, hT => exact hT
        | 2, hk, hne, hd, h2, hT => exact hT
        | 3, hk, hne, hd, h2, hT => exact hT
        | 4, hk, hne, hd, h2, hT => exact hT
        | 5, hk, hne, hd, h2, hT => exact hT
        | 6, hk, hne, hd, h2, hT => exact hT
        | 18, hk, hne, hd, h2, hT => exact hT
        | 19, hk, hne, hd, h2, hT => exact hT
        | 7, _, _, _, _, _ => trivial
        | 8, _, _, _, _, _ => trivial
        | 9, _, _, _, _, _ => trivial
        | 10, _, _, _, _, _ => trivial
        | 11, _, _, _, _, _ => trivial
        | 12, _, _, _, _, _ => trivial
        | 13, _, _, _, _, _ => trivial
        | 14, _, _, _, _, _ => trivial
        | 15, _, _, _, _, _ => trivial
        | 16, _, _, _, _, _ => trivial
        | 17, _, _, _, _, _ => trivial
        | n + 20, _, _, _, _, _ => trivial
      case all8 =>
        refine RAll.cons rfl ?_ (RAll.cons rfl ?_ (RAll.cons rfl ?_ (RAll.cons rfl ?_ (RAll.cons rfl ?_ (RAll.cons rfl ?_ (RAll.cons rfl ?_ (RAll.skipped 6 37 true rfl (by kernel_rfl) (fun _ _ h => h) ?_ (RAll.skipped 6 37 true rfl (by kernel_rfl) (fun _ _ h => h) ?_ (RAll.skipped 6 37 true rfl (by kernel_rfl) (fun _ _ h => h) ?_ (RAll.skipped 6 37 true rfl (by kernel_rfl) (fun _ _ h => h) ?_ (RAll.skipped 6 37 true rfl (by kernel_rfl) (fun _ _ h => h) ?_ (RAll.skipped 6 37 true rfl (by kernel_rfl) (fun _ _ h => h) ?_ (RAll.skipped 6 37 true rfl (by kernel_rfl) (fun _ _ h => h) ?_ (RAll.skipped 6 37 true rfl (by kernel_rfl) (fun _ _ h => h) ?_ (RAll.skipped 6 37 true rfl (by kernel_rfl) (fun _ _ h => h) ?_ (RAll.skipped 6 37 true rfl (by kernel_rfl) (fun _ _ h => h) ?_ (RAll.skipped 6 37 true rfl (by kernel_rfl) (fun _ _ h => h) ?_ (RAll.cons rfl ?_ (RAll.cons rfl ?_ (RAll.none_))))))))))))))))))))
        · intro a k wa K Q _ hI hp hK
          have e2 := tmp_of (show a.eval (.tmp 2) = .pointer (some ⟨gx, 0, none⟩) from hp.keep 2 (by kernel_rfl))
          go_simp
          exact hK _ _ rfl (Below.refl _ _) hI
        · intro a k wa K Q _ hI hp hK
          have e31 := tmp_of (show a.eval (.tmp 31) = .pointer (some ⟨gx, 3, Option.none⟩) from hp.dep 0 31 (by kernel_rfl))
          have b3_ := below_cell hI b3
          go_simp
          exact hK _ _ rfl (Below.refl _ _) hI
        · intro a k wa K Q _ hI hp hK
          have e32 := tmp_of (show a.eval (.tmp 32) = .slice (some ⟨b, off, none⟩) 2 c from hp.dep 1 32 (by kernel_rfl))
          go_simp
          exact hK _ _ (rfl) (Below.refl _ _) hI
        · intro a k wa K Q _ hI hp hK
          have e33 := tmp_of (show a.eval (.tmp 33) = .pointer (some ⟨b, off, Option.none⟩) from hp.dep 2 33 (by kernel_rfl))
          have p0_ := below_cell hI p0
          have p1_ := below_cell hI p1
          have p2_ := below_cell hI p2
          have p3_ := below_cell hI p3
          go_simp
          exact hK _ _ rfl (Below.refl _ _) hI
        · intro a k wa K Q _ hI hp hK
          exact op_move _ (.inl rfl) (hK _ _ (hp.keep 1 (by kernel_rfl)) (Below.refl _ _) hI)
        · intro a k wa K Q _ hI hp hK
          have e34 := tmp_of (show a.eval (.tmp 34) = .agg #[.int .i64 (exAt r.ps 0).k, .int .i64 (exAt r.ps 0).n, .string (exAt r.ps 0).s, .slice A0 (exAt r.ps 0).ps.length c0] from hp.dep 3 34 (by kernel_rfl))
          have e35 := tmp_of (show a.eval (.tmp 35) = .slice Ak kl.length ck from hp.dep 4 35 (by kernel_rfl))
          go_simp
          refine (HQ1.out _ _ _ kl c0 ck _ (u0.below hI) s0 (hKW.below hI) (by omega) HG0.out HC1.out).mono ?_
          rw [HX.out]
          rintro e wb ⟨rfl, hb⟩
          exact hK _ _ rfl hb (ext_trans hI hb)
        · intro a k wa K Q _ hI hp hK
          exact op_move _ (.inl rfl) (hK _ _ (hp.dep 5 36 (by kernel_rfl)) (Below.refl _ _) hI)
        · exact fun k wa hI => ⟨trivial, Below.refl _ _, hI⟩
        · exact fun k wa hI => ⟨trivial, Below.refl _ _, hI⟩
        · exact fun k wa hI => ⟨trivial, Below.refl _ _, hI⟩
        · exact fun k wa hI => ⟨trivial, Below.refl _ _, hI⟩
        · exact fun k wa hI => ⟨trivial, Below.refl _ _, hI⟩
        · exact fun k wa hI => ⟨trivial, Below.refl _ _, hI⟩
        · exact fun k wa hI => ⟨trivial, Below.refl _ _, hI⟩
        · exact fun k wa hI => ⟨trivial, Below.refl _ _, hI⟩
        · exact fun k wa hI => ⟨trivial, Below.refl _ _, hI⟩
        · exact fun k wa hI => ⟨trivial, Below.refl _ _, hI⟩
        · exact fun k wa hI => ⟨trivial, Below.refl _ _, hI⟩
        · intro a k wa K Q _ hI hp hK
          exact op_pick_f _ _ _ rfl (hp.dep 6 37 (by kernel_rfl)) (hK _ _ (rfl) (Below.refl _ _) hI)
        · intro a k wa K Q _ hI hp hK
          exact op_move _ (.inr rfl) (hK _ _ (hp.dep 18 49 (by kernel_rfl)) (Below.refl _ _) hI)
      case fin8 =>
        intro f w9 hT hI0
        have hI : Below W.heap.size W w9 := hI0
        have hr6 : (f 19) = .bool false := hT 19 (by decide) rfl rfl
        clear hT hI0
        simp only [putAll, hr6]
        go_simp
        go_wp2
        go_ret
        exact ⟨by rw [HR.out, HX.out]; rfl, ext_trans HBW.out hI⟩
    · go_enter Try.func73, Try.ntmps73
      go_wp2_with fail
      rw [← HW2.out, ← HGX.out]
      go_wp2_with fail
      refine wp_region_kinds2 (fun i wz vz => match i with | 0 => vz = .pointer (some ⟨gx, 3, Option.none⟩) | 1 => vz = .slice (some ⟨b, off, none⟩) 2 c | 2 => vz = .pointer (some ⟨b, off, Option.none⟩) | 3 => vz = .agg #[.int .i64 (exAt r.ps 0).k, .int .i64 (exAt r.ps 0).n, .string (exAt r.ps 0).s, .slice A0 (exAt r.ps 0).ps.length c0] | 4 => vz = .slice Ak kl.length ck | 5 => vz = .bool true | 6 => vz = .bool true | 7 => vz = .pointer (some ⟨gx, 3, Option.none⟩) | 8 => vz = .slice (some ⟨b, off, none⟩) 2 c | 9 => vz = .pointer (some ⟨b, off + 4, Option.none⟩) | 10 => vz = .agg #[.int .i64 (exAt r.ps 1).k, .int .i64 (exAt r.ps 1).n, .string (exAt r.ps 1).s, .slice A1 (exAt r.ps 1).ps.length c1] | 11 => vz = .pointer (some ⟨gx, 3, Option.none⟩) | 12 => vz = .slice (some ⟨b, off, none⟩) 2 c | 13 => vz = .pointer (some ⟨b, off, Option.none⟩) | 14 => vz = .agg #[.int .i64 (exAt r.ps 0).k, .int .i64 (exAt r.ps 0).n, .string (exAt r.ps 0).s, .slice A0 (exAt r.ps 0).ps.length c0] | 15 => vz = .slice Ak kl.length ck | 16 => KnV D K1 wz vz | 17 => vz = .bool y | 18 => vz = .bool y | 19 => vz = .bool y | _ => True) (fun _ wz => Below W.heap.size W wz) (fun i w w' => Below w.heap.size w w') (fun _ => Option.none) (by kernel_rfl) (by kernel_rfl) (by kernel_rfl) ?stab8 (ext_drew (Below.refl _ _)) ?all8 ?fin8
      case stab8 =>
        intro i j wa wb v hR hk hne hd _ h2 hT
        match j, hk, hne, hd, h2, hT with
        | 0, hk, hne, hd, h2, hT => exact hT
        | 1, hk, hne, hd, h2, hT => exact hT
        | 2, hk, hne, hd, h2, hT => exact hT
        | 3, hk, hne, hd, h2, hT => exact hT
        | 4, hk, hne, hd, h2, hT => exact hT
        | 5, hk, hne, hd, h2, hT => exact hT
        | 6, hk, hne, hd, h2, hT => exact hT
        | 7, hk, hne, hd, h2, hT => exact hT
        | 8, hk, hne, hd, h2, hT => exact hT
        | 9, hk, hne, hd, h2, hT => exact hT
        | 10, hk, hne, hd, h2, hT => exact hT
        | 11, hk, hne, hd, h2, hT => exact hT
        | 12, hk, hne, hd, h2, hT => exact hT
        | 13, hk, hne, hd, h2, hT => exact hT
        | 14, hk, hne, hd, h2, hT => exact hT
        | 15, hk, hne, hd, h2, hT => exact hT
        | 16, hk, hne, hd, h2, hT => exact KnV.below hT hR
        | 17, hk, hne, hd, h2, hT => exact hT
        | 18, hk, hne, hd, h2, hT => exact hT
        | 19, hk, hne, hd, h2, hT => exact hT
        | n + 20, _, _, _, _, _ => trivial
      case all8 =>
        refine RAll.cons rfl ?_ (RAll.cons rfl ?_ (RAll.cons rfl ?_ (RAll.cons rfl ?_ (RAll.cons rfl ?_ (RAll.cons rfl ?_ (RAll.cons rfl ?_ (RAll.guarded 6 37 true rfl (by kernel_rfl) (fun _ _ h => h) ?_ (RAll.guarded 6 37 true rfl (by kernel_rfl) (fun _ _ h => h) ?_ (RAll.guarded 6 37 true rfl (by kernel_rfl) (fun _ _ h => h) ?_ (RAll.guarded 6 37 true rfl (by kernel_rfl) (fun _ _ h => h) ?_ (RAll.guarded 6 37 true rfl (by kernel_rfl) (fun _ _ h => h) ?_ (RAll.guarded 6 37 true rfl (by kernel_rfl) (fun _ _ h => h) ?_ (RAll.guarded 6 37 true rfl (by kernel_rfl) (fun _ _ h => h) ?_ (RAll.guarded 6 37 true rfl (by kernel_rfl) (fun _ _ h => h) ?_ (RAll.guarded 6 37 true rfl (by kernel_rfl) (fun _ _ h => h) ?_ (RAll.guarded 6 37 true rfl (by kernel_rfl) (fun _ _ h => h) ?_ (RAll.guarded 6 37 true rfl (by kernel_rfl) (fun _ _ h => h) ?_ (RAll.cons rfl ?_ (RAll.cons rfl ?_ (RAll.none_))))))))))))))))))))
        · intro a k wa K Q _ hI hp hK
          have e2 := tmp_of (show a.eval (.tmp 2) = .pointer (some ⟨gx, 0, none⟩) from hp.keep 2 (by kernel_rfl))
          go_simp
          exact hK _ _ rfl (Below.refl _ _) hI
        · intro a k wa K Q _ hI hp hK
          have e31 := tmp_of (show a.eval (.tmp 31) = .pointer (some ⟨gx, 3, Option.none⟩) from hp.dep 0 31 (by kernel_rfl))
          have b3_ := below_cell hI b3
          go_simp
          exact hK _ _ rfl (Below.refl _ _) hI
        · intro a k wa K Q _ hI hp hK
          have e32 := tmp_of (show a.eval (.tmp 32) = .slice (some ⟨b, off, none⟩) 2 c from hp.dep 1 32 (by kernel_rfl))
          go_simp
          exact hK _ _ (rfl) (Below.refl _ _) hI
        · intro a k wa K Q _ hI hp hK
          have e33 := tmp_of (show a.eval (.tmp 33) = .pointer (some ⟨b, off, Option.none⟩) from hp.dep 2 33 (by kernel_rfl))
          have p0_ := below_cell hI p0
          have p1_ := below_cell hI p1
          have p2_ := below_cell hI p2
          have p3_ := below_cell hI p3
          go_simp
          exact hK _ _ rfl (Below.refl _ _) hI
        · intro a k wa K Q _ hI hp hK
          exact op_move _ (.inl rfl) (hK _ _ (hp.keep 1 (by kernel_rfl)) (Below.refl _ _) hI)
        · intro a k wa K Q _ hI hp hK
          have e34 := tmp_of (show a.eval (.tmp 34) = .agg #[.int .i64 (exAt r.ps 0).k, .int .i64 (exAt r.ps 0).n, .string (exAt r.ps 0).s, .slice A0 (exAt r.ps 0).ps.length c0] from hp.dep 3 34 (by kernel_rfl))
          have e35 := tmp_of (show a.eval (.tmp 35) = .slice Ak kl.length ck from hp.dep 4 35 (by kernel_rfl))
          go_simp
          refine (HQ1.out _ _ _ kl c0 ck _ (u0.below hI) s0 (hKW.below hI) (by omega) HG0.out HC1.out).mono ?_
          rw [HX.out]
          rintro e wb ⟨rfl, hb⟩
          exact hK _ _ rfl hb (ext_trans hI hb)
        · intro a k wa K Q _ hI hp hK
          exact op_move _ (.inl rfl) (hK _ _ (hp.dep 5 36 (by kernel_rfl)) (Below.refl _ _) hI)
        · intro a k wa K Q _ hI hp hK
          have e2 := tmp_of (show a.eval (.tmp 2) = .pointer (some ⟨gx, 0, none⟩) from hp.keep 2 (by kernel_rfl))
          go_simp
          exact hK _ _ rfl (Below.refl _ _) hI
        · intro a k wa K Q _ hI hp hK
          have e38 := tmp_of (show a.eval (.tmp 38) = .pointer (some ⟨gx, 3, Option.none⟩) from hp.dep 7 38 (by kernel_rfl))
          have b3_ := below_cell hI b3
          go_simp
          exact hK _ _ rfl (Below.refl _ _) hI
        · intro a k wa K Q _ hI hp hK
          have e39 := tmp_of (show a.eval (.tmp 39) = .slice (some ⟨b, off, none⟩) 2 c from hp.dep 8 39 (by kernel_rfl))
          go_simp
          exact hK _ _ (rfl) (Below.refl _ _) hI
        · intro a k wa K Q _ hI hp hK
          have e40 := tmp_of (show a.eval (.tmp 40) = .pointer (some ⟨b, off + 4, Option.none⟩) from hp.dep 9 40 (by kernel_rfl))
          have q0_ := below_cell hI q0
          have q1_ := below_cell hI q1
          have q2_ := below_cell hI q2
          have q3_ := below_cell hI q3
          go_simp
          exact hK _ _ rfl (Below.refl _ _) hI
        · intro a k wa K Q _ hI hp hK
          have e2 := tmp_of (show a.eval (.tmp 2) = .pointer (some ⟨gx, 0, none⟩) from hp.keep 2 (by kernel_rfl))
          go_simp
          exact hK _ _ rfl (Below.refl _ _) hI
        · intro a k wa K Q _ hI hp hK
          have e42 := tmp_of (show a.eval (.tmp 42) = .pointer (some ⟨gx, 3, Option.none⟩) from hp.dep 11 42 (by kernel_rfl))
          have b3_ := below_cell hI b3
          go_simp
          exact hK _ _ rfl (Below.refl _ _) hI
        · intro a k wa K Q _ hI hp hK
          have e43 := tmp_of (show a.eval (.tmp 43) = .slice (some ⟨b, off, none⟩) 2 c from hp.dep 12 43 (by kernel_rfl))
          go_simp
          exact hK _ _ (rfl) (Below.refl _ _) hI
        · intro a k wa K Q _ hI hp hK
          have e44 := tmp_of (show a.eval (.tmp 44) = .pointer (some ⟨b, off, Option.none⟩) from hp.dep 13 44 (by kernel_rfl))
          have p0_ := below_cell hI p0
          have p1_ := below_cell hI p1
          have p2_ := below_cell hI p2
          have p3_ := below_cell hI p3
          go_simp
          exact hK _ _ rfl (Below.refl _ _) hI
        · intro a k wa K Q _ hI hp hK
          exact op_move _ (.inl rfl) (hK _ _ (hp.keep 1 (by kernel_rfl)) (Below.refl _ _) hI)
        · intro a k wa K Q _ hI hp hK
          have e45 := tmp_of (show a.eval (.tmp 45) = .agg #[.int .i64 (exAt r.ps 0).k, .int .i64 (exAt r.ps 0).n, .string (exAt r.ps 0).s, .slice A0 (exAt r.ps 0).ps.length c0] from hp.dep 14 45 (by kernel_rfl))
          have e46 := tmp_of (show a.eval (.tmp 46) = .slice Ak kl.length ck from hp.dep 15 46 (by kernel_rfl))
          go_simp
          refine (knQ_all D m _ _ _ kl c0 ck _ (u0.below hI) s0 (hKW.below hI) (by omega) HG0.out HC1.out).mono ?_
          rw [← HK1.out]
          rintro e wb ⟨A5, c5, rfl, hk5, hb⟩
          exact hK _ _ ⟨A5, c5, rfl, hk5⟩ hb (ext_trans hI hb)
        · intro a k wa K Q _ hI hp hK
          have e41 := tmp_of (show a.eval (.tmp 41) = .agg #[.int .i64 (exAt r.ps 1).k, .int .i64 (exAt r.ps 1).n, .string (exAt r.ps 1).s, .slice A1 (exAt r.ps 1).ps.length c1] from hp.dep 10 41 (by kernel_rfl))
          have t47 : KnV D K1 wa (a.eval (.tmp 47)) := hp.dep 16 47 (by kernel_rfl)
          obtain ⟨A5, c5, e47, hk5⟩ := t47
          replace e47 := tmp_of e47
          go_simp
          refine (HQ1.out _ _ _ K1 c1 c5 _ (u1.below hI) s1 hk5 (by omega) HG1.out HC2.out).mono ?_
          rw [HY.out]
          rintro e wb ⟨rfl, hb⟩
          exact hK _ _ rfl hb (ext_trans hI hb)
        · intro a k wa K Q _ hI hp hK
          exact op_pick_t _ _ _ rfl (hp.dep 6 37 (by kernel_rfl)) (hK _ _ (hp.dep 17 48 (by kernel_rfl)) (Below.refl _ _) hI)
        · intro a k wa K Q _ hI hp hK
          exact op_move _ (.inr rfl) (hK _ _ (hp.dep 18 49 (by kernel_rfl)) (Below.refl _ _) hI)
      case fin8 =>
        intro f w9 hT hI0
        have hI : Below W.heap.size W w9 := hI0
        have hr6 : (f 19) = .bool y := hT 19 (by decide) rfl rfl
        clear hT hI0
        simp only [putAll, hr6]
        go_simp
        go_wp2
        go_ret
        exact ⟨by rw [HR.out, HX.out, ← HK1.out, HY.out]; rfl, ext_trans HBW.out hI⟩
  have e14 : (r.k == 14) = false := by simp [h14]
  have H7 := Lib.hid h7
  have H8 := Lib.hid h8
  have H14 := Lib.hid h14
  have HB3 := Lib.hid b3
  clear h7 h8 h14 b1 b2 b3
  go_enter Try.func73, Try.ntmps73
  go_wp2
  rw [← HW.out]
  have b3 := HB3.out
  first | rw [← HGX.out] | skip
  clear b0
  go_loopw [6] (fun i wr => ∃ k : Nat, k ≤ r.ps.length ∧ i = .int .i64 k ∧ Hid (∀ j, j < k → guS d (exAt r.ps j) kl = true) ∧ Below W.heap.size W wr) (fun i _ => r.ps.length - (intOf i).toNat)
  case atStart => exact ⟨0, Nat.zero_le _, rfl, Lib.hid (fun j h => by omega), Below.refl _ _⟩
  case round =>
    clear b3
    obtain ⟨k, hk, rfl, HA, hB⟩ := hrel
    have b3 := below_cell hB HB3.out
    by_cases hlt : k < r.ps.length
    · have hd : ∃ m, d = m + 1 := by
        cases d with
        | zero => have := exS.zero hUW; rw [this] at hlt; simp at hlt
        | succ m => exact ⟨m, rfl⟩
      obtain ⟨m, hm⟩ := hd
      subst hm
      have HQ1 := Lib.hid (HQ.out m rfl)
      obtain ⟨b, off, rfl, hc⟩ := hUW.cells (by omega)
      obtain ⟨A1, c1, hfd, hs1, p0, p1, p2, p3⟩ := hc k hlt
      replace p0 := below_cell hB p0
      replace p1 := below_cell hB p1
      replace p2 := below_cell hB p2
      replace p3 := below_cell hB p3
      replace hfd := hfd.below hB
      have hK2 := hKW.below hB
      have HC := Lib.hid (show kl.length + 1 + cntR (m + 1) (exAt r.ps k) ≤ 1048576 by have := HN.out; have := cnt_part (d := m + 1) hlt; omega)
      have HG0 := Lib.hid (gd_part HG.out hlt)
      clear hc
      obtain ⟨y, hy⟩ : ∃ y, guS (m + 1) (exAt r.ps k) kl = y := ⟨_, rfl⟩
      have HY := Lib.hid hy
      clear hy
      cases y
      all_goals
        go_wp2_with fail
        refine (HQ1.out _ _ _ kl c1 ck _ hfd hs1 hK2 (by omega) HG0.out HC.out).mono ?_
        rintro e w4 ⟨rfl, hb⟩
        rw [HY.out]
        replace hB := ext_trans hB hb
        clear hb p0 p1 p2 p3 b3
        go_wp2
      · go_ret
        exact ⟨by rw [guS_no H7.out H8.out H14.out hlt HY.out]; rfl, ext_trans HBW.out hB⟩
      · go_roundw
        case rel => exact ⟨k + 1, by omega, by go_num, Lib.hid (all_succ HA.out HY.out), hB⟩
        case measure => simp [intOf]; omega
    · obtain rfl : k = r.ps.length := by omega
      go_wp2
      go_ret
      exact ⟨by rw [guS_yes H7.out H8.out H14.out HA.out]; rfl, ext_trans HBW.out hB⟩
theorem gsQ_all (D : Nat) : ∀ d, GsQ d D
  | 0 => gsQ_of (fun m h => by cases h)
  | d + 1 => gsQ_of (fun m h => by cases h; exact gsQ_all D d)
end Go.Proofs.Ytodjokdaofefdaa

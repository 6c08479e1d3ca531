/- Guards, by the reference: what is known if an expression holds. -/
import Derived.Test.YtodjokdaofefdaaGreatQ3
namespace Go.Proofs.YtodjokdaofefdaaGreat
set_option linter.unusedSimpArgs false
set_option linter.unusedVariables false
open Go.RowKit

def KnQ (d D : Nat) : Prop := ∀ (A Ak : Option Addr) (r : Ex) (kl : ExL) (c ck : Nat) (w : World), exW d w A r.ps → r.s.size ≤ 9223372036854775807 → exW D w Ak kl → d + 1 ≤ D → gdR (d + 1) r = true → kl.length + 1 + cntR (d + 1) r ≤ 1048576 →
  Calls Tryz.prog 88 #[.agg #[.int .i64 r.k, .int .i64 r.n, .string r.s, .slice A r.ps.length c], .slice Ak kl.length ck] w fun e w' => ∃ A' c', e = .returned (.slice A' (knS (d + 1) r kl).length c') ∧ exW D w' A' (knS (d + 1) r kl) ∧ Below w.heap.size w w'
/-- The cells of two parts. -/
theorem exW.two {d : Nat} {w : World} {A : Option Addr} {l : ExL} (h : exW (d + 1) w A l) (hl : l.length = 2) : ∃ b off A0 A1 c0 c1, A = some ⟨b, off, none⟩ ∧ (exW d w A0 (exAt l 0).ps ∧ (exAt l 0).s.size ≤ 9223372036854775807 ∧
    w.cell? ⟨b, off, none⟩ = some (.int .i64 (exAt l 0).k) ∧ w.cell? ⟨b, off + 1, none⟩ = some (.int .i64 (exAt l 0).n) ∧ w.cell? ⟨b, off + 2, none⟩ = some (.string (exAt l 0).s) ∧ w.cell? ⟨b, off + 3, none⟩ = some (.slice A0 (exAt l 0).ps.length c0)) ∧
    (exW d w A1 (exAt l 1).ps ∧ (exAt l 1).s.size ≤ 9223372036854775807 ∧
    w.cell? ⟨b, off + 4, none⟩ = some (.int .i64 (exAt l 1).k) ∧ w.cell? ⟨b, off + 4 + 1, none⟩ = some (.int .i64 (exAt l 1).n) ∧ w.cell? ⟨b, off + 4 + 2, none⟩ = some (.string (exAt l 1).s) ∧ w.cell? ⟨b, off + 4 + 3, none⟩ = some (.slice A1 (exAt l 1).ps.length c1)) := by
  obtain ⟨b, off, rfl, hc⟩ := h.cells (by omega)
  obtain ⟨A0, c0, g0⟩ := hc 0 (by omega)
  obtain ⟨A1, c1, g1⟩ := hc 1 (by omega)
  rw [show off + 0 * 4 = off by omega] at g0
  rw [show off + 1 * 4 = off + 4 by omega] at g1
  exact ⟨b, off, A0, A1, c0, c1, rfl, g0, g1⟩
set_option maxRecDepth 100000 in
set_option maxHeartbeats 4000000 in
theorem knQ_of {d D : Nat} (hQ : ∀ m, d = m + 1 → KnQ m D) : KnQ d D := by
  intro A Ak r kl c ck w hU hs hK0 hD hg hn
  have hlen := exS.len hU
  have HG := Lib.hid hg
  have HQ := Lib.hid hQ
  clear hg hQ
  obtain ⟨W, hW⟩ : ∃ W, W = w.alloc (.cells #[.int .i64 r.k, .int .i64 r.n, .string r.s, .slice A r.ps.length c] 36) := ⟨_, rfl⟩
  obtain ⟨gx, hgx⟩ : ∃ g, g = w.heap.size := ⟨_, rfl⟩
  have hBW : Below w.heap.size w W := by rw [hW]; (repeat (first | exact Below.refl _ _ | refine ext_alloc ?_ _ | refine Below.setCell ?_ (by simp) _))
  have b0 : W.cell? ⟨gx, 0, none⟩ = some (.int .i64 r.k) := by rw [hW, hgx]; exact box_cell w _ _ 0 _ rfl
  have b1 : W.cell? ⟨gx, 1, none⟩ = some (.int .i64 r.n) := by rw [hW, hgx]; exact box_cell w _ _ 1 _ rfl
  have b2 : W.cell? ⟨gx, 2, none⟩ = some (.string r.s) := by rw [hW, hgx]; exact box_cell w _ _ 2 _ rfl
  have b3 : W.cell? ⟨gx, 3, none⟩ = some (.slice A r.ps.length c) := by rw [hW, hgx]; exact box_cell w _ _ 3 _ rfl
  have hUW := hU.below hBW
  have hKW := hK0.below hBW
  have HW := Lib.hid hW
  have HGX := Lib.hid hgx
  have HBW := Lib.hid hBW
  clear hW hgx hBW hU
  by_cases h9 : r.k = 9
  · have e9 : (r.k == 9) = true := by simp [h9]
    have hkn : knS (d + 1) r kl = kl ++ [r] := by rw [knS, if_pos h9]
    rw [hkn]
    clear h9 hkn
    have HKL := Lib.hid (show kl.length + 1 ≤ 1048576 by omega)
    clear hn
    go_enter Tryz.func88, Tryz.ntmps88
    go_wp2_with fail
    rw [← HW.out, ← HGX.out]
    go_wp2_with fail
    refine wp_region_kinds2 (fun i wz vz => match i with | 0 => FrB W.heap.size 36 0 #[] wz vz | 1 => vz = .slice Ak kl.length ck | 2 => OwnE D W.heap.size W.heap.size kl wz vz | 3 => vz = .agg #[.int .i64 r.k, .int .i64 r.n, .string r.s, .slice A r.ps.length c] | 4 => FrB W.heap.size 36 1 #[.int .i64 r.k, .int .i64 r.n, .string r.s, .slice A r.ps.length c] wz vz | 5 => OwnE D W.heap.size W.heap.size (kl ++ [r]) wz vz | 6 => OwnE D W.heap.size W.heap.size (kl ++ [r]) wz vz | _ => True) (fun _ wz => Below W.heap.size W wz) (fun i w w' => Below (if i = 5 then W.heap.size else w.heap.size) w w') (fun j => match j with | 0 => some 5 | 2 => some 5 | 4 => some 5 | _ => Option.none) (by kernel_rfl) (by kernel_rfl) (by kernel_rfl) ?stab3 (ext_drew (Below.refl _ _)) ?all3 ?fin3
    case stab3 =>
      intro i j wa wb v hR hk hne hd _ h2 hT
      match j, hk, hne, hd, h2, hT with
      | 0, hk, hne, hd, h2, hT => exact FrB.below hT (rel_un (fun e => hk (by subst e; rfl)) hR)
      | 1, hk, hne, hd, h2, hT => exact hT
      | 2, hk, hne, hd, h2, hT => exact OwnE.below hT (rel_un (fun e => hk (by subst e; rfl)) hR)
      | 3, hk, hne, hd, h2, hT => exact hT
      | 4, hk, hne, hd, h2, hT => exact FrB.below hT (rel_un (fun e => hk (by subst e; rfl)) hR)
      | 5, hk, hne, hd, h2, hT => exact OwnE.below hT (rel_un (fun e => hne e.symm) hR)
      | 6, hk, hne, hd, h2, hT => exact OwnE.below hT (rel_un (fun e => by subst e; exact Bool.noConfusion (hd.symm.trans (show depB _ 6 5 = true from by kernel_rfl))) hR)
      | n + 7, _, _, _, _, _ => trivial
    case all3 =>
      refine RAll.cons rfl ?_ (RAll.cons rfl ?_ (RAll.cons rfl ?_ (RAll.cons rfl ?_ (RAll.cons rfl ?_ (RAll.cons rfl ?_ (RAll.cons rfl ?_ (RAll.none_)))))))
      · intro a k wa K Q _ hI hp hK
        go_simp
        exact hK _ _ ⟨_, rfl, hI.size, heap_alloc_new _ _⟩ (rel_ne (by decide) (below_alloc _ _)) (ext_alloc hI _)
      · intro a k wa K Q _ hI hp hK
        exact op_move _ (.inl rfl) (hK _ _ (hp.keep 1 (by kernel_rfl)) (Below.refl _ _) hI)
      · intro a k wa K Q _ hI hp hK
        have t9 : FrB W.heap.size 36 0 #[] wa (a.eval (.tmp 9)) := hp.dep 0 9 (by kernel_rfl)
        have e10 := tmp_of (show a.eval (.tmp 10) = .slice Ak kl.length ck from hp.dep 1 10 (by kernel_rfl))
        refine op_append_emptyG (R := exR D 0 W.heap.size) (l := kl) (B := W.heap.size) (.tmp 9) (.tmp 10) 34 36 _ 4 56 rfl Tryz.underlying34 Tryz.infoExpr rfl (by decide) t9 (hp.dep 1 10 (by kernel_rfl)) (exS.below hKW (Nat.le_refl _) hI).1 (fun w' hb a cs h => exR.below h hI.size hb) hI.size (by have := HKL.out; omega) (by have := HKL.out; omega) ?_
        intro v' wb ho' hb
        exact hK _ _ ⟨⟨Nat.le_trans hI.size hb.size, Nat.le_refl _⟩, ho'⟩ (rel_ne (by decide) hb) (ext_trans hI hb)
      · intro a k wa K Q _ hI hp hK
        have e2 := tmp_of (show a.eval (.tmp 2) = .pointer (some ⟨gx, 0, none⟩) from hp.keep 2 (by kernel_rfl))
        have b0_ := below_cell hI b0
        have b1_ := below_cell hI b1
        have b2_ := below_cell hI b2
        have b3_ := below_cell hI b3
        go_simp
        exact hK _ _ rfl (Below.refl _ _) hI
      · intro a k wa K Q _ hI hp hK
        have e12 := tmp_of (show a.eval (.tmp 12) = .agg #[.int .i64 r.k, .int .i64 r.n, .string r.s, .slice A r.ps.length c] from hp.dep 3 12 (by kernel_rfl))
        go_simp
        exact hK _ _ ⟨_, rfl, hI.size, heap_alloc_new _ _⟩ (rel_ne (by decide) (below_alloc _ _)) (ext_alloc hI _)
      · intro a k wa K Q _ hI hp hK
        have t11 : OwnE D W.heap.size W.heap.size kl wa (a.eval (.tmp 11)) := hp.dep 2 11 (by kernel_rfl)
        have t13 : FrB W.heap.size 36 1 #[.int .i64 r.k, .int .i64 r.n, .string r.s, .slice A r.ps.length c] wa (a.eval (.tmp 13)) := hp.dep 4 13 (by kernel_rfl)
        have hM := t11.2
        obtain ⟨A9, c9, e13, hr9⟩ := ((OwnE.one (exS.below hUW (Nat.le_refl _) hI) hs (Nat.le_refl _) hI.size t13).deeper hD).2.rd (by simp)
        refine op_appendG (R := exR D 0 W.heap.size) (l := kl) (l2 := [r]) (.tmp 11) (.tmp 13) 34 36 _ 4 56 rfl Tryz.underlying34 Tryz.infoExpr rfl (by decide) (fun a cs h => exR.one h) rfl hM e13 hr9 (fun w' hg a cs h => exR.row hI.size hg (fun k hk => (hM.ge k hk).1) h) (by have := HKL.out; simp; omega) (by have := HKL.out; simp; omega) hI.size ?_
        intro v' wb ho' hb' hgr _
        exact hK _ _ ⟨⟨Nat.le_trans hI.size hb'.size, Nat.le_refl _⟩, ho'⟩ (rel_eq rfl hb') (hI.trans hb')
      · intro a k wa K Q _ hI hp hK
        exact op_move _ (.inr rfl) (hK _ _ (hp.dep 5 14 (by kernel_rfl)) (Below.refl _ _) hI)
    case fin3 =>
      intro f w9 hT hI0
      have hI : Below W.heap.size W w9 := hI0
      have hr6 : OwnE D W.heap.size W.heap.size (kl ++ [r]) w9 (f 6) := hT 6 (by decide) rfl rfl
      clear hT hI0
      obtain ⟨A6, c6, e6, h6⟩ := hr6.rd (by have := HKL.out; simp; omega)
      simp only [putAll, e6]
      go_simp
      go_wp2
      go_ret
      exact ⟨A6, c6, by simp, h6, ext_trans HBW.out hI⟩
  · have e9 : (r.k == 9) = false := by simp [h9]
    by_cases h14 : r.k = 14
    · have e14 : (r.k == 14) = true := by simp [h14]
      have hl := head_14 (gd_head HG.out) h14
      have HW2 := Lib.hid (show W = w.alloc (.cells #[.int .i64 r.k, .int .i64 r.n, .string r.s, .slice A 2 c] 36) by rw [HW.out, hl])
      have hd : ∃ m, d = m + 1 := by
        cases d with
        | zero => have := exS.zero hUW; rw [this] at hl; simp at hl
        | succ m => exact ⟨m, rfl⟩
      obtain ⟨m, hm⟩ := hd
      subst hm
      have HQ1 := Lib.hid (HQ.out m rfl)
      have hkn : knS (m + 1 + 1) r kl = knS (m + 1) (exAt r.ps 1) (knS (m + 1) (exAt r.ps 0) kl) := by rw [knS, if_neg h9, if_pos h14]
      rw [hkn]
      have hg0 := gd_part HG.out (k := 0) (by omega)
      have hg1 := gd_part HG.out (k := 1) (by omega)
      have hct := cnt_two (d := m + 1) hl
      have hkl := kn_len (m + 1) (exAt r.ps 0) kl hg0
      have hn0 : kl.length + 1 + cntR (m + 1) (exAt r.ps 0) ≤ 1048576 := by omega
      have hn1 : (knS (m + 1) (exAt r.ps 0) kl).length + 1 + cntR (m + 1) (exAt r.ps 1) ≤ 1048576 := by omega
      obtain ⟨b, off, A0, A1, c0, c1, rfl, ⟨u0, s0, p0, p1, p2, p3⟩, ⟨u1, s1, q0, q1, q2, q3⟩⟩ := exW.two hUW hl
      obtain ⟨K1, hK1⟩ : ∃ K1, K1 = knS (m + 1) (exAt r.ps 0) kl := ⟨_, rfl⟩
      obtain ⟨K2, hK2⟩ : ∃ K2, K2 = knS (m + 1) (exAt r.ps 1) K1 := ⟨_, rfl⟩
      rw [← hK1] at hn1 ⊢
      rw [← hK2]
      have HC1 := Lib.hid hn0
      have HC2 := Lib.hid hn1
      have HG0 := Lib.hid hg0
      have HG1 := Lib.hid hg1
      have HK1 := Lib.hid hK1
      have HK2 := Lib.hid hK2
      rw [hl] at b3
      rw [hl]
      have HL := Lib.hid hl
      clear hlen hl h9 h14 hkn hn0 hn1 hct hkl hg0 hg1 hK1 hK2 hn
      go_enter Tryz.func88, Tryz.ntmps88
      go_wp2_with fail
      rw [← HW2.out, ← HGX.out]
      go_wp2_with fail
      refine wp_region_kinds2 (fun i wz vz => match i with | 0 => vz = .pointer (some ⟨gx, 3, Option.none⟩) | 1 => vz = .slice (some ⟨b, off, none⟩) 2 c | 2 => vz = .pointer (some ⟨b, off + 4, Option.none⟩) | 3 => vz = .agg #[.int .i64 (exAt r.ps 1).k, .int .i64 (exAt r.ps 1).n, .string (exAt r.ps 1).s, .slice A1 (exAt r.ps 1).ps.length c1] | 4 => vz = .pointer (some ⟨gx, 3, Option.none⟩) | 5 => vz = .slice (some ⟨b, off, none⟩) 2 c | 6 => vz = .pointer (some ⟨b, off, Option.none⟩) | 7 => vz = .agg #[.int .i64 (exAt r.ps 0).k, .int .i64 (exAt r.ps 0).n, .string (exAt r.ps 0).s, .slice A0 (exAt r.ps 0).ps.length c0] | 8 => vz = .slice Ak kl.length ck | 9 => KnV D K1 wz vz | 10 => KnV D K2 wz vz | 11 => KnV D K2 wz vz | _ => True) (fun _ wz => Below W.heap.size W wz) (fun i w w' => Below w.heap.size w w') (fun _ => Option.none) (by kernel_rfl) (by kernel_rfl) (by kernel_rfl) ?stab5 (ext_drew (Below.refl _ _)) ?all5 ?fin5
      case stab5 =>
        intro i j wa wb v hR hk hne hd _ h2 hT
        match j, hk, hne, hd, h2, hT with
        | 0, hk, hne, hd, h2, hT => exact hT
        | 1, hk, hne, hd, h2, hT => exact hT
        | 2, hk, hne, hd, h2, hT => exact hT
        | 3, hk, hne, hd, h2, hT => exact hT
        | 4, hk, hne, hd, h2, hT => exact hT
        | 5, hk, hne, hd, h2, hT => exact hT
        | 6, hk, hne, hd, h2, hT => exact hT
        | 7, hk, hne, hd, h2, hT => exact hT
        | 8, hk, hne, hd, h2, hT => exact hT
        | 9, hk, hne, hd, h2, hT => exact KnV.below hT hR
        | 10, hk, hne, hd, h2, hT => exact KnV.below hT hR
        | 11, hk, hne, hd, h2, hT => exact KnV.below hT hR
        | n + 12, _, _, _, _, _ => trivial
      case all5 =>
        refine RAll.cons rfl ?_ (RAll.cons rfl ?_ (RAll.cons rfl ?_ (RAll.cons rfl ?_ (RAll.cons rfl ?_ (RAll.cons rfl ?_ (RAll.cons rfl ?_ (RAll.cons rfl ?_ (RAll.cons rfl ?_ (RAll.cons rfl ?_ (RAll.cons rfl ?_ (RAll.cons rfl ?_ (RAll.none_))))))))))))
        · intro a k wa K Q _ hI hp hK
          have e2 := tmp_of (show a.eval (.tmp 2) = .pointer (some ⟨gx, 0, none⟩) from hp.keep 2 (by kernel_rfl))
          go_simp
          exact hK _ _ rfl (Below.refl _ _) hI
        · intro a k wa K Q _ hI hp hK
          have e17 := tmp_of (show a.eval (.tmp 17) = .pointer (some ⟨gx, 3, Option.none⟩) from hp.dep 0 17 (by kernel_rfl))
          have b3_ := below_cell hI b3
          go_simp
          exact hK _ _ rfl (Below.refl _ _) hI
        · intro a k wa K Q _ hI hp hK
          have e18 := tmp_of (show a.eval (.tmp 18) = .slice (some ⟨b, off, none⟩) 2 c from hp.dep 1 18 (by kernel_rfl))
          go_simp
          exact hK _ _ (rfl) (Below.refl _ _) hI
        · intro a k wa K Q _ hI hp hK
          have e19 := tmp_of (show a.eval (.tmp 19) = .pointer (some ⟨b, off + 4, Option.none⟩) from hp.dep 2 19 (by kernel_rfl))
          have q0_ := below_cell hI q0
          have q1_ := below_cell hI q1
          have q2_ := below_cell hI q2
          have q3_ := below_cell hI q3
          go_simp
          exact hK _ _ rfl (Below.refl _ _) hI
        · intro a k wa K Q _ hI hp hK
          have e2 := tmp_of (show a.eval (.tmp 2) = .pointer (some ⟨gx, 0, none⟩) from hp.keep 2 (by kernel_rfl))
          go_simp
          exact hK _ _ rfl (Below.refl _ _) hI
        · intro a k wa K Q _ hI hp hK
          have e21 := tmp_of (show a.eval (.tmp 21) = .pointer (some ⟨gx, 3, Option.none⟩) from hp.dep 4 21 (by kernel_rfl))
          have b3_ := below_cell hI b3
          go_simp
          exact hK _ _ rfl (Below.refl _ _) hI
        · intro a k wa K Q _ hI hp hK
          have e22 := tmp_of (show a.eval (.tmp 22) = .slice (some ⟨b, off, none⟩) 2 c from hp.dep 5 22 (by kernel_rfl))
          go_simp
          exact hK _ _ (rfl) (Below.refl _ _) hI
        · intro a k wa K Q _ hI hp hK
          have e23 := tmp_of (show a.eval (.tmp 23) = .pointer (some ⟨b, off, Option.none⟩) from hp.dep 6 23 (by kernel_rfl))
          have p0_ := below_cell hI p0
          have p1_ := below_cell hI p1
          have p2_ := below_cell hI p2
          have p3_ := below_cell hI p3
          go_simp
          exact hK _ _ rfl (Below.refl _ _) hI
        · intro a k wa K Q _ hI hp hK
          exact op_move _ (.inl rfl) (hK _ _ (hp.keep 1 (by kernel_rfl)) (Below.refl _ _) hI)
        · intro a k wa K Q _ hI hp hK
          have e24 := tmp_of (show a.eval (.tmp 24) = .agg #[.int .i64 (exAt r.ps 0).k, .int .i64 (exAt r.ps 0).n, .string (exAt r.ps 0).s, .slice A0 (exAt r.ps 0).ps.length c0] from hp.dep 7 24 (by kernel_rfl))
          have e25 := tmp_of (show a.eval (.tmp 25) = .slice Ak kl.length ck from hp.dep 8 25 (by kernel_rfl))
          go_simp
          refine (HQ1.out _ _ _ kl c0 ck _ (u0.below hI) s0 (hKW.below hI) (by omega) HG0.out HC1.out).mono ?_
          rw [← HK1.out]
          rintro e wb ⟨A5, c5, rfl, hk5, hb⟩
          exact hK _ _ ⟨A5, c5, rfl, hk5⟩ hb (ext_trans hI hb)
        · intro a k wa K Q _ hI hp hK
          have e20 := tmp_of (show a.eval (.tmp 20) = .agg #[.int .i64 (exAt r.ps 1).k, .int .i64 (exAt r.ps 1).n, .string (exAt r.ps 1).s, .slice A1 (exAt r.ps 1).ps.length c1] from hp.dep 3 20 (by kernel_rfl))
          have t26 : KnV D K1 wa (a.eval (.tmp 26)) := hp.dep 9 26 (by kernel_rfl)
          obtain ⟨A5, c5, e26, hk5⟩ := t26
          replace e26 := tmp_of e26
          go_simp
          refine (HQ1.out _ _ _ K1 c1 c5 _ (u1.below hI) s1 hk5 (by omega) HG1.out HC2.out).mono ?_
          rw [← HK2.out]
          rintro e wb ⟨A8, c8, rfl, hk8, hb⟩
          exact hK _ _ ⟨A8, c8, rfl, hk8⟩ hb (ext_trans hI hb)
        · intro a k wa K Q _ hI hp hK
          exact op_move _ (.inr rfl) (hK _ _ (hp.dep 10 27 (by kernel_rfl)) (Below.refl _ _) hI)
      case fin5 =>
        intro f w9 hT hI0
        have hI : Below W.heap.size W w9 := hI0
        have hr6 : KnV D K2 w9 (f 11) := hT 11 (by decide) rfl rfl
        clear hT hI0
        obtain ⟨A6, c6, e6, h6⟩ := hr6
        simp only [putAll, e6]
        go_simp
        go_wp2
        go_ret
        exact ⟨A6, c6, rfl, h6, ext_trans HBW.out hI⟩
    · have e14 : (r.k == 14) = false := by simp [h14]
      have hkn : knS (d + 1) r kl = kl := by rw [knS, if_neg h9, if_neg h14]
      rw [hkn]
      clear h9 h14 hkn
      go_enter Tryz.func88, Tryz.ntmps88
      go_wp2
      rw [← HW.out]
      go_ret
      exact ⟨Ak, ck, rfl, hKW, HBW.out⟩
theorem knQ_all (D : Nat) : ∀ d, KnQ d D
  | 0 => knQ_of (fun m h => by cases h)
  | d + 1 => knQ_of (fun m h => by cases h; exact knQ_all D d)
end Go.Proofs.YtodjokdaofefdaaGreat
/- Guards, by the reference: whether an expression is guarded. -/
namespace Go.Proofs.YtodjokdaofefdaaGreat
set_option linter.unusedSimpArgs false
set_option linter.unusedVariables false
open Go.RowKit

def GsQ (d D : Nat) : Prop := ∀ (A Ak : Option Addr) (r : Ex) (kl : ExL) (c ck : Nat) (w : World), exW d w A r.ps → r.s.size ≤ 9223372036854775807 → exW D w Ak kl → d + 1 ≤ D → gdR (d + 1) r = true → kl.length + 1 + cntR (d + 1) r ≤ 1048576 →
  Calls Tryz.prog 71 #[.agg #[.int .i64 r.k, .int .i64 r.n, .string r.s, .slice A r.ps.length c], .slice Ak kl.length ck] w fun e w' => e = .returned (.bool (guS (d + 1) r kl)) ∧ Below w.heap.size w w'
theorem cnt_part {d : Nat} {t : Ex} {k : Nat} (hk : k < t.ps.length) : 1 + cntR d (exAt t.ps k) ≤ cntR (d + 1) t := by
  have := cnt_at (d := d) hk
  rw [cntR]; omega
theorem guS_no {d : Nat} {r : Ex} {kl : ExL} {k : Nat} (h7 : ¬ r.k = 7) (h8 : ¬ r.k = 8) (h14 : ¬ r.k = 14) (hk : k < r.ps.length) (h : guS d (exAt r.ps k) kl = false) : guS (d + 1) r kl = false := by
  rw [guS, if_neg h7, if_neg h8, if_neg h14, List.all_eq_false]
  exact ⟨_, List.getElem_mem hk, by rw [← exAt_eq hk, h]; simp⟩
theorem guS_yes {d : Nat} {r : Ex} {kl : ExL} (h7 : ¬ r.k = 7) (h8 : ¬ r.k = 8) (h14 : ¬ r.k = 14) (h : ∀ k, k < r.ps.length → guS d (exAt r.ps k) kl = true) : guS (d + 1) r kl = true := by
  rw [guS, if_neg h7, if_neg h8, if_neg h14, all_at]
  exact h
theorem exW.one {d : Nat} {w : World} {A : Option Addr} {l : ExL} (h : exW (d + 1) w A l) (hl : l.length = 1) : ∃ b off A0 c0, A = some ⟨b, off, none⟩ ∧ exW d w A0 (exAt l 0).ps ∧ (exAt l 0).s.size ≤ 9223372036854775807 ∧
    w.cell? ⟨b, off, none⟩ = some (.int .i64 (exAt l 0).k) ∧ w.cell? ⟨b, off + 1, none⟩ = some (.int .i64 (exAt l 0).n) ∧ w.cell? ⟨b, off + 2, none⟩ = some (.string (exAt l 0).s) ∧ w.cell? ⟨b, off + 3, none⟩ = some (.slice A0 (exAt l 0).ps.length c0) := by
  obtain ⟨b, off, rfl, hc⟩ := h.cells (by omega)
  obtain ⟨A0, c0, g0⟩ := hc 0 (by omega)
  rw [show off + 0 * 4 = off by omega] at g0
  exact ⟨b, off, A0, c0, rfl, g0⟩
set_option maxRecDepth 100000 in
set_option maxHeartbeats 8000000 in
theorem gsQ_of {d D : Nat} (hQ : ∀ m, d = m + 1 → GsQ m D) : GsQ d D := by
  intro A Ak r kl c ck w hU hs hK0 hD hg hn
  have hlen := exS.len hU
  have HG := Lib.hid hg
  have HQ := Lib.hid hQ
  have HN := Lib.hid hn
  clear hg hQ hn
  obtain ⟨W, hW⟩ : ∃ W, W = w.alloc (.cells #[.int .i64 r.k, .int .i64 r.n, .string r.s, .slice A r.ps.length c] 36) := ⟨_, rfl⟩
  obtain ⟨gx, hgx⟩ : ∃ g, g = w.heap.size := ⟨_, rfl⟩
  have hBW : Below w.heap.size w W := by rw [hW]; (repeat (first | exact Below.refl _ _ | refine ext_alloc ?_ _ | refine Below.setCell ?_ (by simp) _))
  have b0 : W.cell? ⟨gx, 0, none⟩ = some (.int .i64 r.k) := by rw [hW, hgx]; exact box_cell w _ _ 0 _ rfl
  have b1 : W.cell? ⟨gx, 1, none⟩ = some (.int .i64 r.n) := by rw [hW, hgx]; exact box_cell w _ _ 1 _ rfl
  have b2 : W.cell? ⟨gx, 2, none⟩ = some (.string r.s) := by rw [hW, hgx]; exact box_cell w _ _ 2 _ rfl
  have b3 : W.cell? ⟨gx, 3, none⟩ = some (.slice A r.ps.length c) := by rw [hW, hgx]; exact box_cell w _ _ 3 _ rfl
  have hUW := hU.below hBW
  have hKW := hK0.below hBW
  have HW := Lib.hid hW
  have HGX := Lib.hid hgx
  have HBW := Lib.hid hBW
  clear hW hgx hBW hU hK0
  by_cases h7 : r.k = 7
  · have e7 : (r.k == 7) = true := by simp [h7]
    have HR : Hid (guS (d + 1) r kl = false) := Lib.hid (by rw [guS, if_pos h7])
    clear h7
    go_enter Tryz.func71, Tryz.ntmps71
    go_wp2
    rw [← HW.out]
    go_ret
    exact ⟨by rw [HR.out]; rfl, HBW.out⟩
  have e7 : (r.k == 7) = false := by simp [h7]
  by_cases h8 : r.k = 8
  · have e8 : (r.k == 8) = true := by simp [h8]
    have hl := (head_8 (gd_head HG.out) h8).2
    have hd : ∃ m, d = m + 1 := by
      cases d with
      | zero => have := exS.zero hUW; rw [this] at hl; simp at hl
      | succ m => exact ⟨m, rfl⟩
    obtain ⟨m, hm⟩ := hd
    subst hm
    obtain ⟨D', hD'⟩ : ∃ D', D = D' + 1 := ⟨D - 1, by omega⟩
    subst hD'
    have HR : Hid (guS (m + 1 + 1) r kl = (hasB kl (asHas0 r) && guS (m + 1) (exAt r.ps 0) kl)) := Lib.hid (by rw [guS, if_neg h7, if_pos h8])
    have hcp := cnt_part (d := m + 1) (t := r) (k := 0) (by omega)
    have HC := Lib.hid (show kl.length + 1 + cntR (m + 1) (exAt r.ps 0) ≤ 1048576 by have := HN.out; omega)
    have HG0 := Lib.hid (gd_part HG.out (k := 0) (by omega))
    have HQ1 := Lib.hid (HQ.out m rfl)
    have HW2 := Lib.hid (show W = w.alloc (.cells #[.int .i64 r.k, .int .i64 r.n, .string r.s, .slice A 1 c] 36) by rw [HW.out, hl])
    obtain ⟨b, off, A0, c0, rfl, u0, s0, p0, p1, p2, p3⟩ := exW.one hUW hl
    rw [hl] at b3
    rw [hl]
    have HL := Lib.hid hl
    clear hcp h7 h8 hl hlen
    obtain ⟨Y, hY⟩ : ∃ Y, Y = W.alloc (.cells #[.int .i64 9, .int .i64 0, .string r.s, .slice (some ⟨b, off, none⟩) 1 c] 36) := ⟨_, rfl⟩
    have hBY : Below W.heap.size W Y := by rw [hY]; (repeat (first | exact Below.refl _ _ | refine ext_alloc ?_ _ | refine Below.setCell ?_ (by simp) _))
    have HUY := Lib.hid ((hUW.below hBY).deeper (show m + 1 ≤ D' by omega))
    have HKY := Lib.hid (hKW.below hBY)
    have HY := Lib.hid hY
    have HBY := Lib.hid hBY
    clear hY hBY
    obtain ⟨y, hy⟩ : ∃ y, hasB kl (asHas0 r) = y := ⟨_, rfl⟩
    have hcon : ∀ (X : World), X = Y → Calls Tryz.prog 64 #[.slice Ak kl.length ck, .agg #[.int .i64 9, .int .i64 0, .string r.s, .slice (some ⟨b, off, none⟩) 1 c]] X fun e w' => e = .returned (.bool y) ∧ Below Y.heap.size Y w' := by
      rintro X rfl
      have h := specHas_any (D := D') (l := kl) (r := asHas0 r) (A := Ak) (A' := some ⟨b, off, none⟩) (c := ck) (c' := c) (w := X) HKY.out HUY.out
      rw [hy] at h
      have hl2 : (asHas0 r).ps.length = 1 := HL.out
      rw [hl2] at h
      exact h
    have HCON := Lib.hid hcon
    have HYY := Lib.hid hy
    clear hcon hy
    cases y
    · go_enter Tryz.func71, Tryz.ntmps71
      go_wp2_with fail
      rw [← HW2.out]
      first | refine (HCON.out _ HY.out.symm).mono ?_ | (rw [← HY.out]; refine (HCON.out _ rfl).mono ?_)
      rintro e w1 ⟨rfl, hB⟩
      replace hB := ext_trans HBW.out (ext_trans HBY.out hB)
      clear b0 b1 b2 b3 p0 p1 p2 p3
      go_wp2
      go_ret
      exact ⟨by rw [HR.out, HYY.out]; rfl, hB⟩
    · go_enter Tryz.func71, Tryz.ntmps71
      go_wp2_with fail
      rw [← HW2.out, ← HGX.out]
      first | refine (HCON.out _ HY.out.symm).mono ?_ | (rw [← HY.out]; refine (HCON.out _ rfl).mono ?_)
      rintro e w1 ⟨rfl, hB⟩
      replace hB := ext_trans HBY.out hB
      replace b0 := below_cell hB b0
      replace b1 := below_cell hB b1
      replace b2 := below_cell hB b2
      replace b3 := below_cell hB b3
      replace p0 := below_cell hB p0
      replace p1 := below_cell hB p1
      replace p2 := below_cell hB p2
      replace p3 := below_cell hB p3
      replace u0 := u0.below hB
      replace hKW := hKW.below hB
      have HB := Lib.hid (ext_trans HBW.out hB)
      clear hB
      go_wp2_with fail
      refine (HQ1.out _ _ _ kl c0 ck _ u0 s0 hKW (by omega) HG0.out HC.out).mono ?_
      rintro e w2 ⟨rfl, hB⟩
      replace hB := ext_trans HB.out hB
      clear b0 b1 b2 b3 p0 p1 p2 p3
      go_wp2
      go_ret
      exact ⟨by rw [HR.out, HYY.out]; rfl, hB⟩
  have e8 : (r.k == 8) = false := by simp [h8]
  by_cases h14 : r.k = 14
  · have e14 : (r.k == 14) = true := by simp [h14]
    have hl := head_14 (gd_head HG.out) h14
    have HW2 := Lib.hid (show W = w.alloc (.cells #[.int .i64 r.k, .int .i64 r.n, .string r.s, .slice A 2 c] 36) by rw [HW.out, hl])
    have hd : ∃ m, d = m + 1 := by
      cases d with
      | zero => have := exS.zero hUW; rw [this] at hl; simp at hl
      | succ m => exact ⟨m, rfl⟩
    obtain ⟨m, hm⟩ := hd
    subst hm
    have HQ1 := Lib.hid (HQ.out m rfl)
    have HR : Hid (guS (m + 1 + 1) r kl = (guS (m + 1) (exAt r.ps 0) kl && guS (m + 1) (exAt r.ps 1) (knS (m + 1) (exAt r.ps 0) kl))) := Lib.hid (by rw [guS, if_neg h7, if_neg h8, if_pos h14])
    have hg0 := gd_part HG.out (k := 0) (by omega)
    have hg1 := gd_part HG.out (k := 1) (by omega)
    have hct := cnt_two (d := m + 1) hl
    have hkl := kn_len (m + 1) (exAt r.ps 0) kl hg0
    have hn := HN.out
    have hn0 : kl.length + 1 + cntR (m + 1) (exAt r.ps 0) ≤ 1048576 := by omega
    have hn1 : (knS (m + 1) (exAt r.ps 0) kl).length + 1 + cntR (m + 1) (exAt r.ps 1) ≤ 1048576 := by omega
    obtain ⟨b, off, A0, A1, c0, c1, rfl, ⟨u0, s0, p0, p1, p2, p3⟩, ⟨u1, s1, q0, q1, q2, q3⟩⟩ := exW.two hUW hl
    obtain ⟨K1, hK1⟩ : ∃ K1, K1 = knS (m + 1) (exAt r.ps 0) kl := ⟨_, rfl⟩
    rw [← hK1] at hn1
    have HC1 := Lib.hid hn0
    have HC2 := Lib.hid hn1
    have HG0 := Lib.hid hg0
    have HG1 := Lib.hid hg1
    have HK1 := Lib.hid hK1
    rw [hl] at b3
    rw [hl]
    have HL := Lib.hid hl
    obtain ⟨x, hx⟩ : ∃ x, guS (m + 1) (exAt r.ps 0) kl = x := ⟨_, rfl⟩
    obtain ⟨y, hy⟩ : ∃ y, guS (m + 1) (exAt r.ps 1) K1 = y := ⟨_, rfl⟩
    have HX := Lib.hid hx
    have HY := Lib.hid hy
    clear hlen hl h7 h8 h14 hn hn0 hn1 hct hkl hg0 hg1 hK1 hx hy
    cases x
    · go_enter Tryz.func71, Tryz.ntmps71
      go_wp2_with fail
      rw [← HW2.out, ← HGX.out]
      go_wp2_with fail
      refine wp_region_kinds2 (fun i wz vz => match i with | 0 => vz = .pointer (some ⟨gx, 3, Option.none⟩) | 1 => vz = .slice (some ⟨b, off, none⟩) 2 c | 2 => vz = .pointer (some ⟨b, off, Option.none⟩) | 3 => vz = .agg #[.int .i64 (exAt r.ps 0).k, .int .i64 (exAt r.ps 0).n, .string (exAt r.ps 0).s, .slice A0 (exAt r.ps 0).ps.length c0] | 4 => vz = .slice Ak kl.length ck | 5 => vz = .bool false | 6 => vz = .bool false | 18 => vz = .bool false | 19 => vz = .bool false | _ => True) (fun _ wz => Below W.heap.size W wz) (fun i w w' => Below w.heap.size w w') (fun _ => Option.none) (by kernel_rfl) (by kernel_rfl) (by kernel_rfl) ?stab8 (ext_drew (Below.refl _ _)) ?all8 ?fin8
      case stab8 =>
        intro i j wa wb v hR hk hne hd _ h2 hT
        match j, hk, hne, hd, h2, hT with
        | 0, hk, hne, hd, h2, hT => exact hT
        | 1, hk, hne, hd, h2, hT => exact hT
        | 2, hk, hne, hd, h2, hT => exact hT
        | 3, hk, hne, hd, h2, hT => exact hT
        | 4, hk, hne, hd, h2, hT => exact hT
        | 5, hk, hne, hd, h2, hT => exact hT
        | 6, hk, hne, hd, h2, hT => exact hT
        | 18, hk, hne, hd, h2, hT => exact hT
        | 19, hk, hne, hd, h2, hT => exact hT
        | 7, _, _, _, _, _ => trivial
        | 8, _, _, _, _, _ => trivial
        | 9, _, _, _, _, _ => trivial
        | 10, _, _, _, _, _ => trivial
        | 11, _, _, _, _, _ => trivial
        | 12, _, _, _, _, _ => trivial
        | 13, _, _, _, _, _ => trivial
        | 14, _, _, _, _, _ => trivial
        | 15, _, _, _, _, _ => trivial
        | 16, _, _, _, _, _ => trivial
        | 17, _, _, _, _, _ => trivial
        | n + 20, _, _, _, _, _ => trivial
      case all8 =>
        refine RAll.cons rfl ?_ (RAll.cons rfl ?_ (RAll.cons rfl ?_ (RAll.cons rfl ?_ (RAll.cons rfl ?_ (RAll.cons rfl ?_ (RAll.cons rfl ?_ (RAll.skipped 6 37 true rfl (by kernel_rfl) (fun _ _ h => h) ?_ (RAll.skipped 6 37 true rfl (by kernel_rfl) (fun _ _ h => h) ?_ (RAll.skipped 6 37 true rfl (by kernel_rfl) (fun _ _ h => h) ?_ (RAll.skipped 6 37 true rfl (by kernel_rfl) (fun _ _ h => h) ?_ (RAll.skipped 6 37 true rfl (by kernel_rfl) (fun _ _ h => h) ?_ (RAll.skipped 6 37 true rfl (by kernel_rfl) (fun _ _ h => h) ?_ (RAll.skipped 6 37 true rfl (by kernel_rfl) (fun _ _ h => h) ?_ (RAll.skipped 6 37 true rfl (by kernel_rfl) (fun _ _ h => h) ?_ (RAll.skipped 6 37 true rfl (by kernel_rfl) (fun _ _ h => h) ?_ (RAll.skipped 6 37 true rfl (by kernel_rfl) (fun _ _ h => h) ?_ (RAll.skipped 6 37 true rfl (by kernel_rfl) (fun _ _ h => h) ?_ (RAll.cons rfl ?_ (RAll.cons rfl ?_ (RAll.none_))))))))))))))))))))
        · intro a k wa K Q _ hI hp hK
          have e2 := tmp_of (show a.eval (.tmp 2) = .pointer (some ⟨gx, 0, none⟩) from hp.keep 2 (by kernel_rfl))
          go_simp
          exact hK _ _ rfl (Below.refl _ _) hI
        · intro a k wa K Q _ hI hp hK
          have e31 := tmp_of (show a.eval (.tmp 31) = .pointer (some ⟨gx, 3, Option.none⟩) from hp.dep 0 31 (by kernel_rfl))
          have b3_ := below_cell hI b3
          go_simp
          exact hK _ _ rfl (Below.refl _ _) hI
        · intro a k wa K Q _ hI hp hK
          have e32 := tmp_of (show a.eval (.tmp 32) = .slice (some ⟨b, off, none⟩) 2 c from hp.dep 1 32 (by kernel_rfl))
          go_simp
          exact hK _ _ (rfl) (Below.refl _ _) hI
        · intro a k wa K Q _ hI hp hK
          have e33 := tmp_of (show a.eval (.tmp 33) = .pointer (some ⟨b, off, Option.none⟩) from hp.dep 2 33 (by kernel_rfl))
          have p0_ := below_cell hI p0
          have p1_ := below_cell hI p1
          have p2_ := below_cell hI p2
          have p3_ := below_cell hI p3
          go_simp
          exact hK _ _ rfl (Below.refl _ _) hI
        · intro a k wa K Q _ hI hp hK
          exact op_move _ (.inl rfl) (hK _ _ (hp.keep 1 (by kernel_rfl)) (Below.refl _ _) hI)
        · intro a k wa K Q _ hI hp hK
          have e34 := tmp_of (show a.eval (.tmp 34) = .agg #[.int .i64 (exAt r.ps 0).k, .int .i64 (exAt r.ps 0).n, .string (exAt r.ps 0).s, .slice A0 (exAt r.ps 0).ps.length c0] from hp.dep 3 34 (by kernel_rfl))
          have e35 := tmp_of (show a.eval (.tmp 35) = .slice Ak kl.length ck from hp.dep 4 35 (by kernel_rfl))
          go_simp
          refine (HQ1.out _ _ _ kl c0 ck _ (u0.below hI) s0 (hKW.below hI) (by omega) HG0.out HC1.out).mono ?_
          rw [HX.out]
          rintro e wb ⟨rfl, hb⟩
          exact hK _ _ rfl hb (ext_trans hI hb)
        · intro a k wa K Q _ hI hp hK
          exact op_move _ (.inl rfl) (hK _ _ (hp.dep 5 36 (by kernel_rfl)) (Below.refl _ _) hI)
        · exact fun k wa hI => ⟨trivial, Below.refl _ _, hI⟩
        · exact fun k wa hI => ⟨trivial, Below.refl _ _, hI⟩
        · exact fun k wa hI => ⟨trivial, Below.refl _ _, hI⟩
        · exact fun k wa hI => ⟨trivial, Below.refl _ _, hI⟩
        · exact fun k wa hI => ⟨trivial, Below.refl _ _, hI⟩
        · exact fun k wa hI => ⟨trivial, Below.refl _ _, hI⟩
        · exact fun k wa hI => ⟨trivial, Below.refl _ _, hI⟩
        · exact fun k wa hI => ⟨trivial, Below.refl _ _, hI⟩
        · exact fun k wa hI => ⟨trivial, Below.refl _ _, hI⟩
        · exact fun k wa hI => ⟨trivial, Below.refl _ _, hI⟩
        · exact fun k wa hI => ⟨trivial, Below.refl _ _, hI⟩
        · intro a k wa K Q _ hI hp hK
          exact op_pick_f _ _ _ rfl (hp.dep 6 37 (by kernel_rfl)) (hK _ _ (rfl) (Below.refl _ _) hI)
        · intro a k wa K Q _ hI hp hK
          exact op_move _ (.inr rfl) (hK _ _ (hp.dep 18 49 (by kernel_rfl)) (Below.refl _ _) hI)
      case fin8 =>
        intro f w9 hT hI0
        have hI : Below W.heap.size W w9 := hI0
        have hr6 : (f 19) = .bool false := hT 19 (by decide) rfl rfl
        clear hT hI0
        simp only [putAll, hr6]
        go_simp
        go_wp2
        go_ret
        exact ⟨by rw [HR.out, HX.out]; rfl, ext_trans HBW.out hI⟩
    · go_enter Tryz.func71, Tryz.ntmps71
      go_wp2_with fail
      rw [← HW2.out, ← HGX.out]
      go_wp2_with fail
      refine wp_region_kinds2 (fun i wz vz => match i with | 0 => vz = .pointer (some ⟨gx, 3, Option.none⟩) | 1 => vz = .slice (some ⟨b, off, none⟩) 2 c | 2 => vz = .pointer (some ⟨b, off, Option.none⟩) | 3 => vz = .agg #[.int .i64 (exAt r.ps 0).k, .int .i64 (exAt r.ps 0).n, .string (exAt r.ps 0).s, .slice A0 (exAt r.ps 0).ps.length c0] | 4 => vz = .slice Ak kl.length ck | 5 => vz = .bool true | 6 => vz = .bool true | 7 => vz = .pointer (some ⟨gx, 3, Option.none⟩) | 8 => vz = .slice (some ⟨b, off, none⟩) 2 c | 9 => vz = .pointer (some ⟨b, off + 4, Option.none⟩) | 10 => vz = .agg #[.int .i64 (exAt r.ps 1).k, .int .i64 (exAt r.ps 1).n, .string (exAt r.ps 1).s, .slice A1 (exAt r.ps 1).ps.length c1] | 11 => vz = .pointer (some ⟨gx, 3, Option.none⟩) | 12 => vz = .slice (some ⟨b, off, none⟩) 2 c | 13 => vz = .pointer (some ⟨b, off, Option.none⟩) | 14 => vz = .agg #[.int .i64 (exAt r.ps 0).k, .int .i64 (exAt r.ps 0).n, .string (exAt r.ps 0).s, .slice A0 (exAt r.ps 0).ps.length c0] | 15 => vz = .slice Ak kl.length ck | 16 => KnV D K1 wz vz | 17 => vz = .bool y | 18 => vz = .bool y | 19 => vz = .bool y | _ => True) (fun _ wz => Below W.heap.size W wz) (fun i w w' => Below w.heap.size w w') (fun _ => Option.none) (by kernel_rfl) (by kernel_rfl) (by kernel_rfl) ?stab8 (ext_drew (Below.refl _ _)) ?all8 ?fin8
      case stab8 =>
        intro i j wa wb v hR hk hne hd _ h2 hT
        match j, hk, hne, hd, h2, hT with
        | 0, hk, hne, hd, h2, hT => exact hT
        | 1, hk, hne, hd, h2, hT => exact hT
        | 2, hk, hne, hd, h2, hT => exact hT
        | 3, hk, hne, hd, h2, hT => exact hT
        | 4, hk, hne, hd, h2, hT => exact hT
        | 5, hk, hne, hd, h2, hT => exact hT
        | 6, hk, hne, hd, h2, hT => exact hT
        | 7, hk, hne, hd, h2, hT => exact hT
        | 8, hk, hne, hd, h2, hT => exact hT
        | 9, hk, hne, hd, h2, hT => exact hT
        | 10, hk, hne, hd, h2, hT => exact hT
        | 11, hk, hne, hd, h2, hT => exact hT
        | 12, hk, hne, hd, h2, hT => exact hT
        | 13, hk, hne, hd, h2, hT => exact hT
        | 14, hk, hne, hd, h2, hT => exact hT
        | 15, hk, hne, hd, h2, hT => exact hT
        | 16, hk, hne, hd, h2, hT => exact KnV.below hT hR
        | 17, hk, hne, hd, h2, hT => exact hT
        | 18, hk, hne, hd, h2, hT => exact hT
        | 19, hk, hne, hd, h2, hT => exact hT
        | n + 20, _, _, _, _, _ => trivial
      case all8 =>
        refine RAll.cons rfl ?_ (RAll.cons rfl ?_ (RAll.cons rfl ?_ (RAll.cons rfl ?_ (RAll.cons rfl ?_ (RAll.cons rfl ?_ (RAll.cons rfl ?_ (RAll.guarded 6 37 true rfl (by kernel_rfl) (fun _ _ h => h) ?_ (RAll.guarded 6 37 true rfl (by kernel_rfl) (fun _ _ h => h) ?_ (RAll.guarded 6 37 true rfl (by kernel_rfl) (fun _ _ h => h) ?_ (RAll.guarded 6 37 true rfl (by kernel_rfl) (fun _ _ h => h) ?_ (RAll.guarded 6 37 true rfl (by kernel_rfl) (fun _ _ h => h) ?_ (RAll.guarded 6 37 true rfl (by kernel_rfl) (fun _ _ h => h) ?_ (RAll.guarded 6 37 true rfl (by kernel_rfl) (fun _ _ h => h) ?_ (RAll.guarded 6 37 true rfl (by kernel_rfl) (fun _ _ h => h) ?_ (RAll.guarded 6 37 true rfl (by kernel_rfl) (fun _ _ h => h) ?_ (RAll.guarded 6 37 true rfl (by kernel_rfl) (fun _ _ h => h) ?_ (RAll.guarded 6 37 true rfl (by kernel_rfl) (fun _ _ h => h) ?_ (RAll.cons rfl ?_ (RAll.cons rfl ?_ (RAll.none_))))))))))))))))))))
        · intro a k wa K Q _ hI hp hK
          have e2 := tmp_of (show a.eval (.tmp 2) = .pointer (some ⟨gx, 0, none⟩) from hp.keep 2 (by kernel_rfl))
          go_simp
          exact hK _ _ rfl (Below.refl _ _) hI
        · intro a k wa K Q _ hI hp hK
          have e31 := tmp_of (show a.eval (.tmp 31) = .pointer (some ⟨gx, 3, Option.none⟩) from hp.dep 0 31 (by kernel_rfl))
          have b3_ := below_cell hI b3
          go_simp
          exact hK _ _ rfl (Below.refl _ _) hI
        · intro a k wa K Q _ hI hp hK
          have e32 := tmp_of (show a.eval (.tmp 32) = .slice (some ⟨b, off, none⟩) 2 c from hp.dep 1 32 (by kernel_rfl))
          go_simp
          exact hK _ _ (rfl) (Below.refl _ _) hI
        · intro a k wa K Q _ hI hp hK
          have e33 := tmp_of (show a.eval (.tmp 33) = .pointer (some ⟨b, off, Option.none⟩) from hp.dep 2 33 (by kernel_rfl))
          have p0_ := below_cell hI p0
          have p1_ := below_cell hI p1
          have p2_ := below_cell hI p2
          have p3_ := below_cell hI p3
          go_simp
          exact hK _ _ rfl (Below.refl _ _) hI
        · intro a k wa K Q _ hI hp hK
          exact op_move _ (.inl rfl) (hK _ _ (hp.keep 1 (by kernel_rfl)) (Below.refl _ _) hI)
        · intro a k wa K Q _ hI hp hK
          have e34 := tmp_of (show a.eval (.tmp 34) = .agg #[.int .i64 (exAt r.ps 0).k, .int .i64 (exAt r.ps 0).n, .string (exAt r.ps 0).s, .slice A0 (exAt r.ps 0).ps.length c0] from hp.dep 3 34 (by kernel_rfl))
          have e35 := tmp_of (show a.eval (.tmp 35) = .slice Ak kl.length ck from hp.dep 4 35 (by kernel_rfl))
          go_simp
          refine (HQ1.out _ _ _ kl c0 ck _ (u0.below hI) s0 (hKW.below hI) (by omega) HG0.out HC1.out).mono ?_
          rw [HX.out]
          rintro e wb ⟨rfl, hb⟩
          exact hK _ _ rfl hb (ext_trans hI hb)
        · intro a k wa K Q _ hI hp hK
          exact op_move _ (.inl rfl) (hK _ _ (hp.dep 5 36 (by kernel_rfl)) (Below.refl _ _) hI)
        · intro a k wa K Q _ hI hp hK
          have e2 := tmp_of (show a.eval (.tmp 2) = .pointer (some ⟨gx, 0, none⟩) from hp.keep 2 (by kernel_rfl))
          go_simp
          exact hK _ _ rfl (Below.refl _ _) hI
        · intro a k wa K Q _ hI hp hK
          have e38 := tmp_of (show a.eval (.tmp 38) = .pointer (some ⟨gx, 3, Option.none⟩) from hp.dep 7 38 (by kernel_rfl))
          have b3_ := below_cell hI b3
          go_simp
          exact hK _ _ rfl (Below.refl _ _) hI
        · intro a k wa K Q _ hI hp hK
          have e39 := tmp_of (show a.eval (.tmp 39) = .slice (some ⟨b, off, none⟩) 2 c from hp.dep 8 39 (by kernel_rfl))
          go_simp
          exact hK _ _ (rfl) (Below.refl _ _) hI
        · intro a k wa K Q _ hI hp hK
          have e40 := tmp_of (show a.eval (.tmp 40) = .pointer (some ⟨b, off + 4, Option.none⟩) from hp.dep 9 40 (by kernel_rfl))
          have q0_ := below_cell hI q0
          have q1_ := below_cell hI q1
          have q2_ := below_cell hI q2
          have q3_ := below_cell hI q3
          go_simp
          exact hK _ _ rfl (Below.refl _ _) hI
        · intro a k wa K Q _ hI hp hK
          have e2 := tmp_of (show a.eval (.tmp 2) = .pointer (some ⟨gx, 0, none⟩) from hp.keep 2 (by kernel_rfl))
          go_simp
          exact hK _ _ rfl (Below.refl _ _) hI
        · intro a k wa K Q _ hI hp hK
          have e42 := tmp_of (show a.eval (.tmp 42) = .pointer (some ⟨gx, 3, Option.none⟩) from hp.dep 11 42 (by kernel_rfl))
          have b3_ := below_cell hI b3
          go_simp
          exact hK _ _ rfl (Below.refl _ _) hI
        · intro a k wa K Q _ hI hp hK
          have e43 := tmp_of (show a.eval (.tmp 43) = .slice (some ⟨b, off, none⟩) 2 c from hp.dep 12 43 (by kernel_rfl))
          go_simp
          exact hK _ _ (rfl) (Below.refl _ _) hI
        · intro a k wa K Q _ hI hp hK
          have e44 := tmp_of (show a.eval (.tmp 44) = .pointer (some ⟨b, off, Option.none⟩) from hp.dep 13 44 (by kernel_rfl))
          have p0_ := below_cell hI p0
          have p1_ := below_cell hI p1
          have p2_ := below_cell hI p2
          have p3_ := below_cell hI p3
          go_simp
          exact hK _ _ rfl (Below.refl _ _) hI
        · intro a k wa K Q _ hI hp hK
          exact op_move _ (.inl rfl) (hK _ _ (hp.keep 1 (by kernel_rfl)) (Below.refl _ _) hI)
        · intro a k wa K Q _ hI hp hK
          have e45 := tmp_of (show a.eval (.tmp 45) = .agg #[.int .i64 (exAt r.ps 0).k, .int .i64 (exAt r.ps 0).n, .string (exAt r.ps 0).s, .slice A0 (exAt r.ps 0).ps.length c0] from hp.dep 14 45 (by kernel_rfl))
          have e46 := tmp_of (show a.eval (.tmp 46) = .slice Ak kl.length ck from hp.dep 15 46 (by kernel_rfl))
          go_simp
          refine (knQ_all D m _ _ _ kl c0 ck _ (u0.below hI) s0 (hKW.below hI) (by omega) HG0.out HC1.out).mono ?_
          rw [← HK1.out]
          rintro e wb ⟨A5, c5, rfl, hk5, hb⟩
          exact hK _ _ ⟨A5, c5, rfl, hk5⟩ hb (ext_trans hI hb)
        · intro a k wa K Q _ hI hp hK
          have e41 := tmp_of (show a.eval (.tmp 41) = .agg #[.int .i64 (exAt r.ps 1).k, .int .i64 (exAt r.ps 1).n, .string (exAt r.ps 1).s, .slice A1 (exAt r.ps 1).ps.length c1] from hp.dep 10 41 (by kernel_rfl))
          have t47 : KnV D K1 wa (a.eval (.tmp 47)) := hp.dep 16 47 (by kernel_rfl)
          obtain ⟨A5, c5, e47, hk5⟩ := t47
          replace e47 := tmp_of e47
          go_simp
          refine (HQ1.out _ _ _ K1 c1 c5 _ (u1.below hI) s1 hk5 (by omega) HG1.out HC2.out).mono ?_
          rw [HY.out]
          rintro e wb ⟨rfl, hb⟩
          exact hK _ _ rfl hb (ext_trans hI hb)
        · intro a k wa K Q _ hI hp hK
          exact op_pick_t _ _ _ rfl (hp.dep 6 37 (by kernel_rfl)) (hK _ _ (hp.dep 17 48 (by kernel_rfl)) (Below.refl _ _) hI)
        · intro a k wa K Q _ hI hp hK
          exact op_move _ (.inr rfl) (hK _ _ (hp.dep 18 49 (by kernel_rfl)) (Below.refl _ _) hI)
      case fin8 =>
        intro f w9 hT hI0
        have hI : Below W.heap.size W w9 := hI0
        have hr6 : (f 19) = .bool y := hT 19 (by decide) rfl rfl
        clear hT hI0
        simp only [putAll, hr6]
        go_simp
        go_wp2
        go_ret
        exact ⟨by rw [HR.out, HX.out, ← HK1.out, HY.out]; rfl, ext_trans HBW.out hI⟩
  have e14 : (r.k == 14) = false := by simp [h14]
  have H7 := Lib.hid h7
  have H8 := Lib.hid h8
  have H14 := Lib.hid h14
  have HB3 := Lib.hid b3
  clear h7 h8 h14 b1 b2 b3
  go_enter Tryz.func71, Tryz.ntmps71
  go_wp2
  rw [← HW.out]
  have b3 := HB3.out
  first | rw [← HGX.out] | skip
  clear b0
  go_loopw [6] (fun i wr => ∃ k : Nat, k ≤ r.ps.length ∧ i = .int .i64 k ∧ Hid (∀ j, j < k → guS d (exAt r.ps j) kl = true) ∧ Below W.heap.size W wr) (fun i _ => r.ps.length - (intOf i).toNat)
  case atStart => exact ⟨0, Nat.zero_le _, rfl, Lib.hid (fun j h => by omega), Below.refl _ _⟩
  case round =>
    clear b3
    obtain ⟨k, hk, rfl, HA, hB⟩ := hrel
    have b3 := below_cell hB HB3.out
    by_cases hlt : k < r.ps.length
    · have hd : ∃ m, d = m + 1 := by
        cases d with
        | zero => have := exS.zero hUW; rw [this] at hlt; simp at hlt
        | succ m => exact ⟨m, rfl⟩
      obtain ⟨m, hm⟩ := hd
      subst hm
      have HQ1 := Lib.hid (HQ.out m rfl)
      obtain ⟨b, off, rfl, hc⟩ := hUW.cells (by omega)
      obtain ⟨A1, c1, hfd, hs1, p0, p1, p2, p3⟩ := hc k hlt
      replace p0 := below_cell hB p0
      replace p1 := below_cell hB p1
      replace p2 := below_cell hB p2
      replace p3 := below_cell hB p3
      replace hfd := hfd.below hB
      have hK2 := hKW.below hB
      have HC := Lib.hid (show kl.length + 1 + cntR (m + 1) (exAt r.ps k) ≤ 1048576 by have := HN.out; have := cnt_part (d := m + 1) hlt; omega)
      have HG0 := Lib.hid (gd_part HG.out hlt)
      clear hc
      obtain ⟨y, hy⟩ : ∃ y, guS (m + 1) (exAt r.ps k) kl = y := ⟨_, rfl⟩
      have HY := Lib.hid hy
      clear hy
      cases y
      all_goals
        go_wp2_with fail
        refine (HQ1.out _ _ _ kl c1 ck _ hfd hs1 hK2 (by omega) HG0.out HC.out).mono ?_
        rintro e w4 ⟨rfl, hb⟩
        rw [HY.out]
        replace hB := ext_trans hB hb
        clear hb p0 p1 p2 p3 b3
        go_wp2
      · go_ret
        exact ⟨by rw [guS_no H7.out H8.out H14.out hlt HY.out]; rfl, ext_trans HBW.out hB⟩
      · go_roundw
        case rel => exact ⟨k + 1, by omega, by go_num, Lib.hid (all_succ HA.out HY.out), hB⟩
        case measure => simp [intOf]; omega
    · obtain rfl : k = r.ps.length := by omega
      go_wp2
      go_ret
      exact ⟨by rw [guS_yes H7.out H8.out H14.out HA.out]; rfl, ext_trans HBW.out hB⟩
theorem gsQ_all (D : Nat) : ∀ d, GsQ d D
  | 0 => gsQ_of (fun m h => by cases h)
  | d + 1 => gsQ_of (fun m h => by cases h; exact gsQ_all D d)
end Go.Proofs.YtodjokdaofefdaaGreat
/- Expressions: sameness by the program. Printed by gen_same.py. -/
namespace Go.Proofs.YtodjokdaofefdaaGreat
set_option linter.unusedSimpArgs false
set_option linter.unusedVariables false
open Go.RowKit

def SmI (d : Nat) : Prop := ∀ (A A' : Option Addr) (r r' : Ex) (c c' : Nat) (w : World), exW d w A r.ps → exW d w A' r'.ps →
  Calls Tryz.prog 98 #[.agg #[.int .i64 r.k, .int .i64 r.n, .string r.s, .slice A r.ps.length c], .agg #[.int .i64 r'.k, .int .i64 r'.n, .string r'.s, .slice A' r'.ps.length c']] w fun e w' => e = .returned (.bool (sameX r r')) ∧ Below w.heap.size w w'
set_option maxRecDepth 100000 in
set_option maxHeartbeats 4000000 in
theorem smI_of {d : Nat} (hQ : ∀ m, d = m + 1 → SmI m) : SmI d := by
  intro A A' r r' c c' w hU hV
  have hl := exS.len hU
  have hl' := exS.len hV
  have HQ := Lib.hid hQ
  clear hQ
  have HD := Lib.hid (ex_sameX2 r r')
  by_cases h1 : r.k = r'.k
  · have e1 : (r.k != r'.k) = false := by simp [h1]
    have H1 := Lib.hid h1
    clear h1
    by_cases h2 : r.n = r'.n
    · have e2 : (r.n != r'.n) = false := by simp [h2]
      have H2 := Lib.hid h2
      clear h2
      by_cases h3 : r.s = r'.s
      · have e3 : (r.s.toList == r'.s.toList) = true := by simp [h3]
        have H3 := Lib.hid h3
        clear h3
        by_cases h4 : r.ps.length = r'.ps.length
        · have e4 : ((r.ps.length : Int) != r'.ps.length) = false := by simp [h4]
          have H4 := Lib.hid h4
          clear h4
          obtain ⟨W, hW⟩ : ∃ W, W = (w.alloc (.cells #[.int .i64 r.k, .int .i64 r.n, .string r.s, .slice A r.ps.length c] 36)).alloc (.cells #[.int .i64 r'.k, .int .i64 r'.n, .string r'.s, .slice A' r'.ps.length c'] 36) := ⟨_, rfl⟩
          have hBW : Below w.heap.size w W := by rw [hW]; (repeat (first | exact Below.refl _ _ | refine ext_alloc ?_ _ | refine Below.setCell ?_ (by simp) _))
          have b0 : W.cell? ⟨w.heap.size, 3, none⟩ = some (.slice A r.ps.length c) := by rw [hW]; exact below_cell (below_alloc _ _) (box_cell w _ _ 3 _ rfl)
          have b1 : W.cell? ⟨w.heap.size + 1, 3, none⟩ = some (.slice A' r'.ps.length c') := by rw [hW]; exact box_cell_at (by simp) rfl
          have HW := Lib.hid hW
          have HB0 := Lib.hid b0
          have HB1 := Lib.hid b1
          have HBW := Lib.hid hBW
          clear hW b0 b1 hBW
          go_enter Tryz.func98, Tryz.ntmps98
          go_wp2
          go_loopw [38] (fun i wr => ∃ k : Nat, k ≤ r.ps.length ∧ i = .int .i64 k ∧ Below W.heap.size W wr ∧ (∀ j, j < k → exAt r.ps j = exAt r'.ps j)) (fun i _ => r.ps.length - (intOf i).toNat)
          case atStart => exact ⟨0, Nat.zero_le _, rfl, by rw [HW.out]; exact Below.refl _ _, fun j h => by omega⟩
          case round =>
            obtain ⟨k, hk, rfl, hB, hgood⟩ := hrel
            have HG := Lib.hid hgood
            clear hgood
            have b0 := below_cell hB HB0.out
            have b1 := below_cell hB HB1.out
            by_cases hlt : k < r.ps.length
            · have hlt' : k < r'.ps.length := by rw [← H4.out]; exact hlt
              have hd : ∃ m, d = m + 1 := by
                cases d with
                | zero => have := exS.zero hU; rw [this] at hlt; simp at hlt
                | succ m => exact ⟨m, rfl⟩
              obtain ⟨m, hm⟩ := hd
              subst hm
              have HQ1 := Lib.hid (HQ.out m rfl)
              obtain ⟨b, off, rfl, hc⟩ := (hU.below HBW.out).cells (by omega)
              obtain ⟨b', off', rfl, hc'⟩ := (hV.below HBW.out).cells (by omega)
              obtain ⟨A1, c1, hfd, _, p0, p1, p2, p3⟩ := hc k hlt
              obtain ⟨A2, c2, hfd2, _, q0, q1, q2, q3⟩ := hc' k hlt'
              replace p0 := below_cell hB p0
              replace p1 := below_cell hB p1
              replace p2 := below_cell hB p2
              replace p3 := below_cell hB p3
              replace q0 := below_cell hB q0
              replace q1 := below_cell hB q1
              replace q2 := below_cell hB q2
              replace q3 := below_cell hB q3
              replace hfd := hfd.below hB
              replace hfd2 := hfd2.below hB
              clear hc hc'
              obtain ⟨W2, hW2⟩ : ∃ x, x = wr.alloc (.cells #[.int .i64 (exAt r.ps k).k, .int .i64 (exAt r.ps k).n, .string (exAt r.ps k).s, .slice A1 (exAt r.ps k).ps.length c1] 36) := ⟨_, rfl⟩
              have hB2 : Below wr.heap.size wr W2 := by rw [hW2]; exact below_alloc _ _
              have n0 : W2.cell? ⟨wr.heap.size, 0, none⟩ = some (.int .i64 (exAt r.ps k).k) := by rw [hW2]; exact box_cell wr _ _ 0 _ rfl
              have n1 : W2.cell? ⟨wr.heap.size, 1, none⟩ = some (.int .i64 (exAt r.ps k).n) := by rw [hW2]; exact box_cell wr _ _ 1 _ rfl
              have n2 : W2.cell? ⟨wr.heap.size, 2, none⟩ = some (.string (exAt r.ps k).s) := by rw [hW2]; exact box_cell wr _ _ 2 _ rfl
              have n3 : W2.cell? ⟨wr.heap.size, 3, none⟩ = some (.slice A1 (exAt r.ps k).ps.length c1) := by rw [hW2]; exact box_cell wr _ _ 3 _ rfl
              replace n0 := cell_regrown n0
              replace n1 := cell_regrown n1
              replace n2 := cell_regrown n2
              replace n3 := cell_regrown n3
              replace q0 := cell_regrown (below_cell hB2 q0)
              replace q1 := cell_regrown (below_cell hB2 q1)
              replace q2 := cell_regrown (below_cell hB2 q2)
              replace q3 := cell_regrown (below_cell hB2 q3)
              replace b1 := cell_regrown (below_cell hB2 b1)
              have HW2 := Lib.hid hW2
              have HB2 := Lib.hid hB2
              have HE := Lib.hid (fun (n : Nat) (os : Array Obj) => HQ1.out _ _ _ _ c1 c2 _ ((hfd.below hB2).regrown n os) ((hfd2.below hB2).regrown n os))
              clear hW2 hB2 b0 HQ1
              cases g : sameX (exAt r.ps k) (exAt r'.ps k)
              all_goals
                rw [g] at HE
                go_wp2
                rw [← HW2.out]
                refine wp_region_quiet_below (by kernel_rfl) (by kernel_rfl) ?_
                repeat (go_big_quiet_step ((go_at_call 98; (with_reducible exact Calls.regrown_of (HE.out _ _)))))
                refine wpQuiet_nil ?_
                intro w2 hw'regrown
                replace hB := ext_trans (ext_trans hB HB2.out) (below_of_regrown hw'regrown (Nat.le_refl _))
                clear hw'regrown p0 q0 p1 q1 p2 q2 p3 q3 b1 n0 n1 n2 n3
                go_wp2
              · go_ret
                exact ⟨ret_bool (by rw [eq_comm, sameX_false]; intro h; rw [h, sameX_self] at g; cases g), HBW.out.trans (hB.mono HBW.out.size)⟩
              · go_roundw
                case rel => exact ⟨k + 1, by omega, by go_num, hB, all_succ HG.out (sameX_true.1 g)⟩
                case measure => simp [intOf]; omega
            · obtain rfl : k = r.ps.length := by omega
              go_wp2
              go_ret
              exact ⟨ret_bool (by rw [eq_comm, sameX_true]; exact Ex.ext H1.out H2.out H3.out (by have := ex_same H4.out HG.out; exact sameX_true.1 this.symm)), HBW.out.trans (hB.mono HBW.out.size)⟩
        · have e4 : ((r.ps.length : Int) != r'.ps.length) = true := by simp; omega
          have H4 := Lib.hid h4
          clear h4
          go_enter Tryz.func98, Tryz.ntmps98
          go_wp2
          go_ret
          exact ⟨ret_bool (by rw [eq_comm, sameX_false]; intro h; exact H4.out (by rw [h])), by (repeat (first | exact Below.refl _ _ | refine ext_alloc ?_ _ | refine Below.setCell ?_ (by simp) _))⟩
      · have e3 : (r.s.toList == r'.s.toList) = false := by rw [str_beq]; simp [h3]
        have H3 := Lib.hid h3
        clear h3
        go_enter Tryz.func98, Tryz.ntmps98
        go_wp2
        go_ret
        exact ⟨ret_bool (by rw [eq_comm, sameX_false]; intro h; exact H3.out (by rw [h])), by (repeat (first | exact Below.refl _ _ | refine ext_alloc ?_ _ | refine Below.setCell ?_ (by simp) _))⟩
    · have e2 : (r.n != r'.n) = true := by simp [h2]
      have H2 := Lib.hid h2
      clear h2
      go_enter Tryz.func98, Tryz.ntmps98
      go_wp2
      go_ret
      exact ⟨ret_bool (by rw [eq_comm, sameX_false]; intro h; exact H2.out (by rw [h])), by (repeat (first | exact Below.refl _ _ | refine ext_alloc ?_ _ | refine Below.setCell ?_ (by simp) _))⟩
  · have e1 : (r.k != r'.k) = true := by simp [h1]
    have H1 := Lib.hid h1
    clear h1
    go_enter Tryz.func98, Tryz.ntmps98
    go_wp2
    go_ret
    exact ⟨ret_bool (by rw [eq_comm, sameX_false]; intro h; exact H1.out (by rw [h])), by (repeat (first | exact Below.refl _ _ | refine ext_alloc ?_ _ | refine Below.setCell ?_ (by simp) _))⟩
theorem smI_all : ∀ d, SmI d
  | 0 => smI_of (fun m h => by cases h)
  | d + 1 => smI_of (fun m h => by cases h; exact smI_all d)
end Go.Proofs.YtodjokdaofefdaaGreat

/- Guards, by the reference: what is known if an expression holds. -/
import Derived.Test.YtodjokdaofefdaaGdN
namespace Go.Proofs.Ytodjokdaofefdaa
set_option linter.unusedSimpArgs false
set_option linter.unusedVariables false
open Go.RowKit

def KnQ (d D : Nat) : Prop := ∀ (A Ak : Option Addr) (r : Ex) (kl : ExL) (c ck : Nat) (w : World), exW d w A r.ps → r.s.size ≤ 9223372036854775807 → exW D w Ak kl → d + 1 ≤ D → gdR (d + 1) r = true → kl.length + 1 + cntR (d + 1) r ≤ 1048576 →
  Calls Try.prog 121 #[.agg #[.int .i64 r.k, .int .i64 r.n, .string r.s, .slice A r.ps.length c], .slice Ak kl.length ck] w fun e w' => ∃ A' c', e = .returned (.slice A' (knS (d + 1) r kl).length c') ∧ exW D w' A' (knS (d + 1) r kl) ∧ Below w.heap.size w w'
theorem exAt_0 {b off : Nat} : (⟨b, off + 0 * 4, none⟩ : Addr) = ⟨b, off, none⟩ := by simp
theorem exAt_1 {b off : Nat} : (⟨b, off + 1 * 4, none⟩ : Addr) = ⟨b, off + 4, none⟩ := by simp
/-- The cells of two parts. -/
theorem exW.two {d : Nat} {w : World} {A : Option Addr} {l : ExL} (h : exW (d + 1) w A l) (hl : l.length = 2) : ∃ b off A0 A1 c0 c1, A = some ⟨b, off, none⟩ ∧ (exW d w A0 (exAt l 0).ps ∧ (exAt l 0).s.size ≤ 9223372036854775807 ∧
    w.cell? ⟨b, off, none⟩ = some (.int .i64 (exAt l 0).k) ∧ w.cell? ⟨b, off + 1, none⟩ = some (.int .i64 (exAt l 0).n) ∧ w.cell? ⟨b, off + 2, none⟩ = some (.string (exAt l 0).s) ∧ w.cell? ⟨b, off + 3, none⟩ = some (.slice A0 (exAt l 0).ps.length c0)) ∧
    (exW d w A1 (exAt l 1).ps ∧ (exAt l 1).s.size ≤ 9223372036854775807 ∧
    w.cell? ⟨b, off + 4, none⟩ = some (.int .i64 (exAt l 1).k) ∧ w.cell? ⟨b, off + 4 + 1, none⟩ = some (.int .i64 (exAt l 1).n) ∧ w.cell? ⟨b, off + 4 + 2, none⟩ = some (.string (exAt l 1).s) ∧ w.cell? ⟨b, off + 4 + 3, none⟩ = some (.slice A1 (exAt l 1).ps.length c1)) := by
  obtain ⟨b, off, rfl, hc⟩ := h.cells (by omega)
  obtain ⟨A0, c0, g0⟩ := hc 0 (by omega)
  obtain ⟨A1, c1, g1⟩ := hc 1 (by omega)
  rw [show off + 0 * 4 = off by omega] at g0
  rw [show off + 1 * 4 = off + 4 by omega] at g1
  exact ⟨b, off, A0, A1, c0, c1, rfl, g0, g1⟩
set_option maxRecDepth 100000 in
set_option maxHeartbeats 4000000 in
theorem knQ_of {d D : Nat} (hQ : ∀ m, d = m + 1 → KnQ m D) : KnQ d D := by
  intro A Ak r kl c ck w hU hs hK0 hD hg hn
  have hlen := exS.len hU
  have HG := Lib.hid hg
  have HQ := Lib.hid hQ
  clear hg hQ
  obtain ⟨W, hW⟩ : ∃ W, W = w.alloc (.cells #[.int .i64 r.k, .int .i64 r.n, .string r.s, .slice A r.ps.length c] 28) := ⟨_, rfl⟩
  obtain ⟨gx, hgx⟩ : ∃ g, g = w.heap.size := ⟨_, rfl⟩
  have hBW : Below w.heap.size w W := by rw [hW]; (repeat (first | exact Below.refl _ _ | refine ext_alloc ?_ _ | refine Below.setCell ?_ (by simp) _))
  have b0 : W.cell? ⟨gx, 0, none⟩ = some (.int .i64 r.k) := by rw [hW, hgx]; exact box_cell w _ _ 0 _ rfl
  have b1 : W.cell? ⟨gx, 1, none⟩ = some (.int .i64 r.n) := by rw [hW, hgx]; exact box_cell w _ _ 1 _ rfl
  have b2 : W.cell? ⟨gx, 2, none⟩ = some (.string r.s) := by rw [hW, hgx]; exact box_cell w _ _ 2 _ rfl
  have b3 : W.cell? ⟨gx, 3, none⟩ = some (.slice A r.ps.length c) := by rw [hW, hgx]; exact box_cell w _ _ 3 _ rfl
  have hUW := hU.below hBW
  have hKW := hK0.below hBW
  have HW := Lib.hid hW
  have HGX := Lib.hid hgx
  have HBW := Lib.hid hBW
  clear hW hgx hBW hU
  by_cases h9 : r.k = 9
  · have e9 : (r.k == 9) = true := by simp [h9]
    have hkn : knS (d + 1) r kl = kl ++ [r] := by rw [knS, if_pos h9]
    rw [hkn]
    clear h9 hkn
    have HKL := Lib.hid (show kl.length + 1 ≤ 1048576 by omega)
    clear hn
    go_enter Try.func121, Try.ntmps121
    go_wp2_with fail
    rw [← HW.out, ← HGX.out]
    go_wp2_with fail
    refine wp_region_kinds2 (fun i wz vz => match i with | 0 => FrB W.heap.size 28 0 #[] wz vz | 1 => vz = .slice Ak kl.length ck | 2 => OwnE D W.heap.size W.heap.size kl wz vz | 3 => vz = .agg #[.int .i64 r.k, .int .i64 r.n, .string r.s, .slice A r.ps.length c] | 4 => FrB W.heap.size 28 1 #[.int .i64 r.k, .int .i64 r.n, .string r.s, .slice A r.ps.length c] wz vz | 5 => OwnE D W.heap.size W.heap.size (kl ++ [r]) wz vz | 6 => OwnE D W.heap.size W.heap.size (kl ++ [r]) wz vz | _ => True) (fun _ wz => Below W.heap.size W wz) (fun i w w' => Below (if i = 5 then W.heap.size else w.heap.size) w w') (fun j => match j with | 0 => some 5 | 2 => some 5 | 4 => some 5 | _ => Option.none) (by kernel_rfl) (by kernel_rfl) (by kernel_rfl) ?stab3 (ext_drew (Below.refl _ _)) ?all3 ?fin3
    case stab3 =>
      intro i j wa wb v hR hk hne hd _ h2 hT
      match j, hk, hne, hd, h2, hT with
      | 0, hk, hne, hd, h2, hT => exact FrB.below hT (rel_un (fun e => hk (by subst e; rfl)) hR)
      | 1, hk, hne, hd, h2, hT => exact hT
      | 2, hk, hne, hd, h2, hT => exact OwnE.below hT (rel_un (fun e => hk (by subst e; rfl)) hR)
      | 3, hk, hne, hd, h2, hT => exact hT
      | 4, hk, hne, hd, h2, hT => exact FrB.below hT (rel_un (fun e => hk (by subst e; rfl)) hR)
      | 5, hk, hne, hd, h2, hT => exact OwnE.below hT (rel_un (fun e => hne e.symm) hR)
      | 6, hk, hne, hd, h2, hT => exact OwnE.below hT (rel_un (fun e => by subst e; exact Bool.noConfusion (hd.symm.trans (show depB _ 6 5 = true from by kernel_rfl))) hR)
      | n + 7, _, _, _, _, _ => trivial
    case all3 =>
      refine RAll.cons rfl ?_ (RAll.cons rfl ?_ (RAll.cons rfl ?_ (RAll.cons rfl ?_ (RAll.cons rfl ?_ (RAll.cons rfl ?_ (RAll.cons rfl ?_ (RAll.none_)))))))
      · intro a k wa K Q _ hI hp hK
        go_simp
        exact hK _ _ ⟨_, rfl, hI.size, heap_alloc_new _ _⟩ (rel_ne (by decide) (below_alloc _ _)) (ext_alloc hI _)
      · intro a k wa K Q _ hI hp hK
        exact op_move _ (.inl rfl) (hK _ _ (hp.keep 1 (by kernel_rfl)) (Below.refl _ _) hI)
      · intro a k wa K Q _ hI hp hK
        have t9 : FrB W.heap.size 28 0 #[] wa (a.eval (.tmp 9)) := hp.dep 0 9 (by kernel_rfl)
        have e10 := tmp_of (show a.eval (.tmp 10) = .slice Ak kl.length ck from hp.dep 1 10 (by kernel_rfl))
        refine op_append_emptyG (R := exR D 0 W.heap.size) (l := kl) (B := W.heap.size) (.tmp 9) (.tmp 10) 26 28 _ 4 56 rfl Try.underlying26 Try.infoExpr rfl (by decide) t9 (hp.dep 1 10 (by kernel_rfl)) (exS.below hKW (Nat.le_refl _) hI).1 (fun w' hb a cs h => exR.below h hI.size hb) hI.size (by have := HKL.out; omega) (by have := HKL.out; omega) ?_
        intro v' wb ho' hb
        exact hK _ _ ⟨⟨Nat.le_trans hI.size hb.size, Nat.le_refl _⟩, ho'⟩ (rel_ne (by decide) hb) (ext_trans hI hb)
      · intro a k wa K Q _ hI hp hK
        have e2 := tmp_of (show a.eval (.tmp 2) = .pointer (some ⟨gx, 0, none⟩) from hp.keep 2 (by kernel_rfl))
        have b0_ := below_cell hI b0
        have b1_ := below_cell hI b1
        have b2_ := below_cell hI b2
        have b3_ := below_cell hI b3
        go_simp
        exact hK _ _ rfl (Below.refl _ _) hI
      · intro a k wa K Q _ hI hp hK
        have e12 := tmp_of (show a.eval (.tmp 12) = .agg #[.int .i64 r.k, .int .i64 r.n, .string r.s, .slice A r.ps.length c] from hp.dep 3 12 (by kernel_rfl))
        go_simp
        exact hK _ _ ⟨_, rfl, hI.size, heap_alloc_new _ _⟩ (rel_ne (by decide) (below_alloc _ _)) (ext_alloc hI _)
      · intro a k wa K Q _ hI hp hK
        have t11 : OwnE D W.heap.size W.heap.size kl wa (a.eval (.tmp 11)) := hp.dep 2 11 (by kernel_rfl)
        have t13 : FrB W.heap.size 28 1 #[.int .i64 r.k, .int .i64 r.n, .string r.s, .slice A r.ps.length c] wa (a.eval (.tmp 13)) := hp.dep 4 13 (by kernel_rfl)
        have hM := t11.2
        obtain ⟨A9, c9, e13, hr9⟩ := ((OwnE.one (exS.below hUW (Nat.le_refl _) hI) hs (Nat.le_refl _) hI.size t13).deeper hD).2.rd (by simp)
        refine op_appendG (R := exR D 0 W.heap.size) (l := kl) (l2 := [r]) (.tmp 11) (.tmp 13) 26 28 _ 4 56 rfl Try.underlying26 Try.infoExpr rfl (by decide) (fun a cs h => exR.one h) rfl hM e13 hr9 (fun w' hg a cs h => exR.row hI.size hg (fun k hk => (hM.ge k hk).1) h) (by have := HKL.out; simp; omega) (by have := HKL.out; simp; omega) hI.size ?_
        intro v' wb ho' hb' hgr _
        exact hK _ _ ⟨⟨Nat.le_trans hI.size hb'.size, Nat.le_refl _⟩, ho'⟩ (rel_eq rfl hb') (hI.trans hb')
      · intro a k wa K Q _ hI hp hK
        exact op_move _ (.inr rfl) (hK _ _ (hp.dep 5 14 (by kernel_rfl)) (Below.refl _ _) hI)
    case fin3 =>
      intro f w9 hT hI0
      have hI : Below W.heap.size W w9 := hI0
      have hr6 : OwnE D W.heap.size W.heap.size (kl ++ [r]) w9 (f 6) := hT 6 (by decide) rfl rfl
      clear hT hI0
      obtain ⟨A6, c6, e6, h6⟩ := hr6.rd (by have := HKL.out; simp; omega)
      simp only [putAll, e6]
      go_simp
      go_wp2
      go_ret
      exact ⟨A6, c6, by simp, h6, ext_trans HBW.out hI⟩
  · have e9 : (r.k == 9) = false := by simp [h9]
    by_cases h14 : r.k = 14
    · have e14 : (r.k == 14) = true := by simp [h14]
      have hl := head_14 (gd_head HG.out) h14
      have HW2 := Lib.hid (show W = w.alloc (.cells #[.int .i64 r.k, .int .i64 r.n, .string r.s, .slice A 2 c] 28) by rw [HW.out, hl])
      have hd : ∃ m, d = m + 1 := by
        cases d with
        | zero => have := exS.zero hUW; rw [this] at hl; simp at hl
        | succ m => exact ⟨m, rfl⟩
      obtain ⟨m, hm⟩ := hd
      subst hm
      have HQ1 := Lib.hid (HQ.out m rfl)
      have hkn : knS (m + 1 + 1) r kl = knS (m + 1) (exAt r.ps 1) (knS (m + 1) (exAt r.ps 0) kl) := by rw [knS, if_neg h9, if_pos h14]
      rw [hkn]
      have hg0 := gd_part HG.out (k := 0) (by omega)
      have hg1 := gd_part HG.out (k := 1) (by omega)
      have hct := cnt_two (d := m + 1) hl
      have hkl := kn_len (m + 1) (exAt r.ps 0) kl hg0
      have hn0 : kl.length + 1 + cntR (m + 1) (exAt r.ps 0) ≤ 1048576 := by omega
      have hn1 : (knS (m + 1) (exAt r.ps 0) kl).length + 1 + cntR (m + 1) (exAt r.ps 1) ≤ 1048576 := by omega
      obtain ⟨b, off, A0, A1, c0, c1, rfl, ⟨u0, s0, p0, p1, p2, p3⟩, ⟨u1, s1, q0, q1, q2, q3⟩⟩ := exW.two hUW hl
      obtain ⟨K1, hK1⟩ : ∃ K1, K1 = knS (m + 1) (exAt r.ps 0) kl := ⟨_, rfl⟩
      obtain ⟨K2, hK2⟩ : ∃ K2, K2 = knS (m + 1) (exAt r.ps 1) K1 := ⟨_, rfl⟩
      rw [← hK1] at hn1 ⊢
      rw [← hK2]
      have HC1 := Lib.hid hn0
      have HC2 := Lib.hid hn1
      have HG0 := Lib.hid hg0
      have HG1 := Lib.hid hg1
      have HK1 := Lib.hid hK1
      have HK2 := Lib.hid hK2
      rw [hl] at b3
      rw [hl]
      have HL := Lib.hid hl
      clear hlen hl h9 h14 hkn hn0 hn1 hct hkl hg0 hg1 hK1 hK2 hn
      go_enter Try.func121, Try.ntmps121
      go_wp2_with fail
      rw [← HW2.out, ← HGX.out]
      go_wp2_with fail
      refine wp_region_kinds2 (fun i wz vz => match i with | 0 => vz = .pointer (some ⟨gx, 3, Option.none⟩) | 1 => vz = .slice (some ⟨b, off, none⟩) 2 c | 2 => vz = .pointer (some ⟨b, off + 4, Option.none⟩) | 3 => vz = .agg #[.int .i64 (exAt r.ps 1).k, .int .i64 (exAt r.ps 1).n, .string (exAt r.ps 1).s, .slice A1 (exAt r.ps 1).ps.length c1] | 4 => vz = .pointer (some ⟨gx, 3, Option.none⟩) | 5 => vz = .slice (some ⟨b, off, none⟩) 2 c | 6 => vz = .pointer (some ⟨b, off, Option.none⟩) | 7 => vz = .agg #[.int .i64 (exAt r.ps 0).k, .int .i64 (exAt r.ps 0).n, .string (exAt r.ps 0).s, .slice A0 (exAt r.ps 0).ps.length c0] | 8 => vz = .slice Ak kl.length ck | 9 => KnV D K1 wz vz | 10 => KnV D K2 wz vz | 11 => KnV D K2 wz vz | _ => True) (fun _ wz => Below W.heap.size W wz) (fun i w w' => Below w.heap.size w w') (fun _ => Option.none) (by kernel_rfl) (by kernel_rfl) (by kernel_rfl) ?stab5 (ext_drew (Below.refl _ _)) ?all5 ?fin5
      case stab5 =>
        intro i j wa wb v hR hk hne hd _ h2 hT
        match j, hk, hne, hd, h2, hT with
        | 0, hk, hne, hd, h2, hT => exact hT
        | 1, hk, hne, hd, h2, hT => exact hT
        | 2, hk, hne, hd, h2, hT => exact hT
        | 3, hk, hne, hd, h2, hT => exact hT
        | 4, hk, hne, hd, h2, hT => exact hT
        | 5, hk, hne, hd, h2, hT => exact hT
        | 6, hk, hne, hd, h2, hT => exact hT
        | 7, hk, hne, hd, h2, hT => exact hT
        | 8, hk, hne, hd, h2, hT => exact hT
        | 9, hk, hne, hd, h2, hT => exact KnV.below hT hR
        | 10, hk, hne, hd, h2, hT => exact KnV.below hT hR
        | 11, hk, hne, hd, h2, hT => exact KnV.below hT hR
        | n + 12, _, _, _, _, _ => trivial
      case all5 =>
        refine RAll.cons rfl ?_ (RAll.cons rfl ?_ (RAll.cons rfl ?_ (RAll.cons rfl ?_ (RAll.cons rfl ?_ (RAll.cons rfl ?_ (RAll.cons rfl ?_ (RAll.cons rfl ?_ (RAll.cons rfl ?_ (RAll.cons rfl ?_ (RAll.cons rfl ?_ (RAll.cons rfl ?_ (RAll.none_))))))))))))
        · intro a k wa K Q _ hI hp hK
          have e2 := tmp_of (show a.eval (.tmp 2) = .pointer (some ⟨gx, 0, none⟩) from hp.keep 2 (by kernel_rfl))
          go_simp
          exact hK _ _ rfl (Below.refl _ _) hI
        · intro a k wa K Q _ hI hp hK
          have e17 := tmp_of (show a.eval (.tmp 17) = .pointer (some ⟨gx, 3, Option.none⟩) from hp.dep 0 17 (by kernel_rfl))
          have b3_ := below_cell hI b3
          go_simp
          exact hK _ _ rfl (Below.refl _ _) hI
        · intro a k wa K Q _ hI hp hK
          have e18 := tmp_of (show a.eval (.tmp 18) = .slice (some ⟨b, off, none⟩) 2 c from hp.dep 1 18 (by kernel_rfl))
          go_simp
          exact hK _ _ (rfl) (Below.refl _ _) hI
        · intro a k wa K Q _ hI hp hK
          have e19 := tmp_of (show a.eval (.tmp 19) = .pointer (some ⟨b, off + 4, Option.none⟩) from hp.dep 2 19 (by kernel_rfl))
          have q0_ := below_cell hI q0
          have q1_ := below_cell hI q1
          have q2_ := below_cell hI q2
          have q3_ := below_cell hI q3
          go_simp
          exact hK _ _ rfl (Below.refl _ _) hI
        · intro a k wa K Q _ hI hp hK
          have e2 := tmp_of (show a.eval (.tmp 2) = .pointer (some ⟨gx, 0, none⟩) from hp.keep 2 (by kernel_rfl))
          go_simp
          exact hK _ _ rfl (Below.refl _ _) hI
        · intro a k wa K Q _ hI hp hK
          have e21 := tmp_of (show a.eval (.tmp 21) = .pointer (some ⟨gx, 3, Option.none⟩) from hp.dep 4 21 (by kernel_rfl))
          have b3_ := below_cell hI b3
          go_simp
          exact hK _ _ rfl (Below.refl _ _) hI
        · intro a k wa K Q _ hI hp hK
          have e22 := tmp_of (show a.eval (.tmp 22) = .slice (some ⟨b, off, none⟩) 2 c from hp.dep 5 22 (by kernel_rfl))
          go_simp
          exact hK _ _ (rfl) (Below.refl _ _) hI
        · intro a k wa K Q _ hI hp hK
          have e23 := tmp_of (show a.eval (.tmp 23) = .pointer (some ⟨b, off, Option.none⟩) from hp.dep 6 23 (by kernel_rfl))
          have p0_ := below_cell hI p0
          have p1_ := below_cell hI p1
          have p2_ := below_cell hI p2
          have p3_ := below_cell hI p3
          go_simp
          exact hK _ _ rfl (Below.refl _ _) hI
        · intro a k wa K Q _ hI hp hK
          exact op_move _ (.inl rfl) (hK _ _ (hp.keep 1 (by kernel_rfl)) (Below.refl _ _) hI)
        · intro a k wa K Q _ hI hp hK
          have e24 := tmp_of (show a.eval (.tmp 24) = .agg #[.int .i64 (exAt r.ps 0).k, .int .i64 (exAt r.ps 0).n, .string (exAt r.ps 0).s, .slice A0 (exAt r.ps 0).ps.length c0] from hp.dep 7 24 (by kernel_rfl))
          have e25 := tmp_of (show a.eval (.tmp 25) = .slice Ak kl.length ck from hp.dep 8 25 (by kernel_rfl))
          go_simp
          refine (HQ1.out _ _ _ kl c0 ck _ (u0.below hI) s0 (hKW.below hI) (by omega) HG0.out HC1.out).mono ?_
          rw [← HK1.out]
          rintro e wb ⟨A5, c5, rfl, hk5, hb⟩
          exact hK _ _ ⟨A5, c5, rfl, hk5⟩ hb (ext_trans hI hb)
        · intro a k wa K Q _ hI hp hK
          have e20 := tmp_of (show a.eval (.tmp 20) = .agg #[.int .i64 (exAt r.ps 1).k, .int .i64 (exAt r.ps 1).n, .string (exAt r.ps 1).s, .slice A1 (exAt r.ps 1).ps.length c1] from hp.dep 3 20 (by kernel_rfl))
          have t26 : KnV D K1 wa (a.eval (.tmp 26)) := hp.dep 9 26 (by kernel_rfl)
          obtain ⟨A5, c5, e26, hk5⟩ := t26
          replace e26 := tmp_of e26
          go_simp
          refine (HQ1.out _ _ _ K1 c1 c5 _ (u1.below hI) s1 hk5 (by omega) HG1.out HC2.out).mono ?_
          rw [← HK2.out]
          rintro e wb ⟨A8, c8, rfl, hk8, hb⟩
          exact hK _ _ ⟨A8, c8, rfl, hk8⟩ hb (ext_trans hI hb)
        · intro a k wa K Q _ hI hp hK
          exact op_move _ (.inr rfl) (hK _ _ (hp.dep 10 27 (by kernel_rfl)) (Below.refl _ _) hI)
      case fin5 =>
        intro f w9 hT hI0
        have hI : Below W.heap.size W w9 := hI0
        have hr6 : KnV D K2 w9 (f 11) := hT 11 (by decide) rfl rfl
        clear hT hI0
        obtain ⟨A6, c6, e6, h6⟩ := hr6
        simp only [putAll, e6]
        go_simp
        go_wp2
        go_ret
        exact ⟨A6, c6, rfl, h6, ext_trans HBW.out hI⟩
    · have e14 : (r.k == 14) = false := by simp [h14]
      have hkn : knS (d + 1) r kl = kl := by rw [knS, if_neg h9, if_neg h14]
      rw [hkn]
      clear h9 h14 hkn
      go_enter Try.func121, Try.ntmps121
      go_wp2
      rw [← HW.out]
      go_ret
      exact ⟨Ak, ck, rfl, hKW, HBW.out⟩
theorem knQ_all (D : Nat) : ∀ d, KnQ d D
  | 0 => knQ_of (fun m h => by cases h)
  | d + 1 => knQ_of (fun m h => by cases h; exact knQ_all D d)
end Go.Proofs.Ytodjokdaofefdaa

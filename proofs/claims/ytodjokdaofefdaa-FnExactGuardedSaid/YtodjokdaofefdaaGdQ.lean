/- Guards, by the program: copies of lists, what is joined by ExprAnd. -/
import Derived.Test.YtodjokdaofefdaaGdO
import Derived.Test.YtodjokdaofefdaaGdL
import Derived.Lib.SliceRun
namespace Go.Proofs.Ytodjokdaofefdaa
set_option linter.unusedSimpArgs false
set_option linter.unusedVariables false
open Go.RowKit

theorem wpList_append_emptyG {α : Type} {R : World → α → List Value → Prop} {P : Program} {w : World} {ops : Array Oper} {rest : List Oper} {o : Oper} {a : Act} {Q : Exit → Act → World → Prop} (hgd : o.guard = Option.none) (s x : Operand) (t e : TypeId) (z : Value) (sz bytes : Nat)
    (ho : o.op = .call { callee := .builtin .append, args := #[s, x], argTypes := #[t, t] }) (ht : P.underlying t = some (.slice e)) (hinfo : (P.info? e).map (fun i => (i.zero, i.size, i.bytes)) = some (some z, sz, bytes))
    (hzs : z.cells.size = sz) (hsz : 0 < sz) {B : Nat} (hs : FrB B e 0 #[] w (a.eval s)) {A : Option Addr} {l : List α} {c : Nat} (hx : a.eval x = .slice A l.length c) (hr : RdL R sz w A l) (hR : ∀ w', Below w.heap.size w w' → ∀ a cs, R w a cs → R w' a cs)
    (hbase : B ≤ w.heap.size) (hbytes : l.length * bytes ≤ 140737488355328) (h63 : l.length ≤ 9223372036854775807)
    (h : ∀ v' w', OwnG R B e sz w' v' l → Below w.heap.size w w' → wpList P ops Q rest (a.put o.dst v') w') : wpList P ops Q (o :: rest) a w :=
  wpList_plain hgd fun _ hK => op_append_emptyG s x t e z sz bytes ho ht hinfo hzs hsz hs hx hr hR hbase hbytes h63 fun v' w' h2 h3 => hK _ _ (h v' w' h2 h3)
theorem has_any {A : Option Addr} {r : Ex} {c : Nat} {w : World} :
    Calls Try.prog 82 #[.agg #[.int .i64 r.k, .int .i64 r.n, .string r.s, .slice A r.ps.length c]] w fun e w' => e = .returned (.agg #[.int .i64 9, .int .i64 r.n, .string r.s, .slice A r.ps.length c]) ∧ Below w.heap.size w w' := by
  go_enter Try.func82, Try.ntmps82
  go_wp2
  refine bodyPost_ret (results_cell_row rfl _ _ (w.heap.size + 1) _ _ _ _ rfl (heap_alloc2_new _ _ _) Try.underlying28 rfl (by kernel_rfl)) rfl ?_
  exact ⟨rfl, by (repeat (first | exact Below.refl _ _ | refine ext_alloc ?_ _ | refine Below.setCell ?_ (by simp) _))⟩
set_option maxRecDepth 100000 in
set_option maxHeartbeats 2000000 in
theorem clone_any {D N : Nat} {A : Option Addr} {l : ExL} {c : Nat} {w : World} (hU : exS D 0 N w A l) (hN : N ≤ w.heap.size) (hl : l.length ≤ 1048576) :
    Calls Try.prog 112 #[.slice A l.length c] w fun e w' => ∃ v, e = .returned v ∧ OwnE D N w.heap.size l w' v ∧ Below w.heap.size w w' := by
  have hrd := hU.1
  have HU := Lib.hid hU
  clear hU
  have q26 : ∀ (w : World) (a : Option Addr) (n c n' c' : Nat), (binOp .eql 26 (.slice a n c) (.slice none n' c')).run Try.prog w = .ok (.bool a.isNone) w := fun w a n c n' c' => Lib.run_eql_slice_nil w _ _ a n c n' c' Try.underlying26
  cases A with
  | none =>
    have h0 : l = [] := by
      rcases Nat.eq_zero_or_pos l.length with h | h
      · exact List.eq_nil_of_length_eq_zero h
      · obtain ⟨b, off, e, _⟩ := hrd.2 h
        cases e
    subst h0
    go_enter Try.func112, Try.ntmps112
    go_wp2
    go_ret
    exact ⟨_, rfl, ⟨⟨hN, hN⟩, OwnG.nil⟩, Below.refl _ _⟩
  | some a =>
    obtain ⟨W, hW⟩ : ∃ W, W = w.alloc (.cells #[] 28) := ⟨_, rfl⟩
    have hBW : Below w.heap.size w W := by rw [hW]; (repeat (first | exact Below.refl _ _ | refine ext_alloc ?_ _ | refine Below.setCell ?_ (by simp) _))
    have HF : Hid (FrB w.heap.size 28 0 #[] W (.slice (some ⟨w.heap.size, 0, Option.none⟩) 0 0)) := Lib.hid ⟨_, rfl, Nat.le_refl _, by rw [hW]; exact heap_alloc_new _ _⟩
    have HRD := Lib.hid (exS.below HU.out hN hBW).1
    have HNW := Lib.hid (Nat.le_trans hN hBW.size)
    have HW := Lib.hid hW
    have HB := Lib.hid hBW
    clear hW hBW
    go_enter Try.func112, Try.ntmps112
    go_wp2_with (at_builtin; rw [← HW.out]; go_must (refine wpList_append_emptyG (R := exR D 0 N) (l := l) (B := w.heap.size) rfl (.tmp 5) (.tmp 6) 26 28 _ 4 56 rfl Try.underlying26 Try.infoExpr rfl (by decide) HF.out rfl HRD.out (fun w' hb a cs h => exR.below h HNW.out hb) HB.out.size (by omega) (by omega) ?_); intro v1 w1 hO hb)
    replace hb := ext_trans HB.out hb
    have HO := Lib.hid hO
    clear hO
    go_wp2
    go_ret
    exact ⟨v1, rfl, ⟨⟨Nat.le_trans hN hb.size, hN⟩, HO.out⟩, hb⟩
def CjQ (d : Nat) : Prop := ∀ (A : Option Addr) (r : Ex) (c N : Nat) (w : World), exS d 0 N w A r.ps → N ≤ w.heap.size → r.s.size ≤ 9223372036854775807 → gdR (d + 1) r = true → 1 + cntR (d + 1) r ≤ 1048576 →
  Calls Try.prog 113 #[.agg #[.int .i64 r.k, .int .i64 r.n, .string r.s, .slice A r.ps.length c]] w fun e w' => ∃ v, e = .returned v ∧ OwnE (d + 1) N w.heap.size (cjI (d + 1) r) w' v ∧ Below w.heap.size w w'
theorem exS.two {d N : Nat} {w : World} {A : Option Addr} {l : ExL} (h : exS (d + 1) 0 N w A l) (hl : l.length = 2) : ∃ b off A0 A1 c0 c1, A = some ⟨b, off, none⟩ ∧ (exS d 0 N w A0 (exAt l 0).ps ∧ (exAt l 0).s.size ≤ 9223372036854775807 ∧
    w.cell? ⟨b, off, none⟩ = some (.int .i64 (exAt l 0).k) ∧ w.cell? ⟨b, off + 1, none⟩ = some (.int .i64 (exAt l 0).n) ∧ w.cell? ⟨b, off + 2, none⟩ = some (.string (exAt l 0).s) ∧ w.cell? ⟨b, off + 3, none⟩ = some (.slice A0 (exAt l 0).ps.length c0)) ∧
    (exS d 0 N w A1 (exAt l 1).ps ∧ (exAt l 1).s.size ≤ 9223372036854775807 ∧
    w.cell? ⟨b, off + 4, none⟩ = some (.int .i64 (exAt l 1).k) ∧ w.cell? ⟨b, off + 4 + 1, none⟩ = some (.int .i64 (exAt l 1).n) ∧ w.cell? ⟨b, off + 4 + 2, none⟩ = some (.string (exAt l 1).s) ∧ w.cell? ⟨b, off + 4 + 3, none⟩ = some (.slice A1 (exAt l 1).ps.length c1)) := by
  obtain ⟨b, off, rfl, _, hc⟩ := h.cells (by omega)
  obtain ⟨A0, c0, g0⟩ := hc 0 (by omega)
  obtain ⟨A1, c1, g1⟩ := hc 1 (by omega)
  rw [show off + 0 * 4 = off by omega] at g0
  rw [show off + 1 * 4 = off + 4 by omega] at g1
  exact ⟨b, off, A0, A1, c0, c1, rfl, g0, g1⟩
set_option maxRecDepth 100000 in
set_option maxHeartbeats 4000000 in
theorem cjQ_of {d : Nat} (hQ : ∀ m, d = m + 1 → CjQ m) : CjQ d := by
  intro A r c N w hU hN hs hg hn
  have hlen := exS.len hU
  have HG := Lib.hid hg
  have HQ := Lib.hid hQ
  have HN := Lib.hid hn
  clear hg hQ hn
  obtain ⟨W, hW⟩ : ∃ W, W = w.alloc (.cells #[.int .i64 r.k, .int .i64 r.n, .string r.s, .slice A r.ps.length c] 28) := ⟨_, rfl⟩
  obtain ⟨gx, hgx⟩ : ∃ g, g = w.heap.size := ⟨_, rfl⟩
  have hBW : Below w.heap.size w W := by rw [hW]; (repeat (first | exact Below.refl _ _ | refine ext_alloc ?_ _ | refine Below.setCell ?_ (by simp) _))
  have b0 : W.cell? ⟨gx, 0, none⟩ = some (.int .i64 r.k) := by rw [hW, hgx]; exact box_cell w _ _ 0 _ rfl
  have b1 : W.cell? ⟨gx, 1, none⟩ = some (.int .i64 r.n) := by rw [hW, hgx]; exact box_cell w _ _ 1 _ rfl
  have b2 : W.cell? ⟨gx, 2, none⟩ = some (.string r.s) := by rw [hW, hgx]; exact box_cell w _ _ 2 _ rfl
  have b3 : W.cell? ⟨gx, 3, none⟩ = some (.slice A r.ps.length c) := by rw [hW, hgx]; exact box_cell w _ _ 3 _ rfl
  have hUW := exS.below hU hN hBW
  have HNW := Lib.hid (Nat.le_trans hN hBW.size)
  have HW := Lib.hid hW
  have HGX := Lib.hid hgx
  have HBW := Lib.hid hBW
  clear hW hgx hBW hU
  by_cases h14 : r.k = 14
  · have e14 : (r.k != 14) = false := by simp [h14]
    have hl := head_14 (gd_head HG.out) h14
    have HW2 := Lib.hid (show W = w.alloc (.cells #[.int .i64 r.k, .int .i64 r.n, .string r.s, .slice A 2 c] 28) by rw [HW.out, hl])
    have hd : ∃ m, d = m + 1 := by
      cases d with
      | zero => have := exS.zero hUW; rw [this] at hl; simp at hl
      | succ m => exact ⟨m, rfl⟩
    obtain ⟨m, hm⟩ := hd
    subst hm
    have HQ1 := Lib.hid (HQ.out m rfl)
    have hcj : cjI (m + 1 + 1) r = cjI (m + 1) (exAt r.ps 0) ++ cjI (m + 1) (exAt r.ps 1) := by rw [cjI, if_pos h14]
    rw [hcj]
    have hg0 := gd_part HG.out (k := 0) (by omega)
    have hg1 := gd_part HG.out (k := 1) (by omega)
    have hct := cnt_two (d := m + 1) hl
    have hcl0 := cj_len (m + 1) (exAt r.ps 0) hg0
    have hcl1 := cj_len (m + 1) (exAt r.ps 1) hg1
    have hn := HN.out
    obtain ⟨K1, hK1⟩ : ∃ K1, K1 = cjI (m + 1) (exAt r.ps 0) := ⟨_, rfl⟩
    obtain ⟨K2, hK2⟩ : ∃ K2, K2 = cjI (m + 1) (exAt r.ps 1) := ⟨_, rfl⟩
    rw [← hK1] at hcl0 ⊢
    rw [← hK2] at hcl1 ⊢
    have HC1 := Lib.hid (show 1 + cntR (m + 1) (exAt r.ps 0) ≤ 1048576 by omega)
    have HC2 := Lib.hid (show 1 + cntR (m + 1) (exAt r.ps 1) ≤ 1048576 by omega)
    have HLEN := Lib.hid (show K1.length + K2.length ≤ 1048576 by omega)
    have HG0 := Lib.hid hg0
    have HG1 := Lib.hid hg1
    have HK1 := Lib.hid hK1
    have HK2 := Lib.hid hK2
    obtain ⟨b, off, A0, A1, c0, c1, rfl, ⟨u0, s0, p0, p1, p2, p3⟩, ⟨u1, s1, q0, q1, q2, q3⟩⟩ := exS.two hUW hl
    rw [hl] at b3
    rw [hl]
    have HL := Lib.hid hl
    have HB3 := Lib.hid b3
    clear hlen hl h14 hcj hct hg0 hg1 hK1 hK2 hn hcl0 hcl1
    go_enter Try.func113, Try.ntmps113
    go_wp2_with fail
    rw [← HW2.out, ← HGX.out]
    go_wp2_with fail
    refine wp_region_kinds2 (fun i wz vz => match i with | 0 => vz = .pointer (some ⟨gx, 3, Option.none⟩) | 1 => vz = .slice (some ⟨b, off, none⟩) 2 c | 2 => vz = .pointer (some ⟨b, off, Option.none⟩) | 3 => vz = .agg #[.int .i64 (exAt r.ps 0).k, .int .i64 (exAt r.ps 0).n, .string (exAt r.ps 0).s, .slice A0 (exAt r.ps 0).ps.length c0] | 4 => OwnE (m + 1 + 1) N W.heap.size K1 wz vz | 5 => vz = .pointer (some ⟨gx, 3, Option.none⟩) | 6 => vz = .slice (some ⟨b, off, none⟩) 2 c | 7 => vz = .pointer (some ⟨b, off + 4, Option.none⟩) | 8 => vz = .agg #[.int .i64 (exAt r.ps 1).k, .int .i64 (exAt r.ps 1).n, .string (exAt r.ps 1).s, .slice A1 (exAt r.ps 1).ps.length c1] | 9 => OwnE (m + 1 + 1) N W.heap.size K2 wz vz | 10 => OwnE (m + 1 + 1) N W.heap.size (K1 ++ K2) wz vz | 11 => OwnE (m + 1 + 1) N W.heap.size (K1 ++ K2) wz vz | _ => True) (fun _ wz => Below W.heap.size W wz) (fun i w w' => Below (if i = 10 then W.heap.size else w.heap.size) w w') (fun j => match j with | 4 => some 10 | 9 => some 10 | _ => Option.none) (by kernel_rfl) (by kernel_rfl) (by kernel_rfl) ?stab3 (ext_drew (Below.refl _ _)) ?all3 ?fin3
    case stab3 =>
      intro i j wa wb v hR hk hne hd _ h2 hT
      match j, hk, hne, hd, h2, hT with
      | 0, hk, hne, hd, h2, hT => exact hT
      | 1, hk, hne, hd, h2, hT => exact hT
      | 2, hk, hne, hd, h2, hT => exact hT
      | 3, hk, hne, hd, h2, hT => exact hT
      | 4, hk, hne, hd, h2, hT => exact OwnE.below hT (rel_un (fun e => hk (by subst e; rfl)) hR)
      | 5, hk, hne, hd, h2, hT => exact hT
      | 6, hk, hne, hd, h2, hT => exact hT
      | 7, hk, hne, hd, h2, hT => exact hT
      | 8, hk, hne, hd, h2, hT => exact hT
      | 9, hk, hne, hd, h2, hT => exact OwnE.below hT (rel_un (fun e => hk (by subst e; rfl)) hR)
      | 10, hk, hne, hd, h2, hT => exact OwnE.below hT (rel_un (fun e => hne e.symm) hR)
      | 11, hk, hne, hd, h2, hT => exact OwnE.below hT (rel_un (fun e => by subst e; exact Bool.noConfusion (hd.symm.trans (show depB _ 11 10 = true from by kernel_rfl))) hR)
      | n + 12, _, _, _, _, _ => trivial
    case all3 =>
      refine RAll.cons rfl ?_ (RAll.cons rfl ?_ (RAll.cons rfl ?_ (RAll.cons rfl ?_ (RAll.cons rfl ?_ (RAll.cons rfl ?_ (RAll.cons rfl ?_ (RAll.cons rfl ?_ (RAll.cons rfl ?_ (RAll.cons rfl ?_ (RAll.cons rfl ?_ (RAll.cons rfl ?_ (RAll.none_))))))))))))
      · intro a k wa K Q _ hI hp hK
        have e1 := tmp_of (show a.eval (.tmp 1) = .pointer (some ⟨gx, 0, none⟩) from hp.keep 1 (by kernel_rfl))
        go_simp
        exact hK _ _ rfl (Below.refl _ _) hI
      · intro a k wa K Q _ hI hp hK
        have e8 := tmp_of (show a.eval (.tmp 8) = .pointer (some ⟨gx, 3, Option.none⟩) from hp.dep 0 8 (by kernel_rfl))
        have b3_ := below_cell hI b3
        go_simp
        exact hK _ _ rfl (Below.refl _ _) hI
      · intro a k wa K Q _ hI hp hK
        have e9 := tmp_of (show a.eval (.tmp 9) = .slice (some ⟨b, off, none⟩) 2 c from hp.dep 1 9 (by kernel_rfl))
        go_simp
        exact hK _ _ (rfl) (Below.refl _ _) hI
      · intro a k wa K Q _ hI hp hK
        have e10 := tmp_of (show a.eval (.tmp 10) = .pointer (some ⟨b, off, Option.none⟩) from hp.dep 2 10 (by kernel_rfl))
        have p0_ := below_cell hI p0
        have p1_ := below_cell hI p1
        have p2_ := below_cell hI p2
        have p3_ := below_cell hI p3
        go_simp
        exact hK _ _ rfl (Below.refl _ _) hI
      · intro a k wa K Q _ hI hp hK
        have e11 := tmp_of (show a.eval (.tmp 11) = .agg #[.int .i64 (exAt r.ps 0).k, .int .i64 (exAt r.ps 0).n, .string (exAt r.ps 0).s, .slice A0 (exAt r.ps 0).ps.length c0] from hp.dep 3 11 (by kernel_rfl))
        go_simp
        refine (HQ1.out _ _ c0 N _ (exS.below u0 HNW.out hI) (Nat.le_trans HNW.out hI.size) s0 HG0.out HC1.out).mono ?_
        rw [← HK1.out]
        rintro e wb ⟨v5, rfl, h5, hb⟩
        exact hK _ _ ((h5.wide (Nat.le_refl _) h5.1.1 HNW.out hI.size).deeper (by omega)) (rel_ne (by decide) hb) (ext_trans hI hb)
      · intro a k wa K Q _ hI hp hK
        have e1 := tmp_of (show a.eval (.tmp 1) = .pointer (some ⟨gx, 0, none⟩) from hp.keep 1 (by kernel_rfl))
        go_simp
        exact hK _ _ rfl (Below.refl _ _) hI
      · intro a k wa K Q _ hI hp hK
        have e13 := tmp_of (show a.eval (.tmp 13) = .pointer (some ⟨gx, 3, Option.none⟩) from hp.dep 5 13 (by kernel_rfl))
        have b3_ := below_cell hI b3
        go_simp
        exact hK _ _ rfl (Below.refl _ _) hI
      · intro a k wa K Q _ hI hp hK
        have e14 := tmp_of (show a.eval (.tmp 14) = .slice (some ⟨b, off, none⟩) 2 c from hp.dep 6 14 (by kernel_rfl))
        go_simp
        exact hK _ _ (rfl) (Below.refl _ _) hI
      · intro a k wa K Q _ hI hp hK
        have e15 := tmp_of (show a.eval (.tmp 15) = .pointer (some ⟨b, off + 4, Option.none⟩) from hp.dep 7 15 (by kernel_rfl))
        have q0_ := below_cell hI q0
        have q1_ := below_cell hI q1
        have q2_ := below_cell hI q2
        have q3_ := below_cell hI q3
        go_simp
        exact hK _ _ rfl (Below.refl _ _) hI
      · intro a k wa K Q _ hI hp hK
        have e16 := tmp_of (show a.eval (.tmp 16) = .agg #[.int .i64 (exAt r.ps 1).k, .int .i64 (exAt r.ps 1).n, .string (exAt r.ps 1).s, .slice A1 (exAt r.ps 1).ps.length c1] from hp.dep 8 16 (by kernel_rfl))
        go_simp
        refine (HQ1.out _ _ c1 N _ (exS.below u1 HNW.out hI) (Nat.le_trans HNW.out hI.size) s1 HG1.out HC2.out).mono ?_
        rw [← HK2.out]
        rintro e wb ⟨v5, rfl, h5, hb⟩
        exact hK _ _ ((h5.wide (Nat.le_refl _) h5.1.1 HNW.out hI.size).deeper (by omega)) (rel_ne (by decide) hb) (ext_trans hI hb)
      · intro a k wa K Q _ hI hp hK
        have t12 : OwnE (m + 1 + 1) N W.heap.size K1 wa (a.eval (.tmp 12)) := hp.dep 4 12 (by kernel_rfl)
        have t17 : OwnE (m + 1 + 1) N W.heap.size K2 wa (a.eval (.tmp 17)) := hp.dep 9 17 (by kernel_rfl)
        have hM := t12.2
        obtain ⟨A9, c9, e17, hr9⟩ := t17.2.rd (by have := HLEN.out; omega)
        refine op_appendG (R := exR (m + 1 + 1) 0 N) (l := K1) (l2 := K2) (.tmp 12) (.tmp 17) 26 28 _ 4 56 rfl Try.underlying26 Try.infoExpr rfl (by decide) (fun a cs h => exR.one h) rfl hM e17 hr9 (fun w' hg a cs h => exR.row (Nat.le_trans HNW.out hI.size) hg (fun k hk => Nat.le_trans HNW.out (hM.ge k hk).1) h) (by have := HLEN.out; omega) (by have := HLEN.out; omega) hI.size ?_
        intro v' wb ho' hb' hgr _
        exact hK _ _ ⟨⟨Nat.le_trans HNW.out (Nat.le_trans hI.size hb'.size), HNW.out⟩, ho'⟩ (rel_eq rfl hb') (hI.trans hb')
      · intro a k wa K Q _ hI hp hK
        exact op_move _ (.inr rfl) (hK _ _ (hp.dep 10 18 (by kernel_rfl)) (Below.refl _ _) hI)
    case fin3 =>
      intro f w9 hT hI0
      have hI : Below W.heap.size W w9 := hI0
      have hr6 : OwnE (m + 1 + 1) N W.heap.size (K1 ++ K2) w9 (f 11) := hT 11 (by decide) rfl rfl
      clear hT hI0
      obtain ⟨v6, hv6⟩ : ∃ v, v = f 11 := ⟨_, rfl⟩
      rw [← hv6] at hr6
      simp only [putAll, ← hv6]
      clear hv6
      have HR6 := Lib.hid hr6
      clear hr6
      go_simp
      go_wp2
      go_ret
      rw [HGX.out]
      exact ⟨v6, rfl, HR6.out.wide (Nat.le_refl _) HR6.out.1.1 hN HBW.out.size, ext_trans HBW.out hI⟩
  · have e14 : (r.k != 14) = true := by simp [h14]
    have hcj : cjI (d + 1) r = [r] := by rw [cjI, if_neg h14]
    rw [hcj]
    clear h14 hcj
    obtain ⟨Y, hY⟩ : ∃ Y, Y = W.alloc (.cells #[.int .i64 r.k, .int .i64 r.n, .string r.s, .slice A r.ps.length c] 28) := ⟨_, rfl⟩
    have hBY : Below W.heap.size W Y := by rw [hY]; (repeat (first | exact Below.refl _ _ | refine ext_alloc ?_ _ | refine Below.setCell ?_ (by simp) _))
    have hsz : W.heap.size = gx + 1 := by rw [HW.out, HGX.out]; simp
    have HO : Hid (OwnE (d + 1) N w.heap.size [r] Y (.slice (some ⟨w.heap.size + 1, 0, Option.none⟩) 1 1)) := Lib.hid (by rw [← HGX.out, ← hsz, HGX.out]; exact OwnE.one (B := w.heap.size) (exS.below hUW HNW.out hBY) hs hN (Nat.le_trans HBW.out.size hBY.size) ⟨_, rfl, HBW.out.size, by rw [hY]; exact heap_alloc_new _ _⟩)
    clear hsz
    have HY := Lib.hid hY
    have HBY := Lib.hid (ext_trans HBW.out hBY)
    clear hY hBY
    go_enter Try.func113, Try.ntmps113
    go_wp2_with fail
    rw [← HW.out, ← HGX.out]
    go_wp2
    rw [← HY.out]
    go_ret
    rw [HGX.out]
    exact ⟨_, rfl, HO.out, HBY.out⟩
theorem cjQ_all : ∀ d, CjQ d
  | 0 => cjQ_of (fun m h => by cases h)
  | d + 1 => cjQ_of (fun m h => by cases h; exact cjQ_all d)
end Go.Proofs.Ytodjokdaofefdaa

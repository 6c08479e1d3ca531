/- Expressions: what a library function finds by a predicate; what is the same as one of a list. -/
import Derived.Test.YtodjokdaofefdaaGreatQ3
import Derived.Test.YtodjokdaofefdaaGreatQ4
import Derived.Shelf.Abstract
import Derived.Lib.SliceRun
namespace Go.Proofs.YtodjokdaofefdaaGreat
set_option linter.unusedSimpArgs false
set_option linter.unusedVariables false
open Go.RowKit

/-- What is asked of a predicate over a list's elements. -/
def PrA (d g : Nat) (lb : Array Value) (p : Nat → Bool) (w : World) (l : ExL) : Prop :=
  ∀ k, k < l.length → ∀ (W : World) (A' : Option Addr) (c' : Nat), Below w.heap.size w W → exW d W A' (exAt l k).ps → (exAt l k).s.size ≤ 9223372036854775807 →
    Calls Tryz.prog g (#[.agg #[.int .i64 (exAt l k).k, .int .i64 (exAt l k).n, .string (exAt l k).s, .slice A' (exAt l k).ps.length c']] ++ lb) W fun e w' => e = .returned (.bool (p k)) ∧ Below W.heap.size W w'
theorem any_hit {n k : Nat} {p : Nat → Bool} {q : Bool} (hq : (List.range n).any p = q) (hk : k < n) (h : p k = true) : q = true := by
  rw [← hq, List.any_eq_true]
  exact ⟨k, List.mem_range.2 hk, h⟩
theorem any_miss {n : Nat} {p : Nat → Bool} {q : Bool} (hq : (List.range n).any p = q) (h : ∀ j, j < n → p j = false) : q = false := by
  rw [← hq, List.any_eq_false]
  intro x hx
  rw [h x (List.mem_range.1 hx)]; simp
set_option maxRecDepth 100000 in
set_option maxHeartbeats 4000000 in
theorem indexFunc_any {d g : Nat} {lb : Array Value} {p : Nat → Bool} {A : Option Addr} {l : ExL} {c : Nat} {w : World} {q : Bool} (eg : ∀ args w, (callFunc g args).run Tryz.prog w = .ok (.enter g args) w)
    (hU : exW (d + 1) w A l) (hp : PrA d g lb p w l) (hq : (List.range l.length).any p = q) :
    Calls Tryz.prog 99 #[.slice A l.length c, .func (.func g) #[] lb] w fun e w' => ∃ i : Int, e = .returned (.int .i64 i) ∧ ((q = true → 0 ≤ i) ∧ (q = false → i = -1)) ∧ Below w.heap.size w w' := by
  have hlen := exS.len hU
  have HQ := Lib.hid hq
  have HP := Lib.hid hp
  clear hp hq
  go_enter Tryz.func99, Tryz.ntmps99
  go_wp2
  go_loopw [5, 8] (fun _ iv wr => ∃ k : Nat, k ≤ l.length ∧ iv = .int .i64 k ∧ Hid (∀ j, j < k → p j = false) ∧ Below w.heap.size w wr) (fun _ iv _ => l.length - (intOf iv).toNat)
  case atStart => exact ⟨0, Nat.zero_le _, rfl, Lib.hid (fun j h => by omega), Below.refl _ _⟩
  case round =>
    obtain ⟨k, hk, rfl, HG, hB⟩ := hrel
    by_cases hlt : k < l.length
    · obtain ⟨b, off, rfl, hc⟩ := hU.cells (by omega)
      obtain ⟨A1, c1, hfd, hs1, p0, p1, p2, p3⟩ := hc k hlt
      replace p0 := below_cell hB p0
      replace p1 := below_cell hB p1
      replace p2 := below_cell hB p2
      replace p3 := below_cell hB p3
      clear hc
      have HCALL := Lib.hid (HP.out k hlt _ A1 c1 hB (hfd.below hB) hs1)
      obtain ⟨y, hy⟩ : ∃ y, p k = y := ⟨_, rfl⟩
      rw [hy] at HCALL
      have HY := Lib.hid hy
      clear hfd hy
      cases y
      · go_wp2_with fail
        refine HCALL.out.mono ?_
        rintro e w1 ⟨rfl, hb⟩
        replace hB := ext_trans hB hb
        clear hb p0 p1 p2 p3
        go_wp2
        go_roundw
        case rel => exact ⟨k + 1, by omega, by go_num, Lib.hid (all_succ HG.out HY.out), hB⟩
        case measure => simp [intOf]; omega
      · go_wp2_with fail
        refine HCALL.out.mono ?_
        rintro e w1 ⟨rfl, hb⟩
        replace hB := ext_trans hB hb
        clear hb p0 p1 p2 p3
        go_wp2
        go_ret
        exact ⟨k, rfl, ⟨fun _ => by omega, fun h => by have := any_hit HQ.out hlt HY.out; rw [h] at this; cases this⟩, hB⟩
    · obtain rfl : k = l.length := by omega
      go_wp2
      go_ret
      exact ⟨-1, rfl, ⟨fun h => (by have := any_miss HQ.out HG.out; rw [h] at this; cases this), fun _ => rfl⟩, hB⟩
set_option maxHeartbeats 1000000 in
theorem containsFunc_any {d g : Nat} {lb : Array Value} {p : Nat → Bool} {A : Option Addr} {l : ExL} {c : Nat} {w : World} {q : Bool} (eg : ∀ args w, (callFunc g args).run Tryz.prog w = .ok (.enter g args) w)
    (hU : exW (d + 1) w A l) (hp : PrA d g lb p w l) (hq : (List.range l.length).any p = q) :
    Calls Tryz.prog 85 #[.slice A l.length c, .func (.func g) #[] lb] w fun e w' => e = .returned (.bool q) ∧ Below w.heap.size w w' := by
  have HI := Lib.hid (indexFunc_any (c := c) eg hU hp hq)
  clear hp hq
  go_enter Tryz.func85, Tryz.ntmps85
  go_wp2_with fail
  refine HI.out.mono ?_
  rintro e w1 ⟨i, rfl, ⟨h1, h2⟩, hB⟩
  cases q
  · obtain rfl := h2 rfl
    clear h1 h2
    go_wp2
    go_ret
    exact ⟨rfl, hB⟩
  · have h3 := h1 rfl
    have h4 : decide (i ≥ 0) = true := by simpa using h3
    have h5 : decide (0 ≤ i) = true := by simpa using h3
    clear h1 h2
    go_wp2
    go_ret
    first | exact ⟨rfl, hB⟩ | exact ⟨by rw [h4], hB⟩ | exact ⟨by rw [h5], hB⟩
theorem hasB_range (l : ExL) (e : Ex) : (List.range l.length).any (fun k => sameX (exAt l k) e) = hasB l e := by
  rw [Bool.eq_iff_iff]
  simp only [hasB, List.any_eq_true, List.mem_range]
  constructor
  · rintro ⟨k, hk, h⟩
    exact ⟨l[k], List.getElem_mem hk, by rw [← exAt_eq hk]; exact h⟩
  · rintro ⟨x, hx, h⟩
    obtain ⟨k, hk, rfl⟩ := List.getElem_of_mem hx
    exact ⟨k, hk, by rw [exAt_eq hk]; exact h⟩
set_option maxHeartbeats 2000000 in
/-- The predicate that asks for the same one. -/
theorem hasSame1_any {d b : Nat} {A A' : Option Addr} {r r' : Ex} {c c' : Nat} {w : World} (hU : exW d w A r.ps) (hV : exW d w A' r'.ps)
    (b0 : w.cell? ⟨b, 0, none⟩ = some (.int .i64 r'.k)) (b1 : w.cell? ⟨b, 1, none⟩ = some (.int .i64 r'.n)) (b2 : w.cell? ⟨b, 2, none⟩ = some (.string r'.s)) (b3 : w.cell? ⟨b, 3, none⟩ = some (.slice A' r'.ps.length c')) :
    Calls Tryz.prog 97 #[.agg #[.int .i64 r.k, .int .i64 r.n, .string r.s, .slice A r.ps.length c], .pointer (some ⟨b, 0, none⟩)] w fun e w' => e = .returned (.bool (sameX r r')) ∧ Below w.heap.size w w' := by
  have hbw := block_lt_of_cell b0
  go_enter Tryz.func97, Tryz.ntmps97
  go_wp2_with fail
  refine (smI_all d A A' r r' c c' _ (hU.below (by (repeat (first | exact Below.refl _ _ | refine ext_alloc ?_ _ | refine Below.setCell ?_ (by simp) _)))) (hV.below (by (repeat (first | exact Below.refl _ _ | refine ext_alloc ?_ _ | refine Below.setCell ?_ (by simp) _))))).mono ?_
  rintro e w1 ⟨rfl, hB⟩
  replace hB := ext_trans (show Below w.heap.size w _ by (repeat (first | exact Below.refl _ _ | refine ext_alloc ?_ _ | refine Below.setCell ?_ (by simp) _))) hB
  go_wp2
  go_ret
  exact ⟨rfl, hB⟩
theorem enters_same1 : ∀ args w, (callFunc 97 args).run Tryz.prog w = .ok (.enter 97 args) w := enters_of Tryz.func97 (by kernel_rfl) rfl
set_option maxHeartbeats 2000000 in
theorem hasSame_any {d : Nat} {A A' : Option Addr} {l : ExL} {r : Ex} {c c' : Nat} {w : World} (hU : exW (d + 1) w A l) (hV : exW d w A' r.ps) :
    Calls Tryz.prog 81 #[.slice A l.length c, .agg #[.int .i64 r.k, .int .i64 r.n, .string r.s, .slice A' r.ps.length c']] w fun e w' => e = .returned (.bool (hasB l r)) ∧ Below w.heap.size w w' := by
  obtain ⟨W, hW⟩ : ∃ W, W = w.alloc (.cells #[.int .i64 r.k, .int .i64 r.n, .string r.s, .slice A' r.ps.length c'] 36) := ⟨_, rfl⟩
  have hBW : Below w.heap.size w W := by rw [hW]; (repeat (first | exact Below.refl _ _ | refine ext_alloc ?_ _ | refine Below.setCell ?_ (by simp) _))
  have b0 : W.cell? ⟨w.heap.size, 0, none⟩ = some (.int .i64 r.k) := by rw [hW]; exact box_cell w _ _ 0 _ rfl
  have b1 : W.cell? ⟨w.heap.size, 1, none⟩ = some (.int .i64 r.n) := by rw [hW]; exact box_cell w _ _ 1 _ rfl
  have b2 : W.cell? ⟨w.heap.size, 2, none⟩ = some (.string r.s) := by rw [hW]; exact box_cell w _ _ 2 _ rfl
  have b3 : W.cell? ⟨w.heap.size, 3, none⟩ = some (.slice A' r.ps.length c') := by rw [hW]; exact box_cell w _ _ 3 _ rfl
  have hcon := containsFunc_any (c := c) (lb := #[.pointer (some ⟨w.heap.size, 0, none⟩)]) enters_same1 (hU.below hBW)
    (fun k hk X A1 c1 hX h1 _ => hasSame1_any h1 (hV.below (hBW.trans (hX.mono hBW.size))) (below_cell hX b0) (below_cell hX b1) (below_cell hX b2) (below_cell hX b3)) (hasB_range l r)
  have HC := Lib.hid hcon
  have HW := Lib.hid hW
  have HB := Lib.hid hBW
  clear hcon hW hBW b0 b1 b2 b3 hU hV
  go_enter Tryz.func81, Tryz.ntmps81
  go_wp2_with fail
  rw [← HW.out]
  refine HC.out.mono ?_
  rintro e w1 ⟨rfl, hB⟩
  replace hB := ext_trans HB.out hB
  go_wp2
  go_ret
  exact ⟨rfl, hB⟩
end Go.Proofs.YtodjokdaofefdaaGreat
/- Guards, by the program: copies of lists, what is joined by ExprAnd. -/
namespace Go.Proofs.YtodjokdaofefdaaGreat
set_option linter.unusedSimpArgs false
set_option linter.unusedVariables false
open Go.RowKit

theorem wpList_append_emptyG {α : Type} {R : World → α → List Value → Prop} {P : Program} {w : World} {ops : Array Oper} {rest : List Oper} {o : Oper} {a : Act} {Q : Exit → Act → World → Prop} (hgd : o.guard = Option.none) (s x : Operand) (t e : TypeId) (z : Value) (sz bytes : Nat)
    (ho : o.op = .call { callee := .builtin .append, args := #[s, x], argTypes := #[t, t] }) (ht : P.underlying t = some (.slice e)) (hinfo : (P.info? e).map (fun i => (i.zero, i.size, i.bytes)) = some (some z, sz, bytes))
    (hzs : z.cells.size = sz) (hsz : 0 < sz) {B : Nat} (hs : FrB B e 0 #[] w (a.eval s)) {A : Option Addr} {l : List α} {c : Nat} (hx : a.eval x = .slice A l.length c) (hr : RdL R sz w A l) (hR : ∀ w', Below w.heap.size w w' → ∀ a cs, R w a cs → R w' a cs)
    (hbase : B ≤ w.heap.size) (hbytes : l.length * bytes ≤ 140737488355328) (h63 : l.length ≤ 9223372036854775807)
    (h : ∀ v' w', OwnG R B e sz w' v' l → Below w.heap.size w w' → wpList P ops Q rest (a.put o.dst v') w') : wpList P ops Q (o :: rest) a w :=
  wpList_plain hgd fun _ hK => op_append_emptyG s x t e z sz bytes ho ht hinfo hzs hsz hs hx hr hR hbase hbytes h63 fun v' w' h2 h3 => hK _ _ (h v' w' h2 h3)
theorem has_any {A : Option Addr} {r : Ex} {c : Nat} {w : World} :
    Calls Tryz.prog 82 #[.agg #[.int .i64 r.k, .int .i64 r.n, .string r.s, .slice A r.ps.length c]] w fun e w' => e = .returned (.agg #[.int .i64 9, .int .i64 r.n, .string r.s, .slice A r.ps.length c]) ∧ Below w.heap.size w w' := by
  go_enter Tryz.func82, Tryz.ntmps82
  go_wp2
  refine bodyPost_ret (results_cell_row rfl _ _ (w.heap.size + 1) _ _ _ _ rfl (heap_alloc2_new _ _ _) Tryz.underlying36 rfl (by kernel_rfl)) rfl ?_
  exact ⟨rfl, by (repeat (first | exact Below.refl _ _ | refine ext_alloc ?_ _ | refine Below.setCell ?_ (by simp) _))⟩
set_option maxRecDepth 100000 in
set_option maxHeartbeats 2000000 in
theorem clone_any {D N : Nat} {A : Option Addr} {l : ExL} {c : Nat} {w : World} (hU : exS D 0 N w A l) (hN : N ≤ w.heap.size) (hl : l.length ≤ 1048576) :
    Calls Tryz.prog 83 #[.slice A l.length c] w fun e w' => ∃ v, e = .returned v ∧ OwnE D N w.heap.size l w' v ∧ Below w.heap.size w w' := by
  have hrd := hU.1
  have HU := Lib.hid hU
  clear hU
  have q26 : ∀ (w : World) (a : Option Addr) (n c n' c' : Nat), (binOp .eql 34 (.slice a n c) (.slice none n' c')).run Tryz.prog w = .ok (.bool a.isNone) w := fun w a n c n' c' => Lib.run_eql_slice_nil w _ _ a n c n' c' Tryz.underlying34
  cases A with
  | none =>
    have h0 : l = [] := by
      rcases Nat.eq_zero_or_pos l.length with h | h
      · exact List.eq_nil_of_length_eq_zero h
      · obtain ⟨b, off, e, _⟩ := hrd.2 h
        cases e
    subst h0
    go_enter Tryz.func83, Tryz.ntmps83
    go_wp2
    go_ret
    exact ⟨_, rfl, ⟨⟨hN, hN⟩, OwnG.nil⟩, Below.refl _ _⟩
  | some a =>
    obtain ⟨W, hW⟩ : ∃ W, W = w.alloc (.cells #[] 36) := ⟨_, rfl⟩
    have hBW : Below w.heap.size w W := by rw [hW]; (repeat (first | exact Below.refl _ _ | refine ext_alloc ?_ _ | refine Below.setCell ?_ (by simp) _))
    have HF : Hid (FrB w.heap.size 36 0 #[] W (.slice (some ⟨w.heap.size, 0, Option.none⟩) 0 0)) := Lib.hid ⟨_, rfl, Nat.le_refl _, by rw [hW]; exact heap_alloc_new _ _⟩
    have HRD := Lib.hid (exS.below HU.out hN hBW).1
    have HNW := Lib.hid (Nat.le_trans hN hBW.size)
    have HW := Lib.hid hW
    have HB := Lib.hid hBW
    clear hW hBW
    go_enter Tryz.func83, Tryz.ntmps83
    go_wp2_with (at_builtin; rw [← HW.out]; go_must (refine wpList_append_emptyG (R := exR D 0 N) (l := l) (B := w.heap.size) rfl (.tmp 5) (.tmp 6) 34 36 _ 4 56 rfl Tryz.underlying34 Tryz.infoExpr rfl (by decide) HF.out rfl HRD.out (fun w' hb a cs h => exR.below h HNW.out hb) HB.out.size (by omega) (by omega) ?_); intro v1 w1 hO hb)
    replace hb := ext_trans HB.out hb
    have HO := Lib.hid hO
    clear hO
    go_wp2
    go_ret
    exact ⟨v1, rfl, ⟨⟨Nat.le_trans hN hb.size, hN⟩, HO.out⟩, hb⟩
def CjQ (d : Nat) : Prop := ∀ (A : Option Addr) (r : Ex) (c N : Nat) (w : World), exS d 0 N w A r.ps → N ≤ w.heap.size → r.s.size ≤ 9223372036854775807 → gdR (d + 1) r = true → 1 + cntR (d + 1) r ≤ 1048576 →
  Calls Tryz.prog 84 #[.agg #[.int .i64 r.k, .int .i64 r.n, .string r.s, .slice A r.ps.length c]] w fun e w' => ∃ v, e = .returned v ∧ OwnE (d + 1) N w.heap.size (cjI (d + 1) r) w' v ∧ Below w.heap.size w w'
theorem exS.two {d N : Nat} {w : World} {A : Option Addr} {l : ExL} (h : exS (d + 1) 0 N w A l) (hl : l.length = 2) : ∃ b off A0 A1 c0 c1, A = some ⟨b, off, none⟩ ∧ (exS d 0 N w A0 (exAt l 0).ps ∧ (exAt l 0).s.size ≤ 9223372036854775807 ∧
    w.cell? ⟨b, off, none⟩ = some (.int .i64 (exAt l 0).k) ∧ w.cell? ⟨b, off + 1, none⟩ = some (.int .i64 (exAt l 0).n) ∧ w.cell? ⟨b, off + 2, none⟩ = some (.string (exAt l 0).s) ∧ w.cell? ⟨b, off + 3, none⟩ = some (.slice A0 (exAt l 0).ps.length c0)) ∧
    (exS d 0 N w A1 (exAt l 1).ps ∧ (exAt l 1).s.size ≤ 9223372036854775807 ∧
    w.cell? ⟨b, off + 4, none⟩ = some (.int .i64 (exAt l 1).k) ∧ w.cell? ⟨b, off + 4 + 1, none⟩ = some (.int .i64 (exAt l 1).n) ∧ w.cell? ⟨b, off + 4 + 2, none⟩ = some (.string (exAt l 1).s) ∧ w.cell? ⟨b, off + 4 + 3, none⟩ = some (.slice A1 (exAt l 1).ps.length c1)) := by
  obtain ⟨b, off, rfl, _, hc⟩ := h.cells (by omega)
  obtain ⟨A0, c0, g0⟩ := hc 0 (by omega)
  obtain ⟨A1, c1, g1⟩ := hc 1 (by omega)
  rw [show off + 0 * 4 = off by omega] at g0
  rw [show off + 1 * 4 = off + 4 by omega] at g1
  exact ⟨b, off, A0, A1, c0, c1, rfl, g0, g1⟩
set_option maxRecDepth 100000 in
set_option maxHeartbeats 4000000 in
theorem cjQ_of {d : Nat} (hQ : ∀ m, d = m + 1 → CjQ m) : CjQ d := by
  intro A r c N w hU hN hs hg hn
  have hlen := exS.len hU
  have HG := Lib.hid hg
  have HQ := Lib.hid hQ
  have HN := Lib.hid hn
  clear hg hQ hn
  obtain ⟨W, hW⟩ : ∃ W, W = w.alloc (.cells #[.int .i64 r.k, .int .i64 r.n, .string r.s, .slice A r.ps.length c] 36) := ⟨_, rfl⟩
  obtain ⟨gx, hgx⟩ : ∃ g, g = w.heap.size := ⟨_, rfl⟩
  have hBW : Below w.heap.size w W := by rw [hW]; (repeat (first | exact Below.refl _ _ | refine ext_alloc ?_ _ | refine Below.setCell ?_ (by simp) _))
  have b0 : W.cell? ⟨gx, 0, none⟩ = some (.int .i64 r.k) := by rw [hW, hgx]; exact box_cell w _ _ 0 _ rfl
  have b1 : W.cell? ⟨gx, 1, none⟩ = some (.int .i64 r.n) := by rw [hW, hgx]; exact box_cell w _ _ 1 _ rfl
  have b2 : W.cell? ⟨gx, 2, none⟩ = some (.string r.s) := by rw [hW, hgx]; exact box_cell w _ _ 2 _ rfl
  have b3 : W.cell? ⟨gx, 3, none⟩ = some (.slice A r.ps.length c) := by rw [hW, hgx]; exact box_cell w _ _ 3 _ rfl
  have hUW := exS.below hU hN hBW
  have HNW := Lib.hid (Nat.le_trans hN hBW.size)
  have HW := Lib.hid hW
  have HGX := Lib.hid hgx
  have HBW := Lib.hid hBW
  clear hW hgx hBW hU
  by_cases h14 : r.k = 14
  · have e14 : (r.k != 14) = false := by simp [h14]
    have hl := head_14 (gd_head HG.out) h14
    have HW2 := Lib.hid (show W = w.alloc (.cells #[.int .i64 r.k, .int .i64 r.n, .string r.s, .slice A 2 c] 36) by rw [HW.out, hl])
    have hd : ∃ m, d = m + 1 := by
      cases d with
      | zero => have := exS.zero hUW; rw [this] at hl; simp at hl
      | succ m => exact ⟨m, rfl⟩
    obtain ⟨m, hm⟩ := hd
    subst hm
    have HQ1 := Lib.hid (HQ.out m rfl)
    have hcj : cjI (m + 1 + 1) r = cjI (m + 1) (exAt r.ps 0) ++ cjI (m + 1) (exAt r.ps 1) := by rw [cjI, if_pos h14]
    rw [hcj]
    have hg0 := gd_part HG.out (k := 0) (by omega)
    have hg1 := gd_part HG.out (k := 1) (by omega)
    have hct := cnt_two (d := m + 1) hl
    have hcl0 := cj_len (m + 1) (exAt r.ps 0) hg0
    have hcl1 := cj_len (m + 1) (exAt r.ps 1) hg1
    have hn := HN.out
    obtain ⟨K1, hK1⟩ : ∃ K1, K1 = cjI (m + 1) (exAt r.ps 0) := ⟨_, rfl⟩
    obtain ⟨K2, hK2⟩ : ∃ K2, K2 = cjI (m + 1) (exAt r.ps 1) := ⟨_, rfl⟩
    rw [← hK1] at hcl0 ⊢
    rw [← hK2] at hcl1 ⊢
    have HC1 := Lib.hid (show 1 + cntR (m + 1) (exAt r.ps 0) ≤ 1048576 by omega)
    have HC2 := Lib.hid (show 1 + cntR (m + 1) (exAt r.ps 1) ≤ 1048576 by omega)
    have HLEN := Lib.hid (show K1.length + K2.length ≤ 1048576 by omega)
    have HG0 := Lib.hid hg0
    have HG1 := Lib.hid hg1
    have HK1 := Lib.hid hK1
    have HK2 := Lib.hid hK2
    obtain ⟨b, off, A0, A1, c0, c1, rfl, ⟨u0, s0, p0, p1, p2, p3⟩, ⟨u1, s1, q0, q1, q2, q3⟩⟩ := exS.two hUW hl
    rw [hl] at b3
    rw [hl]
    have HL := Lib.hid hl
    have HB3 := Lib.hid b3
    clear hlen hl h14 hcj hct hg0 hg1 hK1 hK2 hn hcl0 hcl1
    go_enter Tryz.func84, Tryz.ntmps84
    go_wp2_with fail
    rw [← HW2.out, ← HGX.out]
    go_wp2_with fail
    refine wp_region_kinds2 (fun i wz vz => match i with | 0 => vz = .pointer (some ⟨gx, 3, Option.none⟩) | 1 => vz = .slice (some ⟨b, off, none⟩) 2 c | 2 => vz = .pointer (some ⟨b, off, Option.none⟩) | 3 => vz = .agg #[.int .i64 (exAt r.ps 0).k, .int .i64 (exAt r.ps 0).n, .string (exAt r.ps 0).s, .slice A0 (exAt r.ps 0).ps.length c0] | 4 => OwnE (m + 1 + 1) N W.heap.size K1 wz vz | 5 => vz = .pointer (some ⟨gx, 3, Option.none⟩) | 6 => vz = .slice (some ⟨b, off, none⟩) 2 c | 7 => vz = .pointer (some ⟨b, off + 4, Option.none⟩) | 8 => vz = .agg #[.int .i64 (exAt r.ps 1).k, .int .i64 (exAt r.ps 1).n, .string (exAt r.ps 1).s, .slice A1 (exAt r.ps 1).ps.length c1] | 9 => OwnE (m + 1 + 1) N W.heap.size K2 wz vz | 10 => OwnE (m + 1 + 1) N W.heap.size (K1 ++ K2) wz vz | 11 => OwnE (m + 1 + 1) N W.heap.size (K1 ++ K2) wz vz | _ => True) (fun _ wz => Below W.heap.size W wz) (fun i w w' => Below (if i = 10 then W.heap.size else w.heap.size) w w') (fun j => match j with | 4 => some 10 | 9 => some 10 | _ => Option.none) (by kernel_rfl) (by kernel_rfl) (by kernel_rfl) ?stab3 (ext_drew (Below.refl _ _)) ?all3 ?fin3
    case stab3 =>
      intro i j wa wb v hR hk hne hd _ h2 hT
      match j, hk, hne, hd, h2, hT with
      | 0, hk, hne, hd, h2, hT => exact hT
      | 1, hk, hne, hd, h2, hT => exact hT
      | 2, hk, hne, hd, h2, hT => exact hT
      | 3, hk, hne, hd, h2, hT => exact hT
      | 4, hk, hne, hd, h2, hT => exact OwnE.below hT (rel_un (fun e => hk (by subst e; rfl)) hR)
      | 5, hk, hne, hd, h2, hT => exact hT
      | 6, hk, hne, hd, h2, hT => exact hT
      | 7, hk, hne, hd, h2, hT => exact hT
      | 8, hk, hne, hd, h2, hT => exact hT
      | 9, hk, hne, hd, h2, hT => exact OwnE.below hT (rel_un (fun e => hk (by subst e; rfl)) hR)
      | 10, hk, hne, hd, h2, hT => exact OwnE.below hT (rel_un (fun e => hne e.symm) hR)
      | 11, hk, hne, hd, h2, hT => exact OwnE.below hT (rel_un (fun e => by subst e; exact Bool.noConfusion (hd.symm.trans (show depB _ 11 10 = true from by kernel_rfl))) hR)
      | n + 12, _, _, _, _, _ => trivial
    case all3 =>
      refine RAll.cons rfl ?_ (RAll.cons rfl ?_ (RAll.cons rfl ?_ (RAll.cons rfl ?_ (RAll.cons rfl ?_ (RAll.cons rfl ?_ (RAll.cons rfl ?_ (RAll.cons rfl ?_ (RAll.cons rfl ?_ (RAll.cons rfl ?_ (RAll.cons rfl ?_ (RAll.cons rfl ?_ (RAll.none_))))))))))))
      · intro a k wa K Q _ hI hp hK
        have e1 := tmp_of (show a.eval (.tmp 1) = .pointer (some ⟨gx, 0, none⟩) from hp.keep 1 (by kernel_rfl))
        go_simp
        exact hK _ _ rfl (Below.refl _ _) hI
      · intro a k wa K Q _ hI hp hK
        have e8 := tmp_of (show a.eval (.tmp 8) = .pointer (some ⟨gx, 3, Option.none⟩) from hp.dep 0 8 (by kernel_rfl))
        have b3_ := below_cell hI b3
        go_simp
        exact hK _ _ rfl (Below.refl _ _) hI
      · intro a k wa K Q _ hI hp hK
        have e9 := tmp_of (show a.eval (.tmp 9) = .slice (some ⟨b, off, none⟩) 2 c from hp.dep 1 9 (by kernel_rfl))
        go_simp
        exact hK _ _ (rfl) (Below.refl _ _) hI
      · intro a k wa K Q _ hI hp hK
        have e10 := tmp_of (show a.eval (.tmp 10) = .pointer (some ⟨b, off, Option.none⟩) from hp.dep 2 10 (by kernel_rfl))
        have p0_ := below_cell hI p0
        have p1_ := below_cell hI p1
        have p2_ := below_cell hI p2
        have p3_ := below_cell hI p3
        go_simp
        exact hK _ _ rfl (Below.refl _ _) hI
      · intro a k wa K Q _ hI hp hK
        have e11 := tmp_of (show a.eval (.tmp 11) = .agg #[.int .i64 (exAt r.ps 0).k, .int .i64 (exAt r.ps 0).n, .string (exAt r.ps 0).s, .slice A0 (exAt r.ps 0).ps.length c0] from hp.dep 3 11 (by kernel_rfl))
        go_simp
        refine (HQ1.out _ _ c0 N _ (exS.below u0 HNW.out hI) (Nat.le_trans HNW.out hI.size) s0 HG0.out HC1.out).mono ?_
        rw [← HK1.out]
        rintro e wb ⟨v5, rfl, h5, hb⟩
        exact hK _ _ ((h5.wide (Nat.le_refl _) h5.1.1 HNW.out hI.size).deeper (by omega)) (rel_ne (by decide) hb) (ext_trans hI hb)
      · intro a k wa K Q _ hI hp hK
        have e1 := tmp_of (show a.eval (.tmp 1) = .pointer (some ⟨gx, 0, none⟩) from hp.keep 1 (by kernel_rfl))
        go_simp
        exact hK _ _ rfl (Below.refl _ _) hI
      · intro a k wa K Q _ hI hp hK
        have e13 := tmp_of (show a.eval (.tmp 13) = .pointer (some ⟨gx, 3, Option.none⟩) from hp.dep 5 13 (by kernel_rfl))
        have b3_ := below_cell hI b3
        go_simp
        exact hK _ _ rfl (Below.refl _ _) hI
      · intro a k wa K Q _ hI hp hK
        have e14 := tmp_of (show a.eval (.tmp 14) = .slice (some ⟨b, off, none⟩) 2 c from hp.dep 6 14 (by kernel_rfl))
        go_simp
        exact hK _ _ (rfl) (Below.refl _ _) hI
      · intro a k wa K Q _ hI hp hK
        have e15 := tmp_of (show a.eval (.tmp 15) = .pointer (some ⟨b, off + 4, Option.none⟩) from hp.dep 7 15 (by kernel_rfl))
        have q0_ := below_cell hI q0
        have q1_ := below_cell hI q1
        have q2_ := below_cell hI q2
        have q3_ := below_cell hI q3
        go_simp
        exact hK _ _ rfl (Below.refl _ _) hI
      · intro a k wa K Q _ hI hp hK
        have e16 := tmp_of (show a.eval (.tmp 16) = .agg #[.int .i64 (exAt r.ps 1).k, .int .i64 (exAt r.ps 1).n, .string (exAt r.ps 1).s, .slice A1 (exAt r.ps 1).ps.length c1] from hp.dep 8 16 (by kernel_rfl))
        go_simp
        refine (HQ1.out _ _ c1 N _ (exS.below u1 HNW.out hI) (Nat.le_trans HNW.out hI.size) s1 HG1.out HC2.out).mono ?_
        rw [← HK2.out]
        rintro e wb ⟨v5, rfl, h5, hb⟩
        exact hK _ _ ((h5.wide (Nat.le_refl _) h5.1.1 HNW.out hI.size).deeper (by omega)) (rel_ne (by decide) hb) (ext_trans hI hb)
      · intro a k wa K Q _ hI hp hK
        have t12 : OwnE (m + 1 + 1) N W.heap.size K1 wa (a.eval (.tmp 12)) := hp.dep 4 12 (by kernel_rfl)
        have t17 : OwnE (m + 1 + 1) N W.heap.size K2 wa (a.eval (.tmp 17)) := hp.dep 9 17 (by kernel_rfl)
        have hM := t12.2
        obtain ⟨A9, c9, e17, hr9⟩ := t17.2.rd (by have := HLEN.out; omega)
        refine op_appendG (R := exR (m + 1 + 1) 0 N) (l := K1) (l2 := K2) (.tmp 12) (.tmp 17) 34 36 _ 4 56 rfl Tryz.underlying34 Tryz.infoExpr rfl (by decide) (fun a cs h => exR.one h) rfl hM e17 hr9 (fun w' hg a cs h => exR.row (Nat.le_trans HNW.out hI.size) hg (fun k hk => Nat.le_trans HNW.out (hM.ge k hk).1) h) (by have := HLEN.out; omega) (by have := HLEN.out; omega) hI.size ?_
        intro v' wb ho' hb' hgr _
        exact hK _ _ ⟨⟨Nat.le_trans HNW.out (Nat.le_trans hI.size hb'.size), HNW.out⟩, ho'⟩ (rel_eq rfl hb') (hI.trans hb')
      · intro a k wa K Q _ hI hp hK
        exact op_move _ (.inr rfl) (hK _ _ (hp.dep 10 18 (by kernel_rfl)) (Below.refl _ _) hI)
    case fin3 =>
      intro f w9 hT hI0
      have hI : Below W.heap.size W w9 := hI0
      have hr6 : OwnE (m + 1 + 1) N W.heap.size (K1 ++ K2) w9 (f 11) := hT 11 (by decide) rfl rfl
      clear hT hI0
      obtain ⟨v6, hv6⟩ : ∃ v, v = f 11 := ⟨_, rfl⟩
      rw [← hv6] at hr6
      simp only [putAll, ← hv6]
      clear hv6
      have HR6 := Lib.hid hr6
      clear hr6
      go_simp
      go_wp2
      go_ret
      rw [HGX.out]
      exact ⟨v6, rfl, HR6.out.wide (Nat.le_refl _) HR6.out.1.1 hN HBW.out.size, ext_trans HBW.out hI⟩
  · have e14 : (r.k != 14) = true := by simp [h14]
    have hcj : cjI (d + 1) r = [r] := by rw [cjI, if_neg h14]
    rw [hcj]
    clear h14 hcj
    obtain ⟨Y, hY⟩ : ∃ Y, Y = W.alloc (.cells #[.int .i64 r.k, .int .i64 r.n, .string r.s, .slice A r.ps.length c] 36) := ⟨_, rfl⟩
    have hBY : Below W.heap.size W Y := by rw [hY]; (repeat (first | exact Below.refl _ _ | refine ext_alloc ?_ _ | refine Below.setCell ?_ (by simp) _))
    have hsz : W.heap.size = gx + 1 := by rw [HW.out, HGX.out]; simp
    have HO : Hid (OwnE (d + 1) N w.heap.size [r] Y (.slice (some ⟨w.heap.size + 1, 0, Option.none⟩) 1 1)) := Lib.hid (by rw [← HGX.out, ← hsz, HGX.out]; exact OwnE.one (B := w.heap.size) (exS.below hUW HNW.out hBY) hs hN (Nat.le_trans HBW.out.size hBY.size) ⟨_, rfl, HBW.out.size, by rw [hY]; exact heap_alloc_new _ _⟩)
    clear hsz
    have HY := Lib.hid hY
    have HBY := Lib.hid (ext_trans HBW.out hBY)
    clear hY hBY
    go_enter Tryz.func84, Tryz.ntmps84
    go_wp2_with fail
    rw [← HW.out, ← HGX.out]
    go_wp2
    rw [← HY.out]
    go_ret
    rw [HGX.out]
    exact ⟨_, rfl, HO.out, HBY.out⟩
theorem cjQ_all : ∀ d, CjQ d
  | 0 => cjQ_of (fun m h => by cases h)
  | d + 1 => cjQ_of (fun m h => by cases h; exact cjQ_all d)
end Go.Proofs.YtodjokdaofefdaaGreat
/- Guards, by the program: whether an expression is guarded. -/
namespace Go.Proofs.YtodjokdaofefdaaGreat
set_option linter.unusedSimpArgs false
set_option linter.unusedVariables false
open Go.RowKit

def GiQ (d D : Nat) : Prop := ∀ (A Ak : Option Addr) (r : Ex) (kl : ExL) (c ck : Nat) (w : World), exW d w A r.ps → r.s.size ≤ 9223372036854775807 → exW D w Ak kl → d + 1 ≤ D → gdR (d + 1) r = true → kl.length + 1 + cntR (d + 1) r ≤ 1048576 →
  Calls Tryz.prog 68 #[.agg #[.int .i64 r.k, .int .i64 r.n, .string r.s, .slice A r.ps.length c], .slice Ak kl.length ck] w fun e w' => e = .returned (.bool (guI (d + 1) r kl)) ∧ Below w.heap.size w w'
theorem enters_gu1 : ∀ args w, (callFunc 86 args).run Tryz.prog w = .ok (.enter 86 args) w := enters_of Tryz.func86 (by kernel_rfl) rfl
set_option maxHeartbeats 2000000 in
theorem gu1_any {m D b : Nat} (hQ : GiQ m D) {A Ak : Option Addr} {r : Ex} {kl : ExL} {c ck : Nat} {w : World} {q : Bool} (hU : exW m w A r.ps) (hs : r.s.size ≤ 9223372036854775807) (hK : exW D w Ak kl) (hD : m + 1 ≤ D) (hg : gdR (m + 1) r = true) (hn : kl.length + 1 + cntR (m + 1) r ≤ 1048576)
    (b0 : w.cell? ⟨b, 0, none⟩ = some (.slice Ak kl.length ck)) (hq : (!guI (m + 1) r kl) = q) :
    Calls Tryz.prog 86 #[.agg #[.int .i64 r.k, .int .i64 r.n, .string r.s, .slice A r.ps.length c], .pointer (some ⟨b, 0, none⟩)] w fun e w' => e = .returned (.bool q) ∧ Below w.heap.size w w' := by
  have hbw := block_lt_of_cell b0
  have HQ := Lib.hid hQ
  have HG := Lib.hid hg
  have HN := Lib.hid hn
  obtain ⟨y, hy⟩ : ∃ y, guI (m + 1) r kl = y := ⟨_, rfl⟩
  rw [hy] at hq
  have HY := Lib.hid hy
  clear hQ hg hn hy
  subst hq
  go_enter Tryz.func86, Tryz.ntmps86
  go_wp2_with fail
  refine (HQ.out _ _ _ kl c ck _ (hU.below (by (repeat (first | exact Below.refl _ _ | refine ext_alloc ?_ _ | refine Below.setCell ?_ (by simp) _)))) hs (hK.below (by (repeat (first | exact Below.refl _ _ | refine ext_alloc ?_ _ | refine Below.setCell ?_ (by simp) _)))) hD HG.out HN.out).mono ?_
  rintro e w1 ⟨rfl, hB⟩
  rw [HY.out]
  replace hB := ext_trans (show Below w.heap.size w _ by (repeat (first | exact Below.refl _ _ | refine ext_alloc ?_ _ | refine Below.setCell ?_ (by simp) _))) hB
  go_wp2
  go_ret
  exact ⟨rfl, hB⟩
theorem all_range (l : ExL) (p : Ex → Bool) : (!(List.range l.length).any (fun k => !p (exAt l k))) = l.all p := by
  rw [Bool.eq_iff_iff, all_at, Bool.not_eq_true', List.any_eq_false]
  constructor
  · intro h k hk
    have := h k (List.mem_range.2 hk)
    simpa using this
  · intro h k hk
    simp [h k (List.mem_range.1 hk)]
/-- What the program asks of the parts. -/
theorem guParts {d D : Nat} (hQ : ∀ m, d = m + 1 → GiQ m D) {A Ak : Option Addr} {r : Ex} {kl : ExL} {c ck b : Nat} {w : World} {q : Bool} (hU : exW d w A r.ps) (hK : exW D w Ak kl) (hD : d + 1 ≤ D) (hg : gdR (d + 1) r = true) (hn : kl.length + 1 + cntR (d + 1) r ≤ 1048576)
    (b0 : w.cell? ⟨b, 0, none⟩ = some (.slice Ak kl.length ck)) (hq : r.ps.all (fun p => guI d p kl) = q) :
    Calls Tryz.prog 85 #[.slice A r.ps.length c, .func (.func 86) #[] #[.pointer (some ⟨b, 0, none⟩)]] w fun e w' => e = .returned (.bool (!q)) ∧ Below w.heap.size w w' := by
  have hq2 : (List.range r.ps.length).any (fun k => !guI d (exAt r.ps k) kl) = !q := by rw [← hq, ← all_range]; simp
  cases d with
  | zero =>
    have h0 := exS.zero hU
    refine containsFunc_any (d := 0) (p := fun k => !guI 0 (exAt r.ps k) kl) enters_gu1 (exS.deeper hU (by omega)) ?_ hq2
    intro k hk
    rw [h0] at hk; simp at hk
  | succ m =>
    refine containsFunc_any (d := m) (p := fun k => !guI (m + 1) (exAt r.ps k) kl) enters_gu1 hU ?_ hq2
    intro k hk X A1 c1 hX h1 hs1
    have hcp := cnt_part (d := m + 1) (t := r) hk
    exact gu1_any (hQ m rfl) h1 hs1 (hK.below hX) (by omega) (gd_part hg hk) (by omega) (below_cell hX b0) rfl
theorem guI_rest {d : Nat} {r : Ex} {kl : ExL} (h7 : ¬ r.k = 7) (h8 : ¬ (r.k = 8 ∧ hasB kl (asHas r) = false)) (h14 : ¬ r.k = 14) : guI (d + 1) r kl = r.ps.all (fun p => guI d p kl) := by
  rw [guI, if_neg h7, if_neg h8, if_neg h14]
set_option maxRecDepth 100000 in
set_option maxHeartbeats 8000000 in
theorem giQ_of {d D : Nat} (hQ : ∀ m, d = m + 1 → GiQ m D) : GiQ d D := by
  intro A Ak r kl c ck w hU hs hK0 hD hg hn
  have hlen := exS.len hU
  have hlenk := exS.len hK0
  have HG := Lib.hid hg
  have HQ := Lib.hid hQ
  have HN := Lib.hid hn
  clear hg hQ hn
  obtain ⟨W, hW⟩ : ∃ W, W = (w.alloc (.cells #[.int .i64 r.k, .int .i64 r.n, .string r.s, .slice A r.ps.length c] 36)).alloc (.cells #[.slice Ak kl.length ck] 34) := ⟨_, rfl⟩
  have hBW : Below w.heap.size w W := by rw [hW]; (repeat (first | exact Below.refl _ _ | refine ext_alloc ?_ _ | refine Below.setCell ?_ (by simp) _))
  have b0 : W.cell? ⟨w.heap.size, 0, none⟩ = some (.int .i64 r.k) := by rw [hW]; exact below_cell (below_alloc _ _) (box_cell w _ _ 0 _ rfl)
  have b1 : W.cell? ⟨w.heap.size, 1, none⟩ = some (.int .i64 r.n) := by rw [hW]; exact below_cell (below_alloc _ _) (box_cell w _ _ 1 _ rfl)
  have b2 : W.cell? ⟨w.heap.size, 2, none⟩ = some (.string r.s) := by rw [hW]; exact below_cell (below_alloc _ _) (box_cell w _ _ 2 _ rfl)
  have b3 : W.cell? ⟨w.heap.size, 3, none⟩ = some (.slice A r.ps.length c) := by rw [hW]; exact below_cell (below_alloc _ _) (box_cell w _ _ 3 _ rfl)
  have b4 : W.cell? ⟨w.heap.size + 1, 0, none⟩ = some (.slice Ak kl.length ck) := by rw [hW]; exact box_cell_at (by simp) rfl
  have hUW := hU.below hBW
  have hKW := hK0.below hBW
  have HW := Lib.hid hW
  have HBW := Lib.hid hBW
  clear hW hBW hU hK0
  by_cases h7 : r.k = 7
  · have e7 : (r.k == 7) = true := by simp [h7]
    have HR : Hid (guI (d + 1) r kl = false) := Lib.hid (by rw [guI, if_pos h7])
    clear h7 b1 b2 b3 b4
    go_enter Tryz.func68, Tryz.ntmps68
    go_wp2
    rw [← HW.out]
    go_ret
    exact ⟨by rw [HR.out]; rfl, HBW.out⟩
  have e7 : (r.k == 7) = false := by simp [h7]
  have HB0 := Lib.hid b0
  have HB3 := Lib.hid b3
  have HB4 := Lib.hid b4
  have a0 := cell_regrown b0
  have a1 := cell_regrown b1
  have a2 := cell_regrown b2
  have a3 := cell_regrown b3
  have a4 := cell_regrown b4
  by_cases h14 : r.k = 14
  · have e8 : (r.k == 8) = false := by simp [h14]
    have e14 : (r.k == 14) = true := by simp [h14]
    have hl := head_14 (gd_head HG.out) h14
    have HW2 := Lib.hid (show W = (w.alloc (.cells #[.int .i64 r.k, .int .i64 r.n, .string r.s, .slice A 2 c] 36)).alloc (.cells #[.slice Ak kl.length ck] 34) by rw [HW.out, hl])
    have hd : ∃ m, d = m + 1 := by
      cases d with
      | zero => have := exS.zero hUW; rw [this] at hl; simp at hl
      | succ m => exact ⟨m, rfl⟩
    obtain ⟨m, hm⟩ := hd
    subst hm
    have HQ1 := Lib.hid (HQ.out m rfl)
    have HR : Hid (guI (m + 1 + 1) r kl = (guI (m + 1) (exAt r.ps 0) kl && guI (m + 1) (exAt r.ps 1) (kl ++ cjI (m + 1) (exAt r.ps 0)))) := Lib.hid (by rw [guI, if_neg h7, if_neg (fun h => by have := h.1; omega), if_pos h14])
    have hg0 := gd_part HG.out (k := 0) (by omega)
    have hg1 := gd_part HG.out (k := 1) (by omega)
    have hct := cnt_two (d := m + 1) hl
    have hcl := cj_len (m + 1) (exAt r.ps 0) hg0
    have hn := HN.out
    obtain ⟨K1, hK1⟩ : ∃ K1, K1 = cjI (m + 1) (exAt r.ps 0) := ⟨_, rfl⟩
    rw [← hK1] at hcl
    have HC0 := Lib.hid (show 1 + cntR (m + 1) (exAt r.ps 0) ≤ 1048576 by omega)
    have HC1 := Lib.hid (show kl.length + 1 + cntR (m + 1) (exAt r.ps 0) ≤ 1048576 by omega)
    have HC2 := Lib.hid (show (kl ++ K1).length + 1 + cntR (m + 1) (exAt r.ps 1) ≤ 1048576 by rw [List.length_append]; omega)
    have HG0 := Lib.hid hg0
    have HG1 := Lib.hid hg1
    have HK1 := Lib.hid hK1
    obtain ⟨b, off, A0, A1, c0, c1, rfl, ⟨u0, s0, p0, p1, p2, p3⟩, ⟨u1, s1, q0, q1, q2, q3⟩⟩ := exW.two hUW hl
    have HLEN := Lib.hid (show kl.length + K1.length ≤ 1048576 by omega)
    rw [hl] at a3
    rw [hl] at b3
    rw [hl]
    have HB3' := Lib.hid b3
    have HL := Lib.hid hl
    obtain ⟨x, hx⟩ : ∃ x, guI (m + 1) (exAt r.ps 0) kl = x := ⟨_, rfl⟩
    obtain ⟨y, hy⟩ : ∃ y, guI (m + 1) (exAt r.ps 1) (kl ++ K1) = y := ⟨_, rfl⟩
    have HX := Lib.hid hx
    have HY := Lib.hid hy
    have HP : Hid (W.cell? ⟨b, off, none⟩ = some (.int .i64 (exAt r.ps 0).k) ∧ W.cell? ⟨b, off + 1, none⟩ = some (.int .i64 (exAt r.ps 0).n) ∧ W.cell? ⟨b, off + 2, none⟩ = some (.string (exAt r.ps 0).s) ∧ W.cell? ⟨b, off + 3, none⟩ = some (.slice A0 (exAt r.ps 0).ps.length c0)) := Lib.hid ⟨p0, p1, p2, p3⟩
    have HP2 : Hid (W.cell? ⟨b, off + 4, none⟩ = some (.int .i64 (exAt r.ps 1).k) ∧ W.cell? ⟨b, off + 4 + 1, none⟩ = some (.int .i64 (exAt r.ps 1).n) ∧ W.cell? ⟨b, off + 4 + 2, none⟩ = some (.string (exAt r.ps 1).s) ∧ W.cell? ⟨b, off + 4 + 3, none⟩ = some (.slice A1 (exAt r.ps 1).ps.length c1)) := Lib.hid ⟨q0, q1, q2, q3⟩
    clear hlen hl h7 h14 hn hct hcl hg0 hg1 hK1 hx hy p0 p1 p2 p3 q0 q1 q2 q3 b1 b2
    cases x
    · go_enter Tryz.func68, Tryz.ntmps68
      go_wp2_with fail
      rw [← HW2.out]
      clear b0 b3 b4
      refine wp_region_quiet_below (by kernel_rfl) (by kernel_rfl) ?_
      repeat (go_big_quiet_step (fail))
      refine wpQuiet_nil ?_
      intro w2 hw'regrown
      obtain ⟨V, hV⟩ : ∃ V, V = w2 := ⟨_, rfl⟩
      subst hV
      have hB := below_of_regrown hw'regrown (Nat.le_refl _)
      clear hw'regrown a0 a1 a2 a3 a4
      have b0 := below_cell hB HB0.out
      have b3 := below_cell hB HB3'.out
      have b4 := below_cell hB HB4.out
      have p0 := below_cell hB HP.out.1
      have p1 := below_cell hB HP.out.2.1
      have p2 := below_cell hB HP.out.2.2.1
      have p3 := below_cell hB HP.out.2.2.2
      have u0' := u0.below hB
      have hK' := hKW.below hB
      go_wp2_with fail
      refine wp_region_kinds2 (fun i wz vz => match i with | 0 => vz = .pointer (some ⟨w.heap.size, 3, Option.none⟩) | 1 => vz = .slice (some ⟨b, off, none⟩) 2 c | 2 => vz = .pointer (some ⟨b, off, Option.none⟩) | 3 => vz = .agg #[.int .i64 (exAt r.ps 0).k, .int .i64 (exAt r.ps 0).n, .string (exAt r.ps 0).s, .slice A0 (exAt r.ps 0).ps.length c0] | 4 => vz = .slice Ak kl.length ck | 5 => vz = .bool false | 6 => vz = .bool false | 20 => vz = .bool false | 21 => vz = .bool false | _ => True) (fun _ wz => Below V.heap.size V wz) (fun i w w' => Below w.heap.size w w') (fun _ => Option.none) (by kernel_rfl) (by kernel_rfl) (by kernel_rfl) ?stab5 (ext_drew (Below.refl _ _)) ?all5 ?fin5
      case stab5 =>
        intro i j wa wb v hR hk hne hd _ h2 hT
        match j, hk, hne, hd, h2, hT with
        | 0, hk, hne, hd, h2, hT => exact hT
        | 1, hk, hne, hd, h2, hT => exact hT
        | 2, hk, hne, hd, h2, hT => exact hT
        | 3, hk, hne, hd, h2, hT => exact hT
        | 4, hk, hne, hd, h2, hT => exact hT
        | 5, hk, hne, hd, h2, hT => exact hT
        | 6, hk, hne, hd, h2, hT => exact hT
        | 20, hk, hne, hd, h2, hT => exact hT
        | 21, hk, hne, hd, h2, hT => exact hT
        | 7, _, _, _, _, _ => trivial
        | 8, _, _, _, _, _ => trivial
        | 9, _, _, _, _, _ => trivial
        | 10, _, _, _, _, _ => trivial
        | 11, _, _, _, _, _ => trivial
        | 12, _, _, _, _, _ => trivial
        | 13, _, _, _, _, _ => trivial
        | 14, _, _, _, _, _ => trivial
        | 15, _, _, _, _, _ => trivial
        | 16, _, _, _, _, _ => trivial
        | 17, _, _, _, _, _ => trivial
        | 18, _, _, _, _, _ => trivial
        | 19, _, _, _, _, _ => trivial
        | n + 22, _, _, _, _, _ => trivial
      case all5 =>
        refine RAll.cons rfl ?_ (RAll.cons rfl ?_ (RAll.cons rfl ?_ (RAll.cons rfl ?_ (RAll.cons rfl ?_ (RAll.cons rfl ?_ (RAll.cons rfl ?_ (RAll.skipped 6 29 true rfl (by kernel_rfl) (fun _ _ h => h) ?_ (RAll.skipped 6 29 true rfl (by kernel_rfl) (fun _ _ h => h) ?_ (RAll.skipped 6 29 true rfl (by kernel_rfl) (fun _ _ h => h) ?_ (RAll.skipped 6 29 true rfl (by kernel_rfl) (fun _ _ h => h) ?_ (RAll.skipped 6 29 true rfl (by kernel_rfl) (fun _ _ h => h) ?_ (RAll.skipped 6 29 true rfl (by kernel_rfl) (fun _ _ h => h) ?_ (RAll.skipped 6 29 true rfl (by kernel_rfl) (fun _ _ h => h) ?_ (RAll.skipped 6 29 true rfl (by kernel_rfl) (fun _ _ h => h) ?_ (RAll.skipped 6 29 true rfl (by kernel_rfl) (fun _ _ h => h) ?_ (RAll.skipped 6 29 true rfl (by kernel_rfl) (fun _ _ h => h) ?_ (RAll.skipped 6 29 true rfl (by kernel_rfl) (fun _ _ h => h) ?_ (RAll.skipped 6 29 true rfl (by kernel_rfl) (fun _ _ h => h) ?_ (RAll.skipped 6 29 true rfl (by kernel_rfl) (fun _ _ h => h) ?_ (RAll.cons rfl ?_ (RAll.cons rfl ?_ (RAll.none_))))))))))))))))))))))
        · intro a k wa K Q _ hI hp hK
          have e2 := tmp_of (show a.eval (.tmp 2) = .pointer (some ⟨w.heap.size, 0, none⟩) from hp.keep 2 (by kernel_rfl))
          go_simp
          exact hK _ _ rfl (Below.refl _ _) hI
        · intro a k wa K Q _ hI hp hK
          have e23 := tmp_of (show a.eval (.tmp 23) = .pointer (some ⟨w.heap.size, 3, Option.none⟩) from hp.dep 0 23 (by kernel_rfl))
          have b3_ := below_cell hI b3
          go_simp
          exact hK _ _ rfl (Below.refl _ _) hI
        · intro a k wa K Q _ hI hp hK
          have e24 := tmp_of (show a.eval (.tmp 24) = .slice (some ⟨b, off, none⟩) 2 c from hp.dep 1 24 (by kernel_rfl))
          go_simp
          exact hK _ _ (rfl) (Below.refl _ _) hI
        · intro a k wa K Q _ hI hp hK
          have e25 := tmp_of (show a.eval (.tmp 25) = .pointer (some ⟨b, off, Option.none⟩) from hp.dep 2 25 (by kernel_rfl))
          have p0_ := below_cell hI p0
          have p1_ := below_cell hI p1
          have p2_ := below_cell hI p2
          have p3_ := below_cell hI p3
          go_simp
          exact hK _ _ rfl (Below.refl _ _) hI
        · intro a k wa K Q _ hI hp hK
          have e3 := tmp_of (show a.eval (.tmp 3) = .pointer (some ⟨w.heap.size + 1, 0, none⟩) from hp.keep 3 (by kernel_rfl))
          have b4_ := below_cell hI b4
          go_simp
          exact hK _ _ rfl (Below.refl _ _) hI
        · intro a k wa K Q _ hI hp hK
          have e26 := tmp_of (show a.eval (.tmp 26) = .agg #[.int .i64 (exAt r.ps 0).k, .int .i64 (exAt r.ps 0).n, .string (exAt r.ps 0).s, .slice A0 (exAt r.ps 0).ps.length c0] from hp.dep 3 26 (by kernel_rfl))
          have e27 := tmp_of (show a.eval (.tmp 27) = .slice Ak kl.length ck from hp.dep 4 27 (by kernel_rfl))
          go_simp
          refine (HQ1.out _ _ _ kl c0 ck _ (u0'.below hI) s0 (hK'.below hI) (by omega) HG0.out HC1.out).mono ?_
          rw [HX.out]
          rintro e wb ⟨rfl, hb⟩
          exact hK _ _ rfl hb (ext_trans hI hb)
        · intro a k wa K Q _ hI hp hK
          exact op_move _ (.inl rfl) (hK _ _ (hp.dep 5 28 (by kernel_rfl)) (Below.refl _ _) hI)
        · exact fun k wa hI => ⟨trivial, Below.refl _ _, hI⟩
        · exact fun k wa hI => ⟨trivial, Below.refl _ _, hI⟩
        · exact fun k wa hI => ⟨trivial, Below.refl _ _, hI⟩
        · exact fun k wa hI => ⟨trivial, Below.refl _ _, hI⟩
        · exact fun k wa hI => ⟨trivial, Below.refl _ _, hI⟩
        · exact fun k wa hI => ⟨trivial, Below.refl _ _, hI⟩
        · exact fun k wa hI => ⟨trivial, Below.refl _ _, hI⟩
        · exact fun k wa hI => ⟨trivial, Below.refl _ _, hI⟩
        · exact fun k wa hI => ⟨trivial, Below.refl _ _, hI⟩
        · exact fun k wa hI => ⟨trivial, Below.refl _ _, hI⟩
        · exact fun k wa hI => ⟨trivial, Below.refl _ _, hI⟩
        · exact fun k wa hI => ⟨trivial, Below.refl _ _, hI⟩
        · exact fun k wa hI => ⟨trivial, Below.refl _ _, hI⟩
        · intro a k wa K Q _ hI hp hK
          exact op_pick_f _ _ _ rfl (hp.dep 6 29 (by kernel_rfl)) (hK _ _ (rfl) (Below.refl _ _) hI)
        · intro a k wa K Q _ hI hp hK
          exact op_move _ (.inr rfl) (hK _ _ (hp.dep 20 43 (by kernel_rfl)) (Below.refl _ _) hI)
      case fin5 =>
        intro f w9 hT hI0
        have hI : Below V.heap.size V w9 := hI0
        have hr6 : (f 21) = .bool false := hT 21 (by decide) rfl rfl
        clear hT hI0
        simp only [putAll, hr6]
        go_simp
        go_wp2
        go_ret
        exact ⟨by rw [HR.out, HX.out]; rfl, ext_trans HBW.out (ext_trans hB hI)⟩
    · go_enter Tryz.func68, Tryz.ntmps68
      go_wp2_with fail
      rw [← HW2.out]
      clear b0 b3 b4
      refine wp_region_quiet_below (by kernel_rfl) (by kernel_rfl) ?_
      repeat (go_big_quiet_step (fail))
      refine wpQuiet_nil ?_
      intro w2 hw'regrown
      obtain ⟨V, hV⟩ : ∃ V, V = w2 := ⟨_, rfl⟩
      subst hV
      have hB := below_of_regrown hw'regrown (Nat.le_refl _)
      clear hw'regrown a0 a1 a2 a3 a4
      have b0 := below_cell hB HB0.out
      have b3 := below_cell hB HB3'.out
      have b4 := below_cell hB HB4.out
      have p0 := below_cell hB HP.out.1
      have p1 := below_cell hB HP.out.2.1
      have p2 := below_cell hB HP.out.2.2.1
      have p3 := below_cell hB HP.out.2.2.2
      have q0 := below_cell hB HP2.out.1
      have q1 := below_cell hB HP2.out.2.1
      have q2 := below_cell hB HP2.out.2.2.1
      have q3 := below_cell hB HP2.out.2.2.2
      have u0' := u0.below hB
      have u1' := u1.below hB
      have hK' := hKW.below hB
      go_wp2_with fail
      refine wp_region_kinds2 (fun i wz vz => match i with | 0 => vz = .pointer (some ⟨w.heap.size, 3, Option.none⟩) | 1 => vz = .slice (some ⟨b, off, none⟩) 2 c | 2 => vz = .pointer (some ⟨b, off, Option.none⟩) | 3 => vz = .agg #[.int .i64 (exAt r.ps 0).k, .int .i64 (exAt r.ps 0).n, .string (exAt r.ps 0).s, .slice A0 (exAt r.ps 0).ps.length c0] | 4 => vz = .slice Ak kl.length ck | 5 => vz = .bool true | 6 => vz = .bool true | 7 => vz = .pointer (some ⟨w.heap.size, 3, Option.none⟩) | 8 => vz = .slice (some ⟨b, off, none⟩) 2 c | 9 => vz = .pointer (some ⟨b, off + 4, Option.none⟩) | 10 => vz = .agg #[.int .i64 (exAt r.ps 1).k, .int .i64 (exAt r.ps 1).n, .string (exAt r.ps 1).s, .slice A1 (exAt r.ps 1).ps.length c1] | 11 => vz = .slice Ak kl.length ck | 12 => OwnE D V.heap.size V.heap.size kl wz vz | 13 => vz = .pointer (some ⟨w.heap.size, 3, Option.none⟩) | 14 => vz = .slice (some ⟨b, off, none⟩) 2 c | 15 => vz = .pointer (some ⟨b, off, Option.none⟩) | 16 => vz = .agg #[.int .i64 (exAt r.ps 0).k, .int .i64 (exAt r.ps 0).n, .string (exAt r.ps 0).s, .slice A0 (exAt r.ps 0).ps.length c0] | 17 => OwnE D V.heap.size V.heap.size K1 wz vz | 18 => OwnE D V.heap.size V.heap.size (kl ++ K1) wz vz | 19 => vz = .bool y | 20 => vz = .bool y | 21 => vz = .bool y | _ => True) (fun _ wz => Below V.heap.size V wz) (fun i w w' => Below (if i = 18 then V.heap.size else w.heap.size) w w') (fun j => match j with | 12 => some 18 | 17 => some 18 | _ => Option.none) (by kernel_rfl) (by kernel_rfl) (by kernel_rfl) ?stab5 (ext_drew (Below.refl _ _)) ?all5 ?fin5
      case stab5 =>
        intro i j wa wb v hR hk hne hd _ h2 hT
        match j, hk, hne, hd, h2, hT with
        | 0, hk, hne, hd, h2, hT => exact hT
        | 1, hk, hne, hd, h2, hT => exact hT
        | 2, hk, hne, hd, h2, hT => exact hT
        | 3, hk, hne, hd, h2, hT => exact hT
        | 4, hk, hne, hd, h2, hT => exact hT
        | 5, hk, hne, hd, h2, hT => exact hT
        | 6, hk, hne, hd, h2, hT => exact hT
        | 7, hk, hne, hd, h2, hT => exact hT
        | 8, hk, hne, hd, h2, hT => exact hT
        | 9, hk, hne, hd, h2, hT => exact hT
        | 10, hk, hne, hd, h2, hT => exact hT
        | 11, hk, hne, hd, h2, hT => exact hT
        | 12, hk, hne, hd, h2, hT => exact OwnE.below hT (rel_un (fun e => hk (by subst e; rfl)) hR)
        | 13, hk, hne, hd, h2, hT => exact hT
        | 14, hk, hne, hd, h2, hT => exact hT
        | 15, hk, hne, hd, h2, hT => exact hT
        | 16, hk, hne, hd, h2, hT => exact hT
        | 17, hk, hne, hd, h2, hT => exact OwnE.below hT (rel_un (fun e => hk (by subst e; rfl)) hR)
        | 18, hk, hne, hd, h2, hT => exact OwnE.below hT (rel_un (fun e => hne e.symm) hR)
        | 19, hk, hne, hd, h2, hT => exact hT
        | 20, hk, hne, hd, h2, hT => exact hT
        | 21, hk, hne, hd, h2, hT => exact hT
        | n + 22, _, _, _, _, _ => trivial
      case all5 =>
        refine RAll.cons rfl ?_ (RAll.cons rfl ?_ (RAll.cons rfl ?_ (RAll.cons rfl ?_ (RAll.cons rfl ?_ (RAll.cons rfl ?_ (RAll.cons rfl ?_ (RAll.guarded 6 29 true rfl (by kernel_rfl) (fun _ _ h => h) ?_ (RAll.guarded 6 29 true rfl (by kernel_rfl) (fun _ _ h => h) ?_ (RAll.guarded 6 29 true rfl (by kernel_rfl) (fun _ _ h => h) ?_ (RAll.guarded 6 29 true rfl (by kernel_rfl) (fun _ _ h => h) ?_ (RAll.guarded 6 29 true rfl (by kernel_rfl) (fun _ _ h => h) ?_ (RAll.guarded 6 29 true rfl (by kernel_rfl) (fun _ _ h => h) ?_ (RAll.guarded 6 29 true rfl (by kernel_rfl) (fun _ _ h => h) ?_ (RAll.guarded 6 29 true rfl (by kernel_rfl) (fun _ _ h => h) ?_ (RAll.guarded 6 29 true rfl (by kernel_rfl) (fun _ _ h => h) ?_ (RAll.guarded 6 29 true rfl (by kernel_rfl) (fun _ _ h => h) ?_ (RAll.guarded 6 29 true rfl (by kernel_rfl) (fun _ _ h => h) ?_ (RAll.guarded 6 29 true rfl (by kernel_rfl) (fun _ _ h => h) ?_ (RAll.guarded 6 29 true rfl (by kernel_rfl) (fun _ _ h => h) ?_ (RAll.cons rfl ?_ (RAll.cons rfl ?_ (RAll.none_))))))))))))))))))))))
        · intro a k wa K Q _ hI hp hK
          have e2 := tmp_of (show a.eval (.tmp 2) = .pointer (some ⟨w.heap.size, 0, none⟩) from hp.keep 2 (by kernel_rfl))
          go_simp
          exact hK _ _ rfl (Below.refl _ _) hI
        · intro a k wa K Q _ hI hp hK
          have e23 := tmp_of (show a.eval (.tmp 23) = .pointer (some ⟨w.heap.size, 3, Option.none⟩) from hp.dep 0 23 (by kernel_rfl))
          have b3_ := below_cell hI b3
          go_simp
          exact hK _ _ rfl (Below.refl _ _) hI
        · intro a k wa K Q _ hI hp hK
          have e24 := tmp_of (show a.eval (.tmp 24) = .slice (some ⟨b, off, none⟩) 2 c from hp.dep 1 24 (by kernel_rfl))
          go_simp
          exact hK _ _ (rfl) (Below.refl _ _) hI
        · intro a k wa K Q _ hI hp hK
          have e25 := tmp_of (show a.eval (.tmp 25) = .pointer (some ⟨b, off, Option.none⟩) from hp.dep 2 25 (by kernel_rfl))
          have p0_ := below_cell hI p0
          have p1_ := below_cell hI p1
          have p2_ := below_cell hI p2
          have p3_ := below_cell hI p3
          go_simp
          exact hK _ _ rfl (Below.refl _ _) hI
        · intro a k wa K Q _ hI hp hK
          have e3 := tmp_of (show a.eval (.tmp 3) = .pointer (some ⟨w.heap.size + 1, 0, none⟩) from hp.keep 3 (by kernel_rfl))
          have b4_ := below_cell hI b4
          go_simp
          exact hK _ _ rfl (Below.refl _ _) hI
        · intro a k wa K Q _ hI hp hK
          have e26 := tmp_of (show a.eval (.tmp 26) = .agg #[.int .i64 (exAt r.ps 0).k, .int .i64 (exAt r.ps 0).n, .string (exAt r.ps 0).s, .slice A0 (exAt r.ps 0).ps.length c0] from hp.dep 3 26 (by kernel_rfl))
          have e27 := tmp_of (show a.eval (.tmp 27) = .slice Ak kl.length ck from hp.dep 4 27 (by kernel_rfl))
          go_simp
          refine (HQ1.out _ _ _ kl c0 ck _ (u0'.below hI) s0 (hK'.below hI) (by omega) HG0.out HC1.out).mono ?_
          rw [HX.out]
          rintro e wb ⟨rfl, hb⟩
          exact hK _ _ rfl (rel_ne (by decide) hb) (ext_trans hI hb)
        · intro a k wa K Q _ hI hp hK
          exact op_move _ (.inl rfl) (hK _ _ (hp.dep 5 28 (by kernel_rfl)) (Below.refl _ _) hI)
        · intro a k wa K Q _ hI hp hK
          have e2 := tmp_of (show a.eval (.tmp 2) = .pointer (some ⟨w.heap.size, 0, none⟩) from hp.keep 2 (by kernel_rfl))
          go_simp
          exact hK _ _ rfl (Below.refl _ _) hI
        · intro a k wa K Q _ hI hp hK
          have e30 := tmp_of (show a.eval (.tmp 30) = .pointer (some ⟨w.heap.size, 3, Option.none⟩) from hp.dep 7 30 (by kernel_rfl))
          have b3_ := below_cell hI b3
          go_simp
          exact hK _ _ rfl (Below.refl _ _) hI
        · intro a k wa K Q _ hI hp hK
          have e31 := tmp_of (show a.eval (.tmp 31) = .slice (some ⟨b, off, none⟩) 2 c from hp.dep 8 31 (by kernel_rfl))
          go_simp
          exact hK _ _ (rfl) (Below.refl _ _) hI
        · intro a k wa K Q _ hI hp hK
          have e32 := tmp_of (show a.eval (.tmp 32) = .pointer (some ⟨b, off + 4, Option.none⟩) from hp.dep 9 32 (by kernel_rfl))
          have q0_ := below_cell hI q0
          have q1_ := below_cell hI q1
          have q2_ := below_cell hI q2
          have q3_ := below_cell hI q3
          go_simp
          exact hK _ _ rfl (Below.refl _ _) hI
        · intro a k wa K Q _ hI hp hK
          have e3 := tmp_of (show a.eval (.tmp 3) = .pointer (some ⟨w.heap.size + 1, 0, none⟩) from hp.keep 3 (by kernel_rfl))
          have b4_ := below_cell hI b4
          go_simp
          exact hK _ _ rfl (Below.refl _ _) hI
        · intro a k wa K Q _ hI hp hK
          have e34 := tmp_of (show a.eval (.tmp 34) = .slice Ak kl.length ck from hp.dep 11 34 (by kernel_rfl))
          go_simp
          refine (clone_any (N := V.heap.size) (exS.below hK' (Nat.le_refl _) hI) hI.size (by have := HLEN.out; omega)).mono ?_
          rintro e wb ⟨v5, rfl, h5, hb⟩
          exact hK _ _ (h5.wide (Nat.le_refl _) h5.1.1 (Nat.le_refl _) hI.size) (rel_ne (by decide) hb) (ext_trans hI hb)
        · intro a k wa K Q _ hI hp hK
          have e2 := tmp_of (show a.eval (.tmp 2) = .pointer (some ⟨w.heap.size, 0, none⟩) from hp.keep 2 (by kernel_rfl))
          go_simp
          exact hK _ _ rfl (Below.refl _ _) hI
        · intro a k wa K Q _ hI hp hK
          have e36 := tmp_of (show a.eval (.tmp 36) = .pointer (some ⟨w.heap.size, 3, Option.none⟩) from hp.dep 13 36 (by kernel_rfl))
          have b3_ := below_cell hI b3
          go_simp
          exact hK _ _ rfl (Below.refl _ _) hI
        · intro a k wa K Q _ hI hp hK
          have e37 := tmp_of (show a.eval (.tmp 37) = .slice (some ⟨b, off, none⟩) 2 c from hp.dep 14 37 (by kernel_rfl))
          go_simp
          exact hK _ _ (rfl) (Below.refl _ _) hI
        · intro a k wa K Q _ hI hp hK
          have e38 := tmp_of (show a.eval (.tmp 38) = .pointer (some ⟨b, off, Option.none⟩) from hp.dep 15 38 (by kernel_rfl))
          have p0_ := below_cell hI p0
          have p1_ := below_cell hI p1
          have p2_ := below_cell hI p2
          have p3_ := below_cell hI p3
          go_simp
          exact hK _ _ rfl (Below.refl _ _) hI
        · intro a k wa K Q _ hI hp hK
          have e39 := tmp_of (show a.eval (.tmp 39) = .agg #[.int .i64 (exAt r.ps 0).k, .int .i64 (exAt r.ps 0).n, .string (exAt r.ps 0).s, .slice A0 (exAt r.ps 0).ps.length c0] from hp.dep 16 39 (by kernel_rfl))
          go_simp
          refine (cjQ_all m _ _ c0 V.heap.size _ (exS.below u0' (Nat.le_refl _) hI) hI.size s0 HG0.out HC0.out).mono ?_
          rw [← HK1.out]
          rintro e wb ⟨v5, rfl, h5, hb⟩
          exact hK _ _ ((h5.wide (Nat.le_refl _) h5.1.1 (Nat.le_refl _) hI.size).deeper (by omega)) (rel_ne (by decide) hb) (ext_trans hI hb)
        · intro a k wa K Q _ hI hp hK
          have t35 : OwnE D V.heap.size V.heap.size kl wa (a.eval (.tmp 35)) := hp.dep 12 35 (by kernel_rfl)
          have t40 : OwnE D V.heap.size V.heap.size K1 wa (a.eval (.tmp 40)) := hp.dep 17 40 (by kernel_rfl)
          have hM := t35.2
          obtain ⟨A9, c9, e40, hr9⟩ := t40.2.rd (by have := HLEN.out; omega)
          refine op_appendG (R := exR D 0 V.heap.size) (l := kl) (l2 := K1) (.tmp 35) (.tmp 40) 34 36 _ 4 56 rfl Tryz.underlying34 Tryz.infoExpr rfl (by decide) (fun a cs h => exR.one h) rfl hM e40 hr9 (fun w' hg a cs h => exR.row hI.size hg (fun k hk => (hM.ge k hk).1) h) (by have := HLEN.out; omega) (by have := HLEN.out; omega) hI.size ?_
          intro v' wb ho' hb' hgr _
          exact hK _ _ ⟨⟨Nat.le_trans hI.size hb'.size, Nat.le_refl _⟩, ho'⟩ (rel_eq rfl hb') (hI.trans hb')
        · intro a k wa K Q _ hI hp hK
          have e33 := tmp_of (show a.eval (.tmp 33) = .agg #[.int .i64 (exAt r.ps 1).k, .int .i64 (exAt r.ps 1).n, .string (exAt r.ps 1).s, .slice A1 (exAt r.ps 1).ps.length c1] from hp.dep 10 33 (by kernel_rfl))
          have t41 : OwnE D V.heap.size V.heap.size (kl ++ K1) wa (a.eval (.tmp 41)) := hp.dep 18 41 (by kernel_rfl)
          obtain ⟨A5, c5, e41, hk5⟩ := t41.rd (by have := HLEN.out; rw [List.length_append]; omega)
          replace e41 := tmp_of e41
          go_simp
          rw [← List.length_append]
          refine (HQ1.out _ _ _ (kl ++ K1) c1 c5 _ (u1'.below hI) s1 hk5 (by omega) HG1.out HC2.out).mono ?_
          rw [HY.out]
          rintro e wb ⟨rfl, hb⟩
          exact hK _ _ rfl (rel_ne (by decide) hb) (ext_trans hI hb)
        · intro a k wa K Q _ hI hp hK
          exact op_pick_t _ _ _ rfl (hp.dep 6 29 (by kernel_rfl)) (hK _ _ (hp.dep 19 42 (by kernel_rfl)) (Below.refl _ _) hI)
        · intro a k wa K Q _ hI hp hK
          exact op_move _ (.inr rfl) (hK _ _ (hp.dep 20 43 (by kernel_rfl)) (Below.refl _ _) hI)
      case fin5 =>
        intro f w9 hT hI0
        have hI : Below V.heap.size V w9 := hI0
        have hr6 : (f 21) = .bool y := hT 21 (by decide) rfl rfl
        clear hT hI0
        simp only [putAll, hr6]
        go_simp
        go_wp2
        go_ret
        exact ⟨by rw [HR.out, HX.out, ← HK1.out, HY.out]; rfl, ext_trans HBW.out (ext_trans hB hI)⟩
  have e14 : (r.k == 14) = false := by simp [h14]
  obtain ⟨q, hq⟩ : ∃ q, r.ps.all (fun p => guI d p kl) = q := ⟨_, rfl⟩
  have HP := Lib.hid (fun (X : World) (hX : Below W.heap.size W X) => guParts HQ.out (c := c) (hUW.below hX) (hKW.below hX) hD HG.out HN.out (below_cell hX b4) hq)
  have HQV := Lib.hid hq
  clear hq
  by_cases h8 : r.k = 8
  · have e8 : (r.k == 8) = true := by simp [h8]
    obtain ⟨D', hD'⟩ : ∃ D', D = D' + 1 := ⟨D - 1, by omega⟩
    subst hD'
    obtain ⟨y, hy⟩ : ∃ y, hasB kl (asHas r) = y := ⟨_, rfl⟩
    have hUD := exS.deeper hUW (show d ≤ D' by omega)
    have hcon : ∀ (n : Nat) (os : Array Obj), Calls Tryz.prog 81 #[.slice Ak kl.length ck, .agg #[.int .i64 9, .int .i64 r.n, .string r.s, .slice A r.ps.length c]] (Sort.grow (redrawn W n) os) fun e w' => e = .returned (.bool y) ∧ Below (Sort.grow (redrawn W n) os).heap.size (Sort.grow (redrawn W n) os) w' := by
      intro n os
      have h := hasSame_any (d := D') (l := kl) (r := asHas r) (A := Ak) (A' := A) (c := ck) (c' := c) (w := Sort.grow (redrawn W n) os) (hKW.regrown n os) (exW.regrown hUD n os)
      rw [hy] at h
      exact h
    have HCON := Lib.hid hcon
    have HH := Lib.hid (fun (n : Nat) (os : Array Obj) => has_any (A := A) (r := r) (c := c) (w := Sort.grow (redrawn W n) os))
    clear hcon hUD
    cases y
    · have HR : Hid (guI (d + 1) r kl = false) := Lib.hid (by rw [guI, if_neg h7, if_pos ⟨h8, hy⟩])
      clear h7 h8 h14 hy b1 b2 b3 b4
      go_enter Tryz.func68, Tryz.ntmps68
      go_wp2_with fail
      rw [← HW.out]
      clear b0
      refine wp_region_quiet_below (by kernel_rfl) (by kernel_rfl) ?_
      repeat (go_big_quiet_step (first | (go_at_call 82; (with_reducible exact Calls.regrown_of (HH.out _ _))) | (go_at_call 81; (with_reducible exact Calls.regrown_of (HCON.out _ _)))))
      refine wpQuiet_nil ?_
      intro w2 hw'regrown
      have hB := below_of_regrown hw'regrown (Nat.le_refl _)
      clear hw'regrown a0 a1 a2 a3 a4
      go_wp2
      go_ret
      exact ⟨by rw [HR.out]; rfl, ext_trans HBW.out hB⟩
    · have HR : Hid (guI (d + 1) r kl = q) := Lib.hid (by rw [guI_rest h7 (fun h => by rw [hy] at h; cases h.2) h14]; exact HQV.out)
      clear h7 h8 h14 hy b1 b2 b3 b4
      go_enter Tryz.func68, Tryz.ntmps68
      go_wp2_with fail
      rw [← HW.out]
      clear b0
      refine wp_region_quiet_below (by kernel_rfl) (by kernel_rfl) ?_
      repeat (go_big_quiet_step (first | (go_at_call 82; (with_reducible exact Calls.regrown_of (HH.out _ _))) | (go_at_call 81; (with_reducible exact Calls.regrown_of (HCON.out _ _)))))
      refine wpQuiet_nil ?_
      intro w2 hw'regrown
      have hB := below_of_regrown hw'regrown (Nat.le_refl _)
      clear hw'regrown a0 a1 a2 a3 a4
      have b0 := below_cell hB HB0.out
      have b3 := below_cell hB HB3.out
      have b4 := below_cell hB HB4.out
      go_wp2_with fail
      refine (HP.out _ hB).mono ?_
      rintro e w3 ⟨rfl, hb⟩
      replace hB := ext_trans hB hb
      clear hb b0 b3 b4
      go_wp2
      go_ret
      exact ⟨by rw [HR.out]; cases q <;> rfl, ext_trans HBW.out hB⟩
  · have e8 : (r.k == 8) = false := by simp [h8]
    have HR : Hid (guI (d + 1) r kl = q) := Lib.hid (by rw [guI_rest h7 (fun h => h8 h.1) h14]; exact HQV.out)
    clear h7 h8 h14 b1 b2 b3 b4
    go_enter Tryz.func68, Tryz.ntmps68
    go_wp2_with fail
    rw [← HW.out]
    clear b0
    refine wp_region_quiet_below (by kernel_rfl) (by kernel_rfl) ?_
    repeat (go_big_quiet_step (fail))
    refine wpQuiet_nil ?_
    intro w2 hw'regrown
    have hB := below_of_regrown hw'regrown (Nat.le_refl _)
    clear hw'regrown a0 a1 a2 a3 a4
    have b0 := below_cell hB HB0.out
    have b3 := below_cell hB HB3.out
    have b4 := below_cell hB HB4.out
    go_wp2_with fail
    refine (HP.out _ hB).mono ?_
    rintro e w3 ⟨rfl, hb⟩
    replace hB := ext_trans hB hb
    clear hb b0 b3 b4
    go_wp2
    go_ret
    exact ⟨by rw [HR.out]; cases q <;> rfl, ext_trans HBW.out hB⟩
theorem giQ_all (D : Nat) : ∀ d, GiQ d D
  | 0 => giQ_of (fun m h => by cases h)
  | d + 1 => giQ_of (fun m h => by cases h; exact giQ_all D d)
end Go.Proofs.YtodjokdaofefdaaGreat

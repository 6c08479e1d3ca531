/- Expressions: comparison by the laws. -/
import Derived.Test.YtodjokdaofefdaaEx
import Derived.Test.YtodjokdaofefdaaNst
namespace Go.Proofs.Ytodjokdaofefdaa
set_option linter.unusedSimpArgs false
set_option linter.unusedVariables false
open Go.RowKit

def exW (d : Nat) (w : World) (A : Option Addr) (l : ExL) : Prop := exS d 0 w.heap.size w A l
theorem exW.below {d : Nat} {w w' : World} {A : Option Addr} {l : ExL} (h : exW d w A l) (hb : Below w.heap.size w w') : exW d w' A l := (exS.below h (Nat.le_refl _) hb).wide (Nat.le_refl _) hb.size
theorem exW.regrown {m : Nat} {w : World} {A : Option Addr} {l : ExL} (h : exW m w A l) (d : Nat) (os : Array Obj) : exW m (Sort.grow (redrawn w d) os) A l := h.below (below_regrown w d os)
theorem exW.cells {d : Nat} {w : World} {A : Option Addr} {l : ExL} (h : exW (d + 1) w A l) (hn : 0 < l.length) : ∃ b off, A = some ⟨b, off, none⟩ ∧ ∀ k, k < l.length → ∃ A' c', exW d w A' (exAt l k).ps ∧ (exAt l k).s.size ≤ 9223372036854775807 ∧
    w.cell? ⟨b, off + k * 4, none⟩ = some (.int .i64 (exAt l k).k) ∧ w.cell? ⟨b, off + k * 4 + 1, none⟩ = some (.int .i64 (exAt l k).n) ∧ w.cell? ⟨b, off + k * 4 + 2, none⟩ = some (.string (exAt l k).s) ∧ w.cell? ⟨b, off + k * 4 + 3, none⟩ = some (.slice A' (exAt l k).ps.length c') := by
  obtain ⟨b, off, e, _, hc⟩ := exS.cells h hn
  exact ⟨b, off, e, hc⟩
theorem ex_sameX (r r' : Ex) : sameX r r' = (!(r.k != r'.k) && (!(r.n != r'.n) && (!(!(r.s.toList == r'.s.toList)) && !(!sameX r.ps r'.ps)))) := by
  rw [Bool.eq_iff_iff]
  simp only [sameX_true, Bool.and_eq_true, Bool.not_not, Bool.not_eq_true', bne_eq_false_iff_eq]
  constructor
  · rintro rfl; simp
  · rintro ⟨h0, h1, h2, h3⟩
    exact Ex.ext h0 h1 (by first | exact h2 | simpa using h2 | exact str_eq.1 (by simpa using h2)) h3
theorem ex_same {us vs : ExL} (h : us.length = vs.length) (h2 : ∀ k, k < us.length → exAt us k = exAt vs k) : true = sameX us vs := by
  rw [eq_comm, sameX_true]
  apply List.ext_getElem h
  intro k h3 h4
  rw [← exAt_eq h3, ← exAt_eq h4]
  exact h2 k h3
/-- What two calls of each comparison give, at parts at most d deep. -/
def EqQ (d : Nat) : Prop := ∀ (A A' : Option Addr) (r r' : Ex) (c c' : Nat) (w : World), exW d w A r.ps → exW d w A' r'.ps →
  Calls Try.prog 23 #[.agg #[.int .i64 r.k, .int .i64 r.n, .string r.s, .slice A r.ps.length c], .agg #[.int .i64 r'.k, .int .i64 r'.n, .string r'.s, .slice A' r'.ps.length c']] w fun e w' => e = .returned (.bool (sameX r r')) ∧ Below w.heap.size w w'
def EqP (d : Nat) : Prop := ∀ (A A' : Option Addr) (us vs : ExL) (c c' : Nat) (w : World), exW d w A us → exW d w A' vs →
  Calls Try.prog 75 #[.slice A us.length c, .slice A' vs.length c'] w fun e w' => e = .returned (.bool (sameX us vs)) ∧ Below w.heap.size w w'
set_option maxRecDepth 100000 in
set_option maxHeartbeats 2000000 in
theorem eqQ_of {d : Nat} (hP : EqP d) : EqQ d := by
  intro A A' r r' c c' w hU hV
  have hl := exS.len hU
  have hl' := exS.len hV
  have HP := Lib.hid hP
  clear hP
  go_enter Try.func23, Try.ntmps23
  go_wp2_with (go_at_call 75; refine (HP.out _ _ _ _ _ _ _ (hU.below (by (repeat (first | exact Below.refl _ _ | refine ext_alloc ?_ _ | refine Below.setCell ?_ (by simp) _)))) (hV.below (by (repeat (first | exact Below.refl _ _ | refine ext_alloc ?_ _ | refine Below.setCell ?_ (by simp) _))))).mono ?_; rintro e w1 ⟨rfl, hb⟩; obtain ⟨hc1, hf1⟩ := bcell hb; have hz1 := hb.size; simp at hz1)
  all_goals
    go_ret
    refine ⟨ret_bool ?_, ?_⟩
    · rw [ex_sameX]
      simp only [*, Bool.not_true, Bool.not_false, Bool.false_and, Bool.and_false, Bool.true_and, Bool.and_self]
    · first
        | ((repeat (first | exact Below.refl _ _ | refine ext_alloc ?_ _)); done)
        | (refine ext_trans ?_ ‹Below _ _ _›; (repeat (first | exact Below.refl _ _ | refine ext_alloc ?_ _)); done)
set_option maxRecDepth 100000 in
set_option maxHeartbeats 4000000 in
theorem eqP_zero : EqP 0 := by
  intro A A' us vs c c' w hU hV
  obtain rfl := exS.zero hU
  obtain rfl := exS.zero hV
  have hs : sameX ([] : ExL) [] = true := sameX_self _
  go_enter Try.func75, Try.ntmps75
  go_wp2
  go_loopw [5] (fun i wr => i = .int .i64 0 ∧ Below w.heap.size w wr) (fun _ _ => 0)
  case atStart => exact ⟨rfl, Below.refl _ _⟩
  case round =>
    obtain ⟨rfl, hB⟩ := hrel
    go_wp2
    go_ret
    exact ⟨ret_bool hs.symm, hB⟩
set_option maxRecDepth 100000 in
set_option maxHeartbeats 4000000 in
theorem eqP_succ {d : Nat} (hQ : EqQ d) : EqP (d + 1) := by
  intro A A' us vs c c' w hU hV
  have hl := exS.len hU
  have hl' := exS.len hV
  have HQ := Lib.hid hQ
  clear hQ
  by_cases hlen : us.length = vs.length
  · have HL := Lib.hid hlen
    have hlen1 : ((us.length : Int) != vs.length) = false := by simp [hlen]
    clear hlen
    go_enter Try.func75, Try.ntmps75
    go_wp2
    go_loopw [5] (fun i wr => ∃ k : Nat, k ≤ us.length ∧ i = .int .i64 k ∧ Below w.heap.size w wr ∧ (∀ j, j < k → exAt us j = exAt vs j)) (fun i _ => us.length - (intOf i).toNat)
    case atStart => exact ⟨0, Nat.zero_le _, rfl, Below.refl _ _, fun j h => by omega⟩
    case round =>
      obtain ⟨k, hk, rfl, hB, hgood⟩ := hrel
      have HG := Lib.hid hgood
      clear hgood
      by_cases hlt : k < us.length
      · have hlt' : k < vs.length := by rw [← HL.out]; exact hlt
        obtain ⟨b, off, rfl, hc⟩ := hU.cells (by omega)
        obtain ⟨b', off', rfl, hc'⟩ := hV.cells (by omega)
        obtain ⟨A1, c1, hfd, _, p0, p1, p2, p3⟩ := hc k hlt
        obtain ⟨A2, c2, hfd2, _, q0, q1, q2, q3⟩ := hc' k hlt'
        replace p0 := cell_regrown (below_cell hB p0)
        replace p1 := cell_regrown (below_cell hB p1)
        replace p2 := cell_regrown (below_cell hB p2)
        replace p3 := cell_regrown (below_cell hB p3)
        replace q0 := cell_regrown (below_cell hB q0)
        replace q1 := cell_regrown (below_cell hB q1)
        replace q2 := cell_regrown (below_cell hB q2)
        replace q3 := cell_regrown (below_cell hB q3)
        replace hfd := hfd.below hB
        replace hfd2 := hfd2.below hB
        clear hc hc'
        have HE := Lib.hid (fun (m : Nat) (os : Array Obj) => HQ.out _ _ _ _ c1 c2 _ (hfd.regrown m os) (hfd2.regrown m os))
        cases g : sameX (exAt us k) (exAt vs k)
        all_goals
          rw [g] at HE
          go_wp2
          refine wp_region_quiet_below (by kernel_rfl) (by kernel_rfl) ?_
          repeat (go_big_quiet_step ((go_at_call 23; (with_reducible exact Calls.regrown_of (HE.out _ _)))))
          refine wpQuiet_nil ?_
          intro w2 hw'regrown
          replace hB := ext_trans hB (below_of_regrown hw'regrown (Nat.le_refl _))
          clear hw'regrown p0 q0 p1 q1 p2 q2 p3 q3
          go_wp2
        · go_ret
          exact ⟨ret_bool (by rw [eq_comm, sameX_false]; rintro rfl; rw [sameX_self] at g; cases g), hB⟩
        · go_roundw
          case rel => exact ⟨k + 1, by omega, by go_num, hB, all_succ HG.out (sameX_true.1 g)⟩
          case measure => simp [intOf]; omega
      · obtain rfl : k = us.length := by omega
        go_wp2
        go_ret
        exact ⟨ret_bool (ex_same HL.out HG.out), hB⟩
  · have hlen1 : ((us.length : Int) != vs.length) = true := by simp; omega
    have HL := Lib.hid hlen
    clear hlen
    go_enter Try.func75, Try.ntmps75
    go_wp2
    go_ret
    exact ⟨ret_bool (by rw [eq_comm, sameX_false]; rintro rfl; exact HL.out rfl), Below.refl _ _⟩
theorem eqP_all : ∀ d, EqP d
  | 0 => eqP_zero
  | d + 1 => eqP_succ (eqQ_of (eqP_all d))
theorem eqExpr_any {d : Nat} {A A' : Option Addr} {r r' : Ex} {c c' : Nat} {w : World} (h1 : exW d w A r.ps) (h2 : exW d w A' r'.ps) :
    Calls Try.prog 23 #[.agg #[.int .i64 r.k, .int .i64 r.n, .string r.s, .slice A r.ps.length c], .agg #[.int .i64 r'.k, .int .i64 r'.n, .string r'.s, .slice A' r'.ps.length c']] w fun e w' => e = .returned (.bool (sameX r r')) ∧ Below w.heap.size w w' := eqQ_of (eqP_all d) A A' r r' c c' w h1 h2
end Go.Proofs.Ytodjokdaofefdaa

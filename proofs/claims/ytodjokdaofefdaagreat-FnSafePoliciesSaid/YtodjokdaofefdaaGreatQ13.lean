/- Values of expressions, by the program: a value of a kind, two values. -/
import Derived.Test.YtodjokdaofefdaaGreatQ8
import Derived.Test.YtodjokdaofefdaaGreatQ11
import Derived.Test.YtodjokdaofefdaaGreatQ12
namespace Go.Proofs.YtodjokdaofefdaaGreat
set_option linter.unusedSimpArgs false
set_option linter.unusedVariables false
open Go.RowKit

def evVal (v : Ev) : Value := .tuple #[.agg #[.int .i64 v.1, .int .i64 v.2.1], .int .i64 v.2.2]
/-- What calls for the value give, at parts at most d deep. -/
def EvQ (d : Nat) : Prop := ∀ (W : WL) (r : Rq) (A B C : Option Addr) (c c2 ct : Nat) (t : Ex) (w : World), wlR w A W → fdR w B r.fs → exW d w C t.ps → OkW W r → gdR (d + 1) t = true →
  Calls Tryz.prog 76 #[.agg #[.slice A W.length c, .int .i64 r.who, .int .i64 r.act, .int .i64 r.what, .slice B r.fs.length c2], .agg #[.int .i64 t.k, .int .i64 t.n, .string t.s, .slice C t.ps.length ct]] w fun e w' => e = .returned (evVal (ev (d + 1) W r t)) ∧ Below w.heap.size w w'
theorem cells5 {w : World} {g : Nat} {T : TypeId} {a b c d e : Value} (q : w.heap[g]? = some (.cells #[a, b, c, d, e] T (0, 0))) :
    w.cell? ⟨g, 0, none⟩ = some a ∧ w.cell? ⟨g, 1, none⟩ = some b ∧ w.cell? ⟨g, 2, none⟩ = some c ∧ w.cell? ⟨g, 3, none⟩ = some d ∧ w.cell? ⟨g, 4, none⟩ = some e :=
  ⟨(cell_of_row w g 0 _ _ _ q).trans rfl, (cell_of_row w g 1 _ _ _ q).trans rfl, (cell_of_row w g 2 _ _ _ q).trans rfl, (cell_of_row w g 3 _ _ _ q).trans rfl, (cell_of_row w g 4 _ _ _ q).trans rfl⟩
/-- A box of two numbers is written; what is behind it. -/
theorem box_put {w : World} {g : Nat} {T : TypeId} {cs : Array Value} (v0 v1 : Value) (h : w.heap[g]? = some (.cells cs T (0, 0))) (hn : cs.size = 2) :
    ((w.setCell ⟨g, 0, none⟩ v0).setCell ⟨g, 1, none⟩ v1).heap[g]? = some (.cells #[v0, v1] T (0, 0)) := by
  obtain ⟨a, b, rfl⟩ := arr2 hn
  exact setCells_atG [v0, v1] 0 h (by simp)
theorem box_put_below {B : Nat} {w w' : World} {g : Nat} (v0 v1 : Value) (hg : B ≤ g) (h : Below B w w') : Below B w ((w'.setCell ⟨g, 0, none⟩ v0).setCell ⟨g, 1, none⟩ v1) := setCells_below hg [v0, v1] 0 h
set_option maxRecDepth 100000 in
set_option maxHeartbeats 4000000 in
theorem kinded_any {d : Nat} (hQ : EvQ d) {W : WL} {r : Rq} {A B C : Option Addr} {c c2 ct : Nat} {t : Ex} {kd : Int} {w : World} (hW : wlR w A W) (hR : fdR w B r.fs) (hU : exW d w C t.ps) (hO : OkW W r) (hg : gdR (d + 1) t = true) :
    Calls Tryz.prog 91 #[.agg #[.slice A W.length c, .int .i64 r.who, .int .i64 r.act, .int .i64 r.what, .slice B r.fs.length c2], .agg #[.int .i64 t.k, .int .i64 t.n, .string t.s, .slice C t.ps.length ct], .int .i64 kd] w fun e w' => e = .returned (evVal (evK (ev (d + 1) W r t) kd)) ∧ Below w.heap.size w w' := by
  obtain ⟨X, hX⟩ : ∃ X, X = ((w.alloc (.cells #[.slice A W.length c, .int .i64 r.who, .int .i64 r.act, .int .i64 r.what, .slice B r.fs.length c2] 110)).alloc (.cells #[.int .i64 t.k, .int .i64 t.n, .string t.s, .slice C t.ps.length ct] 36)).alloc (.cells #[.int .i64 0, .int .i64 0] 87) := ⟨_, rfl⟩
  obtain ⟨g, hgg⟩ : ∃ g, g = w.heap.size := ⟨_, rfl⟩
  have hB : Below w.heap.size w X := by rw [hX]; (repeat (first | exact Below.refl _ _ | refine ext_alloc ?_ _ | refine Below.setCell ?_ (by simp) _))
  have hq3 : X.heap[g + 1 + 1]? = some (.cells #[.int .i64 0, .int .i64 0] 87 (0, 0)) := by rw [hX, hgg]; exact heap_alloc_at (by simp)
  have HC := Lib.hid (hQ W r A B C c c2 ct t X (hW.below hB) (hR.below hB) (hU.below hB) hO hg)
  obtain ⟨v, hv⟩ : ∃ v, ev (d + 1) W r t = v := ⟨_, rfl⟩
  rw [hv] at HC ⊢
  obtain ⟨x, y, f⟩ := v
  unfold evVal at HC
  have HX := Lib.hid hX
  have HG := Lib.hid hgg
  have HQ3 := Lib.hid hq3
  have HGB : Hid (w.heap.size ≤ g + 1 + 1) := Lib.hid (by omega)
  clear hQ hv hW hR hU hO hg hX hgg hq3
  go_enter Tryz.func91, Tryz.ntmps91
  go_wp2_with fail
  rw [← HX.out, ← HG.out]
  refine HC.out.mono ?_
  rintro e w1 ⟨rfl, hb⟩
  have HB := Lib.hid (ext_alloc (ext_trans hB hb) (.cells #[.int .i64 x, .int .i64 y] 87))
  have HQ3 := Lib.hid (block_in (block_in HQ3.out hb) (below_alloc w1 (.cells #[.int .i64 x, .int .i64 y] 87)))
  obtain ⟨z0, z1⟩ := cells2 HQ3.out
  obtain ⟨f0, f1⟩ := froz2 HQ3.out
  have y0 := box_cell w1 #[.int .i64 x, .int .i64 y] 87 0 _ rfl
  have y1 := box_cell w1 #[.int .i64 x, .int .i64 y] 87 1 _ rfl
  clear HC hb hB HX
  by_cases e1 : f = 0
  · subst e1
    by_cases e2 : x = kd
    · have gb : (x != kd) = false := by simpa using e2
      have HE : Hid (evVal (evK (x, y, 0) kd) = .tuple #[.agg #[.int .i64 x, .int .i64 y], .int .i64 0]) := Lib.hid (by rw [evK, if_neg (by simp [e2])]; rfl)
      clear e2
      go_wp2
      obtain ⟨q0, q1⟩ := cells2 (box_put (.int .i64 x) (.int .i64 y) HQ3.out rfl)
      exact bodyPost_ret (v := .tuple #[.agg #[.int .i64 x, .int .i64 y], .int .i64 0]) (by simp [results, go_sem, q0, q1]) rfl ⟨by rw [HE.out], box_put_below _ _ HGB.out HB.out⟩
    · have gb : (x != kd) = true := by simpa using e2
      have HE : Hid (evVal (evK (x, y, 0) kd) = .tuple #[.agg #[.int .i64 0, .int .i64 0], .int .i64 1]) := Lib.hid (by rw [evK, if_pos ⟨rfl, e2⟩]; rfl)
      clear e2
      go_wp2
      obtain ⟨q0, q1⟩ := cells2 (box_put (.int .i64 0) (.int .i64 0) HQ3.out rfl)
      exact bodyPost_ret (v := .tuple #[.agg #[.int .i64 0, .int .i64 0], .int .i64 1]) (by simp [results, go_sem, q0, q1]) rfl ⟨by rw [HE.out], box_put_below _ _ HGB.out HB.out⟩
  · have gb : (f == 0) = false := by simpa using e1
    have HE : Hid (evVal (evK (x, y, f) kd) = .tuple #[.agg #[.int .i64 x, .int .i64 y], .int .i64 f]) := Lib.hid (by rw [evK, if_neg (by simp [e1])]; rfl)
    clear e1
    go_wp2
    obtain ⟨q0, q1⟩ := cells2 (box_put (.int .i64 x) (.int .i64 y) HQ3.out rfl)
    exact bodyPost_ret (v := .tuple #[.agg #[.int .i64 x, .int .i64 y], .int .i64 f]) (by simp [results, go_sem, q0, q1]) rfl ⟨by rw [HE.out], box_put_below _ _ HGB.out HB.out⟩
end Go.Proofs.YtodjokdaofefdaaGreat
/- Two values, by the program. -/
namespace Go.Proofs.YtodjokdaofefdaaGreat
set_option linter.unusedSimpArgs false
set_option linter.unusedVariables false
open Go.RowKit

def twVal (a b : Ev) : Value := if a.2.2 ≠ 0 then .tuple #[.agg #[.int .i64 0, .int .i64 0], .agg #[.int .i64 0, .int .i64 0], .int .i64 a.2.2] else .tuple #[.agg #[.int .i64 a.1, .int .i64 a.2.1], .agg #[.int .i64 b.1, .int .i64 b.2.1], .int .i64 b.2.2]
theorem ex_two {d : Nat} {w : World} {C : Option Addr} {l : ExL} (h : exW (d + 1) w C l) (hn : l.length = 2) : ∃ b off A3 c3 A4 c4, C = some ⟨b, off, none⟩ ∧ exW d w A3 (exAt l 0).ps ∧ exW d w A4 (exAt l 1).ps ∧
    (w.cell? ⟨b, off, none⟩ = some (.int .i64 (exAt l 0).k) ∧ w.cell? ⟨b, off + 1, none⟩ = some (.int .i64 (exAt l 0).n) ∧ w.cell? ⟨b, off + 2, none⟩ = some (.string (exAt l 0).s) ∧ w.cell? ⟨b, off + 3, none⟩ = some (.slice A3 (exAt l 0).ps.length c3)) ∧
    (w.cell? ⟨b, off + 4, none⟩ = some (.int .i64 (exAt l 1).k) ∧ w.cell? ⟨b, off + 4 + 1, none⟩ = some (.int .i64 (exAt l 1).n) ∧ w.cell? ⟨b, off + 4 + 2, none⟩ = some (.string (exAt l 1).s) ∧ w.cell? ⟨b, off + 4 + 3, none⟩ = some (.slice A4 (exAt l 1).ps.length c4)) := by
  obtain ⟨b, off, rfl, hc⟩ := h.cells (by omega)
  obtain ⟨A3, c3, h3, _, a0, a1, a2, a3⟩ := hc 0 (by omega)
  obtain ⟨A4, c4, h4, _, b0, b1, b2, b3⟩ := hc 1 (by omega)
  simp only [Nat.zero_mul, Nat.add_zero, Nat.one_mul] at a0 a1 a2 a3 b0 b1 b2 b3
  exact ⟨b, off, A3, c3, A4, c4, rfl, h3, h4, ⟨a0, a1, a2, a3⟩, ⟨b0, b1, b2, b3⟩⟩
theorem box2_put {w : World} {g h : Nat} {T : TypeId} {cs ds : Array Value} (a b c d : Value) (hne : g ≠ h) (h1 : w.heap[g]? = some (.cells cs T (0, 0))) (h2 : w.heap[h]? = some (.cells ds T (0, 0))) (hc : cs.size = 2) (hd : ds.size = 2) :
    ((((w.setCell ⟨g, 0, none⟩ a).setCell ⟨g, 1, none⟩ b).setCell ⟨h, 0, none⟩ c).setCell ⟨h, 1, none⟩ d).heap[g]? = some (.cells #[a, b] T (0, 0)) ∧
    ((((w.setCell ⟨g, 0, none⟩ a).setCell ⟨g, 1, none⟩ b).setCell ⟨h, 0, none⟩ c).setCell ⟨h, 1, none⟩ d).heap[h]? = some (.cells #[c, d] T (0, 0)) := by
  have e1 := box_put a b h1 hc
  have k1 := setCells_grown g [a, b] w 0
  have e2 : ((w.setCell ⟨g, 0, none⟩ a).setCell ⟨g, 1, none⟩ b).heap[h]? = some (.cells ds T (0, 0)) := (k1.block h (Array.getElem?_eq_some_iff.1 h2).1 (fun e => hne (by cases e; rfl))).trans h2
  have k2 := setCells_grown h [c, d] ((w.setCell ⟨g, 0, none⟩ a).setCell ⟨g, 1, none⟩ b) 0
  exact ⟨(k2.block g (Array.getElem?_eq_some_iff.1 e1).1 (fun e => hne (by cases e; rfl))).trans e1, box_put c d e2 hd⟩
set_option maxRecDepth 100000 in
set_option maxHeartbeats 8000000 in
theorem two_any {m : Nat} (hQ : EvQ m) {W : WL} {r : Rq} {A B C : Option Addr} {c c2 ct : Nat} {t : Ex} {w : World} (hW : wlR w A W) (hR : fdR w B r.fs) (hU : exW (m + 1) w C t.ps) (hO : OkW W r) (hn : t.ps.length = 2) (hg0 : gdR (m + 1) (exAt t.ps 0) = true) (hg1 : gdR (m + 1) (exAt t.ps 1) = true) :
    Calls Tryz.prog 93 #[.agg #[.slice A W.length c, .int .i64 r.who, .int .i64 r.act, .int .i64 r.what, .slice B r.fs.length c2], .agg #[.int .i64 t.k, .int .i64 t.n, .string t.s, .slice C t.ps.length ct]] w fun e w' => e = .returned (twVal (ev (m + 1) W r (exAt t.ps 0)) (ev (m + 1) W r (exAt t.ps 1))) ∧ Below w.heap.size w w' := by
  obtain ⟨X, hX⟩ : ∃ X, X = (((w.alloc (.cells #[.slice A W.length c, .int .i64 r.who, .int .i64 r.act, .int .i64 r.what, .slice B r.fs.length c2] 110)).alloc (.cells #[.int .i64 t.k, .int .i64 t.n, .string t.s, .slice C t.ps.length ct] 36)).alloc (.cells #[.int .i64 0, .int .i64 0] 87)).alloc (.cells #[.int .i64 0, .int .i64 0] 87) := ⟨_, rfl⟩
  obtain ⟨g, hgg⟩ : ∃ g, g = w.heap.size := ⟨_, rfl⟩
  have hB : Below w.heap.size w X := by rw [hX]; (repeat (first | exact Below.refl _ _ | refine ext_alloc ?_ _ | refine Below.setCell ?_ (by simp) _))
  have hq1 : X.heap[g]? = some (.cells #[.slice A W.length c, .int .i64 r.who, .int .i64 r.act, .int .i64 r.what, .slice B r.fs.length c2] 110 (0, 0)) := by rw [hX, hgg]; exact block_in (block_in (block_in (heap_alloc_new _ _) (below_alloc _ _)) (below_alloc _ _)) (below_alloc _ _)
  have hq2 : X.heap[g + 1]? = some (.cells #[.int .i64 t.k, .int .i64 t.n, .string t.s, .slice C t.ps.length ct] 36 (0, 0)) := by rw [hX, hgg]; exact block_in (block_in (heap_alloc_at (by simp)) (below_alloc _ _)) (below_alloc _ _)
  have hq3 : X.heap[g + 1 + 1]? = some (.cells #[.int .i64 0, .int .i64 0] 87 (0, 0)) := by rw [hX, hgg]; exact block_in (heap_alloc_at (by simp)) (below_alloc _ _)
  have hq4 : X.heap[g + 1 + 1 + 1]? = some (.cells #[.int .i64 0, .int .i64 0] 87 (0, 0)) := by rw [hX, hgg]; exact heap_alloc_at (by simp)
  replace hW := hW.below hB
  replace hR := hR.below hB
  replace hU := hU.below hB
  obtain ⟨va, hva⟩ : ∃ v, ev (m + 1) W r (exAt t.ps 0) = v := ⟨_, rfl⟩
  obtain ⟨vb, hvb⟩ : ∃ v, ev (m + 1) W r (exAt t.ps 1) = v := ⟨_, rfl⟩
  have HA : Hid (∀ (Y : World) (C' : Option Addr) (c' : Nat), Below X.heap.size X Y → exW m Y C' (exAt t.ps 0).ps → Calls Tryz.prog 76 #[.agg #[.slice A W.length c, .int .i64 r.who, .int .i64 r.act, .int .i64 r.what, .slice B r.fs.length c2], .agg #[.int .i64 (exAt t.ps 0).k, .int .i64 (exAt t.ps 0).n, .string (exAt t.ps 0).s, .slice C' (exAt t.ps 0).ps.length c']] Y fun e w' => e = .returned (evVal va) ∧ Below Y.heap.size Y w') := Lib.hid (fun Y C' c' hb h => hva ▸ hQ W r A B C' c c2 c' _ Y (hW.below hb) (hR.below hb) h hO hg0)
  have HBB : Hid (∀ (Y : World) (C' : Option Addr) (c' : Nat), Below X.heap.size X Y → exW m Y C' (exAt t.ps 1).ps → Calls Tryz.prog 76 #[.agg #[.slice A W.length c, .int .i64 r.who, .int .i64 r.act, .int .i64 r.what, .slice B r.fs.length c2], .agg #[.int .i64 (exAt t.ps 1).k, .int .i64 (exAt t.ps 1).n, .string (exAt t.ps 1).s, .slice C' (exAt t.ps 1).ps.length c']] Y fun e w' => e = .returned (evVal vb) ∧ Below Y.heap.size Y w') := Lib.hid (fun Y C' c' hb h => hvb ▸ hQ W r A B C' c c2 c' _ Y (hW.below hb) (hR.below hb) h hO hg1)
  rw [hva, hvb]
  obtain ⟨xa, ya, fa⟩ := va
  obtain ⟨xb, yb, fb⟩ := vb
  unfold evVal at HA HBB
  have HT : Hid (twVal (xa, ya, fa) (xb, yb, fb) = if fa ≠ 0 then .tuple #[.agg #[.int .i64 0, .int .i64 0], .agg #[.int .i64 0, .int .i64 0], .int .i64 fa] else .tuple #[.agg #[.int .i64 xa, .int .i64 ya], .agg #[.int .i64 xb, .int .i64 yb], .int .i64 fb]) := Lib.hid rfl
  obtain ⟨p0, p1, p2, p3, p4⟩ := cells5 hq1
  obtain ⟨q0, q1, q2, q3⟩ := cells4 hq2
  obtain ⟨b, off, A3, c3, A4, c4, rfl, hfd, hfe, ⟨a0, a1, a2, a3⟩, ⟨b0, b1, b2, b3⟩⟩ := ex_two hU hn
  have hlt0 : 0 < t.ps.length := by omega
  have hlt1 : 1 < t.ps.length := by omega
  have hlm : t.ps.length ≤ 9223372036854775807 := by omega
  have hi1 : (1 : Int) < t.ps.length := by omega
  have HX := Lib.hid hX
  have HG := Lib.hid hgg
  have HQ1 := Lib.hid hq1
  have HQ2 := Lib.hid hq2
  have HQ3 := Lib.hid hq3
  have HQ4 := Lib.hid hq4
  have HGB : Hid (w.heap.size ≤ g + 1 + 1 ∧ g + 1 + 1 + 1 < X.heap.size) := Lib.hid ⟨by omega, by rw [hX, hgg]; simp⟩
  have HB := Lib.hid hB
  have HFD := Lib.hid hfd
  have HFE := Lib.hid hfe
  clear hQ hva hvb hO hg0 hg1 hX hgg hq1 hq2 hq3 hq4 hn hU hfd hfe hB hW hR
  go_enter Tryz.func93, Tryz.ntmps93
  go_wp2_with fail
  rw [← HX.out, ← HG.out]
  refine wp_region_nbox X 87 2 9 10 7 #[.int .i64 xa, .int .i64 ya] (fun i wz vz => match i with | 9 => BoxV X 87 2 wz vz | 0 => vz = .agg #[.slice A W.length c, .int .i64 r.who, .int .i64 r.act, .int .i64 r.what, .slice B r.fs.length c2] | 1 => vz = .pointer (some ⟨g + 1, 3, Option.none⟩) | 2 => vz = .slice (some ⟨b, off, none⟩) t.ps.length ct | 3 => vz = .pointer (some ⟨b, off, Option.none⟩) | 4 => vz = .agg #[.int .i64 (exAt t.ps 0).k, .int .i64 (exAt t.ps 0).n, .string (exAt t.ps 0).s, .slice A3 (exAt t.ps 0).ps.length c3] | 5 => vz = .tuple #[.agg #[.int .i64 xa, .int .i64 ya], .int .i64 fa] | 6 => vz = .tuple #[.agg #[.int .i64 xa, .int .i64 ya], .int .i64 fa] | 7 => vz = .agg #[.int .i64 xa, .int .i64 ya] | 8 => vz = .int .i64 fa | 11 => vz = .int .i64 fa | _ => True) (by kernel_rfl) (by kernel_rfl) (by kernel_rfl) rfl (by kernel_rfl) (fun _ _ h => h) (fun _ _ h => h) ?stab1 ?all1 (by decide) ?fin1
  case stab1 =>
    intro i wa wb v hne hT
    match i, hne, hT with
    | 0, _, hT => exact hT
    | 1, _, hT => exact hT
    | 2, _, hT => exact hT
    | 3, _, hT => exact hT
    | 4, _, hT => exact hT
    | 5, _, hT => exact hT
    | 6, _, hT => exact hT
    | 7, _, hT => exact hT
    | 8, _, hT => exact hT
    | 11, _, hT => exact hT
    | 9, hne, _ => exact absurd rfl hne
    | 10, _, _ => trivial
    | n + 12, _, _ => trivial
  case all1 =>
    refine RAllL.cons rfl ?_ (RAllL.cons rfl ?_ (RAllL.cons rfl ?_ (RAllL.cons rfl ?_ (RAllL.cons rfl ?_ (RAllL.cons rfl ?_ (RAllL.cons rfl ?_ (RAllL.cons rfl ?_ (RAllL.cons rfl ?_ (RAllL.cons rfl ?_ (RAllL.cons rfl ?_ (RAllL.cons rfl ?_ (RAllL.none_))))))))))))
    · intro a kq_ wa K Q _ hI0 hp hK0
      have hI : Below X.heap.size X wa := hI0
      have hK := fun v w' h1 (h2 : Below wa.heap.size wa w') (h3 : Below X.heap.size X w') => hK0 v w' h1 (RelB.of_below h2) h3 (fun e => absurd e (by decide))
      have e2 := tmp_of (show a.eval (.tmp 2) = .pointer (some ⟨g, 0, none⟩) from hp.keep 2 (by kernel_rfl))
      have p0_ := below_cell hI p0
      have p1_ := below_cell hI p1
      have p2_ := below_cell hI p2
      have p3_ := below_cell hI p3
      have p4_ := below_cell hI p4
      go_simp
      exact hK _ _ rfl (Below.refl _ _) hI
    · intro a kq_ wa K Q _ hI0 hp hK0
      have hI : Below X.heap.size X wa := hI0
      have hK := fun v w' h1 (h2 : Below wa.heap.size wa w') (h3 : Below X.heap.size X w') => hK0 v w' h1 (RelB.of_below h2) h3 (fun e => absurd e (by decide))
      have e3 := tmp_of (show a.eval (.tmp 3) = .pointer (some ⟨g + 1, 0, none⟩) from hp.keep 3 (by kernel_rfl))
      go_simp
      exact hK _ _ rfl (Below.refl _ _) hI
    · intro a kq_ wa K Q _ hI0 hp hK0
      have hI : Below X.heap.size X wa := hI0
      have hK := fun v w' h1 (h2 : Below wa.heap.size wa w') (h3 : Below X.heap.size X w') => hK0 v w' h1 (RelB.of_below h2) h3 (fun e => absurd e (by decide))
      have e12 := tmp_of (show a.eval (.tmp 12) = .pointer (some ⟨g + 1, 3, Option.none⟩) from hp.dep 1 12 (by kernel_rfl))
      have q3_ := below_cell hI q3
      go_simp
      exact hK _ _ rfl (Below.refl _ _) hI
    · intro a kq_ wa K Q _ hI0 hp hK0
      have hI : Below X.heap.size X wa := hI0
      have hK := fun v w' h1 (h2 : Below wa.heap.size wa w') (h3 : Below X.heap.size X w') => hK0 v w' h1 (RelB.of_below h2) h3 (fun e => absurd e (by decide))
      have e13 := tmp_of (show a.eval (.tmp 13) = .slice (some ⟨b, off, none⟩) t.ps.length ct from hp.dep 2 13 (by kernel_rfl))
      go_simp
      exact hK _ _ rfl (Below.refl _ _) hI
    · intro a kq_ wa K Q _ hI0 hp hK0
      have hI : Below X.heap.size X wa := hI0
      have hK := fun v w' h1 (h2 : Below wa.heap.size wa w') (h3 : Below X.heap.size X w') => hK0 v w' h1 (RelB.of_below h2) h3 (fun e => absurd e (by decide))
      have e14 := tmp_of (show a.eval (.tmp 14) = .pointer (some ⟨b, off, Option.none⟩) from hp.dep 3 14 (by kernel_rfl))
      have a0_ := below_cell hI a0
      have a1_ := below_cell hI a1
      have a2_ := below_cell hI a2
      have a3_ := below_cell hI a3
      go_simp
      exact hK _ _ rfl (Below.refl _ _) hI
    · intro a kq_ wa K Q _ hI0 hp hK0
      have hI : Below X.heap.size X wa := hI0
      have hK := fun v w' h1 (h2 : Below wa.heap.size wa w') (h3 : Below X.heap.size X w') => hK0 v w' h1 (RelB.of_below h2) h3 (fun e => absurd e (by decide))
      have e11 := tmp_of (show a.eval (.tmp 11) = .agg #[.slice A W.length c, .int .i64 r.who, .int .i64 r.act, .int .i64 r.what, .slice B r.fs.length c2] from hp.dep 0 11 (by kernel_rfl))
      have e15 := tmp_of (show a.eval (.tmp 15) = .agg #[.int .i64 (exAt t.ps 0).k, .int .i64 (exAt t.ps 0).n, .string (exAt t.ps 0).s, .slice A3 (exAt t.ps 0).ps.length c3] from hp.dep 4 15 (by kernel_rfl))
      go_simp
      refine (HA.out _ _ _ hI (HFD.out.below hI)).mono ?_
      rintro e wb ⟨rfl, hb⟩
      exact hK _ _ (show _ = (.tuple #[.agg #[.int .i64 xa, .int .i64 ya], .int .i64 fa] : Value) from rfl) hb (ext_trans hI hb)
    · intro a kq_ wa K Q _ hI0 hp hK0
      have hI : Below X.heap.size X wa := hI0
      have hK := fun v w' h1 (h2 : Below wa.heap.size wa w') (h3 : Below X.heap.size X w') => hK0 v w' h1 (RelB.of_below h2) h3 (fun e => absurd e (by decide))
      exact op_move _ (.inl rfl) (hK _ _ (hp.dep 5 16 (by kernel_rfl)) (Below.refl _ _) hI)
    · intro a kq_ wa K Q _ hI0 hp hK0
      have hI : Below X.heap.size X wa := hI0
      have hK := fun v w' h1 (h2 : Below wa.heap.size wa w') (h3 : Below X.heap.size X w') => hK0 v w' h1 (RelB.of_below h2) h3 (fun e => absurd e (by decide))
      have e10 := tmp_of (show a.eval (.tmp 10) = .tuple #[.agg #[.int .i64 xa, .int .i64 ya], .int .i64 fa] from hp.dep 6 10 (by kernel_rfl))
      go_simp
      exact hK _ _ rfl (Below.refl _ _) hI
    · intro a kq_ wa K Q _ hI0 hp hK0
      have hI : Below X.heap.size X wa := hI0
      have hK := fun v w' h1 (h2 : Below wa.heap.size wa w') (h3 : Below X.heap.size X w') => hK0 v w' h1 (RelB.of_below h2) h3 (fun e => absurd e (by decide))
      have e10 := tmp_of (show a.eval (.tmp 10) = .tuple #[.agg #[.int .i64 xa, .int .i64 ya], .int .i64 fa] from hp.dep 6 10 (by kernel_rfl))
      go_simp
      exact hK _ _ rfl (Below.refl _ _) hI
    · intro a kq_ wa K Q _ hI0 hp hK0
      have hI : Below X.heap.size X wa := hI0
      have hK := fun v w' h1 (h2 : Below wa.heap.size wa w') (h3 : Below X.heap.size X w') => hK0 v w' h1 (RelB.of_below h2) h3 (fun e => absurd e (by decide))
      go_simp
      exact hK _ _ ⟨_, rfl, hI.size, _, heap_alloc_new _ _, rfl⟩ (below_alloc _ _) (ext_alloc hI _)
    · intro a kq_ wa K Q _ hI0 hp hK0
      have hI : Below X.heap.size X wa := hI0
      obtain ⟨g8, eB, hgB, cs8, hg8, hcs8⟩ := (show BoxV X 87 2 wa (a.eval (.tmp 7)) from hp.base (by kernel_rfl))
      have eB2 := tmp_of eB
      have e17 := tmp_of (show a.eval (.tmp 17) = .agg #[.int .i64 xa, .int .i64 ya] from hp.dep 7 17 (by kernel_rfl))
      obtain ⟨hr8, hb8, hg9⟩ := nbox_put (N := 10) (.int .i64 xa) (.int .i64 ya) hgB hg8 hcs8 hI
      obtain ⟨c80, c81, d80, d81, f80, f81⟩ := nbox_cells hg8 hcs8
      go_simp
      exact hK0 (.tuple #[]) _ trivial hr8 hb8 (fun _ => ⟨g8, eB, hgB, hg9⟩)
    · intro a kq_ wa K Q _ hI0 hp hK0
      have hI : Below X.heap.size X wa := hI0
      have hK := fun v w' h1 (h2 : Below wa.heap.size wa w') (h3 : Below X.heap.size X w') => hK0 v w' h1 (RelB.of_below h2) h3 (fun e => absurd e (by decide))
      exact op_move _ (.inr rfl) (hK _ _ (hp.dep 8 18 (by kernel_rfl)) (Below.refl _ _) hI)
  case fin1 =>
    intro f w2 hT hBx hI0
    have hI : Below X.heap.size X w2 := hI0
    have hr : (f 11) = .int .i64 fa := hT 11 (by decide) rfl
    clear hT hI0
    obtain ⟨ga, eA, hgA, hqA⟩ := hBx
    simp only [putAll, eA, hr]
    have HB2 := Lib.hid (ext_trans HB.out hI)
    have HI2 := Lib.hid hI
    have HQ3 := Lib.hid (block_in HQ3.out hI)
    have HQ4 := Lib.hid (block_in HQ4.out hI)
    have HQA := Lib.hid hqA
    obtain ⟨p0, p1, p2, p3, p4⟩ := cells5 (block_in HQ1.out hI)
    obtain ⟨q0, q1, q2, q3⟩ := cells4 (block_in HQ2.out hI)
    have HFE := Lib.hid (HFE.out.below hI)
    replace b0 := below_cell hI b0
    replace b1 := below_cell hI b1
    replace b2 := below_cell hI b2
    replace b3 := below_cell hI b3
    clear hr eA hqA a0 a1 a2 a3 hI
    go_simp
    by_cases e1 : fa = 0
    · have gb : (fa != 0) = false := by simpa using e1
      go_wp2
      refine wp_region_nbox w2 87 2 9 10 9 #[.int .i64 xb, .int .i64 yb] (fun i wz vz => match i with | 9 => BoxV w2 87 2 wz vz | 0 => vz = .agg #[.slice A W.length c, .int .i64 r.who, .int .i64 r.act, .int .i64 r.what, .slice B r.fs.length c2] | 1 => vz = .pointer (some ⟨g + 1, 3, Option.none⟩) | 2 => vz = .slice (some ⟨b, off, none⟩) t.ps.length ct | 3 => vz = .pointer (some ⟨b, off + 4, Option.none⟩) | 4 => vz = .agg #[.int .i64 (exAt t.ps 1).k, .int .i64 (exAt t.ps 1).n, .string (exAt t.ps 1).s, .slice A4 (exAt t.ps 1).ps.length c4] | 5 => vz = .tuple #[.agg #[.int .i64 xb, .int .i64 yb], .int .i64 fb] | 6 => vz = .tuple #[.agg #[.int .i64 xb, .int .i64 yb], .int .i64 fb] | 7 => vz = .agg #[.int .i64 xb, .int .i64 yb] | 8 => vz = .int .i64 fb | 11 => vz = .int .i64 fb | _ => True) (by kernel_rfl) (by kernel_rfl) (by kernel_rfl) rfl (by kernel_rfl) (fun _ _ h => h) (fun _ _ h => h) ?stab4 ?all4 (by decide) ?fin4
      case stab4 =>
        intro i wa wb v hne hT
        match i, hne, hT with
        | 0, _, hT => exact hT
        | 1, _, hT => exact hT
        | 2, _, hT => exact hT
        | 3, _, hT => exact hT
        | 4, _, hT => exact hT
        | 5, _, hT => exact hT
        | 6, _, hT => exact hT
        | 7, _, hT => exact hT
        | 8, _, hT => exact hT
        | 11, _, hT => exact hT
        | 9, hne, _ => exact absurd rfl hne
        | 10, _, _ => trivial
        | n + 12, _, _ => trivial
      case all4 =>
        refine RAllL.cons rfl ?_ (RAllL.cons rfl ?_ (RAllL.cons rfl ?_ (RAllL.cons rfl ?_ (RAllL.cons rfl ?_ (RAllL.cons rfl ?_ (RAllL.cons rfl ?_ (RAllL.cons rfl ?_ (RAllL.cons rfl ?_ (RAllL.cons rfl ?_ (RAllL.cons rfl ?_ (RAllL.cons rfl ?_ (RAllL.none_))))))))))))
        · intro a kq_ wa K Q _ hI0 hp hK0
          have hI : Below w2.heap.size w2 wa := hI0
          have hK := fun v w' h1 (h2 : Below wa.heap.size wa w') (h3 : Below w2.heap.size w2 w') => hK0 v w' h1 (RelB.of_below h2) h3 (fun e => absurd e (by decide))
          have e2 := tmp_of (show a.eval (.tmp 2) = .pointer (some ⟨g, 0, none⟩) from hp.keep 2 (by kernel_rfl))
          have p0_ := below_cell hI p0
          have p1_ := below_cell hI p1
          have p2_ := below_cell hI p2
          have p3_ := below_cell hI p3
          have p4_ := below_cell hI p4
          go_simp
          exact hK _ _ rfl (Below.refl _ _) hI
        · intro a kq_ wa K Q _ hI0 hp hK0
          have hI : Below w2.heap.size w2 wa := hI0
          have hK := fun v w' h1 (h2 : Below wa.heap.size wa w') (h3 : Below w2.heap.size w2 w') => hK0 v w' h1 (RelB.of_below h2) h3 (fun e => absurd e (by decide))
          have e3 := tmp_of (show a.eval (.tmp 3) = .pointer (some ⟨g + 1, 0, none⟩) from hp.keep 3 (by kernel_rfl))
          go_simp
          exact hK _ _ rfl (Below.refl _ _) hI
        · intro a kq_ wa K Q _ hI0 hp hK0
          have hI : Below w2.heap.size w2 wa := hI0
          have hK := fun v w' h1 (h2 : Below wa.heap.size wa w') (h3 : Below w2.heap.size w2 w') => hK0 v w' h1 (RelB.of_below h2) h3 (fun e => absurd e (by decide))
          have e26 := tmp_of (show a.eval (.tmp 26) = .pointer (some ⟨g + 1, 3, Option.none⟩) from hp.dep 1 26 (by kernel_rfl))
          have q3_ := below_cell hI q3
          go_simp
          exact hK _ _ rfl (Below.refl _ _) hI
        · intro a kq_ wa K Q _ hI0 hp hK0
          have hI : Below w2.heap.size w2 wa := hI0
          have hK := fun v w' h1 (h2 : Below wa.heap.size wa w') (h3 : Below w2.heap.size w2 w') => hK0 v w' h1 (RelB.of_below h2) h3 (fun e => absurd e (by decide))
          have e27 := tmp_of (show a.eval (.tmp 27) = .slice (some ⟨b, off, none⟩) t.ps.length ct from hp.dep 2 27 (by kernel_rfl))
          go_simp
          exact hK _ _ rfl (Below.refl _ _) hI
        · intro a kq_ wa K Q _ hI0 hp hK0
          have hI : Below w2.heap.size w2 wa := hI0
          have hK := fun v w' h1 (h2 : Below wa.heap.size wa w') (h3 : Below w2.heap.size w2 w') => hK0 v w' h1 (RelB.of_below h2) h3 (fun e => absurd e (by decide))
          have e28 := tmp_of (show a.eval (.tmp 28) = .pointer (some ⟨b, off + 4, Option.none⟩) from hp.dep 3 28 (by kernel_rfl))
          have b0_ := below_cell hI b0
          have b1_ := below_cell hI b1
          have b2_ := below_cell hI b2
          have b3_ := below_cell hI b3
          go_simp
          exact hK _ _ rfl (Below.refl _ _) hI
        · intro a kq_ wa K Q _ hI0 hp hK0
          have hI : Below w2.heap.size w2 wa := hI0
          have hK := fun v w' h1 (h2 : Below wa.heap.size wa w') (h3 : Below w2.heap.size w2 w') => hK0 v w' h1 (RelB.of_below h2) h3 (fun e => absurd e (by decide))
          have e25 := tmp_of (show a.eval (.tmp 25) = .agg #[.slice A W.length c, .int .i64 r.who, .int .i64 r.act, .int .i64 r.what, .slice B r.fs.length c2] from hp.dep 0 25 (by kernel_rfl))
          have e29 := tmp_of (show a.eval (.tmp 29) = .agg #[.int .i64 (exAt t.ps 1).k, .int .i64 (exAt t.ps 1).n, .string (exAt t.ps 1).s, .slice A4 (exAt t.ps 1).ps.length c4] from hp.dep 4 29 (by kernel_rfl))
          go_simp
          refine (HBB.out _ _ _ (ext_trans HI2.out hI) (HFE.out.below hI)).mono ?_
          rintro e wb ⟨rfl, hb⟩
          exact hK _ _ (show _ = (.tuple #[.agg #[.int .i64 xb, .int .i64 yb], .int .i64 fb] : Value) from rfl) hb (ext_trans hI hb)
        · intro a kq_ wa K Q _ hI0 hp hK0
          have hI : Below w2.heap.size w2 wa := hI0
          have hK := fun v w' h1 (h2 : Below wa.heap.size wa w') (h3 : Below w2.heap.size w2 w') => hK0 v w' h1 (RelB.of_below h2) h3 (fun e => absurd e (by decide))
          exact op_move _ (.inl rfl) (hK _ _ (hp.dep 5 30 (by kernel_rfl)) (Below.refl _ _) hI)
        · intro a kq_ wa K Q _ hI0 hp hK0
          have hI : Below w2.heap.size w2 wa := hI0
          have hK := fun v w' h1 (h2 : Below wa.heap.size wa w') (h3 : Below w2.heap.size w2 w') => hK0 v w' h1 (RelB.of_below h2) h3 (fun e => absurd e (by decide))
          have e24 := tmp_of (show a.eval (.tmp 24) = .tuple #[.agg #[.int .i64 xb, .int .i64 yb], .int .i64 fb] from hp.dep 6 24 (by kernel_rfl))
          go_simp
          exact hK _ _ rfl (Below.refl _ _) hI
        · intro a kq_ wa K Q _ hI0 hp hK0
          have hI : Below w2.heap.size w2 wa := hI0
          have hK := fun v w' h1 (h2 : Below wa.heap.size wa w') (h3 : Below w2.heap.size w2 w') => hK0 v w' h1 (RelB.of_below h2) h3 (fun e => absurd e (by decide))
          have e24 := tmp_of (show a.eval (.tmp 24) = .tuple #[.agg #[.int .i64 xb, .int .i64 yb], .int .i64 fb] from hp.dep 6 24 (by kernel_rfl))
          go_simp
          exact hK _ _ rfl (Below.refl _ _) hI
        · intro a kq_ wa K Q _ hI0 hp hK0
          have hI : Below w2.heap.size w2 wa := hI0
          have hK := fun v w' h1 (h2 : Below wa.heap.size wa w') (h3 : Below w2.heap.size w2 w') => hK0 v w' h1 (RelB.of_below h2) h3 (fun e => absurd e (by decide))
          go_simp
          exact hK _ _ ⟨_, rfl, hI.size, _, heap_alloc_new _ _, rfl⟩ (below_alloc _ _) (ext_alloc hI _)
        · intro a kq_ wa K Q _ hI0 hp hK0
          have hI : Below w2.heap.size w2 wa := hI0
          obtain ⟨g8, eB, hgB, cs8, hg8, hcs8⟩ := (show BoxV w2 87 2 wa (a.eval (.tmp 9)) from hp.base (by kernel_rfl))
          have eB2 := tmp_of eB
          have e31 := tmp_of (show a.eval (.tmp 31) = .agg #[.int .i64 xb, .int .i64 yb] from hp.dep 7 31 (by kernel_rfl))
          obtain ⟨hr8, hb8, hg9⟩ := nbox_put (N := 10) (.int .i64 xb) (.int .i64 yb) hgB hg8 hcs8 hI
          obtain ⟨c80, c81, d80, d81, f80, f81⟩ := nbox_cells hg8 hcs8
          go_simp
          exact hK0 (.tuple #[]) _ trivial hr8 hb8 (fun _ => ⟨g8, eB, hgB, hg9⟩)
        · intro a kq_ wa K Q _ hI0 hp hK0
          have hI : Below w2.heap.size w2 wa := hI0
          have hK := fun v w' h1 (h2 : Below wa.heap.size wa w') (h3 : Below w2.heap.size w2 w') => hK0 v w' h1 (RelB.of_below h2) h3 (fun e => absurd e (by decide))
          exact op_move _ (.inr rfl) (hK _ _ (hp.dep 8 32 (by kernel_rfl)) (Below.refl _ _) hI)
      case fin4 =>
        intro f w3 hT hBx hI0
        have hI : Below w2.heap.size w2 w3 := hI0
        have hr : (f 11) = .int .i64 fb := hT 11 (by decide) rfl
        clear hT hI0
        obtain ⟨gb2, eB, hgB, hqB⟩ := hBx
        simp only [putAll, eB, hr]
        have HB3 := Lib.hid (ext_trans HB2.out hI)
        have HQ3 := Lib.hid (block_in HQ3.out hI)
        have HQ4 := Lib.hid (block_in HQ4.out hI)
        obtain ⟨u0, u1⟩ := cells2 (block_in HQA.out hI)
        obtain ⟨v0, v1⟩ := cells2 hqB
        obtain ⟨z0, z1⟩ := cells2 HQ3.out
        obtain ⟨f0, f1⟩ := froz2 HQ3.out
        obtain ⟨s0, s1⟩ := cells2 HQ4.out
        obtain ⟨h0, h1⟩ := froz2 HQ4.out
        have hga : ga ≠ g + 1 + 1 ∧ ga ≠ g + 1 + 1 + 1 := by have := HGB.out.2; omega
        have hgb : gb2 ≠ g + 1 + 1 ∧ gb2 ≠ g + 1 + 1 + 1 := by have := HGB.out.2; have := HI2.out.size; omega
        obtain ⟨n1, n2⟩ := hga
        obtain ⟨n3, n4⟩ := hgb
        have m1 := Ne.symm n1
        have m2 := Ne.symm n2
        have m3 := Ne.symm n3
        have m4 := Ne.symm n4
        clear hr eB hqB b0 b1 b2 b3 hI p0 p1 p2 p3 p4 q0 q1 q2 q3
        go_simp
        go_wp2
        go_region
        obtain ⟨k1, k2⟩ := box2_put (.int .i64 xa) (.int .i64 ya) (.int .i64 xb) (.int .i64 yb) (by omega) HQ3.out HQ4.out rfl rfl
        obtain ⟨r0, r1⟩ := cells2 (w := ((((w3.setCell ⟨g + 1 + 1, 0, none⟩ (.int .i64 xa)).setCell ⟨g + 1 + 1, 1, none⟩ (.int .i64 ya)).setCell ⟨g + 1 + 1 + 1, 0, none⟩ (.int .i64 xb)).setCell ⟨g + 1 + 1 + 1, 1, none⟩ (.int .i64 yb)).drew) k1
        obtain ⟨r2, r3⟩ := cells2 (w := ((((w3.setCell ⟨g + 1 + 1, 0, none⟩ (.int .i64 xa)).setCell ⟨g + 1 + 1, 1, none⟩ (.int .i64 ya)).setCell ⟨g + 1 + 1 + 1, 0, none⟩ (.int .i64 xb)).setCell ⟨g + 1 + 1 + 1, 1, none⟩ (.int .i64 yb)).drew) k2
        have HF := Lib.hid (ext_drew (box_put_below (.int .i64 xb) (.int .i64 yb) (Nat.le_succ_of_le HGB.out.1) (box_put_below (.int .i64 xa) (.int .i64 ya) HGB.out.1 HB3.out)))
        have HE : Hid (twVal (xa, ya, fa) (xb, yb, fb) = .tuple #[.agg #[.int .i64 xa, .int .i64 ya], .agg #[.int .i64 xb, .int .i64 yb], .int .i64 fb]) := Lib.hid (by rw [HT.out, if_neg (by simp [e1])])
        clear k1 k2 e1 gb
        go_wp2
        exact bodyPost_ret (v := .tuple #[.agg #[.int .i64 xa, .int .i64 ya], .agg #[.int .i64 xb, .int .i64 yb], .int .i64 fb]) (by simp [results, go_sem, r0, r1, r2, r3]) rfl ⟨by rw [HE.out], HF.out⟩
    · have gb : (fa != 0) = true := by simpa using e1
      have HE : Hid (twVal (xa, ya, fa) (xb, yb, fb) = .tuple #[.agg #[.int .i64 0, .int .i64 0], .agg #[.int .i64 0, .int .i64 0], .int .i64 fa]) := Lib.hid (by rw [HT.out, if_pos e1])
      obtain ⟨z0, z1⟩ := cells2 HQ3.out
      obtain ⟨f0, f1⟩ := froz2 HQ3.out
      obtain ⟨s0, s1⟩ := cells2 HQ4.out
      obtain ⟨h0, h1⟩ := froz2 HQ4.out
      clear e1 b0 b1 b2 b3 p0 p1 p2 p3 p4 q0 q1 q2 q3
      go_wp2
      obtain ⟨k1, k2⟩ := box2_put (.int .i64 0) (.int .i64 0) (.int .i64 0) (.int .i64 0) (by omega) HQ3.out HQ4.out rfl rfl
      obtain ⟨r0, r1⟩ := cells2 k1
      obtain ⟨r2, r3⟩ := cells2 k2
      exact bodyPost_ret (v := .tuple #[.agg #[.int .i64 0, .int .i64 0], .agg #[.int .i64 0, .int .i64 0], .int .i64 fa]) (by simp [results, go_sem, r0, r1, r2, r3]) rfl ⟨by rw [HE.out], box_put_below _ _ (Nat.le_succ_of_le HGB.out.1) (box_put_below _ _ HGB.out.1 HB2.out)⟩
end Go.Proofs.YtodjokdaofefdaaGreat
/- Values of expressions, by the program. -/
namespace Go.Proofs.YtodjokdaofefdaaGreat
set_option linter.unusedSimpArgs false
set_option linter.unusedVariables false
open Go.RowKit

theorem ex_one {d : Nat} {w : World} {C : Option Addr} {l : ExL} (h : exW (d + 1) w C l) (hn : l.length = 1) : ∃ b off A3 c3, C = some ⟨b, off, none⟩ ∧ exW d w A3 (exAt l 0).ps ∧
    (w.cell? ⟨b, off, none⟩ = some (.int .i64 (exAt l 0).k) ∧ w.cell? ⟨b, off + 1, none⟩ = some (.int .i64 (exAt l 0).n) ∧ w.cell? ⟨b, off + 2, none⟩ = some (.string (exAt l 0).s) ∧ w.cell? ⟨b, off + 3, none⟩ = some (.slice A3 (exAt l 0).ps.length c3)) := by
  obtain ⟨b, off, rfl, hc⟩ := h.cells (by omega)
  obtain ⟨A3, c3, h3, _, a0, a1, a2, a3⟩ := hc 0 (by omega)
  simp only [Nat.zero_mul, Nat.add_zero] at a0 a1 a2 a3
  exact ⟨b, off, A3, c3, rfl, h3, a0, a1, a2, a3⟩
/-- A result box that holds a value; all below as before. -/
def RsB (g B0 : Nat) (x y : Int) (W w : World) : Prop := w.heap[g]? = some (.cells #[.int .i64 x, .int .i64 y] 87 (0, 0)) ∧ Below B0 W w ∧ B0 ≤ w.heap.size
theorem RsB.below {g B0 : Nat} {x y : Int} {W w w' : World} (h : RsB g B0 x y W w) (hb : Below w.heap.size w w') : RsB g B0 x y W w' := ⟨block_in h.1 hb, h.2.1.trans (hb.mono h.2.2), Nat.le_trans h.2.2 hb.size⟩
theorem RsB.put {g B0 : Nat} {x y : Int} {W w : World} {cs : Array Value} (h : w.heap[g]? = some (.cells cs 87 (0, 0))) (hn : cs.size = 2) (hg : B0 ≤ g) (hb : Below B0 W w) : RsB g B0 x y W ((w.setCell ⟨g, 0, none⟩ (.int .i64 x)).setCell ⟨g, 1, none⟩ (.int .i64 y)) :=
  ⟨box_put _ _ h hn, box_put_below _ _ hg hb, by have := (Array.getElem?_eq_some_iff.1 h).1; simp [World.setCell]; omega⟩
set_option maxRecDepth 100000 in
set_option maxHeartbeats 8000000 in
theorem va_1 {d : Nat} {W : WL} {r : Rq} {A B C : Option Addr} {c c2 ct : Nat} {t : Ex} {w : World} (hW : wlR w A W) (hR : fdR w B r.fs) (hU : exW d w C t.ps) (hO : OkW W r) (hg : gdR (d + 1) t = true) (k : t.k = 1) :
    Calls Tryz.prog 76 #[.agg #[.slice A W.length c, .int .i64 r.who, .int .i64 r.act, .int .i64 r.what, .slice B r.fs.length c2], .agg #[.int .i64 t.k, .int .i64 t.n, .string t.s, .slice C t.ps.length ct]] w fun e w' => e = .returned (evVal (ev (d + 1) W r t)) ∧ Below w.heap.size w w' := by
  have HE : Hid (ev (d + 1) W r t = (1, t.n, 0)) := Lib.hid (ev_k1 k)
  have kb1 : (t.k == 1) = true := by rw [k]; rfl
  have kb2 : (t.k == 2) = false := by rw [k]; rfl
  have kb3 : (t.k == 3) = false := by rw [k]; rfl
  have kb4 : (t.k == 4) = false := by rw [k]; rfl
  have kb5 : (t.k == 5) = false := by rw [k]; rfl
  have kb6 : (t.k == 6) = false := by rw [k]; rfl
  have kb7 : (t.k == 7) = false := by rw [k]; rfl
  have kb8 : (t.k == 8) = false := by rw [k]; rfl
  have kb9 : (t.k == 9) = false := by rw [k]; rfl
  have kb10 : (t.k == 10) = false := by rw [k]; rfl
  have kb11 : (t.k == 11) = false := by rw [k]; rfl
  have kb12 : (t.k == 12) = false := by rw [k]; rfl
  have kb13 : (t.k == 13) = false := by rw [k]; rfl
  have kb14 : (t.k == 14) = false := by rw [k]; rfl
  have kb15 : (t.k == 15) = false := by rw [k]; rfl
  clear hU hW hR hO k hg
  go_enter Tryz.func76, Tryz.ntmps76
  go_wp2
  refine bodyPost_ret (v := .tuple #[.agg #[.int .i64 (1), .int .i64 (t.n)], .int .i64 0]) (by simp [results, go_sem]) rfl ⟨by rw [HE.out]; rfl, ?_⟩
  repeat (first | exact Below.refl _ _ | refine ext_alloc ?_ _ | refine Below.setCell ?_ (by (try simp) <;> omega) _)
set_option maxRecDepth 100000 in
set_option maxHeartbeats 8000000 in
theorem va_2 {d : Nat} {W : WL} {r : Rq} {A B C : Option Addr} {c c2 ct : Nat} {t : Ex} {w : World} (hW : wlR w A W) (hR : fdR w B r.fs) (hU : exW d w C t.ps) (hO : OkW W r) (hg : gdR (d + 1) t = true) (k : t.k = 2) :
    Calls Tryz.prog 76 #[.agg #[.slice A W.length c, .int .i64 r.who, .int .i64 r.act, .int .i64 r.what, .slice B r.fs.length c2], .agg #[.int .i64 t.k, .int .i64 t.n, .string t.s, .slice C t.ps.length ct]] w fun e w' => e = .returned (evVal (ev (d + 1) W r t)) ∧ Below w.heap.size w w' := by
  have HE : Hid (ev (d + 1) W r t = (2, t.n, 0)) := Lib.hid (ev_k2 k)
  have kb1 : (t.k == 1) = false := by rw [k]; rfl
  have kb2 : (t.k == 2) = true := by rw [k]; rfl
  have kb3 : (t.k == 3) = false := by rw [k]; rfl
  have kb4 : (t.k == 4) = false := by rw [k]; rfl
  have kb5 : (t.k == 5) = false := by rw [k]; rfl
  have kb6 : (t.k == 6) = false := by rw [k]; rfl
  have kb7 : (t.k == 7) = false := by rw [k]; rfl
  have kb8 : (t.k == 8) = false := by rw [k]; rfl
  have kb9 : (t.k == 9) = false := by rw [k]; rfl
  have kb10 : (t.k == 10) = false := by rw [k]; rfl
  have kb11 : (t.k == 11) = false := by rw [k]; rfl
  have kb12 : (t.k == 12) = false := by rw [k]; rfl
  have kb13 : (t.k == 13) = false := by rw [k]; rfl
  have kb14 : (t.k == 14) = false := by rw [k]; rfl
  have kb15 : (t.k == 15) = false := by rw [k]; rfl
  clear hU hW hR hO k hg
  go_enter Tryz.func76, Tryz.ntmps76
  go_wp2
  refine bodyPost_ret (v := .tuple #[.agg #[.int .i64 (2), .int .i64 (t.n)], .int .i64 0]) (by simp [results, go_sem]) rfl ⟨by rw [HE.out]; rfl, ?_⟩
  repeat (first | exact Below.refl _ _ | refine ext_alloc ?_ _ | refine Below.setCell ?_ (by (try simp) <;> omega) _)
set_option maxRecDepth 100000 in
set_option maxHeartbeats 8000000 in
theorem va_4 {d : Nat} {W : WL} {r : Rq} {A B C : Option Addr} {c c2 ct : Nat} {t : Ex} {w : World} (hW : wlR w A W) (hR : fdR w B r.fs) (hU : exW d w C t.ps) (hO : OkW W r) (hg : gdR (d + 1) t = true) (k : t.k = 4) :
    Calls Tryz.prog 76 #[.agg #[.slice A W.length c, .int .i64 r.who, .int .i64 r.act, .int .i64 r.what, .slice B r.fs.length c2], .agg #[.int .i64 t.k, .int .i64 t.n, .string t.s, .slice C t.ps.length ct]] w fun e w' => e = .returned (evVal (ev (d + 1) W r t)) ∧ Below w.heap.size w w' := by
  have HE : Hid (ev (d + 1) W r t = (3, r.who, 0)) := Lib.hid (ev_k4 k)
  have kb1 : (t.k == 1) = false := by rw [k]; rfl
  have kb2 : (t.k == 2) = false := by rw [k]; rfl
  have kb3 : (t.k == 3) = false := by rw [k]; rfl
  have kb4 : (t.k == 4) = true := by rw [k]; rfl
  have kb5 : (t.k == 5) = false := by rw [k]; rfl
  have kb6 : (t.k == 6) = false := by rw [k]; rfl
  have kb7 : (t.k == 7) = false := by rw [k]; rfl
  have kb8 : (t.k == 8) = false := by rw [k]; rfl
  have kb9 : (t.k == 9) = false := by rw [k]; rfl
  have kb10 : (t.k == 10) = false := by rw [k]; rfl
  have kb11 : (t.k == 11) = false := by rw [k]; rfl
  have kb12 : (t.k == 12) = false := by rw [k]; rfl
  have kb13 : (t.k == 13) = false := by rw [k]; rfl
  have kb14 : (t.k == 14) = false := by rw [k]; rfl
  have kb15 : (t.k == 15) = false := by rw [k]; rfl
  clear hU hW hR hO k hg
  go_enter Tryz.func76, Tryz.ntmps76
  go_wp2
  refine bodyPost_ret (v := .tuple #[.agg #[.int .i64 (3), .int .i64 (r.who)], .int .i64 0]) (by simp [results, go_sem]) rfl ⟨by rw [HE.out]; rfl, ?_⟩
  repeat (first | exact Below.refl _ _ | refine ext_alloc ?_ _ | refine Below.setCell ?_ (by (try simp) <;> omega) _)
set_option maxRecDepth 100000 in
set_option maxHeartbeats 8000000 in
theorem va_5 {d : Nat} {W : WL} {r : Rq} {A B C : Option Addr} {c c2 ct : Nat} {t : Ex} {w : World} (hW : wlR w A W) (hR : fdR w B r.fs) (hU : exW d w C t.ps) (hO : OkW W r) (hg : gdR (d + 1) t = true) (k : t.k = 5) :
    Calls Tryz.prog 76 #[.agg #[.slice A W.length c, .int .i64 r.who, .int .i64 r.act, .int .i64 r.what, .slice B r.fs.length c2], .agg #[.int .i64 t.k, .int .i64 t.n, .string t.s, .slice C t.ps.length ct]] w fun e w' => e = .returned (evVal (ev (d + 1) W r t)) ∧ Below w.heap.size w w' := by
  have HE : Hid (ev (d + 1) W r t = (3, r.what, 0)) := Lib.hid (ev_k5 k)
  have kb1 : (t.k == 1) = false := by rw [k]; rfl
  have kb2 : (t.k == 2) = false := by rw [k]; rfl
  have kb3 : (t.k == 3) = false := by rw [k]; rfl
  have kb4 : (t.k == 4) = false := by rw [k]; rfl
  have kb5 : (t.k == 5) = true := by rw [k]; rfl
  have kb6 : (t.k == 6) = false := by rw [k]; rfl
  have kb7 : (t.k == 7) = false := by rw [k]; rfl
  have kb8 : (t.k == 8) = false := by rw [k]; rfl
  have kb9 : (t.k == 9) = false := by rw [k]; rfl
  have kb10 : (t.k == 10) = false := by rw [k]; rfl
  have kb11 : (t.k == 11) = false := by rw [k]; rfl
  have kb12 : (t.k == 12) = false := by rw [k]; rfl
  have kb13 : (t.k == 13) = false := by rw [k]; rfl
  have kb14 : (t.k == 14) = false := by rw [k]; rfl
  have kb15 : (t.k == 15) = false := by rw [k]; rfl
  clear hU hW hR hO k hg
  go_enter Tryz.func76, Tryz.ntmps76
  go_wp2
  refine bodyPost_ret (v := .tuple #[.agg #[.int .i64 (3), .int .i64 (r.what)], .int .i64 0]) (by simp [results, go_sem]) rfl ⟨by rw [HE.out]; rfl, ?_⟩
  repeat (first | exact Below.refl _ _ | refine ext_alloc ?_ _ | refine Below.setCell ?_ (by (try simp) <;> omega) _)
set_option maxRecDepth 100000 in
set_option maxHeartbeats 8000000 in
theorem va_6 {d : Nat} {W : WL} {r : Rq} {A B C : Option Addr} {c c2 ct : Nat} {t : Ex} {w : World} (hW : wlR w A W) (hR : fdR w B r.fs) (hU : exW d w C t.ps) (hO : OkW W r) (hg : gdR (d + 1) t = true) (k : t.k = 6) :
    Calls Tryz.prog 76 #[.agg #[.slice A W.length c, .int .i64 r.who, .int .i64 r.act, .int .i64 r.what, .slice B r.fs.length c2], .agg #[.int .i64 t.k, .int .i64 t.n, .string t.s, .slice C t.ps.length ct]] w fun e w' => e = .returned (evVal (ev (d + 1) W r t)) ∧ Below w.heap.size w w' := by
  have HE : Hid (ev (d + 1) W r t = (2, r.act, 0)) := Lib.hid (ev_k6 k)
  have kb1 : (t.k == 1) = false := by rw [k]; rfl
  have kb2 : (t.k == 2) = false := by rw [k]; rfl
  have kb3 : (t.k == 3) = false := by rw [k]; rfl
  have kb4 : (t.k == 4) = false := by rw [k]; rfl
  have kb5 : (t.k == 5) = false := by rw [k]; rfl
  have kb6 : (t.k == 6) = true := by rw [k]; rfl
  have kb7 : (t.k == 7) = false := by rw [k]; rfl
  have kb8 : (t.k == 8) = false := by rw [k]; rfl
  have kb9 : (t.k == 9) = false := by rw [k]; rfl
  have kb10 : (t.k == 10) = false := by rw [k]; rfl
  have kb11 : (t.k == 11) = false := by rw [k]; rfl
  have kb12 : (t.k == 12) = false := by rw [k]; rfl
  have kb13 : (t.k == 13) = false := by rw [k]; rfl
  have kb14 : (t.k == 14) = false := by rw [k]; rfl
  have kb15 : (t.k == 15) = false := by rw [k]; rfl
  clear hU hW hR hO k hg
  go_enter Tryz.func76, Tryz.ntmps76
  go_wp2
  refine bodyPost_ret (v := .tuple #[.agg #[.int .i64 (2), .int .i64 (r.act)], .int .i64 0]) (by simp [results, go_sem]) rfl ⟨by rw [HE.out]; rfl, ?_⟩
  repeat (first | exact Below.refl _ _ | refine ext_alloc ?_ _ | refine Below.setCell ?_ (by (try simp) <;> omega) _)
set_option maxRecDepth 100000 in
set_option maxHeartbeats 8000000 in
theorem va_3 {d : Nat} {W : WL} {r : Rq} {A B C : Option Addr} {c c2 ct : Nat} {t : Ex} {w : World} (hW : wlR w A W) (hR : fdR w B r.fs) (hU : exW d w C t.ps) (hO : OkW W r) (hg : gdR (d + 1) t = true) (k : t.k = 3) :
    Calls Tryz.prog 76 #[.agg #[.slice A W.length c, .int .i64 r.who, .int .i64 r.act, .int .i64 r.what, .slice B r.fs.length c2], .agg #[.int .i64 t.k, .int .i64 t.n, .string t.s, .slice C t.ps.length ct]] w fun e w' => e = .returned (evVal (ev (d + 1) W r t)) ∧ Below w.heap.size w w' := by
  obtain ⟨X, hX⟩ : ∃ X, X = ((w.alloc (.cells #[.slice A W.length c, .int .i64 r.who, .int .i64 r.act, .int .i64 r.what, .slice B r.fs.length c2] 110)).alloc (.cells #[.int .i64 t.k, .int .i64 t.n, .string t.s, .slice C t.ps.length ct] 36)).alloc (.cells #[.int .i64 0, .int .i64 0] 87) := ⟨_, rfl⟩
  obtain ⟨g, hgg⟩ : ∃ g, g = w.heap.size := ⟨_, rfl⟩
  have hB : Below w.heap.size w X := by rw [hX]; (repeat (first | exact Below.refl _ _ | refine ext_alloc ?_ _ | refine Below.setCell ?_ (by simp) _))
  have hq1 : X.heap[g]? = some (.cells #[.slice A W.length c, .int .i64 r.who, .int .i64 r.act, .int .i64 r.what, .slice B r.fs.length c2] 110 (0, 0)) := by rw [hX, hgg]; exact block_in (block_in (heap_alloc_new _ _) (below_alloc _ _)) (below_alloc _ _)
  have hq2 : X.heap[g + 1]? = some (.cells #[.int .i64 t.k, .int .i64 t.n, .string t.s, .slice C t.ps.length ct] 36 (0, 0)) := by rw [hX, hgg]; exact block_in (heap_alloc_at (by simp)) (below_alloc _ _)
  have hq3 : X.heap[g + 1 + 1]? = some (.cells #[.int .i64 0, .int .i64 0] 87 (0, 0)) := by rw [hX, hgg]; exact heap_alloc_at (by simp)
  replace hW := hW.below hB
  replace hR := hR.below hB
  replace hU := hU.below hB
  have hlW := hW.len
  have hlR := hR.len
  have hGB : w.heap.size ≤ g + 1 + 1 ∧ g + 1 + 1 < X.heap.size := ⟨by omega, by rw [hX, hgg]; simp⟩
  have har := gd_len hg
  have HX := Lib.hid hX
  have HG := Lib.hid hgg
  have HQ1 := Lib.hid hq1
  have HQ2 := Lib.hid hq2
  have HQ3 := Lib.hid hq3
  have HGB := Lib.hid hGB
  have HB := Lib.hid hB
  have HGD := Lib.hid hg
  obtain ⟨p0, p1, p2, p3, p4⟩ := cells5 hq1
  obtain ⟨q0, q1, q2, q3⟩ := cells4 hq2
  obtain ⟨z0, z1⟩ := cells2 hq3
  obtain ⟨f0, f1⟩ := froz2 hq3
  clear hX hgg hq1 hq2 hq3 hB hGB hg
  have HF : Hid (ev (d + 1) W r t = if thgB W t.n = true then (3, t.n, 0) else evFault 3) := Lib.hid (ev_k3 k)
  have kb1 : (t.k == 1) = false := by rw [k]; rfl
  have kb2 : (t.k == 2) = false := by rw [k]; rfl
  have kb3 : (t.k == 3) = true := by rw [k]; rfl
  have kb4 : (t.k == 4) = false := by rw [k]; rfl
  have kb5 : (t.k == 5) = false := by rw [k]; rfl
  have kb6 : (t.k == 6) = false := by rw [k]; rfl
  have kb7 : (t.k == 7) = false := by rw [k]; rfl
  have kb8 : (t.k == 8) = false := by rw [k]; rfl
  have kb9 : (t.k == 9) = false := by rw [k]; rfl
  have kb10 : (t.k == 10) = false := by rw [k]; rfl
  have kb11 : (t.k == 11) = false := by rw [k]; rfl
  have kb12 : (t.k == 12) = false := by rw [k]; rfl
  have kb13 : (t.k == 13) = false := by rw [k]; rfl
  have kb14 : (t.k == 14) = false := by rw [k]; rfl
  have kb15 : (t.k == 15) = false := by rw [k]; rfl
  clear hU hO k har hR
  go_enter Tryz.func76, Tryz.ntmps76
  go_wp2_with fail
  rw [← HX.out, ← HG.out]
  refine (isThing_any hlW).mono ?_
  rintro e w1 ⟨rfl, hb⟩
  have HB1 := Lib.hid (ext_trans HB.out hb)
  have HQ3 := Lib.hid (block_in HQ3.out hb)
  obtain ⟨q0, q1, q2, q3⟩ := cells4 (block_in HQ2.out hb)
  obtain ⟨z0, z1⟩ := cells2 HQ3.out
  obtain ⟨f0, f1⟩ := froz2 HQ3.out
  clear hb p0 p1 p2 p3 p4 hW
  cases gt : thgB W t.n
  · have HE : Hid (ev (d + 1) W r t = (0, 0, 3)) := Lib.hid (by rw [HF.out, gt]; rfl)
    go_wp2
    obtain ⟨r0, r1⟩ := cells2 (box_put (.int .i64 (0)) (.int .i64 (0)) HQ3.out rfl)
    exact bodyPost_ret (v := .tuple #[.agg #[.int .i64 (0), .int .i64 (0)], .int .i64 (3)]) (by simp [results, go_sem, r0, r1]) rfl ⟨by rw [HE.out]; rfl, box_put_below _ _ HGB.out.1 HB1.out⟩
  · have HE : Hid (ev (d + 1) W r t = (3, t.n, 0)) := Lib.hid (by rw [HF.out, gt]; rfl)
    go_wp2
    obtain ⟨r0, r1⟩ := cells2 (box_put (.int .i64 (3)) (.int .i64 (t.n)) HQ3.out rfl)
    exact bodyPost_ret (v := .tuple #[.agg #[.int .i64 (3), .int .i64 (t.n)], .int .i64 (0)]) (by simp [results, go_sem, r0, r1]) rfl ⟨by rw [HE.out]; rfl, box_put_below _ _ HGB.out.1 HB1.out⟩
set_option maxRecDepth 100000 in
set_option maxHeartbeats 8000000 in
theorem va_7 {d : Nat} {W : WL} {r : Rq} {A B C : Option Addr} {c c2 ct : Nat} {t : Ex} {w : World} (hW : wlR w A W) (hR : fdR w B r.fs) (hU : exW d w C t.ps) (hO : OkW W r) (hg : gdR (d + 1) t = true) (k : t.k = 7) :
    Calls Tryz.prog 76 #[.agg #[.slice A W.length c, .int .i64 r.who, .int .i64 r.act, .int .i64 r.what, .slice B r.fs.length c2], .agg #[.int .i64 t.k, .int .i64 t.n, .string t.s, .slice C t.ps.length ct]] w fun e w' => e = .returned (evVal (ev (d + 1) W r t)) ∧ Below w.heap.size w w' := by
  obtain ⟨X, hX⟩ : ∃ X, X = ((w.alloc (.cells #[.slice A W.length c, .int .i64 r.who, .int .i64 r.act, .int .i64 r.what, .slice B r.fs.length c2] 110)).alloc (.cells #[.int .i64 t.k, .int .i64 t.n, .string t.s, .slice C t.ps.length ct] 36)).alloc (.cells #[.int .i64 0, .int .i64 0] 87) := ⟨_, rfl⟩
  obtain ⟨g, hgg⟩ : ∃ g, g = w.heap.size := ⟨_, rfl⟩
  have hB : Below w.heap.size w X := by rw [hX]; (repeat (first | exact Below.refl _ _ | refine ext_alloc ?_ _ | refine Below.setCell ?_ (by simp) _))
  have hq1 : X.heap[g]? = some (.cells #[.slice A W.length c, .int .i64 r.who, .int .i64 r.act, .int .i64 r.what, .slice B r.fs.length c2] 110 (0, 0)) := by rw [hX, hgg]; exact block_in (block_in (heap_alloc_new _ _) (below_alloc _ _)) (below_alloc _ _)
  have hq2 : X.heap[g + 1]? = some (.cells #[.int .i64 t.k, .int .i64 t.n, .string t.s, .slice C t.ps.length ct] 36 (0, 0)) := by rw [hX, hgg]; exact block_in (heap_alloc_at (by simp)) (below_alloc _ _)
  have hq3 : X.heap[g + 1 + 1]? = some (.cells #[.int .i64 0, .int .i64 0] 87 (0, 0)) := by rw [hX, hgg]; exact heap_alloc_at (by simp)
  replace hW := hW.below hB
  replace hR := hR.below hB
  replace hU := hU.below hB
  have hlW := hW.len
  have hlR := hR.len
  have hGB : w.heap.size ≤ g + 1 + 1 ∧ g + 1 + 1 < X.heap.size := ⟨by omega, by rw [hX, hgg]; simp⟩
  have har := gd_len hg
  have HX := Lib.hid hX
  have HG := Lib.hid hgg
  have HQ1 := Lib.hid hq1
  have HQ2 := Lib.hid hq2
  have HQ3 := Lib.hid hq3
  have HGB := Lib.hid hGB
  have HB := Lib.hid hB
  have HGD := Lib.hid hg
  obtain ⟨p0, p1, p2, p3, p4⟩ := cells5 hq1
  obtain ⟨q0, q1, q2, q3⟩ := cells4 hq2
  obtain ⟨z0, z1⟩ := cells2 hq3
  obtain ⟨f0, f1⟩ := froz2 hq3
  clear hX hgg hq1 hq2 hq3 hB hGB hg
  have HF : Hid (ev (d + 1) W r t = evOf (fdOf r.fs t.s)) := Lib.hid (ev_k7 k)
  have kb1 : (t.k == 1) = false := by rw [k]; rfl
  have kb2 : (t.k == 2) = false := by rw [k]; rfl
  have kb3 : (t.k == 3) = false := by rw [k]; rfl
  have kb4 : (t.k == 4) = false := by rw [k]; rfl
  have kb5 : (t.k == 5) = false := by rw [k]; rfl
  have kb6 : (t.k == 6) = false := by rw [k]; rfl
  have kb7 : (t.k == 7) = true := by rw [k]; rfl
  have kb8 : (t.k == 8) = false := by rw [k]; rfl
  have kb9 : (t.k == 9) = false := by rw [k]; rfl
  have kb10 : (t.k == 10) = false := by rw [k]; rfl
  have kb11 : (t.k == 11) = false := by rw [k]; rfl
  have kb12 : (t.k == 12) = false := by rw [k]; rfl
  have kb13 : (t.k == 13) = false := by rw [k]; rfl
  have kb14 : (t.k == 14) = false := by rw [k]; rfl
  have kb15 : (t.k == 15) = false := by rw [k]; rfl
  clear hU hO k har hW
  go_enter Tryz.func76, Tryz.ntmps76
  go_wp2_with fail
  rw [← HX.out, ← HG.out]
  refine (implFieldOf hR).mono ?_
  rintro e w1 ⟨rfl, hb⟩
  clear p0 p1 p2 p3 p4 q0 q1 q2 q3 z0 z1 f0 f1
  cases ho : fdOf r.fs t.s with
  | none =>
    have HE : Hid (ev (d + 1) W r t = (0, 0, 2)) := Lib.hid (by rw [HF.out, ho]; rfl)
    have HB1 := Lib.hid (ext_alloc (ext_trans HB.out hb) (.cells #[.int .i64 0, .int .i64 0] 87))
    have HQ3 := Lib.hid (block_in (block_in HQ3.out hb) (below_alloc w1 (.cells #[.int .i64 0, .int .i64 0] 87)))
    obtain ⟨z0, z1⟩ := cells2 HQ3.out
    obtain ⟨f0, f1⟩ := froz2 HQ3.out
    simp only [fdVal, fdV, Option.getD_none, Option.isSome_none]
    clear hb
    go_wp2
    obtain ⟨r0, r1⟩ := cells2 (box_put (.int .i64 (0)) (.int .i64 (0)) HQ3.out rfl)
    exact bodyPost_ret (v := .tuple #[.agg #[.int .i64 (0), .int .i64 (0)], .int .i64 (2)]) (by simp [results, go_sem, r0, r1]) rfl ⟨by rw [HE.out]; rfl, box_put_below _ _ HGB.out.1 HB1.out⟩
  | some v =>
    obtain ⟨x, y⟩ := v
    have HE : Hid (ev (d + 1) W r t = (x, y, 0)) := Lib.hid (by rw [HF.out, ho]; rfl)
    have HB1 := Lib.hid (ext_alloc (ext_trans HB.out hb) (.cells #[.int .i64 x, .int .i64 y] 87))
    have HQ3 := Lib.hid (block_in (block_in HQ3.out hb) (below_alloc w1 (.cells #[.int .i64 x, .int .i64 y] 87)))
    obtain ⟨z0, z1⟩ := cells2 HQ3.out
    obtain ⟨f0, f1⟩ := froz2 HQ3.out
    have y0 := box_cell w1 #[.int .i64 x, .int .i64 y] 87 0 _ rfl
    have y1 := box_cell w1 #[.int .i64 x, .int .i64 y] 87 1 _ rfl
    simp only [fdVal, fdV, Option.getD_some, Option.isSome_some]
    clear hb
    go_wp2
    obtain ⟨r0, r1⟩ := cells2 (box_put (.int .i64 (x)) (.int .i64 (y)) HQ3.out rfl)
    exact bodyPost_ret (v := .tuple #[.agg #[.int .i64 (x), .int .i64 (y)], .int .i64 (0)]) (by simp [results, go_sem, r0, r1]) rfl ⟨by rw [HE.out]; rfl, box_put_below _ _ HGB.out.1 HB1.out⟩
end Go.Proofs.YtodjokdaofefdaaGreat

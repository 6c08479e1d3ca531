/- Values of expressions that compare, by the program. -/
import Derived.Test.YtodjokdaofefdaaGreatQ15
import Derived.Test.YtodjokdaofefdaaGreatQ8
namespace Go.Proofs.YtodjokdaofefdaaGreat
set_option linter.unusedSimpArgs false
set_option linter.unusedVariables false
open Go.RowKit

set_option maxRecDepth 100000 in
set_option maxHeartbeats 8000000 in
theorem va_10 {m : Nat} (hQ : EvQ m) {W : WL} {r : Rq} {A B C : Option Addr} {c c2 ct : Nat} {t : Ex} {w : World} (hW : wlR w A W) (hR : fdR w B r.fs) (hU : exW (m + 1) w C t.ps) (hO : OkW W r) (hg : gdR (m + 1 + 1) t = true) (k : t.k = 10) :
    Calls Tryz.prog 76 #[.agg #[.slice A W.length c, .int .i64 r.who, .int .i64 r.act, .int .i64 r.what, .slice B r.fs.length c2], .agg #[.int .i64 t.k, .int .i64 t.n, .string t.s, .slice C t.ps.length ct]] w fun e w' => e = .returned (evVal (ev (m + 1 + 1) W r t)) ∧ Below w.heap.size w w' := by
  obtain ⟨X, hX⟩ : ∃ X, X = ((w.alloc (.cells #[.slice A W.length c, .int .i64 r.who, .int .i64 r.act, .int .i64 r.what, .slice B r.fs.length c2] 110)).alloc (.cells #[.int .i64 t.k, .int .i64 t.n, .string t.s, .slice C t.ps.length ct] 36)).alloc (.cells #[.int .i64 0, .int .i64 0] 87) := ⟨_, rfl⟩
  obtain ⟨g, hgg⟩ : ∃ g, g = w.heap.size := ⟨_, rfl⟩
  have hB : Below w.heap.size w X := by rw [hX]; (repeat (first | exact Below.refl _ _ | refine ext_alloc ?_ _ | refine Below.setCell ?_ (by simp) _))
  have hq1 : X.heap[g]? = some (.cells #[.slice A W.length c, .int .i64 r.who, .int .i64 r.act, .int .i64 r.what, .slice B r.fs.length c2] 110 (0, 0)) := by rw [hX, hgg]; exact block_in (block_in (heap_alloc_new _ _) (below_alloc _ _)) (below_alloc _ _)
  have hq2 : X.heap[g + 1]? = some (.cells #[.int .i64 t.k, .int .i64 t.n, .string t.s, .slice C t.ps.length ct] 36 (0, 0)) := by rw [hX, hgg]; exact block_in (heap_alloc_at (by simp)) (below_alloc _ _)
  have hq3 : X.heap[g + 1 + 1]? = some (.cells #[.int .i64 0, .int .i64 0] 87 (0, 0)) := by rw [hX, hgg]; exact heap_alloc_at (by simp)
  replace hW := hW.below hB
  replace hR := hR.below hB
  replace hU := hU.below hB
  have hlW := hW.len
  have hlR := hR.len
  have hGB : w.heap.size ≤ g + 1 + 1 ∧ g + 1 + 1 < X.heap.size := ⟨by omega, by rw [hX, hgg]; simp⟩
  have har := gd_len hg
  have HX := Lib.hid hX
  have HG := Lib.hid hgg
  have HQ1 := Lib.hid hq1
  have HQ2 := Lib.hid hq2
  have HQ3 := Lib.hid hq3
  have HGB := Lib.hid hGB
  have HB := Lib.hid hB
  have HGD := Lib.hid hg
  obtain ⟨p0, p1, p2, p3, p4⟩ := cells5 hq1
  obtain ⟨q0, q1, q2, q3⟩ := cells4 hq2
  obtain ⟨z0, z1⟩ := cells2 hq3
  obtain ⟨f0, f1⟩ := froz2 hq3
  clear hX hgg hq1 hq2 hq3 hB hGB hg
  rw [k] at har
  have hn2 : t.ps.length = 2 := har
  have hg0 := gd_part HGD.out (k := 0) (by omega)
  have hg1 := gd_part HGD.out (k := 1) (by omega)
  have HT := Lib.hid (two_any (c := c) (c2 := c2) (ct := ct) hQ hW hR hU hO hn2 hg0 hg1)
  obtain ⟨va, hva⟩ : ∃ v, ev (m + 1) W r (exAt t.ps 0) = v := ⟨_, rfl⟩
  obtain ⟨vb, hvb⟩ : ∃ v, ev (m + 1) W r (exAt t.ps 1) = v := ⟨_, rfl⟩
  have hv0 := ev_val hO (m + 1) _ hg0
  have hv1 := ev_val hO (m + 1) _ hg1
  have hev := ev_kp (d := m + 1) (W := W) (r := r) (t := t) (by omega)
  rw [hva, hvb] at HT hev
  rw [hva] at hv0
  rw [hvb] at hv1
  obtain ⟨xa, ya, fa⟩ := va
  obtain ⟨xb, yb, fb⟩ := vb
  have HF0 : Hid (fa ≠ 0 → ev (m + 1 + 1) W r t = (0, 0, fa)) := Lib.hid (fun h => by rw [hev, evPair, if_pos h]; rfl)
  have HF1 : Hid (fa = 0 → fb ≠ 0 → ev (m + 1 + 1) W r t = (0, 0, fb)) := Lib.hid (fun h h2 => by rw [hev, evPair, if_neg (by simpa using h), if_pos h2]; rfl)
  have HF2 : Hid (fa = 0 → fb = 0 → ev (m + 1 + 1) W r t = if xa = xb then evB (decide (ya = yb)) else evFault 1) := Lib.hid (fun h h2 => by
    rw [hev, evPair, if_neg (by simpa using h), if_neg (by simpa using h2), k]
    simp)
  have HV0 : Hid (fa = 0 → vlB xa ya W.length = true) := Lib.hid hv0
  have HV1 : Hid (fb = 0 → vlB xb yb W.length = true) := Lib.hid hv1
  have HWD := Lib.hid hO.wld
  have kb1 : (t.k == 1) = false := by rw [k]; rfl
  have kb2 : (t.k == 2) = false := by rw [k]; rfl
  have kb3 : (t.k == 3) = false := by rw [k]; rfl
  have kb4 : (t.k == 4) = false := by rw [k]; rfl
  have kb5 : (t.k == 5) = false := by rw [k]; rfl
  have kb6 : (t.k == 6) = false := by rw [k]; rfl
  have kb7 : (t.k == 7) = false := by rw [k]; rfl
  have kb8 : (t.k == 8) = false := by rw [k]; rfl
  have kb9 : (t.k == 9) = false := by rw [k]; rfl
  have kb10 : (t.k == 10) = true := by rw [k]; rfl
  have kb11 : (t.k == 11) = false := by rw [k]; rfl
  have kb12 : (t.k == 12) = false := by rw [k]; rfl
  have kb13 : (t.k == 13) = false := by rw [k]; rfl
  have kb14 : (t.k == 14) = false := by rw [k]; rfl
  have kb15 : (t.k == 15) = false := by rw [k]; rfl
  clear hU hR hO k har hva hvb hQ hn2 hg0 hg1 hev hv0 hv1
  go_enter Tryz.func76, Tryz.ntmps76
  go_wp2_with fail
  rw [← HX.out, ← HG.out]
  refine HT.out.mono ?_
  rintro e w1 ⟨rfl, hb⟩
  clear p0 p1 p2 p3 p4 q0 q1 q2 q3 z0 z1 f0 f1 HT
  by_cases e1 : fa = 0
  · subst e1
    have HTW : Hid (twVal (xa, ya, 0) (xb, yb, fb) = .tuple #[.agg #[.int .i64 xa, .int .i64 ya], .agg #[.int .i64 xb, .int .i64 yb], .int .i64 fb]) := Lib.hid rfl
    rw [HTW.out]
    have hb2 : Below w1.heap.size w1 ((w1.alloc (.cells #[.int .i64 xa, .int .i64 ya] 87)).alloc (.cells #[.int .i64 xb, .int .i64 yb] 87)) := by (repeat (first | exact Below.refl _ _ | refine ext_alloc ?_ _ | refine Below.setCell ?_ (by simp) _))
    have HB1 := Lib.hid (ext_trans (ext_trans HB.out hb) hb2)
    have HW1 := Lib.hid ((hW.below hb).below hb2)
    have HQ3 := Lib.hid (block_in (block_in HQ3.out hb) hb2)
    obtain ⟨p0, p1, p2, p3, p4⟩ := cells5 (block_in (block_in HQ1.out hb) hb2)
    obtain ⟨q0, q1, q2, q3⟩ := cells4 (block_in (block_in HQ2.out hb) hb2)
    obtain ⟨z0, z1⟩ := cells2 HQ3.out
    obtain ⟨f0, f1⟩ := froz2 HQ3.out
    obtain ⟨u0, u1⟩ := cells2 (block_in (heap_alloc_new w1 (.cells #[.int .i64 xa, .int .i64 ya] 87)) (below_alloc (w1.alloc (.cells #[.int .i64 xa, .int .i64 ya] 87)) (.cells #[.int .i64 xb, .int .i64 yb] 87)))
    obtain ⟨v0, v1⟩ := cells2 (show ((w1.alloc (.cells #[.int .i64 xa, .int .i64 ya] 87)).alloc (.cells #[.int .i64 xb, .int .i64 yb] 87)).heap[w1.heap.size + 1]? = some _ from heap_alloc_at (by simp))
    clear hb hb2 hW
    by_cases e2 : fb = 0
    · subst e2
      have HE := Lib.hid (HF2.out rfl rfl)
      by_cases e3 : xa = xb
      · rw [if_pos e3] at HE
        have gx : (xa == xb) = true := by simpa using e3
        subst e3
        by_cases e4 : ya = yb
        · have HE1 : Hid (ev (m + 1 + 1) W r t = (1, b01 true, 0)) := Lib.hid (HE.out.trans (by simp [evB, b01, e4]))
          clear HE
          have HE := HE1
          subst e4
          go_wp2_with fail
          refine (truthValue_any _ _).mono ?_
          rintro e w4 ⟨rfl, hb⟩
          have HB4 := Lib.hid (ext_trans HB1.out hb)
          have HQ3 := Lib.hid (block_in HQ3.out hb)
          obtain ⟨z0, z1⟩ := cells2 HQ3.out
          obtain ⟨f0, f1⟩ := froz2 HQ3.out
          clear hb
          go_wp2
          obtain ⟨r0, r1⟩ := cells2 (box_put (.int .i64 (1)) (.int .i64 (b01 (true))) HQ3.out rfl)
          exact bodyPost_ret (v := .tuple #[.agg #[.int .i64 (1), .int .i64 (b01 (true))], .int .i64 (0)]) (by simp [results, go_sem, r0, r1]) rfl ⟨by rw [HE.out]; rfl, box_put_below _ _ HGB.out.1 HB4.out⟩
        · have HE1 : Hid (ev (m + 1 + 1) W r t = (1, b01 false, 0)) := Lib.hid (HE.out.trans (by simp [evB, b01, e4]))
          clear HE
          have HE := HE1
          go_wp2_with fail
          refine (truthValue_any _ _).mono ?_
          rintro e w4 ⟨rfl, hb⟩
          have HB4 := Lib.hid (ext_trans HB1.out hb)
          have HQ3 := Lib.hid (block_in HQ3.out hb)
          obtain ⟨z0, z1⟩ := cells2 HQ3.out
          obtain ⟨f0, f1⟩ := froz2 HQ3.out
          clear hb
          go_wp2
          obtain ⟨r0, r1⟩ := cells2 (box_put (.int .i64 (1)) (.int .i64 (b01 (false))) HQ3.out rfl)
          exact bodyPost_ret (v := .tuple #[.agg #[.int .i64 (1), .int .i64 (b01 (false))], .int .i64 (0)]) (by simp [results, go_sem, r0, r1]) rfl ⟨by rw [HE.out]; rfl, box_put_below _ _ HGB.out.1 HB4.out⟩
      · rw [if_neg e3] at HE
        have gx : (xa == xb) = false := by simpa using e3
        replace HE : Hid (ev (m + 1 + 1) W r t = (0, 0, 1)) := HE
        clear e3
        go_wp2
        obtain ⟨r0, r1⟩ := cells2 (box_put (.int .i64 (0)) (.int .i64 (0)) HQ3.out rfl)
        exact bodyPost_ret (v := .tuple #[.agg #[.int .i64 (0), .int .i64 (0)], .int .i64 (1)]) (by simp [results, go_sem, r0, r1]) rfl ⟨by rw [HE.out]; rfl, box_put_below _ _ HGB.out.1 HB1.out⟩
    · have gb : (fb != 0) = true := by simpa using e2
      have HE := Lib.hid (HF1.out rfl e2)
      clear e2
      go_wp2
      obtain ⟨r0, r1⟩ := cells2 (box_put (.int .i64 (0)) (.int .i64 (0)) HQ3.out rfl)
      exact bodyPost_ret (v := .tuple #[.agg #[.int .i64 (0), .int .i64 (0)], .int .i64 (fb)]) (by simp [results, go_sem, r0, r1]) rfl ⟨by rw [HE.out]; rfl, box_put_below _ _ HGB.out.1 HB1.out⟩
  · have gb : (fa != 0) = true := by simpa using e1
    have HE := Lib.hid (HF0.out e1)
    have HTW : Hid (twVal (xa, ya, fa) (xb, yb, fb) = .tuple #[.agg #[.int .i64 0, .int .i64 0], .agg #[.int .i64 0, .int .i64 0], .int .i64 fa]) := Lib.hid (by unfold twVal; rw [if_pos e1])
    rw [HTW.out]
    have hb2 : Below w1.heap.size w1 ((w1.alloc (.cells #[.int .i64 0, .int .i64 0] 87)).alloc (.cells #[.int .i64 0, .int .i64 0] 87)) := by (repeat (first | exact Below.refl _ _ | refine ext_alloc ?_ _ | refine Below.setCell ?_ (by simp) _))
    have HB1 := Lib.hid (ext_trans (ext_trans HB.out hb) hb2)
    have HQ3 := Lib.hid (block_in (block_in HQ3.out hb) hb2)
    obtain ⟨z0, z1⟩ := cells2 HQ3.out
    obtain ⟨f0, f1⟩ := froz2 HQ3.out
    clear hb hb2 hW e1
    go_wp2
    obtain ⟨r0, r1⟩ := cells2 (box_put (.int .i64 (0)) (.int .i64 (0)) HQ3.out rfl)
    exact bodyPost_ret (v := .tuple #[.agg #[.int .i64 (0), .int .i64 (0)], .int .i64 (fa)]) (by simp [results, go_sem, r0, r1]) rfl ⟨by rw [HE.out]; rfl, box_put_below _ _ HGB.out.1 HB1.out⟩
set_option maxRecDepth 100000 in
set_option maxHeartbeats 8000000 in
theorem va_11 {m : Nat} (hQ : EvQ m) {W : WL} {r : Rq} {A B C : Option Addr} {c c2 ct : Nat} {t : Ex} {w : World} (hW : wlR w A W) (hR : fdR w B r.fs) (hU : exW (m + 1) w C t.ps) (hO : OkW W r) (hg : gdR (m + 1 + 1) t = true) (k : t.k = 11) :
    Calls Tryz.prog 76 #[.agg #[.slice A W.length c, .int .i64 r.who, .int .i64 r.act, .int .i64 r.what, .slice B r.fs.length c2], .agg #[.int .i64 t.k, .int .i64 t.n, .string t.s, .slice C t.ps.length ct]] w fun e w' => e = .returned (evVal (ev (m + 1 + 1) W r t)) ∧ Below w.heap.size w w' := by
  obtain ⟨X, hX⟩ : ∃ X, X = ((w.alloc (.cells #[.slice A W.length c, .int .i64 r.who, .int .i64 r.act, .int .i64 r.what, .slice B r.fs.length c2] 110)).alloc (.cells #[.int .i64 t.k, .int .i64 t.n, .string t.s, .slice C t.ps.length ct] 36)).alloc (.cells #[.int .i64 0, .int .i64 0] 87) := ⟨_, rfl⟩
  obtain ⟨g, hgg⟩ : ∃ g, g = w.heap.size := ⟨_, rfl⟩
  have hB : Below w.heap.size w X := by rw [hX]; (repeat (first | exact Below.refl _ _ | refine ext_alloc ?_ _ | refine Below.setCell ?_ (by simp) _))
  have hq1 : X.heap[g]? = some (.cells #[.slice A W.length c, .int .i64 r.who, .int .i64 r.act, .int .i64 r.what, .slice B r.fs.length c2] 110 (0, 0)) := by rw [hX, hgg]; exact block_in (block_in (heap_alloc_new _ _) (below_alloc _ _)) (below_alloc _ _)
  have hq2 : X.heap[g + 1]? = some (.cells #[.int .i64 t.k, .int .i64 t.n, .string t.s, .slice C t.ps.length ct] 36 (0, 0)) := by rw [hX, hgg]; exact block_in (heap_alloc_at (by simp)) (below_alloc _ _)
  have hq3 : X.heap[g + 1 + 1]? = some (.cells #[.int .i64 0, .int .i64 0] 87 (0, 0)) := by rw [hX, hgg]; exact heap_alloc_at (by simp)
  replace hW := hW.below hB
  replace hR := hR.below hB
  replace hU := hU.below hB
  have hlW := hW.len
  have hlR := hR.len
  have hGB : w.heap.size ≤ g + 1 + 1 ∧ g + 1 + 1 < X.heap.size := ⟨by omega, by rw [hX, hgg]; simp⟩
  have har := gd_len hg
  have HX := Lib.hid hX
  have HG := Lib.hid hgg
  have HQ1 := Lib.hid hq1
  have HQ2 := Lib.hid hq2
  have HQ3 := Lib.hid hq3
  have HGB := Lib.hid hGB
  have HB := Lib.hid hB
  have HGD := Lib.hid hg
  obtain ⟨p0, p1, p2, p3, p4⟩ := cells5 hq1
  obtain ⟨q0, q1, q2, q3⟩ := cells4 hq2
  obtain ⟨z0, z1⟩ := cells2 hq3
  obtain ⟨f0, f1⟩ := froz2 hq3
  clear hX hgg hq1 hq2 hq3 hB hGB hg
  rw [k] at har
  have hn2 : t.ps.length = 2 := har
  have hg0 := gd_part HGD.out (k := 0) (by omega)
  have hg1 := gd_part HGD.out (k := 1) (by omega)
  have HT := Lib.hid (two_any (c := c) (c2 := c2) (ct := ct) hQ hW hR hU hO hn2 hg0 hg1)
  obtain ⟨va, hva⟩ : ∃ v, ev (m + 1) W r (exAt t.ps 0) = v := ⟨_, rfl⟩
  obtain ⟨vb, hvb⟩ : ∃ v, ev (m + 1) W r (exAt t.ps 1) = v := ⟨_, rfl⟩
  have hv0 := ev_val hO (m + 1) _ hg0
  have hv1 := ev_val hO (m + 1) _ hg1
  have hev := ev_kp (d := m + 1) (W := W) (r := r) (t := t) (by omega)
  rw [hva, hvb] at HT hev
  rw [hva] at hv0
  rw [hvb] at hv1
  obtain ⟨xa, ya, fa⟩ := va
  obtain ⟨xb, yb, fb⟩ := vb
  have HF0 : Hid (fa ≠ 0 → ev (m + 1 + 1) W r t = (0, 0, fa)) := Lib.hid (fun h => by rw [hev, evPair, if_pos h]; rfl)
  have HF1 : Hid (fa = 0 → fb ≠ 0 → ev (m + 1 + 1) W r t = (0, 0, fb)) := Lib.hid (fun h h2 => by rw [hev, evPair, if_neg (by simpa using h), if_pos h2]; rfl)
  have HF2 : Hid (fa = 0 → fb = 0 → ev (m + 1 + 1) W r t = if xa = 2 ∧ xb = 2 then evB (decide (ya < yb)) else evFault 1) := Lib.hid (fun h h2 => by
    rw [hev, evPair, if_neg (by simpa using h), if_neg (by simpa using h2), k]
    simp)
  have HV0 : Hid (fa = 0 → vlB xa ya W.length = true) := Lib.hid hv0
  have HV1 : Hid (fb = 0 → vlB xb yb W.length = true) := Lib.hid hv1
  have HWD := Lib.hid hO.wld
  have kb1 : (t.k == 1) = false := by rw [k]; rfl
  have kb2 : (t.k == 2) = false := by rw [k]; rfl
  have kb3 : (t.k == 3) = false := by rw [k]; rfl
  have kb4 : (t.k == 4) = false := by rw [k]; rfl
  have kb5 : (t.k == 5) = false := by rw [k]; rfl
  have kb6 : (t.k == 6) = false := by rw [k]; rfl
  have kb7 : (t.k == 7) = false := by rw [k]; rfl
  have kb8 : (t.k == 8) = false := by rw [k]; rfl
  have kb9 : (t.k == 9) = false := by rw [k]; rfl
  have kb10 : (t.k == 10) = false := by rw [k]; rfl
  have kb11 : (t.k == 11) = true := by rw [k]; rfl
  have kb12 : (t.k == 12) = false := by rw [k]; rfl
  have kb13 : (t.k == 13) = false := by rw [k]; rfl
  have kb14 : (t.k == 14) = false := by rw [k]; rfl
  have kb15 : (t.k == 15) = false := by rw [k]; rfl
  clear hU hR hO k har hva hvb hQ hn2 hg0 hg1 hev hv0 hv1
  go_enter Tryz.func76, Tryz.ntmps76
  go_wp2_with fail
  rw [← HX.out, ← HG.out]
  refine HT.out.mono ?_
  rintro e w1 ⟨rfl, hb⟩
  clear p0 p1 p2 p3 p4 q0 q1 q2 q3 z0 z1 f0 f1 HT
  by_cases e1 : fa = 0
  · subst e1
    have HTW : Hid (twVal (xa, ya, 0) (xb, yb, fb) = .tuple #[.agg #[.int .i64 xa, .int .i64 ya], .agg #[.int .i64 xb, .int .i64 yb], .int .i64 fb]) := Lib.hid rfl
    rw [HTW.out]
    have hb2 : Below w1.heap.size w1 ((w1.alloc (.cells #[.int .i64 xa, .int .i64 ya] 87)).alloc (.cells #[.int .i64 xb, .int .i64 yb] 87)) := by (repeat (first | exact Below.refl _ _ | refine ext_alloc ?_ _ | refine Below.setCell ?_ (by simp) _))
    have HB1 := Lib.hid (ext_trans (ext_trans HB.out hb) hb2)
    have HW1 := Lib.hid ((hW.below hb).below hb2)
    have HQ3 := Lib.hid (block_in (block_in HQ3.out hb) hb2)
    obtain ⟨p0, p1, p2, p3, p4⟩ := cells5 (block_in (block_in HQ1.out hb) hb2)
    obtain ⟨q0, q1, q2, q3⟩ := cells4 (block_in (block_in HQ2.out hb) hb2)
    obtain ⟨z0, z1⟩ := cells2 HQ3.out
    obtain ⟨f0, f1⟩ := froz2 HQ3.out
    obtain ⟨u0, u1⟩ := cells2 (block_in (heap_alloc_new w1 (.cells #[.int .i64 xa, .int .i64 ya] 87)) (below_alloc (w1.alloc (.cells #[.int .i64 xa, .int .i64 ya] 87)) (.cells #[.int .i64 xb, .int .i64 yb] 87)))
    obtain ⟨v0, v1⟩ := cells2 (show ((w1.alloc (.cells #[.int .i64 xa, .int .i64 ya] 87)).alloc (.cells #[.int .i64 xb, .int .i64 yb] 87)).heap[w1.heap.size + 1]? = some _ from heap_alloc_at (by simp))
    clear hb hb2 hW
    by_cases e2 : fb = 0
    · subst e2
      have HE := Lib.hid (HF2.out rfl rfl)
      by_cases e3 : xa = 2
      · have gx : (xa == 2) = true := by simpa using e3
        by_cases e4 : xb = 2
        · have gy : (xb == 2) = true := by simpa using e4
          rw [if_pos ⟨e3, e4⟩] at HE
          subst e3
          subst e4
          replace HE : Hid (ev (m + 1 + 1) W r t = (1, b01 (decide (ya < yb)), 0)) := HE
          go_wp2_with fail
          refine (truthValue_any _ _).mono ?_
          rintro e w4 ⟨rfl, hb⟩
          have HB4 := Lib.hid (ext_trans HB1.out hb)
          have HQ3 := Lib.hid (block_in HQ3.out hb)
          obtain ⟨z0, z1⟩ := cells2 HQ3.out
          obtain ⟨f0, f1⟩ := froz2 HQ3.out
          clear hb
          go_wp2
          obtain ⟨r0, r1⟩ := cells2 (box_put (.int .i64 (1)) (.int .i64 (b01 (decide (ya < yb)))) HQ3.out rfl)
          exact bodyPost_ret (v := .tuple #[.agg #[.int .i64 (1), .int .i64 (b01 (decide (ya < yb)))], .int .i64 (0)]) (by simp [results, go_sem, r0, r1]) rfl ⟨by rw [HE.out]; rfl, box_put_below _ _ HGB.out.1 HB4.out⟩
        · have gy : (xb == 2) = false := by simpa using e4
          rw [if_neg (by rintro ⟨_, h⟩; exact e4 h)] at HE
          replace HE : Hid (ev (m + 1 + 1) W r t = (0, 0, 1)) := HE
          clear e3 e4
          go_wp2
          obtain ⟨r0, r1⟩ := cells2 (box_put (.int .i64 (0)) (.int .i64 (0)) HQ3.out rfl)
          exact bodyPost_ret (v := .tuple #[.agg #[.int .i64 (0), .int .i64 (0)], .int .i64 (1)]) (by simp [results, go_sem, r0, r1]) rfl ⟨by rw [HE.out]; rfl, box_put_below _ _ HGB.out.1 HB1.out⟩
      · have gx : (xa == 2) = false := by simpa using e3
        rw [if_neg (by rintro ⟨h, _⟩; exact e3 h)] at HE
        replace HE : Hid (ev (m + 1 + 1) W r t = (0, 0, 1)) := HE
        clear e3
        go_wp2
        obtain ⟨r0, r1⟩ := cells2 (box_put (.int .i64 (0)) (.int .i64 (0)) HQ3.out rfl)
        exact bodyPost_ret (v := .tuple #[.agg #[.int .i64 (0), .int .i64 (0)], .int .i64 (1)]) (by simp [results, go_sem, r0, r1]) rfl ⟨by rw [HE.out]; rfl, box_put_below _ _ HGB.out.1 HB1.out⟩
    · have gb : (fb != 0) = true := by simpa using e2
      have HE := Lib.hid (HF1.out rfl e2)
      clear e2
      go_wp2
      obtain ⟨r0, r1⟩ := cells2 (box_put (.int .i64 (0)) (.int .i64 (0)) HQ3.out rfl)
      exact bodyPost_ret (v := .tuple #[.agg #[.int .i64 (0), .int .i64 (0)], .int .i64 (fb)]) (by simp [results, go_sem, r0, r1]) rfl ⟨by rw [HE.out]; rfl, box_put_below _ _ HGB.out.1 HB1.out⟩
  · have gb : (fa != 0) = true := by simpa using e1
    have HE := Lib.hid (HF0.out e1)
    have HTW : Hid (twVal (xa, ya, fa) (xb, yb, fb) = .tuple #[.agg #[.int .i64 0, .int .i64 0], .agg #[.int .i64 0, .int .i64 0], .int .i64 fa]) := Lib.hid (by unfold twVal; rw [if_pos e1])
    rw [HTW.out]
    have hb2 : Below w1.heap.size w1 ((w1.alloc (.cells #[.int .i64 0, .int .i64 0] 87)).alloc (.cells #[.int .i64 0, .int .i64 0] 87)) := by (repeat (first | exact Below.refl _ _ | refine ext_alloc ?_ _ | refine Below.setCell ?_ (by simp) _))
    have HB1 := Lib.hid (ext_trans (ext_trans HB.out hb) hb2)
    have HQ3 := Lib.hid (block_in (block_in HQ3.out hb) hb2)
    obtain ⟨z0, z1⟩ := cells2 HQ3.out
    obtain ⟨f0, f1⟩ := froz2 HQ3.out
    clear hb hb2 hW e1
    go_wp2
    obtain ⟨r0, r1⟩ := cells2 (box_put (.int .i64 (0)) (.int .i64 (0)) HQ3.out rfl)
    exact bodyPost_ret (v := .tuple #[.agg #[.int .i64 (0), .int .i64 (0)], .int .i64 (fa)]) (by simp [results, go_sem, r0, r1]) rfl ⟨by rw [HE.out]; rfl, box_put_below _ _ HGB.out.1 HB1.out⟩
set_option maxRecDepth 100000 in
set_option maxHeartbeats 8000000 in
theorem va_12 {m : Nat} (hQ : EvQ m) {W : WL} {r : Rq} {A B C : Option Addr} {c c2 ct : Nat} {t : Ex} {w : World} (hW : wlR w A W) (hR : fdR w B r.fs) (hU : exW (m + 1) w C t.ps) (hO : OkW W r) (hg : gdR (m + 1 + 1) t = true) (k : t.k = 12) :
    Calls Tryz.prog 76 #[.agg #[.slice A W.length c, .int .i64 r.who, .int .i64 r.act, .int .i64 r.what, .slice B r.fs.length c2], .agg #[.int .i64 t.k, .int .i64 t.n, .string t.s, .slice C t.ps.length ct]] w fun e w' => e = .returned (evVal (ev (m + 1 + 1) W r t)) ∧ Below w.heap.size w w' := by
  obtain ⟨X, hX⟩ : ∃ X, X = ((w.alloc (.cells #[.slice A W.length c, .int .i64 r.who, .int .i64 r.act, .int .i64 r.what, .slice B r.fs.length c2] 110)).alloc (.cells #[.int .i64 t.k, .int .i64 t.n, .string t.s, .slice C t.ps.length ct] 36)).alloc (.cells #[.int .i64 0, .int .i64 0] 87) := ⟨_, rfl⟩
  obtain ⟨g, hgg⟩ : ∃ g, g = w.heap.size := ⟨_, rfl⟩
  have hB : Below w.heap.size w X := by rw [hX]; (repeat (first | exact Below.refl _ _ | refine ext_alloc ?_ _ | refine Below.setCell ?_ (by simp) _))
  have hq1 : X.heap[g]? = some (.cells #[.slice A W.length c, .int .i64 r.who, .int .i64 r.act, .int .i64 r.what, .slice B r.fs.length c2] 110 (0, 0)) := by rw [hX, hgg]; exact block_in (block_in (heap_alloc_new _ _) (below_alloc _ _)) (below_alloc _ _)
  have hq2 : X.heap[g + 1]? = some (.cells #[.int .i64 t.k, .int .i64 t.n, .string t.s, .slice C t.ps.length ct] 36 (0, 0)) := by rw [hX, hgg]; exact block_in (heap_alloc_at (by simp)) (below_alloc _ _)
  have hq3 : X.heap[g + 1 + 1]? = some (.cells #[.int .i64 0, .int .i64 0] 87 (0, 0)) := by rw [hX, hgg]; exact heap_alloc_at (by simp)
  replace hW := hW.below hB
  replace hR := hR.below hB
  replace hU := hU.below hB
  have hlW := hW.len
  have hlR := hR.len
  have hGB : w.heap.size ≤ g + 1 + 1 ∧ g + 1 + 1 < X.heap.size := ⟨by omega, by rw [hX, hgg]; simp⟩
  have har := gd_len hg
  have HX := Lib.hid hX
  have HG := Lib.hid hgg
  have HQ1 := Lib.hid hq1
  have HQ2 := Lib.hid hq2
  have HQ3 := Lib.hid hq3
  have HGB := Lib.hid hGB
  have HB := Lib.hid hB
  have HGD := Lib.hid hg
  obtain ⟨p0, p1, p2, p3, p4⟩ := cells5 hq1
  obtain ⟨q0, q1, q2, q3⟩ := cells4 hq2
  obtain ⟨z0, z1⟩ := cells2 hq3
  obtain ⟨f0, f1⟩ := froz2 hq3
  clear hX hgg hq1 hq2 hq3 hB hGB hg
  rw [k] at har
  have hn2 : t.ps.length = 2 := har
  have hg0 := gd_part HGD.out (k := 0) (by omega)
  have hg1 := gd_part HGD.out (k := 1) (by omega)
  have HT := Lib.hid (two_any (c := c) (c2 := c2) (ct := ct) hQ hW hR hU hO hn2 hg0 hg1)
  obtain ⟨va, hva⟩ : ∃ v, ev (m + 1) W r (exAt t.ps 0) = v := ⟨_, rfl⟩
  obtain ⟨vb, hvb⟩ : ∃ v, ev (m + 1) W r (exAt t.ps 1) = v := ⟨_, rfl⟩
  have hv0 := ev_val hO (m + 1) _ hg0
  have hv1 := ev_val hO (m + 1) _ hg1
  have hev := ev_kp (d := m + 1) (W := W) (r := r) (t := t) (by omega)
  rw [hva, hvb] at HT hev
  rw [hva] at hv0
  rw [hvb] at hv1
  obtain ⟨xa, ya, fa⟩ := va
  obtain ⟨xb, yb, fb⟩ := vb
  have HF0 : Hid (fa ≠ 0 → ev (m + 1 + 1) W r t = (0, 0, fa)) := Lib.hid (fun h => by rw [hev, evPair, if_pos h]; rfl)
  have HF1 : Hid (fa = 0 → fb ≠ 0 → ev (m + 1 + 1) W r t = (0, 0, fb)) := Lib.hid (fun h h2 => by rw [hev, evPair, if_neg (by simpa using h), if_pos h2]; rfl)
  have HF2 : Hid (fa = 0 → fb = 0 → ev (m + 1 + 1) W r t = if xa = 3 ∧ xb = 3 then evB (isF W 7 ya yb) else evFault 1) := Lib.hid (fun h h2 => by
    rw [hev, evPair, if_neg (by simpa using h), if_neg (by simpa using h2), k]
    simp)
  have HV0 : Hid (fa = 0 → vlB xa ya W.length = true) := Lib.hid hv0
  have HV1 : Hid (fb = 0 → vlB xb yb W.length = true) := Lib.hid hv1
  have HWD := Lib.hid hO.wld
  have kb1 : (t.k == 1) = false := by rw [k]; rfl
  have kb2 : (t.k == 2) = false := by rw [k]; rfl
  have kb3 : (t.k == 3) = false := by rw [k]; rfl
  have kb4 : (t.k == 4) = false := by rw [k]; rfl
  have kb5 : (t.k == 5) = false := by rw [k]; rfl
  have kb6 : (t.k == 6) = false := by rw [k]; rfl
  have kb7 : (t.k == 7) = false := by rw [k]; rfl
  have kb8 : (t.k == 8) = false := by rw [k]; rfl
  have kb9 : (t.k == 9) = false := by rw [k]; rfl
  have kb10 : (t.k == 10) = false := by rw [k]; rfl
  have kb11 : (t.k == 11) = false := by rw [k]; rfl
  have kb12 : (t.k == 12) = true := by rw [k]; rfl
  have kb13 : (t.k == 13) = false := by rw [k]; rfl
  have kb14 : (t.k == 14) = false := by rw [k]; rfl
  have kb15 : (t.k == 15) = false := by rw [k]; rfl
  clear hU hR hO k har hva hvb hQ hn2 hg0 hg1 hev hv0 hv1
  go_enter Tryz.func76, Tryz.ntmps76
  go_wp2_with fail
  rw [← HX.out, ← HG.out]
  refine HT.out.mono ?_
  rintro e w1 ⟨rfl, hb⟩
  clear p0 p1 p2 p3 p4 q0 q1 q2 q3 z0 z1 f0 f1 HT
  by_cases e1 : fa = 0
  · subst e1
    have HTW : Hid (twVal (xa, ya, 0) (xb, yb, fb) = .tuple #[.agg #[.int .i64 xa, .int .i64 ya], .agg #[.int .i64 xb, .int .i64 yb], .int .i64 fb]) := Lib.hid rfl
    rw [HTW.out]
    have hb2 : Below w1.heap.size w1 ((w1.alloc (.cells #[.int .i64 xa, .int .i64 ya] 87)).alloc (.cells #[.int .i64 xb, .int .i64 yb] 87)) := by (repeat (first | exact Below.refl _ _ | refine ext_alloc ?_ _ | refine Below.setCell ?_ (by simp) _))
    have HB1 := Lib.hid (ext_trans (ext_trans HB.out hb) hb2)
    have HW1 := Lib.hid ((hW.below hb).below hb2)
    have HQ3 := Lib.hid (block_in (block_in HQ3.out hb) hb2)
    obtain ⟨p0, p1, p2, p3, p4⟩ := cells5 (block_in (block_in HQ1.out hb) hb2)
    obtain ⟨q0, q1, q2, q3⟩ := cells4 (block_in (block_in HQ2.out hb) hb2)
    obtain ⟨z0, z1⟩ := cells2 HQ3.out
    obtain ⟨f0, f1⟩ := froz2 HQ3.out
    obtain ⟨u0, u1⟩ := cells2 (block_in (heap_alloc_new w1 (.cells #[.int .i64 xa, .int .i64 ya] 87)) (below_alloc (w1.alloc (.cells #[.int .i64 xa, .int .i64 ya] 87)) (.cells #[.int .i64 xb, .int .i64 yb] 87)))
    obtain ⟨v0, v1⟩ := cells2 (show ((w1.alloc (.cells #[.int .i64 xa, .int .i64 ya] 87)).alloc (.cells #[.int .i64 xb, .int .i64 yb] 87)).heap[w1.heap.size + 1]? = some _ from heap_alloc_at (by simp))
    clear hb hb2 hW
    by_cases e2 : fb = 0
    · subst e2
      have HE := Lib.hid (HF2.out rfl rfl)
      by_cases e3 : xa = 3
      · have gx : (xa == 3) = true := by simpa using e3
        by_cases e4 : xb = 3
        · have gy : (xb == 3) = true := by simpa using e4
          rw [if_pos ⟨e3, e4⟩] at HE
          subst e3
          subst e4
          obtain ⟨a1, a2⟩ := vl_3 (HV0.out rfl)
          obtain ⟨na, rfl⟩ : ∃ n : Nat, ya = n := ⟨ya.toNat, by omega⟩
          have h7 := HWD.out.2
          go_wp2_with fail
          refine (iiQ_all 7 W A c na yb _ HW1.out HWD.out (by omega) (by omega)).mono ?_
          rintro e w3 ⟨rfl, hb⟩
          have HB3 := Lib.hid (ext_trans HB1.out hb)
          have HQ3 := Lib.hid (block_in HQ3.out hb)
          clear hb p0 p1 p2 p3 p4 q0 q1 q2 q3 z0 z1 f0 f1 u0 u1 v0 v1
          replace HE : Hid (ev (m + 1 + 1) W r t = (1, b01 (isF W 7 na yb), 0)) := HE
          go_wp2_with fail
          refine (truthValue_any _ _).mono ?_
          rintro e w4 ⟨rfl, hb⟩
          have HB4 := Lib.hid (ext_trans HB3.out hb)
          have HQ3 := Lib.hid (block_in HQ3.out hb)
          obtain ⟨z0, z1⟩ := cells2 HQ3.out
          obtain ⟨f0, f1⟩ := froz2 HQ3.out
          clear hb
          go_wp2
          obtain ⟨r0, r1⟩ := cells2 (box_put (.int .i64 (1)) (.int .i64 (b01 (isF W 7 na yb))) HQ3.out rfl)
          exact bodyPost_ret (v := .tuple #[.agg #[.int .i64 (1), .int .i64 (b01 (isF W 7 na yb))], .int .i64 (0)]) (by simp [results, go_sem, r0, r1]) rfl ⟨by rw [HE.out]; rfl, box_put_below _ _ HGB.out.1 HB4.out⟩
        · have gy : (xb == 3) = false := by simpa using e4
          rw [if_neg (by rintro ⟨_, h⟩; exact e4 h)] at HE
          replace HE : Hid (ev (m + 1 + 1) W r t = (0, 0, 1)) := HE
          clear e3 e4
          go_wp2
          obtain ⟨r0, r1⟩ := cells2 (box_put (.int .i64 (0)) (.int .i64 (0)) HQ3.out rfl)
          exact bodyPost_ret (v := .tuple #[.agg #[.int .i64 (0), .int .i64 (0)], .int .i64 (1)]) (by simp [results, go_sem, r0, r1]) rfl ⟨by rw [HE.out]; rfl, box_put_below _ _ HGB.out.1 HB1.out⟩
      · have gx : (xa == 3) = false := by simpa using e3
        rw [if_neg (by rintro ⟨h, _⟩; exact e3 h)] at HE
        replace HE : Hid (ev (m + 1 + 1) W r t = (0, 0, 1)) := HE
        clear e3
        go_wp2
        obtain ⟨r0, r1⟩ := cells2 (box_put (.int .i64 (0)) (.int .i64 (0)) HQ3.out rfl)
        exact bodyPost_ret (v := .tuple #[.agg #[.int .i64 (0), .int .i64 (0)], .int .i64 (1)]) (by simp [results, go_sem, r0, r1]) rfl ⟨by rw [HE.out]; rfl, box_put_below _ _ HGB.out.1 HB1.out⟩
    · have gb : (fb != 0) = true := by simpa using e2
      have HE := Lib.hid (HF1.out rfl e2)
      clear e2
      go_wp2
      obtain ⟨r0, r1⟩ := cells2 (box_put (.int .i64 (0)) (.int .i64 (0)) HQ3.out rfl)
      exact bodyPost_ret (v := .tuple #[.agg #[.int .i64 (0), .int .i64 (0)], .int .i64 (fb)]) (by simp [results, go_sem, r0, r1]) rfl ⟨by rw [HE.out]; rfl, box_put_below _ _ HGB.out.1 HB1.out⟩
  · have gb : (fa != 0) = true := by simpa using e1
    have HE := Lib.hid (HF0.out e1)
    have HTW : Hid (twVal (xa, ya, fa) (xb, yb, fb) = .tuple #[.agg #[.int .i64 0, .int .i64 0], .agg #[.int .i64 0, .int .i64 0], .int .i64 fa]) := Lib.hid (by unfold twVal; rw [if_pos e1])
    rw [HTW.out]
    have hb2 : Below w1.heap.size w1 ((w1.alloc (.cells #[.int .i64 0, .int .i64 0] 87)).alloc (.cells #[.int .i64 0, .int .i64 0] 87)) := by (repeat (first | exact Below.refl _ _ | refine ext_alloc ?_ _ | refine Below.setCell ?_ (by simp) _))
    have HB1 := Lib.hid (ext_trans (ext_trans HB.out hb) hb2)
    have HQ3 := Lib.hid (block_in (block_in HQ3.out hb) hb2)
    obtain ⟨z0, z1⟩ := cells2 HQ3.out
    obtain ⟨f0, f1⟩ := froz2 HQ3.out
    clear hb hb2 hW e1
    go_wp2
    obtain ⟨r0, r1⟩ := cells2 (box_put (.int .i64 (0)) (.int .i64 (0)) HQ3.out rfl)
    exact bodyPost_ret (v := .tuple #[.agg #[.int .i64 (0), .int .i64 (0)], .int .i64 (fa)]) (by simp [results, go_sem, r0, r1]) rfl ⟨by rw [HE.out]; rfl, box_put_below _ _ HGB.out.1 HB1.out⟩
theorem evQ_of {d : Nat} (hQ : ∀ m, d = m + 1 → EvQ m) : EvQ d := by
  intro W r A B C c c2 ct t w hW hR hU hO hg
  have hl := gd_len hg
  have parts : 0 < t.ps.length → ∃ m, d = m + 1 := fun h => by
    cases d with
    | zero => have := exS.zero hU; rw [this] at h; simp at h
    | succ m => exact ⟨m, rfl⟩
  have two : ∀ {P : Prop}, 0 < arK t.k → (∀ m, d = m + 1 → P) → P := fun h f => by
    obtain ⟨m, hm⟩ := parts (by rw [hl]; exact h)
    exact f m hm
  rcases gd_k hg with k | k | k | k | k | k | k | k | k | (k | k | k) | k | k | k
  · exact va_1 hW hR hU hO hg k
  · exact va_2 hW hR hU hO hg k
  · exact va_3 hW hR hU hO hg k
  · exact va_4 hW hR hU hO hg k
  · exact va_5 hW hR hU hO hg k
  · exact va_6 hW hR hU hO hg k
  · exact va_7 hW hR hU hO hg k
  · exact two (by rw [k]; decide) (fun m hm => by subst hm; exact va_8 (hQ m rfl) hW hR hU hO hg k)
  · exact two (by rw [k]; decide) (fun m hm => by subst hm; exact va_9 (hQ m rfl) hW hR hU hO hg k)
  · exact two (by rw [k]; decide) (fun m hm => by subst hm; exact va_10 (hQ m rfl) hW hR hU hO hg k)
  · exact two (by rw [k]; decide) (fun m hm => by subst hm; exact va_11 (hQ m rfl) hW hR hU hO hg k)
  · exact two (by rw [k]; decide) (fun m hm => by subst hm; exact va_12 (hQ m rfl) hW hR hU hO hg k)
  · exact two (by rw [k]; decide) (fun m hm => by subst hm; exact va_13 (hQ m rfl) hW hR hU hO hg k)
  · exact two (by rw [k]; decide) (fun m hm => by subst hm; exact va_14 (hQ m rfl) hW hR hU hO hg k)
  · exact two (by rw [k]; decide) (fun m hm => by subst hm; exact va_15 (hQ m rfl) hW hR hU hO hg k)
theorem evQ_all : ∀ d, EvQ d
  | 0 => evQ_of (fun m h => by omega)
  | d + 1 => evQ_of (fun m h => by cases h; exact evQ_all d)
end Go.Proofs.YtodjokdaofefdaaGreat
/- Schemas: names and their kinds, by the program. -/
namespace Go.Proofs.YtodjokdaofefdaaGreat
set_option linter.unusedSimpArgs false
set_option linter.unusedVariables false
open Go.RowKit

set_option maxRecDepth 100000 in
set_option maxHeartbeats 2000000 in
theorem kindIn_any {A : Option Addr} {l : KdL} {c n : Nat} {s : ByteArray} {w : World} (hn : n = l.length) (hU : kdR w A l) :
    Calls Tryz.prog 38 #[.slice A n c, .string s] w fun e w' => e = .returned (.int .i64 (kdIn l s)) ∧ Below w.heap.size w w' := by
  subst hn
  have hlen := hU.len
  go_enter Tryz.func38, Tryz.ntmps38
  go_wp2
  go_loopw [9] (fun i wr => ∃ k : Nat, k ≤ l.length ∧ i = .int .i64 k ∧ Hid (∀ j, j < k → kd0 l j ≠ s) ∧ Below w.heap.size w wr) (fun i _ => l.length - (intOf i).toNat)
  case atStart => exact ⟨0, Nat.zero_le _, rfl, Lib.hid (fun j h => by omega), Below.refl _ _⟩
  case round =>
    rename_i wr
    obtain ⟨k, hk, rfl, HG, hB⟩ := hrel
    by_cases hlt : k < l.length
    · obtain ⟨b, off, rfl, hc⟩ := hU.cells (by omega)
      obtain ⟨c0, c1⟩ := hc k hlt
      replace c0 := below_cell hB c0
      replace c1 := below_cell hB c1
      have y0 := box_cell wr #[.string (kd0 l k), .int .i64 (kd1 l k)] 73 0 (.string (kd0 l k)) rfl
      have y1 := box_cell wr #[.string (kd0 l k), .int .i64 (kd1 l k)] 73 1 (.int .i64 (kd1 l k)) rfl
      replace hB := ext_alloc hB (.cells #[.string (kd0 l k), .int .i64 (kd1 l k)] 73)
      clear hc
      by_cases g : kd0 l k = s
      · have gb := strB_yes g
        have HE := Lib.hid (kdIn_hit hlt HG.out g)
        clear g
        go_wp2
        go_ret
        exact ⟨by rw [HE.out]; rfl, hB⟩
      · have gb := strB_no g
        have HG2 := Lib.hid (all_succ (p := fun j => kd0 l j ≠ s) HG.out g)
        clear g
        go_wp2
        go_roundw
        case rel => exact ⟨k + 1, by omega, by go_num, HG2, hB⟩
        case measure => simp [intOf]; omega
    · obtain rfl : k = l.length := by omega
      have HE := Lib.hid (kdIn_miss HG.out)
      go_wp2
      go_ret
      exact ⟨by rw [HE.out]; rfl, hB⟩
theorem kdR.take {w : World} {A : Option Addr} {l : KdL} (h : kdR w A l) (k : Nat) : kdR w A (l.take k) := RdL.take h k
/-- Both lists of a schema. -/
def scAt (s : Sc) (k : Nat) : KdL := if k = 0 then s.1 else s.2
theorem sc_no {s : Sc} {k : Nat} (h : nmsOk (scAt s k) = false) : scOk s = false := by
  unfold scAt at h
  split at h <;> simp [scOk, h]
set_option maxRecDepth 100000 in
set_option maxHeartbeats 8000000 in
theorem implSchemaValid {A0 A1 : Option Addr} {s : Sc} {c0 c1 : Nat} {w : World} (hU : scR w A0 A1 s) (h0 : WfKd s.1) (h1 : WfKd s.2) (hc0 : s.1.length ≤ c0) (hc1 : s.2.length ≤ c1) :
    Calls Tryz.prog 17 #[scV s A0 c0 A1 c1] w fun e w' => e = .returned (.bool (scOk s)) ∧ Below w.heap.size w w' := by
  unfold scV
  obtain ⟨W, hW⟩ : ∃ W, W = (w.alloc (.cells #[.slice A0 s.1.length c0, .slice A1 s.2.length c1] 25)).alloc (.cells #[.slice A0 s.1.length c0, .slice A1 s.2.length c1] 23) := ⟨_, rfl⟩
  obtain ⟨g, hg⟩ : ∃ g, g = w.heap.size := ⟨_, rfl⟩
  have hB : Below w.heap.size w W := by rw [hW]; (repeat (first | exact Below.refl _ _ | refine ext_alloc ?_ _ | refine Below.setCell ?_ (by simp) _))
  have hq : W.heap[g + 1]? = some (.cells #[.slice A0 s.1.length c0, .slice A1 s.2.length c1] 23 (0, 0)) := by rw [hW, hg]; exact heap_alloc_at (by simp)
  replace hU := hU.below hB
  have HL : Hid (∀ k, k < 2 → ∃ A c, W.cell? ⟨g + 1, k, none⟩ = some (.slice A (scAt s k).length c) ∧ kdR W A (scAt s k) ∧ WfKd (scAt s k) ∧ (scAt s k).length ≤ c) := Lib.hid (fun k hk => by
    obtain ⟨q0, q1⟩ := cells2 hq
    rcases (by omega : k = 0 ∨ k = 1) with rfl | rfl
    · exact ⟨A0, c0, q0, hU.1, h0, hc0⟩
    · exact ⟨A1, c1, q1, hU.2, h1, hc1⟩)
  have HW := Lib.hid hW
  have HG := Lib.hid hg
  clear hW hg hq h0 h1 hU hc0 hc1
  go_enter Tryz.func17, Tryz.ntmps17
  go_wp2_with fail
  rw [← HW.out, ← HG.out]
  go_loopw [13] (fun i wr => ∃ k : Nat, k ≤ 2 ∧ i = .int .i64 k ∧ Hid (∀ j, j < k → nmsOk (scAt s j) = true) ∧ Below W.heap.size W wr) (fun i _ => 2 - (intOf i).toNat)
  case atStart => exact ⟨0, Nat.zero_le _, rfl, Lib.hid (fun j h => by omega), Below.refl _ _⟩
  case round =>
    obtain ⟨k, hk, rfl, HO, hC⟩ := hrel
    by_cases hlt : k < 2
    · obtain ⟨A, c, hcell, hU, hw, hcap⟩ := HL.out k hlt
      replace hcell := below_cell hC hcell
      replace hU := hU.below hC
      have hlen := hU.len
      have HWF := Lib.hid hw
      have HNO : Hid (nmsOk (scAt s k) = false → scOk s = false) := Lib.hid sc_no
      have HYES : Hid (nmsOk (scAt s k) = true → ∀ j, j < k + 1 → nmsOk (scAt s j) = true) := Lib.hid (fun h => all_succ (p := fun j => nmsOk (scAt s j) = true) HO.out h)
      obtain ⟨l, hl⟩ : ∃ l, l = scAt s k := ⟨_, rfl⟩
      rw [← hl] at hcell hU hlen HWF HNO HYES hcap
      clear hl hw
      go_wp2
      go_loopw [19] (fun i w3 => ∃ m : Nat, m ≤ l.length ∧ i = .int .i64 m ∧ Hid (∀ j, j < m → NmP l j) ∧ Below wr.heap.size wr w3) (fun i _ => l.length - (intOf i).toNat)
      case atStart => exact ⟨0, Nat.zero_le _, rfl, Lib.hid (fun j h => by omega), Below.refl _ _⟩
      case round =>
        obtain ⟨m, hm, rfl, HN, hD⟩ := hrel
        by_cases hml : m < l.length
        · obtain ⟨b, off, rfl, hc⟩ := hU.cells (by omega)
          obtain ⟨d0, d1⟩ := hc m hml
          replace d0 := below_cell hD d0
          replace d1 := below_cell hD d1
          clear hc hcell
          have y0 := cell_regrown (box_cell wr #[.string (kd0 l m), .int .i64 (kd1 l m)] 73 0 (.string (kd0 l m)) rfl)
          have y1 := cell_regrown (box_cell wr #[.string (kd0 l m), .int .i64 (kd1 l m)] 73 1 (.int .i64 (kd1 l m)) rfl)
          have hU2 := (hU.below (ext_alloc hD (.cells #[.string (kd0 l m), .int .i64 (kd1 l m)] 73))).take m
          replace hD := ext_alloc hD (.cells #[.string (kd0 l m), .int .i64 (kd1 l m)] 73)
          have HS := Lib.hid (HWF.out.at hml)
          have HSN : Hid ((kdIn (l.take m) (kd0 l m) ≠ 0) ↔ ∃ j, j < m ∧ kd0 l j = kd0 l m) := Lib.hid (seen_iff hml HN.out)
          obtain ⟨q, hq⟩ : ∃ q, kdIn (l.take m) (kd0 l m) = q := ⟨_, rfl⟩
          rw [hq] at HSN
          have hlt : (l.take m).length = m := by rw [List.length_take]; omega
          obtain ⟨b1, g1⟩ : ∃ b, nmOk (kd0 l m) = b := ⟨_, rfl⟩
          have HK : Hid (∀ (d : Nat) (os : Array Obj) (c' : Nat), Calls Tryz.prog 38 #[.slice (some ⟨b, off, none⟩) m c', .string (kd0 l m)] (Sort.grow (redrawn _ d) os) fun e w' => e = .returned (.int .i64 q) ∧ Below _ _ w') := Lib.hid (fun d os c' => hq ▸ kindIn_any (n := m) (c := c') hlt.symm (kdR.regrown hU2 d os))
          have HV := Lib.hid (fun w => implNameValid_v g1 HS.out w)
          have H1 := Lib.hid g1
          clear hlt hq hU2 g1
          cases b1
          · have HE : Hid (scOk s = false) := Lib.hid (HNO.out (nms_no hml (fun h => by have := H1.out.symm.trans h.1; cases this)))
            go_wp2
            refine wp_region_quiet_below (by kernel_rfl) (by kernel_rfl) ?_
            repeat (go_big_quiet_step (first | (go_at_call 31; (with_reducible exact Calls.regrown_of (HV.out _))) | (go_at_call 18; exact Calls.regrown_of (in_any _ _ _ _)) | (go_at_call 38; (with_reducible exact Calls.regrown_of (HK.out _ _ _)))))
            refine wpQuiet_nil ?_
            intro w2 hw'regrown
            replace hD := ext_trans hD (below_of_regrown hw'regrown (Nat.le_refl _))
            clear hw'regrown
            go_wp2
            go_ret
            exact ⟨by rw [HE.out]; rfl, ext_trans (ext_trans hB hC) hD⟩
          · cases g2 : inB (kd1 l m) 1 3
            · have HE : Hid (scOk s = false) := Lib.hid (HNO.out (nms_no hml (fun h => by rw [h.2.1] at g2; cases g2)))
              go_wp2
              refine wp_region_quiet_below (by kernel_rfl) (by kernel_rfl) ?_
              repeat (go_big_quiet_step (first | (go_at_call 31; (with_reducible exact Calls.regrown_of (HV.out _))) | (go_at_call 18; exact Calls.regrown_of (in_any _ _ _ _)) | (go_at_call 38; (with_reducible exact Calls.regrown_of (HK.out _ _ _)))))
              refine wpQuiet_nil ?_
              intro w2 hw'regrown
              replace hD := ext_trans hD (below_of_regrown hw'regrown (Nat.le_refl _))
              clear hw'regrown
              go_wp2
              go_ret
              exact ⟨by rw [HE.out]; rfl, ext_trans (ext_trans hB hC) hD⟩
            · by_cases g3 : q = 0
              · subst g3
                have HN2 : Hid (∀ j, j < m + 1 → NmP l j) := Lib.hid (all_succ (p := NmP l) HN.out ⟨H1.out, g2, fun j hj e => absurd rfl (HSN.out.2 ⟨j, hj, e⟩)⟩)
                go_wp2
                refine wp_region_quiet_below (by kernel_rfl) (by kernel_rfl) ?_
                repeat (go_big_quiet_step (first | (go_at_call 31; (with_reducible exact Calls.regrown_of (HV.out _))) | (go_at_call 18; exact Calls.regrown_of (in_any _ _ _ _)) | (go_at_call 38; (with_reducible exact Calls.regrown_of (HK.out _ _ _)))))
                refine wpQuiet_nil ?_
                intro w2 hw'regrown
                replace hD := ext_trans hD (below_of_regrown hw'regrown (Nat.le_refl _))
                clear hw'regrown
                go_wp2
                go_roundw
                case rel => exact ⟨m + 1, by omega, by go_num, HN2, hD⟩
                case measure => simp [intOf]; omega
              · have HE : Hid (scOk s = false) := Lib.hid (HNO.out (nms_no hml (fun h => by obtain ⟨j, hj, e⟩ := HSN.out.1 g3; exact h.2.2 j hj e)))
                have gq : (q != 0) = true := by simpa using g3
                go_wp2
                refine wp_region_quiet_below (by kernel_rfl) (by kernel_rfl) ?_
                repeat (go_big_quiet_step (first | (go_at_call 31; (with_reducible exact Calls.regrown_of (HV.out _))) | (go_at_call 18; exact Calls.regrown_of (in_any _ _ _ _)) | (go_at_call 38; (with_reducible exact Calls.regrown_of (HK.out _ _ _)))))
                refine wpQuiet_nil ?_
                intro w2 hw'regrown
                replace hD := ext_trans hD (below_of_regrown hw'regrown (Nat.le_refl _))
                clear hw'regrown
                go_wp2
                go_ret
                exact ⟨by rw [HE.out]; rfl, ext_trans (ext_trans hB hC) hD⟩
        · obtain rfl : m = l.length := by omega
          by_cases g : l.length ≤ 6
          · have HY : Hid (∀ j, j < k + 1 → nmsOk (scAt s j) = true) := Lib.hid (HYES.out (cD_yes ⟨HN.out, g⟩))
            go_wp2
            go_roundw
            case rel => exact ⟨k + 1, by omega, by go_num, HY, ext_trans hC hD⟩
            case measure => simp [intOf]; omega
          · have HE : Hid (scOk s = false) := Lib.hid (HNO.out (cD_no (fun h => g h.2)))
            go_wp2
            go_ret
            exact ⟨by rw [HE.out]; rfl, ext_trans (ext_trans hB hC) hD⟩
    · obtain rfl : k = 2 := by omega
      have HE : Hid (scOk s = true) := Lib.hid (by
        have h0 := HO.out 0 (by omega)
        have h1 := HO.out 1 (by omega)
        simp only [scAt, if_true] at h0
        simp only [scAt, Nat.one_ne_zero, if_false] at h1
        rw [scOk, h0, h1]; rfl)
      go_wp2
      go_ret
      exact ⟨by rw [HE.out]; rfl, ext_trans hB hC⟩
end Go.Proofs.YtodjokdaofefdaaGreat

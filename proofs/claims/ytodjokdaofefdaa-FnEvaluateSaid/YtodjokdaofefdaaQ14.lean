/- Values of expressions that compare: by the reference. -/
import Derived.Test.YtodjokdaofefdaaQ13
import Derived.Test.YtodjokdaofefdaaQ9
namespace Go.Proofs.Ytodjokdaofefdaa
set_option linter.unusedSimpArgs false
set_option linter.unusedVariables false
open Go.RowKit

set_option maxRecDepth 100000 in
set_option maxHeartbeats 8000000 in
theorem l6Compare_10 {m : Nat} (hQ : LvQ m) {W : WL} {r : Rq} {A B C : Option Addr} {c c2 ct : Nat} {t : Ex} {w : World} (hW : wlR w A W) (hR : fdR w B r.fs) (hU : exW (m + 1) w C t.ps) (hO : OkW W r) (hn : t.ps.length = 2) (hg : gdR (m + 1 + 1) t = true) (k : t.k = 10) :
    Calls Try.prog 141 #[.slice A W.length c, .agg #[.int .i64 r.who, .int .i64 r.act, .int .i64 r.what, .slice B r.fs.length c2], .agg #[.int .i64 t.k, .int .i64 t.n, .string t.s, .slice C t.ps.length ct]] w fun e w' => e = .returned (evVal (evPair W t.k (ev (m + 1) W r (exAt t.ps 0)) (ev (m + 1) W r (exAt t.ps 1)))) ∧ Below w.heap.size w w' := by
  obtain ⟨X, hX⟩ : ∃ X, X = ((w.alloc (.cells #[.int .i64 r.who, .int .i64 r.act, .int .i64 r.what, .slice B r.fs.length c2] 37)).alloc (.cells #[.int .i64 t.k, .int .i64 t.n, .string t.s, .slice C t.ps.length ct] 28)).alloc (.cells #[.int .i64 0, .int .i64 0] 79) := ⟨_, rfl⟩
  obtain ⟨g, hgg⟩ : ∃ g, g = w.heap.size := ⟨_, rfl⟩
  have hB : Below w.heap.size w X := by rw [hX]; (repeat (first | exact Below.refl _ _ | refine ext_alloc ?_ _ | refine Below.setCell ?_ (by simp) _))
  have hq1 : X.heap[g]? = some (.cells #[.int .i64 r.who, .int .i64 r.act, .int .i64 r.what, .slice B r.fs.length c2] 37 (0, 0)) := by rw [hX, hgg]; exact block_in (block_in (heap_alloc_new _ _) (below_alloc _ _)) (below_alloc _ _)
  have hq2 : X.heap[g + 1]? = some (.cells #[.int .i64 t.k, .int .i64 t.n, .string t.s, .slice C t.ps.length ct] 28 (0, 0)) := by rw [hX, hgg]; exact block_in (heap_alloc_at (by simp)) (below_alloc _ _)
  have hq3 : X.heap[g + 1 + 1]? = some (.cells #[.int .i64 0, .int .i64 0] 79 (0, 0)) := by rw [hX, hgg]; exact heap_alloc_at (by simp)
  replace hW := hW.below hB
  replace hR := hR.below hB
  replace hU := hU.below hB
  have hlW := hW.len
  have hlR := hR.len
  have hGB : w.heap.size ≤ g + 1 + 1 ∧ g + 1 + 1 < X.heap.size := ⟨by omega, by rw [hX, hgg]; simp⟩
  have HX := Lib.hid hX
  have HG := Lib.hid hgg
  have HQ1 := Lib.hid hq1
  have HQ2 := Lib.hid hq2
  have HQ3 := Lib.hid hq3
  have HGB := Lib.hid hGB
  have HB := Lib.hid hB
  obtain ⟨p0, p1, p2, p3⟩ := cells4 hq1
  obtain ⟨q0, q1, q2, q3⟩ := cells4 hq2
  obtain ⟨z0, z1⟩ := cells2 hq3
  obtain ⟨f0, f1⟩ := froz2 hq3
  clear hX hgg hq1 hq2 hq3 hB hGB
  have HT := Lib.hid (l6Pair_any (c := c) (c2 := c2) (ct := ct) hQ hW hR hU hO hn hg)
  have hg0 := gd_part hg (k := 0) (by omega)
  have hg1 := gd_part hg (k := 1) (by omega)
  have hv0 := ev_val hO (m + 1) _ hg0
  have hv1 := ev_val hO (m + 1) _ hg1
  obtain ⟨va, hva⟩ : ∃ v, ev (m + 1) W r (exAt t.ps 0) = v := ⟨_, rfl⟩
  obtain ⟨vb, hvb⟩ : ∃ v, ev (m + 1) W r (exAt t.ps 1) = v := ⟨_, rfl⟩
  rw [hva, hvb] at HT
  rw [hva] at hv0 ⊢
  rw [hvb] at hv1 ⊢
  obtain ⟨xa, ya, fa⟩ := va
  obtain ⟨xb, yb, fb⟩ := vb
  obtain ⟨res, hres⟩ : ∃ v, evPair W t.k (xa, ya, fa) (xb, yb, fb) = v := ⟨_, rfl⟩
  have HF0 : Hid (fa ≠ 0 → res = (0, 0, fa)) := Lib.hid (fun h => by rw [← hres, evPair, if_pos h]; rfl)
  have HF1 : Hid (fa = 0 → fb ≠ 0 → res = (0, 0, fb)) := Lib.hid (fun h h2 => by rw [← hres, evPair, if_neg (by simpa using h), if_pos h2]; rfl)
  have HF2 : Hid (fa = 0 → fb = 0 → res = if xa = xb then evB (decide (ya = yb)) else evFault 1) := Lib.hid (fun h h2 => by
    rw [← hres, evPair, if_neg (by simpa using h), if_neg (by simpa using h2), k]
    simp)
  have HV0 : Hid (fa = 0 → vlB xa ya W.length = true) := Lib.hid hv0
  have HV1 : Hid (fb = 0 → vlB xb yb W.length = true) := Lib.hid hv1
  have HWD := Lib.hid hO.wld
  rw [hres]
  have kb10 : (t.k == 10) = true := by rw [k]; rfl
  have kb11 : (t.k == 11) = false := by rw [k]; rfl
  have kb12 : (t.k == 12) = false := by rw [k]; rfl
  clear hQ hva hvb hO hg hg0 hg1 hn hU hR hv0 hv1 hres k
  go_enter Try.func141, Try.ntmps141
  go_wp2_with fail
  rw [← HX.out, ← HG.out]
  refine HT.out.mono ?_
  rintro e w1 ⟨rfl, hb⟩
  clear p0 p1 p2 p3 q0 q1 q2 q3 z0 z1 f0 f1 HT
  by_cases e1 : fa = 0
  · subst e1
    have HTW : Hid (pairVal (xa, ya, 0) (xb, yb, fb) = .tuple #[.agg #[.int .i64 xa, .int .i64 ya], .agg #[.int .i64 xb, .int .i64 yb], .int .i64 fb]) := Lib.hid rfl
    rw [HTW.out]
    have hb2 : Below w1.heap.size w1 ((w1.alloc (.cells #[.int .i64 xa, .int .i64 ya] 79)).alloc (.cells #[.int .i64 xb, .int .i64 yb] 79)) := by (repeat (first | exact Below.refl _ _ | refine ext_alloc ?_ _ | refine Below.setCell ?_ (by simp) _))
    have HB1 := Lib.hid (ext_trans (ext_trans HB.out hb) hb2)
    have HW1 := Lib.hid ((hW.below hb).below hb2)
    have HQ3 := Lib.hid (block_in (block_in HQ3.out hb) hb2)
    obtain ⟨q0, q1, q2, q3⟩ := cells4 (block_in (block_in HQ2.out hb) hb2)
    obtain ⟨z0, z1⟩ := cells2 HQ3.out
    obtain ⟨f0, f1⟩ := froz2 HQ3.out
    obtain ⟨u0, u1⟩ := cells2 (block_in (heap_alloc_new w1 (.cells #[.int .i64 xa, .int .i64 ya] 79)) (below_alloc (w1.alloc (.cells #[.int .i64 xa, .int .i64 ya] 79)) (.cells #[.int .i64 xb, .int .i64 yb] 79)))
    obtain ⟨v0, v1⟩ := cells2 (show ((w1.alloc (.cells #[.int .i64 xa, .int .i64 ya] 79)).alloc (.cells #[.int .i64 xb, .int .i64 yb] 79)).heap[w1.heap.size + 1]? = some _ from heap_alloc_at (by simp))
    clear hb hb2 hW
    by_cases e2 : fb = 0
    · subst e2
      have HE := Lib.hid (HF2.out rfl rfl)
      by_cases e3 : xa = xb
      · have gx : (xa == xb) = true := by simpa using e3
        rw [if_pos e3] at HE
        clear e3
        replace HE : Hid (res = (1, b01 (ya == yb), 0)) := HE
        go_wp2_with fail
        refine (specTruthOf _ _).mono ?_
        rintro e w4 ⟨rfl, hb⟩
        have HB4 := Lib.hid (ext_trans HB1.out hb)
        have HQ3 := Lib.hid (block_in HQ3.out hb)
        clear z0 z1 f0 f1
        obtain ⟨z0, z1⟩ := cells2 HQ3.out
        obtain ⟨f0, f1⟩ := froz2 HQ3.out
        clear hb q0 q1 q2 q3 u0 u1 v0 v1
        go_wp2
        obtain ⟨r0, r1⟩ := cells2 (box_put (.int .i64 (1)) (.int .i64 (b01 (ya == yb))) HQ3.out rfl)
        exact bodyPost_ret (v := .tuple #[.agg #[.int .i64 (1), .int .i64 (b01 (ya == yb))], .int .i64 (0)]) (by simp [results, go_sem, r0, r1]) rfl ⟨by rw [HE.out]; rfl, box_put_below _ _ HGB.out.1 HB4.out⟩
      · have gx : (xa == xb) = false := by simpa using e3
        rw [if_neg e3] at HE
        replace HE : Hid (res = (0, 0, 1)) := HE
        clear e3
        go_wp2
        obtain ⟨r0, r1⟩ := cells2 (box_put (.int .i64 (0)) (.int .i64 (0)) HQ3.out rfl)
        exact bodyPost_ret (v := .tuple #[.agg #[.int .i64 (0), .int .i64 (0)], .int .i64 (1)]) (by simp [results, go_sem, r0, r1]) rfl ⟨by rw [HE.out]; rfl, box_put_below _ _ HGB.out.1 HB1.out⟩
    · have gb : (fb != 0) = true := by simpa using e2
      have HE := Lib.hid (HF1.out rfl e2)
      clear e2
      go_wp2
      obtain ⟨r0, r1⟩ := cells2 (box_put (.int .i64 (0)) (.int .i64 (0)) HQ3.out rfl)
      exact bodyPost_ret (v := .tuple #[.agg #[.int .i64 (0), .int .i64 (0)], .int .i64 (fb)]) (by simp [results, go_sem, r0, r1]) rfl ⟨by rw [HE.out]; rfl, box_put_below _ _ HGB.out.1 HB1.out⟩
  · have gb : (fa != 0) = true := by simpa using e1
    have HE := Lib.hid (HF0.out e1)
    have HTW : Hid (pairVal (xa, ya, fa) (xb, yb, fb) = .tuple #[.agg #[.int .i64 xa, .int .i64 ya], .agg #[.int .i64 xa, .int .i64 ya], .int .i64 fa]) := Lib.hid (by unfold pairVal; rw [if_pos e1])
    rw [HTW.out]
    have hb2 : Below w1.heap.size w1 ((w1.alloc (.cells #[.int .i64 xa, .int .i64 ya] 79)).alloc (.cells #[.int .i64 xa, .int .i64 ya] 79)) := by (repeat (first | exact Below.refl _ _ | refine ext_alloc ?_ _ | refine Below.setCell ?_ (by simp) _))
    have HB1 := Lib.hid (ext_trans (ext_trans HB.out hb) hb2)
    have HW1 := Lib.hid ((hW.below hb).below hb2)
    have HQ3 := Lib.hid (block_in (block_in HQ3.out hb) hb2)
    obtain ⟨q0, q1, q2, q3⟩ := cells4 (block_in (block_in HQ2.out hb) hb2)
    obtain ⟨z0, z1⟩ := cells2 HQ3.out
    obtain ⟨f0, f1⟩ := froz2 HQ3.out
    obtain ⟨u0, u1⟩ := cells2 (block_in (heap_alloc_new w1 (.cells #[.int .i64 xa, .int .i64 ya] 79)) (below_alloc (w1.alloc (.cells #[.int .i64 xa, .int .i64 ya] 79)) (.cells #[.int .i64 xa, .int .i64 ya] 79)))
    obtain ⟨v0, v1⟩ := cells2 (show ((w1.alloc (.cells #[.int .i64 xa, .int .i64 ya] 79)).alloc (.cells #[.int .i64 xa, .int .i64 ya] 79)).heap[w1.heap.size + 1]? = some _ from heap_alloc_at (by simp))
    clear hb hb2 hW e1
    go_wp2
    obtain ⟨r0, r1⟩ := cells2 (box_put (.int .i64 (0)) (.int .i64 (0)) HQ3.out rfl)
    exact bodyPost_ret (v := .tuple #[.agg #[.int .i64 (0), .int .i64 (0)], .int .i64 (fa)]) (by simp [results, go_sem, r0, r1]) rfl ⟨by rw [HE.out]; rfl, box_put_below _ _ HGB.out.1 HB1.out⟩
set_option maxRecDepth 100000 in
set_option maxHeartbeats 8000000 in
theorem l6Compare_11 {m : Nat} (hQ : LvQ m) {W : WL} {r : Rq} {A B C : Option Addr} {c c2 ct : Nat} {t : Ex} {w : World} (hW : wlR w A W) (hR : fdR w B r.fs) (hU : exW (m + 1) w C t.ps) (hO : OkW W r) (hn : t.ps.length = 2) (hg : gdR (m + 1 + 1) t = true) (k : t.k = 11) :
    Calls Try.prog 141 #[.slice A W.length c, .agg #[.int .i64 r.who, .int .i64 r.act, .int .i64 r.what, .slice B r.fs.length c2], .agg #[.int .i64 t.k, .int .i64 t.n, .string t.s, .slice C t.ps.length ct]] w fun e w' => e = .returned (evVal (evPair W t.k (ev (m + 1) W r (exAt t.ps 0)) (ev (m + 1) W r (exAt t.ps 1)))) ∧ Below w.heap.size w w' := by
  obtain ⟨X, hX⟩ : ∃ X, X = ((w.alloc (.cells #[.int .i64 r.who, .int .i64 r.act, .int .i64 r.what, .slice B r.fs.length c2] 37)).alloc (.cells #[.int .i64 t.k, .int .i64 t.n, .string t.s, .slice C t.ps.length ct] 28)).alloc (.cells #[.int .i64 0, .int .i64 0] 79) := ⟨_, rfl⟩
  obtain ⟨g, hgg⟩ : ∃ g, g = w.heap.size := ⟨_, rfl⟩
  have hB : Below w.heap.size w X := by rw [hX]; (repeat (first | exact Below.refl _ _ | refine ext_alloc ?_ _ | refine Below.setCell ?_ (by simp) _))
  have hq1 : X.heap[g]? = some (.cells #[.int .i64 r.who, .int .i64 r.act, .int .i64 r.what, .slice B r.fs.length c2] 37 (0, 0)) := by rw [hX, hgg]; exact block_in (block_in (heap_alloc_new _ _) (below_alloc _ _)) (below_alloc _ _)
  have hq2 : X.heap[g + 1]? = some (.cells #[.int .i64 t.k, .int .i64 t.n, .string t.s, .slice C t.ps.length ct] 28 (0, 0)) := by rw [hX, hgg]; exact block_in (heap_alloc_at (by simp)) (below_alloc _ _)
  have hq3 : X.heap[g + 1 + 1]? = some (.cells #[.int .i64 0, .int .i64 0] 79 (0, 0)) := by rw [hX, hgg]; exact heap_alloc_at (by simp)
  replace hW := hW.below hB
  replace hR := hR.below hB
  replace hU := hU.below hB
  have hlW := hW.len
  have hlR := hR.len
  have hGB : w.heap.size ≤ g + 1 + 1 ∧ g + 1 + 1 < X.heap.size := ⟨by omega, by rw [hX, hgg]; simp⟩
  have HX := Lib.hid hX
  have HG := Lib.hid hgg
  have HQ1 := Lib.hid hq1
  have HQ2 := Lib.hid hq2
  have HQ3 := Lib.hid hq3
  have HGB := Lib.hid hGB
  have HB := Lib.hid hB
  obtain ⟨p0, p1, p2, p3⟩ := cells4 hq1
  obtain ⟨q0, q1, q2, q3⟩ := cells4 hq2
  obtain ⟨z0, z1⟩ := cells2 hq3
  obtain ⟨f0, f1⟩ := froz2 hq3
  clear hX hgg hq1 hq2 hq3 hB hGB
  have HT := Lib.hid (l6Pair_any (c := c) (c2 := c2) (ct := ct) hQ hW hR hU hO hn hg)
  have hg0 := gd_part hg (k := 0) (by omega)
  have hg1 := gd_part hg (k := 1) (by omega)
  have hv0 := ev_val hO (m + 1) _ hg0
  have hv1 := ev_val hO (m + 1) _ hg1
  obtain ⟨va, hva⟩ : ∃ v, ev (m + 1) W r (exAt t.ps 0) = v := ⟨_, rfl⟩
  obtain ⟨vb, hvb⟩ : ∃ v, ev (m + 1) W r (exAt t.ps 1) = v := ⟨_, rfl⟩
  rw [hva, hvb] at HT
  rw [hva] at hv0 ⊢
  rw [hvb] at hv1 ⊢
  obtain ⟨xa, ya, fa⟩ := va
  obtain ⟨xb, yb, fb⟩ := vb
  obtain ⟨res, hres⟩ : ∃ v, evPair W t.k (xa, ya, fa) (xb, yb, fb) = v := ⟨_, rfl⟩
  have HF0 : Hid (fa ≠ 0 → res = (0, 0, fa)) := Lib.hid (fun h => by rw [← hres, evPair, if_pos h]; rfl)
  have HF1 : Hid (fa = 0 → fb ≠ 0 → res = (0, 0, fb)) := Lib.hid (fun h h2 => by rw [← hres, evPair, if_neg (by simpa using h), if_pos h2]; rfl)
  have HF2 : Hid (fa = 0 → fb = 0 → res = if xa = 2 ∧ xb = 2 then evB (decide (ya < yb)) else evFault 1) := Lib.hid (fun h h2 => by
    rw [← hres, evPair, if_neg (by simpa using h), if_neg (by simpa using h2), k]
    simp)
  have HV0 : Hid (fa = 0 → vlB xa ya W.length = true) := Lib.hid hv0
  have HV1 : Hid (fb = 0 → vlB xb yb W.length = true) := Lib.hid hv1
  have HWD := Lib.hid hO.wld
  rw [hres]
  have kb10 : (t.k == 10) = false := by rw [k]; rfl
  have kb11 : (t.k == 11) = true := by rw [k]; rfl
  have kb12 : (t.k == 12) = false := by rw [k]; rfl
  clear hQ hva hvb hO hg hg0 hg1 hn hU hR hv0 hv1 hres k
  go_enter Try.func141, Try.ntmps141
  go_wp2_with fail
  rw [← HX.out, ← HG.out]
  refine HT.out.mono ?_
  rintro e w1 ⟨rfl, hb⟩
  clear p0 p1 p2 p3 q0 q1 q2 q3 z0 z1 f0 f1 HT
  by_cases e1 : fa = 0
  · subst e1
    have HTW : Hid (pairVal (xa, ya, 0) (xb, yb, fb) = .tuple #[.agg #[.int .i64 xa, .int .i64 ya], .agg #[.int .i64 xb, .int .i64 yb], .int .i64 fb]) := Lib.hid rfl
    rw [HTW.out]
    have hb2 : Below w1.heap.size w1 ((w1.alloc (.cells #[.int .i64 xa, .int .i64 ya] 79)).alloc (.cells #[.int .i64 xb, .int .i64 yb] 79)) := by (repeat (first | exact Below.refl _ _ | refine ext_alloc ?_ _ | refine Below.setCell ?_ (by simp) _))
    have HB1 := Lib.hid (ext_trans (ext_trans HB.out hb) hb2)
    have HW1 := Lib.hid ((hW.below hb).below hb2)
    have HQ3 := Lib.hid (block_in (block_in HQ3.out hb) hb2)
    obtain ⟨q0, q1, q2, q3⟩ := cells4 (block_in (block_in HQ2.out hb) hb2)
    obtain ⟨z0, z1⟩ := cells2 HQ3.out
    obtain ⟨f0, f1⟩ := froz2 HQ3.out
    obtain ⟨u0, u1⟩ := cells2 (block_in (heap_alloc_new w1 (.cells #[.int .i64 xa, .int .i64 ya] 79)) (below_alloc (w1.alloc (.cells #[.int .i64 xa, .int .i64 ya] 79)) (.cells #[.int .i64 xb, .int .i64 yb] 79)))
    obtain ⟨v0, v1⟩ := cells2 (show ((w1.alloc (.cells #[.int .i64 xa, .int .i64 ya] 79)).alloc (.cells #[.int .i64 xb, .int .i64 yb] 79)).heap[w1.heap.size + 1]? = some _ from heap_alloc_at (by simp))
    clear hb hb2 hW
    by_cases e2 : fb = 0
    · subst e2
      have HE := Lib.hid (HF2.out rfl rfl)
      by_cases e3 : xa = 2
      · have gx : (xa == 2) = true := by simpa using e3
        by_cases e4 : xb = 2
        · have gy : (xb == 2) = true := by simpa using e4
          rw [if_pos ⟨e3, e4⟩] at HE
          subst e3
          subst e4
          replace HE : Hid (res = (1, b01 (decide (ya < yb)), 0)) := HE
          go_wp2_with fail
          refine (specTruthOf _ _).mono ?_
          rintro e w4 ⟨rfl, hb⟩
          have HB4 := Lib.hid (ext_trans HB1.out hb)
          have HQ3 := Lib.hid (block_in HQ3.out hb)
          clear z0 z1 f0 f1
          obtain ⟨z0, z1⟩ := cells2 HQ3.out
          obtain ⟨f0, f1⟩ := froz2 HQ3.out
          clear hb q0 q1 q2 q3 u0 u1 v0 v1
          go_wp2
          obtain ⟨r0, r1⟩ := cells2 (box_put (.int .i64 (1)) (.int .i64 (b01 (decide (ya < yb)))) HQ3.out rfl)
          exact bodyPost_ret (v := .tuple #[.agg #[.int .i64 (1), .int .i64 (b01 (decide (ya < yb)))], .int .i64 (0)]) (by simp [results, go_sem, r0, r1]) rfl ⟨by rw [HE.out]; rfl, box_put_below _ _ HGB.out.1 HB4.out⟩
        · have gy : (xb == 2) = false := by simpa using e4
          rw [if_neg (by rintro ⟨_, h⟩; exact e4 h)] at HE
          replace HE : Hid (res = (0, 0, 1)) := HE
          clear e3 e4
          go_wp2
          obtain ⟨r0, r1⟩ := cells2 (box_put (.int .i64 (0)) (.int .i64 (0)) HQ3.out rfl)
          exact bodyPost_ret (v := .tuple #[.agg #[.int .i64 (0), .int .i64 (0)], .int .i64 (1)]) (by simp [results, go_sem, r0, r1]) rfl ⟨by rw [HE.out]; rfl, box_put_below _ _ HGB.out.1 HB1.out⟩
      · have gx : (xa == 2) = false := by simpa using e3
        rw [if_neg (by rintro ⟨h, _⟩; exact e3 h)] at HE
        replace HE : Hid (res = (0, 0, 1)) := HE
        clear e3
        go_wp2
        obtain ⟨r0, r1⟩ := cells2 (box_put (.int .i64 (0)) (.int .i64 (0)) HQ3.out rfl)
        exact bodyPost_ret (v := .tuple #[.agg #[.int .i64 (0), .int .i64 (0)], .int .i64 (1)]) (by simp [results, go_sem, r0, r1]) rfl ⟨by rw [HE.out]; rfl, box_put_below _ _ HGB.out.1 HB1.out⟩
    · have gb : (fb != 0) = true := by simpa using e2
      have HE := Lib.hid (HF1.out rfl e2)
      clear e2
      go_wp2
      obtain ⟨r0, r1⟩ := cells2 (box_put (.int .i64 (0)) (.int .i64 (0)) HQ3.out rfl)
      exact bodyPost_ret (v := .tuple #[.agg #[.int .i64 (0), .int .i64 (0)], .int .i64 (fb)]) (by simp [results, go_sem, r0, r1]) rfl ⟨by rw [HE.out]; rfl, box_put_below _ _ HGB.out.1 HB1.out⟩
  · have gb : (fa != 0) = true := by simpa using e1
    have HE := Lib.hid (HF0.out e1)
    have HTW : Hid (pairVal (xa, ya, fa) (xb, yb, fb) = .tuple #[.agg #[.int .i64 xa, .int .i64 ya], .agg #[.int .i64 xa, .int .i64 ya], .int .i64 fa]) := Lib.hid (by unfold pairVal; rw [if_pos e1])
    rw [HTW.out]
    have hb2 : Below w1.heap.size w1 ((w1.alloc (.cells #[.int .i64 xa, .int .i64 ya] 79)).alloc (.cells #[.int .i64 xa, .int .i64 ya] 79)) := by (repeat (first | exact Below.refl _ _ | refine ext_alloc ?_ _ | refine Below.setCell ?_ (by simp) _))
    have HB1 := Lib.hid (ext_trans (ext_trans HB.out hb) hb2)
    have HW1 := Lib.hid ((hW.below hb).below hb2)
    have HQ3 := Lib.hid (block_in (block_in HQ3.out hb) hb2)
    obtain ⟨q0, q1, q2, q3⟩ := cells4 (block_in (block_in HQ2.out hb) hb2)
    obtain ⟨z0, z1⟩ := cells2 HQ3.out
    obtain ⟨f0, f1⟩ := froz2 HQ3.out
    obtain ⟨u0, u1⟩ := cells2 (block_in (heap_alloc_new w1 (.cells #[.int .i64 xa, .int .i64 ya] 79)) (below_alloc (w1.alloc (.cells #[.int .i64 xa, .int .i64 ya] 79)) (.cells #[.int .i64 xa, .int .i64 ya] 79)))
    obtain ⟨v0, v1⟩ := cells2 (show ((w1.alloc (.cells #[.int .i64 xa, .int .i64 ya] 79)).alloc (.cells #[.int .i64 xa, .int .i64 ya] 79)).heap[w1.heap.size + 1]? = some _ from heap_alloc_at (by simp))
    clear hb hb2 hW e1
    go_wp2
    obtain ⟨r0, r1⟩ := cells2 (box_put (.int .i64 (0)) (.int .i64 (0)) HQ3.out rfl)
    exact bodyPost_ret (v := .tuple #[.agg #[.int .i64 (0), .int .i64 (0)], .int .i64 (fa)]) (by simp [results, go_sem, r0, r1]) rfl ⟨by rw [HE.out]; rfl, box_put_below _ _ HGB.out.1 HB1.out⟩
set_option maxRecDepth 100000 in
set_option maxHeartbeats 8000000 in
theorem l6Compare_12 {m : Nat} (hQ : LvQ m) {W : WL} {r : Rq} {A B C : Option Addr} {c c2 ct : Nat} {t : Ex} {w : World} (hW : wlR w A W) (hR : fdR w B r.fs) (hU : exW (m + 1) w C t.ps) (hO : OkW W r) (hn : t.ps.length = 2) (hg : gdR (m + 1 + 1) t = true) (k : t.k = 12) :
    Calls Try.prog 141 #[.slice A W.length c, .agg #[.int .i64 r.who, .int .i64 r.act, .int .i64 r.what, .slice B r.fs.length c2], .agg #[.int .i64 t.k, .int .i64 t.n, .string t.s, .slice C t.ps.length ct]] w fun e w' => e = .returned (evVal (evPair W t.k (ev (m + 1) W r (exAt t.ps 0)) (ev (m + 1) W r (exAt t.ps 1)))) ∧ Below w.heap.size w w' := by
  obtain ⟨X, hX⟩ : ∃ X, X = ((w.alloc (.cells #[.int .i64 r.who, .int .i64 r.act, .int .i64 r.what, .slice B r.fs.length c2] 37)).alloc (.cells #[.int .i64 t.k, .int .i64 t.n, .string t.s, .slice C t.ps.length ct] 28)).alloc (.cells #[.int .i64 0, .int .i64 0] 79) := ⟨_, rfl⟩
  obtain ⟨g, hgg⟩ : ∃ g, g = w.heap.size := ⟨_, rfl⟩
  have hB : Below w.heap.size w X := by rw [hX]; (repeat (first | exact Below.refl _ _ | refine ext_alloc ?_ _ | refine Below.setCell ?_ (by simp) _))
  have hq1 : X.heap[g]? = some (.cells #[.int .i64 r.who, .int .i64 r.act, .int .i64 r.what, .slice B r.fs.length c2] 37 (0, 0)) := by rw [hX, hgg]; exact block_in (block_in (heap_alloc_new _ _) (below_alloc _ _)) (below_alloc _ _)
  have hq2 : X.heap[g + 1]? = some (.cells #[.int .i64 t.k, .int .i64 t.n, .string t.s, .slice C t.ps.length ct] 28 (0, 0)) := by rw [hX, hgg]; exact block_in (heap_alloc_at (by simp)) (below_alloc _ _)
  have hq3 : X.heap[g + 1 + 1]? = some (.cells #[.int .i64 0, .int .i64 0] 79 (0, 0)) := by rw [hX, hgg]; exact heap_alloc_at (by simp)
  replace hW := hW.below hB
  replace hR := hR.below hB
  replace hU := hU.below hB
  have hlW := hW.len
  have hlR := hR.len
  have hGB : w.heap.size ≤ g + 1 + 1 ∧ g + 1 + 1 < X.heap.size := ⟨by omega, by rw [hX, hgg]; simp⟩
  have HX := Lib.hid hX
  have HG := Lib.hid hgg
  have HQ1 := Lib.hid hq1
  have HQ2 := Lib.hid hq2
  have HQ3 := Lib.hid hq3
  have HGB := Lib.hid hGB
  have HB := Lib.hid hB
  obtain ⟨p0, p1, p2, p3⟩ := cells4 hq1
  obtain ⟨q0, q1, q2, q3⟩ := cells4 hq2
  obtain ⟨z0, z1⟩ := cells2 hq3
  obtain ⟨f0, f1⟩ := froz2 hq3
  clear hX hgg hq1 hq2 hq3 hB hGB
  have HT := Lib.hid (l6Pair_any (c := c) (c2 := c2) (ct := ct) hQ hW hR hU hO hn hg)
  have hg0 := gd_part hg (k := 0) (by omega)
  have hg1 := gd_part hg (k := 1) (by omega)
  have hv0 := ev_val hO (m + 1) _ hg0
  have hv1 := ev_val hO (m + 1) _ hg1
  obtain ⟨va, hva⟩ : ∃ v, ev (m + 1) W r (exAt t.ps 0) = v := ⟨_, rfl⟩
  obtain ⟨vb, hvb⟩ : ∃ v, ev (m + 1) W r (exAt t.ps 1) = v := ⟨_, rfl⟩
  rw [hva, hvb] at HT
  rw [hva] at hv0 ⊢
  rw [hvb] at hv1 ⊢
  obtain ⟨xa, ya, fa⟩ := va
  obtain ⟨xb, yb, fb⟩ := vb
  obtain ⟨res, hres⟩ : ∃ v, evPair W t.k (xa, ya, fa) (xb, yb, fb) = v := ⟨_, rfl⟩
  have HF0 : Hid (fa ≠ 0 → res = (0, 0, fa)) := Lib.hid (fun h => by rw [← hres, evPair, if_pos h]; rfl)
  have HF1 : Hid (fa = 0 → fb ≠ 0 → res = (0, 0, fb)) := Lib.hid (fun h h2 => by rw [← hres, evPair, if_neg (by simpa using h), if_pos h2]; rfl)
  have HF2 : Hid (fa = 0 → fb = 0 → res = if xa = 3 ∧ xb = 3 then evB (isF W 7 ya yb) else evFault 1) := Lib.hid (fun h h2 => by
    rw [← hres, evPair, if_neg (by simpa using h), if_neg (by simpa using h2), k]
    simp)
  have HV0 : Hid (fa = 0 → vlB xa ya W.length = true) := Lib.hid hv0
  have HV1 : Hid (fb = 0 → vlB xb yb W.length = true) := Lib.hid hv1
  have HWD := Lib.hid hO.wld
  rw [hres]
  have kb10 : (t.k == 10) = false := by rw [k]; rfl
  have kb11 : (t.k == 11) = false := by rw [k]; rfl
  have kb12 : (t.k == 12) = true := by rw [k]; rfl
  clear hQ hva hvb hO hg hg0 hg1 hn hU hR hv0 hv1 hres k
  go_enter Try.func141, Try.ntmps141
  go_wp2_with fail
  rw [← HX.out, ← HG.out]
  refine HT.out.mono ?_
  rintro e w1 ⟨rfl, hb⟩
  clear p0 p1 p2 p3 q0 q1 q2 q3 z0 z1 f0 f1 HT
  by_cases e1 : fa = 0
  · subst e1
    have HTW : Hid (pairVal (xa, ya, 0) (xb, yb, fb) = .tuple #[.agg #[.int .i64 xa, .int .i64 ya], .agg #[.int .i64 xb, .int .i64 yb], .int .i64 fb]) := Lib.hid rfl
    rw [HTW.out]
    have hb2 : Below w1.heap.size w1 ((w1.alloc (.cells #[.int .i64 xa, .int .i64 ya] 79)).alloc (.cells #[.int .i64 xb, .int .i64 yb] 79)) := by (repeat (first | exact Below.refl _ _ | refine ext_alloc ?_ _ | refine Below.setCell ?_ (by simp) _))
    have HB1 := Lib.hid (ext_trans (ext_trans HB.out hb) hb2)
    have HW1 := Lib.hid ((hW.below hb).below hb2)
    have HQ3 := Lib.hid (block_in (block_in HQ3.out hb) hb2)
    obtain ⟨q0, q1, q2, q3⟩ := cells4 (block_in (block_in HQ2.out hb) hb2)
    obtain ⟨z0, z1⟩ := cells2 HQ3.out
    obtain ⟨f0, f1⟩ := froz2 HQ3.out
    obtain ⟨u0, u1⟩ := cells2 (block_in (heap_alloc_new w1 (.cells #[.int .i64 xa, .int .i64 ya] 79)) (below_alloc (w1.alloc (.cells #[.int .i64 xa, .int .i64 ya] 79)) (.cells #[.int .i64 xb, .int .i64 yb] 79)))
    obtain ⟨v0, v1⟩ := cells2 (show ((w1.alloc (.cells #[.int .i64 xa, .int .i64 ya] 79)).alloc (.cells #[.int .i64 xb, .int .i64 yb] 79)).heap[w1.heap.size + 1]? = some _ from heap_alloc_at (by simp))
    clear hb hb2 hW
    by_cases e2 : fb = 0
    · subst e2
      have HE := Lib.hid (HF2.out rfl rfl)
      by_cases e3 : xa = 3
      · have gx : (xa == 3) = true := by simpa using e3
        by_cases e4 : xb = 3
        · have gy : (xb == 3) = true := by simpa using e4
          rw [if_pos ⟨e3, e4⟩] at HE
          subst e3
          subst e4
          obtain ⟨a1, a2⟩ := vl_3 (HV0.out rfl)
          obtain ⟨na, rfl⟩ : ∃ n : Nat, ya = n := ⟨ya.toNat, by omega⟩
          have h7 := HWD.out.2
          go_wp2_with fail
          refine (liQ_all 7 W A c na yb _ HW1.out HWD.out (by omega) (by omega)).mono ?_
          rintro e w3 ⟨rfl, hb⟩
          have HB3 := Lib.hid (ext_trans HB1.out hb)
          have HQ3 := Lib.hid (block_in HQ3.out hb)
          clear hb q0 q1 q2 q3 z0 z1 f0 f1 u0 u1 v0 v1
          replace HE : Hid (res = (1, b01 (isF W 7 na yb), 0)) := HE
          go_wp2_with fail
          refine (specTruthOf _ _).mono ?_
          rintro e w4 ⟨rfl, hb⟩
          have HB4 := Lib.hid (ext_trans HB3.out hb)
          have HQ3 := Lib.hid (block_in HQ3.out hb)
          skip
          obtain ⟨z0, z1⟩ := cells2 HQ3.out
          obtain ⟨f0, f1⟩ := froz2 HQ3.out
          clear hb
          go_wp2
          obtain ⟨r0, r1⟩ := cells2 (box_put (.int .i64 (1)) (.int .i64 (b01 (isF W 7 na yb))) HQ3.out rfl)
          exact bodyPost_ret (v := .tuple #[.agg #[.int .i64 (1), .int .i64 (b01 (isF W 7 na yb))], .int .i64 (0)]) (by simp [results, go_sem, r0, r1]) rfl ⟨by rw [HE.out]; rfl, box_put_below _ _ HGB.out.1 HB4.out⟩
        · have gy : (xb == 3) = false := by simpa using e4
          rw [if_neg (by rintro ⟨_, h⟩; exact e4 h)] at HE
          replace HE : Hid (res = (0, 0, 1)) := HE
          clear e3 e4
          go_wp2
          obtain ⟨r0, r1⟩ := cells2 (box_put (.int .i64 (0)) (.int .i64 (0)) HQ3.out rfl)
          exact bodyPost_ret (v := .tuple #[.agg #[.int .i64 (0), .int .i64 (0)], .int .i64 (1)]) (by simp [results, go_sem, r0, r1]) rfl ⟨by rw [HE.out]; rfl, box_put_below _ _ HGB.out.1 HB1.out⟩
      · have gx : (xa == 3) = false := by simpa using e3
        rw [if_neg (by rintro ⟨h, _⟩; exact e3 h)] at HE
        replace HE : Hid (res = (0, 0, 1)) := HE
        clear e3
        go_wp2
        obtain ⟨r0, r1⟩ := cells2 (box_put (.int .i64 (0)) (.int .i64 (0)) HQ3.out rfl)
        exact bodyPost_ret (v := .tuple #[.agg #[.int .i64 (0), .int .i64 (0)], .int .i64 (1)]) (by simp [results, go_sem, r0, r1]) rfl ⟨by rw [HE.out]; rfl, box_put_below _ _ HGB.out.1 HB1.out⟩
    · have gb : (fb != 0) = true := by simpa using e2
      have HE := Lib.hid (HF1.out rfl e2)
      clear e2
      go_wp2
      obtain ⟨r0, r1⟩ := cells2 (box_put (.int .i64 (0)) (.int .i64 (0)) HQ3.out rfl)
      exact bodyPost_ret (v := .tuple #[.agg #[.int .i64 (0), .int .i64 (0)], .int .i64 (fb)]) (by simp [results, go_sem, r0, r1]) rfl ⟨by rw [HE.out]; rfl, box_put_below _ _ HGB.out.1 HB1.out⟩
  · have gb : (fa != 0) = true := by simpa using e1
    have HE := Lib.hid (HF0.out e1)
    have HTW : Hid (pairVal (xa, ya, fa) (xb, yb, fb) = .tuple #[.agg #[.int .i64 xa, .int .i64 ya], .agg #[.int .i64 xa, .int .i64 ya], .int .i64 fa]) := Lib.hid (by unfold pairVal; rw [if_pos e1])
    rw [HTW.out]
    have hb2 : Below w1.heap.size w1 ((w1.alloc (.cells #[.int .i64 xa, .int .i64 ya] 79)).alloc (.cells #[.int .i64 xa, .int .i64 ya] 79)) := by (repeat (first | exact Below.refl _ _ | refine ext_alloc ?_ _ | refine Below.setCell ?_ (by simp) _))
    have HB1 := Lib.hid (ext_trans (ext_trans HB.out hb) hb2)
    have HW1 := Lib.hid ((hW.below hb).below hb2)
    have HQ3 := Lib.hid (block_in (block_in HQ3.out hb) hb2)
    obtain ⟨q0, q1, q2, q3⟩ := cells4 (block_in (block_in HQ2.out hb) hb2)
    obtain ⟨z0, z1⟩ := cells2 HQ3.out
    obtain ⟨f0, f1⟩ := froz2 HQ3.out
    obtain ⟨u0, u1⟩ := cells2 (block_in (heap_alloc_new w1 (.cells #[.int .i64 xa, .int .i64 ya] 79)) (below_alloc (w1.alloc (.cells #[.int .i64 xa, .int .i64 ya] 79)) (.cells #[.int .i64 xa, .int .i64 ya] 79)))
    obtain ⟨v0, v1⟩ := cells2 (show ((w1.alloc (.cells #[.int .i64 xa, .int .i64 ya] 79)).alloc (.cells #[.int .i64 xa, .int .i64 ya] 79)).heap[w1.heap.size + 1]? = some _ from heap_alloc_at (by simp))
    clear hb hb2 hW e1
    go_wp2
    obtain ⟨r0, r1⟩ := cells2 (box_put (.int .i64 (0)) (.int .i64 (0)) HQ3.out rfl)
    exact bodyPost_ret (v := .tuple #[.agg #[.int .i64 (0), .int .i64 (0)], .int .i64 (fa)]) (by simp [results, go_sem, r0, r1]) rfl ⟨by rw [HE.out]; rfl, box_put_below _ _ HGB.out.1 HB1.out⟩
end Go.Proofs.Ytodjokdaofefdaa

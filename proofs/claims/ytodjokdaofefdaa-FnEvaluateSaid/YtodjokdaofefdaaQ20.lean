/- Evaluate, scopes, what applies: by the program. -/
import Derived.Test.YtodjokdaofefdaaQ18
import Derived.Test.YtodjokdaofefdaaQ19
import Derived.Test.YtodjokdaofefdaaQ15
import Derived.Test.YtodjokdaofefdaaQ16
import Derived.Test.YtodjokdaofefdaaQ9
import Derived.Test.YtodjokdaofefdaaQ7
import Derived.Test.YtodjokdaofefdaaQ2
import Derived.Test.YtodjokdaofefdaaQ1
namespace Go.Proofs.Ytodjokdaofefdaa
set_option linter.unusedSimpArgs false
set_option linter.unusedVariables false
open Go.RowKit

noncomputable def evX (d : Nat) (W : WL) (r : Rq) (t : Ex) : Ev := if (exOk t && rqOk W r) = true then ev (d + 1) W r t else (0, 0, -1)
set_option maxRecDepth 100000 in
set_option maxHeartbeats 8000000 in
theorem implEvaluate {d : Nat} {W : WL} {r : Rq} {A B C : Option Addr} {c c2 ct : Nat} {t : Ex} {w : World} (hW : wlR w A W) (hw : WfW W) (hR : fdR w B r.fs) (hf : WfFd r.fs) (hU : exW d w C t.ps) (hs : t.s.size ≤ 9223372036854775807) :
    Calls Try.prog 44 #[.slice A W.length c, rqV r B c2, .agg #[.int .i64 t.k, .int .i64 t.n, .string t.s, .slice C t.ps.length ct]] w fun e w' => e = .returned (evVal (evX d W r t)) ∧ Below w.heap.size w w' := by
  unfold rqV
  have hlen := hW.len
  have hlR := hR.len
  have hin := exS_in hU
  have HF : Hid (evX d W r t = if (exOk t && rqOk W r) = true then ev (d + 1) W r t else (0, 0, -1)) := Lib.hid rfl
  have HV : Hid (exOk t = true → rqOk W r = true → OkW W r ∧ gdR (d + 1) t = true) := Lib.hid (fun h1 h2 => ⟨rq_ok h2, (ok_parts hin h1).1⟩)
  obtain ⟨v, hv⟩ : ∃ v, ev (d + 1) W r t = v := ⟨_, rfl⟩
  have hzz := ev_zero (d + 1) W r t
  rw [hv] at hzz
  rw [hv] at HF
  have HVV := Lib.hid hv
  obtain ⟨x, y, f⟩ := v
  have HZ : Hid (f ≠ 0 → x = 0 ∧ y = 0) := Lib.hid hzz
  obtain ⟨X, hX⟩ : ∃ X, X = ((w.alloc (.cells #[.int .i64 r.who, .int .i64 r.act, .int .i64 r.what, .slice B r.fs.length c2] 37)).alloc (.cells #[.int .i64 t.k, .int .i64 t.n, .string t.s, .slice C t.ps.length ct] 28)).alloc (.cells #[.int .i64 0, .int .i64 0] 79) := ⟨_, rfl⟩
  obtain ⟨g, hg⟩ : ∃ g, g = w.heap.size := ⟨_, rfl⟩
  have hB : Below w.heap.size w X := by rw [hX]; (repeat (first | exact Below.refl _ _ | refine ext_alloc ?_ _ | refine Below.setCell ?_ (by simp) _))
  have hq1 : X.heap[g]? = some (.cells #[.int .i64 r.who, .int .i64 r.act, .int .i64 r.what, .slice B r.fs.length c2] 37 (0, 0)) := by rw [hX, hg]; exact block_in (block_in (heap_alloc_new _ _) (below_alloc _ _)) (below_alloc _ _)
  have hq2 : X.heap[g + 1]? = some (.cells #[.int .i64 t.k, .int .i64 t.n, .string t.s, .slice C t.ps.length ct] 28 (0, 0)) := by rw [hX, hg]; exact block_in (heap_alloc_at (by simp)) (below_alloc _ _)
  have hq3 : X.heap[g + 1 + 1]? = some (.cells #[.int .i64 0, .int .i64 0] 79 (0, 0)) := by rw [hX, hg]; exact heap_alloc_at (by simp)
  replace hW := hW.below hB
  replace hR := hR.below hB
  replace hU := hU.below hB
  have HX := Lib.hid hX
  have HG := Lib.hid hg
  have HQ1 := Lib.hid hq1
  have HQ2 := Lib.hid hq2
  have HQ3 := Lib.hid hq3
  have HGB : Hid (w.heap.size ≤ g + 1 + 1 ∧ g + 1 + 1 < X.heap.size) := Lib.hid ⟨by omega, by rw [hX, hg]; simp⟩
  obtain ⟨p0, p1, p2, p3⟩ := cells4 hq1
  obtain ⟨q0, q1, q2, q3⟩ := cells4 hq2
  clear hX hg hq1 hq2 hq3 hv hzz hin
  go_enter Try.func44, Try.ntmps44
  go_wp2_with fail
  rw [← HX.out, ← HG.out]
  refine (implExprValid hU hs).mono ?_
  rintro e w1 ⟨rfl, hb⟩
  replace hB := ext_trans hB hb
  replace hW := hW.below hb
  replace hR := hR.below hb
  replace hU := hU.below hb
  have HQ1 := Lib.hid (block_in HQ1.out hb)
  have HQ2 := Lib.hid (block_in HQ2.out hb)
  have HQ3 := Lib.hid (block_in HQ3.out hb)
  clear hb p0 p1 p2 p3 q0 q1 q2 q3
  obtain ⟨p0, p1, p2, p3⟩ := cells4 HQ1.out
  obtain ⟨q0, q1, q2, q3⟩ := cells4 HQ2.out
  cases g1 : exOk t
  · have HE : Hid (evX d W r t = (0, 0, -1)) := Lib.hid (by rw [HF.out, g1]; rfl)
    obtain ⟨z0, z1⟩ := cells2 HQ3.out
    obtain ⟨f0, f1⟩ := froz2 HQ3.out
    go_wp2
    obtain ⟨r0, r1⟩ := cells2 (box_put (.int .i64 (0)) (.int .i64 (0)) HQ3.out rfl)
    exact bodyPost_ret (v := .tuple #[.agg #[.int .i64 (0), .int .i64 (0)], .int .i64 (-1)]) (by simp [results, go_sem, r0, r1]) rfl ⟨by rw [HE.out]; rfl, box_put_below _ _ HGB.out.1 hB⟩
  · skip
    go_wp2_with fail
    refine (implRequestValid hW hw hR hf).mono ?_
    rintro e w2 ⟨rfl, hb⟩
    replace hB := ext_trans hB hb
    replace hW := hW.below hb
    replace hR := hR.below hb
    replace hU := hU.below hb
    have HQ1 := Lib.hid (block_in HQ1.out hb)
    have HQ2 := Lib.hid (block_in HQ2.out hb)
    have HQ3 := Lib.hid (block_in HQ3.out hb)
    clear hb p0 p1 p2 p3 q0 q1 q2 q3
    obtain ⟨p0, p1, p2, p3⟩ := cells4 HQ1.out
    obtain ⟨q0, q1, q2, q3⟩ := cells4 HQ2.out
    cases g2 : rqOk W r
    · have HE : Hid (evX d W r t = (0, 0, -1)) := Lib.hid (by rw [HF.out, g1, g2]; rfl)
      obtain ⟨z0, z1⟩ := cells2 HQ3.out
      obtain ⟨f0, f1⟩ := froz2 HQ3.out
      go_wp2
      obtain ⟨r0, r1⟩ := cells2 (box_put (.int .i64 (0)) (.int .i64 (0)) HQ3.out rfl)
      exact bodyPost_ret (v := .tuple #[.agg #[.int .i64 (0), .int .i64 (0)], .int .i64 (-1)]) (by simp [results, go_sem, r0, r1]) rfl ⟨by rw [HE.out]; rfl, box_put_below _ _ HGB.out.1 hB⟩
    · have HE : Hid (evX d W r t = (x, y, f)) := Lib.hid (by rw [HF.out, g1, g2]; rfl)
      have HOO := Lib.hid (HV.out g1 g2)
      clear g1 g2
      have HC := Lib.hid (evQ_all d W r A B C c c2 ct t w2 hW hR hU HOO.out.1 HOO.out.2)
      rw [HVV.out] at HC
      unfold evVal at HC
      go_wp2_with fail
      refine HC.out.mono ?_
      rintro e w3 ⟨rfl, hb⟩
      have HB3 := Lib.hid (ext_alloc (ext_trans hB hb) (.cells #[.int .i64 x, .int .i64 y] 79))
      have HQ3 := Lib.hid (block_in (block_in HQ3.out hb) (below_alloc w3 (.cells #[.int .i64 x, .int .i64 y] 79)))
      have y0 := box_cell w3 #[.int .i64 x, .int .i64 y] 79 0 _ rfl
      have y1 := box_cell w3 #[.int .i64 x, .int .i64 y] 79 1 _ rfl
      clear hb p0 p1 p2 p3 q0 q1 q2 q3 HC hB hW hR hU
      obtain ⟨z0, z1⟩ := cells2 HQ3.out
      obtain ⟨f0, f1⟩ := froz2 HQ3.out
      by_cases e1 : f = 0
      · have gb : (f != 0) = false := by simpa using e1
        subst e1
        go_wp2
        obtain ⟨r0, r1⟩ := cells2 (box_put (.int .i64 (x)) (.int .i64 (y)) HQ3.out rfl)
        exact bodyPost_ret (v := .tuple #[.agg #[.int .i64 (x), .int .i64 (y)], .int .i64 (0)]) (by simp [results, go_sem, r0, r1]) rfl ⟨by rw [HE.out]; rfl, box_put_below _ _ HGB.out.1 HB3.out⟩
      · have gb : (f != 0) = true := by simpa using e1
        obtain ⟨ex, ey⟩ := HZ.out e1
        rw [ex, ey] at HE
        clear e1 ex ey
        go_wp2
        obtain ⟨r0, r1⟩ := cells2 (box_put (.int .i64 (0)) (.int .i64 (0)) HQ3.out rfl)
        exact bodyPost_ret (v := .tuple #[.agg #[.int .i64 (0), .int .i64 (0)], .int .i64 (f)]) (by simp [results, go_sem, r0, r1]) rfl ⟨by rw [HE.out]; rfl, box_put_below _ _ HGB.out.1 HB3.out⟩
end Go.Proofs.Ytodjokdaofefdaa
/- Evaluate, by the reference. -/
namespace Go.Proofs.Ytodjokdaofefdaa
set_option linter.unusedSimpArgs false
set_option linter.unusedVariables false
open Go.RowKit

set_option maxRecDepth 100000 in
set_option maxHeartbeats 8000000 in
theorem specEvaluate {d : Nat} {W : WL} {r : Rq} {A B C : Option Addr} {c c2 ct : Nat} {t : Ex} {w : World} (hW : wlR w A W) (hw : WfW W) (hR : fdR w B r.fs) (hf : WfFd r.fs) (hU : exW d w C t.ps) (hs : t.s.size ≤ 9223372036854775807) (hcn : cntS d t.ps ≤ 2097152) :
    Calls Try.prog 45 #[.slice A W.length c, rqV r B c2, .agg #[.int .i64 t.k, .int .i64 t.n, .string t.s, .slice C t.ps.length ct]] w fun e w' => e = .returned (evVal (evX d W r t)) ∧ Below w.heap.size w w' := by
  unfold rqV
  have hlen := hW.len
  have hin := exS_in hU
  have HF : Hid (evX d W r t = if (exOk t && rqOk W r) = true then ev (d + 1) W r t else (0, 0, -1)) := Lib.hid rfl
  have HV : Hid (exOk t = true → rqOk W r = true → OkW W r ∧ gdR (d + 1) t = true) := Lib.hid (fun h1 h2 => ⟨rq_ok h2, (ok_parts hin h1).1⟩)
  obtain ⟨v, hv⟩ : ∃ v, ev (d + 1) W r t = v := ⟨_, rfl⟩
  rw [hv] at HF
  have HVV := Lib.hid hv
  obtain ⟨x, y, f⟩ := v
  obtain ⟨X, hX⟩ : ∃ X, X = ((w.alloc (.cells #[.int .i64 r.who, .int .i64 r.act, .int .i64 r.what, .slice B r.fs.length c2] 37)).alloc (.cells #[.int .i64 t.k, .int .i64 t.n, .string t.s, .slice C t.ps.length ct] 28)).alloc (.cells #[.int .i64 0, .int .i64 0] 79) := ⟨_, rfl⟩
  obtain ⟨g, hg⟩ : ∃ g, g = w.heap.size := ⟨_, rfl⟩
  have hB : Below w.heap.size w X := by rw [hX]; (repeat (first | exact Below.refl _ _ | refine ext_alloc ?_ _ | refine Below.setCell ?_ (by simp) _))
  have hq1 : X.heap[g]? = some (.cells #[.int .i64 r.who, .int .i64 r.act, .int .i64 r.what, .slice B r.fs.length c2] 37 (0, 0)) := by rw [hX, hg]; exact block_in (block_in (heap_alloc_new _ _) (below_alloc _ _)) (below_alloc _ _)
  have hq2 : X.heap[g + 1]? = some (.cells #[.int .i64 t.k, .int .i64 t.n, .string t.s, .slice C t.ps.length ct] 28 (0, 0)) := by rw [hX, hg]; exact block_in (heap_alloc_at (by simp)) (below_alloc _ _)
  have hq3 : X.heap[g + 1 + 1]? = some (.cells #[.int .i64 0, .int .i64 0] 79 (0, 0)) := by rw [hX, hg]; exact heap_alloc_at (by simp)
  have HB := Lib.hid hB
  have HW := Lib.hid (hW.below hB)
  have HR := Lib.hid (hR.below hB)
  have HU := Lib.hid (hU.below hB)
  have HX := Lib.hid hX
  have HG := Lib.hid hg
  have HQ1 := Lib.hid hq1
  have HQ2 := Lib.hid hq2
  have HQ3 := Lib.hid hq3
  have HGB : Hid (w.heap.size ≤ g + 1 + 1 ∧ g + 1 + 1 < X.heap.size) := Lib.hid ⟨by omega, by rw [hX, hg]; simp⟩
  obtain ⟨p0, p1, p2, p3⟩ := cells4 hq1
  obtain ⟨q0, q1, q2, q3⟩ := cells4 hq2
  clear hX hg hq1 hq2 hq3 hv hin hB hW hR hU
  go_enter Try.func45, Try.ntmps45
  go_wp2_with fail
  rw [← HX.out, ← HG.out]
  refine (specRequestValid HW.out hw HR.out hf).mono ?_
  rintro e w1 ⟨rfl, hb⟩
  have HB := Lib.hid (ext_trans HB.out hb)
  have HW := Lib.hid (HW.out.below hb)
  have HR := Lib.hid (HR.out.below hb)
  have HU := Lib.hid (HU.out.below hb)
  have HQ1 := Lib.hid (block_in HQ1.out hb)
  have HQ2 := Lib.hid (block_in HQ2.out hb)
  have HQ3 := Lib.hid (block_in HQ3.out hb)
  clear hb p0 p1 p2 p3 q0 q1 q2 q3
  obtain ⟨p0, p1, p2, p3⟩ := cells4 HQ1.out
  obtain ⟨q0, q1, q2, q3⟩ := cells4 HQ2.out
  cases g2 : rqOk W r
  · have HE : Hid (evX d W r t = (0, 0, -1)) := Lib.hid (by rw [HF.out, g2, Bool.and_false]; rfl)
    obtain ⟨z0, z1⟩ := cells2 HQ3.out
    obtain ⟨f0, f1⟩ := froz2 HQ3.out
    go_wp2
    obtain ⟨r0, r1⟩ := cells2 (box_put (.int .i64 (0)) (.int .i64 (0)) HQ3.out rfl)
    exact bodyPost_ret (v := .tuple #[.agg #[.int .i64 (0), .int .i64 (0)], .int .i64 (-1)]) (by simp [results, go_sem, r0, r1]) rfl ⟨by rw [HE.out]; rfl, box_put_below _ _ HGB.out.1 HB.out⟩
  · skip
    go_wp2_with fail
    refine (specExprValid HU.out hs hcn).mono ?_
    rintro e w2 ⟨rfl, hb⟩
    have HB := Lib.hid (ext_trans HB.out hb)
    have HW := Lib.hid (HW.out.below hb)
    have HR := Lib.hid (HR.out.below hb)
    have HU := Lib.hid (HU.out.below hb)
    have HQ1 := Lib.hid (block_in HQ1.out hb)
    have HQ2 := Lib.hid (block_in HQ2.out hb)
    have HQ3 := Lib.hid (block_in HQ3.out hb)
    clear hb p0 p1 p2 p3 q0 q1 q2 q3
    obtain ⟨p0, p1, p2, p3⟩ := cells4 HQ1.out
    obtain ⟨q0, q1, q2, q3⟩ := cells4 HQ2.out
    cases g1 : exOk t
    · have HE : Hid (evX d W r t = (0, 0, -1)) := Lib.hid (by rw [HF.out, g1]; rfl)
      obtain ⟨z0, z1⟩ := cells2 HQ3.out
      obtain ⟨f0, f1⟩ := froz2 HQ3.out
      go_wp2
      obtain ⟨r0, r1⟩ := cells2 (box_put (.int .i64 (0)) (.int .i64 (0)) HQ3.out rfl)
      exact bodyPost_ret (v := .tuple #[.agg #[.int .i64 (0), .int .i64 (0)], .int .i64 (-1)]) (by simp [results, go_sem, r0, r1]) rfl ⟨by rw [HE.out]; rfl, box_put_below _ _ HGB.out.1 HB.out⟩
    · have HE : Hid (evX d W r t = (x, y, f)) := Lib.hid (by rw [HF.out, g1, g2]; rfl)
      have HOO := Lib.hid (HV.out g1 g2)
      clear g1 g2
      have HC := Lib.hid (lvQ_all d W r A B C c c2 ct t w2 HW.out HR.out HU.out HOO.out.1 HOO.out.2)
      rw [HVV.out] at HC
      unfold evVal at HC
      go_wp2_with fail
      refine HC.out.mono ?_
      rintro e w3 ⟨rfl, hb⟩
      have HB := Lib.hid (ext_trans HB.out hb)
      have HQ3 := Lib.hid (block_in HQ3.out hb)
      clear hb p0 p1 p2 p3 q0 q1 q2 q3 HC
      obtain ⟨z0, z1⟩ := cells2 HQ3.out
      obtain ⟨f0, f1⟩ := froz2 HQ3.out
      go_wp2
      obtain ⟨r0, r1⟩ := cells2 (box_put (.int .i64 (x)) (.int .i64 (y)) HQ3.out rfl)
      exact bodyPost_ret (v := .tuple #[.agg #[.int .i64 (x), .int .i64 (y)], .int .i64 (f)]) (by simp [results, go_sem, r0, r1]) rfl ⟨by rw [HE.out]; rfl, box_put_below _ _ HGB.out.1 HB.out⟩
end Go.Proofs.Ytodjokdaofefdaa
/- What conforms to a schema, by the program. -/
namespace Go.Proofs.Ytodjokdaofefdaa
set_option linter.unusedSimpArgs false
set_option linter.unusedVariables false
open Go.RowKit

theorem cf_no {l : KdL} {fs : FdL} {k : Nat} (hk : k < fs.length) (h : kdIn l (fd0 fs k) ≠ fd1 fs k) : cfOk l fs = false := cD_no (fun hh => h (hh k hk))
set_option maxRecDepth 100000 in
set_option maxHeartbeats 4000000 in
theorem conform_any {A B : Option Addr} {l : KdL} {fs : FdL} {c c2 : Nat} {w : World} (hL : kdR w A l) (hU : fdR w B fs) :
    Calls Try.prog 66 #[.slice A l.length c, .slice B fs.length c2] w fun e w' => e = .returned (.bool (cfOk l fs)) ∧ Below w.heap.size w w' := by
  have hlen := hU.len
  go_enter Try.func66, Try.ntmps66
  go_wp2
  go_loopw [9] (fun i wr => ∃ k : Nat, k ≤ fs.length ∧ i = .int .i64 k ∧ Hid (∀ j, j < k → kdIn l (fd0 fs j) = fd1 fs j) ∧ Below w.heap.size w wr) (fun i _ => fs.length - (intOf i).toNat)
  case atStart => exact ⟨0, Nat.zero_le _, rfl, Lib.hid (fun j h => by omega), Below.refl _ _⟩
  case round =>
    obtain ⟨k, hk, rfl, HG, hB⟩ := hrel
    by_cases hlt : k < fs.length
    · obtain ⟨b, off, rfl, hc⟩ := hU.cells (by omega)
      obtain ⟨c0, c1, c2'⟩ := hc k hlt
      replace c0 := below_cell hB c0
      replace c1 := below_cell hB c1
      replace c2' := below_cell hB c2'
      have hbl := below_alloc wr (.cells #[.string (fd0 fs k), .int .i64 (fd1 fs k), .int .i64 (fd2 fs k)] 135)
      have y0 := cell_regrown (box_cell wr #[.string (fd0 fs k), .int .i64 (fd1 fs k), .int .i64 (fd2 fs k)] 135 0 _ rfl)
      have y1 := cell_regrown (box_cell wr #[.string (fd0 fs k), .int .i64 (fd1 fs k), .int .i64 (fd2 fs k)] 135 1 _ rfl)
      have hL2 := hL.below (ext_trans hB hbl)
      replace hB := ext_trans hB hbl
      obtain ⟨q, hq⟩ : ∃ q, kdIn l (fd0 fs k) = q := ⟨_, rfl⟩
      have HQ := Lib.hid hq
      have HK : Hid (∀ (d : Nat) (os : Array Obj), Calls Try.prog 99 #[.slice A l.length c, .string (fd0 fs k)] (Sort.grow (redrawn _ d) os) fun e w' => e = .returned (.int .i64 q) ∧ Below _ _ w') := Lib.hid (fun d os => hq ▸ kindIn_any rfl (hL2.below (below_regrown _ d os)))
      clear hc hq hL2 hbl
      by_cases e : q = fd1 fs k
      · have gb : (q != fd1 fs k) = false := by simpa using e
        have HG2 := Lib.hid (all_succ (p := fun j => kdIn l (fd0 fs j) = fd1 fs j) HG.out (HQ.out.trans e))
        clear e
        go_wp2
        refine wp_region_quiet_below (by kernel_rfl) (by kernel_rfl) ?_
        repeat (go_big_quiet_step ((go_at_call 99; (with_reducible exact Calls.regrown_of (HK.out _ _)))))
        refine wpQuiet_nil ?_
        intro w4 hw'regrown
        replace hB := ext_trans hB (below_of_regrown hw'regrown (Nat.le_refl _))
        clear hw'regrown
        go_wp2
        go_roundw
        case rel => exact ⟨k + 1, by omega, by go_num, HG2, hB⟩
        case measure => simp [intOf]; omega
      · have gb : (q != fd1 fs k) = true := by simpa using e
        have HE : Hid (cfOk l fs = false) := Lib.hid (cf_no hlt (by rw [HQ.out]; exact e))
        clear e
        go_wp2
        refine wp_region_quiet_below (by kernel_rfl) (by kernel_rfl) ?_
        repeat (go_big_quiet_step ((go_at_call 99; (with_reducible exact Calls.regrown_of (HK.out _ _)))))
        refine wpQuiet_nil ?_
        intro w4 hw'regrown
        replace hB := ext_trans hB (below_of_regrown hw'regrown (Nat.le_refl _))
        clear hw'regrown
        go_wp2
        go_ret
        exact ⟨by rw [HE.out]; rfl, hB⟩
    · obtain rfl : k = fs.length := by omega
      have HE : Hid (cfOk l fs = true) := Lib.hid (cD_yes HG.out)
      go_wp2
      go_ret
      exact ⟨by rw [HE.out]; rfl, hB⟩
/-- Whether all conforms. -/
noncomputable def cfB (s : Sc) (W : WL) (r : Rq) : Bool := scOk s && (rqOk W r && (cfOk s.2 r.fs && cD (∀ k, k < W.length → CfP s.1 (thAt W k).fs)))
theorem cfB_W {s : Sc} {W : WL} {r : Rq} (h : cfB s W r = true) : CfW s W r := by
  simp only [cfB, Bool.and_eq_true, cD_true, scOk, nmsOk, cfOk] at h
  exact ⟨rq_ok h.2.1, h.1, h.2.2.1, h.2.2.2⟩
set_option maxRecDepth 100000 in
set_option maxHeartbeats 8000000 in
theorem implConforms {A0 A1 A B : Option Addr} {s : Sc} {W : WL} {r : Rq} {c0 c1 c c2 : Nat} {w : World} (hS : scR w A0 A1 s) (hz : scZ s) (hc0 : s.1.length ≤ c0) (hc1 : s.2.length ≤ c1) (hU : wlR w A W) (hw : WfW W) (hR : fdR w B r.fs) (hf : WfFd r.fs) :
    Calls Try.prog 15 #[scV s A0 c0 A1 c1, .slice A W.length c, rqV r B c2] w fun e w' => e = .returned (.bool (cfB s W r)) ∧ Below w.heap.size w w' := by
  unfold scV rqV
  have hlen := hU.len
  have HF : Hid (cfB s W r = (scOk s && (rqOk W r && (cfOk s.2 r.fs && cD (∀ k, k < W.length → CfP s.1 (thAt W k).fs))))) := Lib.hid rfl
  obtain ⟨X, hX⟩ : ∃ X, X = (w.alloc (.cells #[.slice A0 s.1.length c0, .slice A1 s.2.length c1] 25)).alloc (.cells #[.int .i64 r.who, .int .i64 r.act, .int .i64 r.what, .slice B r.fs.length c2] 37) := ⟨_, rfl⟩
  obtain ⟨g, hg⟩ : ∃ g, g = w.heap.size := ⟨_, rfl⟩
  have hB : Below w.heap.size w X := by rw [hX]; (repeat (first | exact Below.refl _ _ | refine ext_alloc ?_ _ | refine Below.setCell ?_ (by simp) _))
  have hq : X.heap[g]? = some (.cells #[.slice A0 s.1.length c0, .slice A1 s.2.length c1] 25 (0, 0)) := by rw [hX, hg]; exact block_in (heap_alloc_new _ _) (below_alloc _ _)
  have hq2 : X.heap[g + 1]? = some (.cells #[.int .i64 r.who, .int .i64 r.act, .int .i64 r.what, .slice B r.fs.length c2] 37 (0, 0)) := by rw [hX, hg]; exact heap_alloc_at (by simp)
  replace hU := hU.below hB
  replace hR := hR.below hB
  replace hS := hS.below hB
  have HX := Lib.hid hX
  have HG := Lib.hid hg
  have HQ := Lib.hid hq
  have HQ2 := Lib.hid hq2
  have HWF := Lib.hid hw
  have HB0 := Lib.hid hB
  obtain ⟨z0, z1⟩ := cells2 hq
  obtain ⟨p0, p1, p2, p3⟩ := cells4 hq2
  clear hX hg hq hq2
  go_enter Try.func15, Try.ntmps15
  go_wp2_with fail
  rw [← HX.out, ← HG.out]
  refine (implSchemaValid hS hz.1 hz.2 hc0 hc1).mono ?_
  rintro e w1 ⟨rfl, hb⟩
  replace hB := ext_trans hB hb
  replace hR := hR.below hb
  replace hU := hU.below hb
  replace hS := hS.below hb
  have HQ := Lib.hid (block_in HQ.out hb)
  have HQ2 := Lib.hid (block_in HQ2.out hb)
  clear hb z0 z1 p0 p1 p2 p3
  obtain ⟨z0, z1⟩ := cells2 HQ.out
  obtain ⟨p0, p1, p2, p3⟩ := cells4 HQ2.out
  cases g0 : scOk s
  · rw [g0] at HF
    go_wp2
    go_ret
    exact ⟨by rw [HF.out]; rfl, hB⟩
  · rw [g0] at HF
    go_wp2_with fail
    refine (implRequestValid hU hw hR hf).mono ?_
    rintro e w2 ⟨rfl, hb⟩
    replace hB := ext_trans hB hb
    replace hR := hR.below hb
    replace hU := hU.below hb
    replace hS := hS.below hb
    have HQ := Lib.hid (block_in HQ.out hb)
    have HQ2 := Lib.hid (block_in HQ2.out hb)
    clear hb z0 z1 p0 p1 p2 p3
    obtain ⟨z0, z1⟩ := cells2 HQ.out
    obtain ⟨p0, p1, p2, p3⟩ := cells4 HQ2.out
    cases g1 : rqOk W r
    · rw [g1] at HF
      go_wp2
      go_ret
      exact ⟨by rw [HF.out]; rfl, hB⟩
    · rw [g1] at HF
      go_wp2_with fail
      refine (conform_any hS.2 hR).mono ?_
      rintro e w3 ⟨rfl, hb⟩
      replace hB := ext_trans hB hb
      replace hR := hR.below hb
      replace hU := hU.below hb
      replace hS := hS.below hb
      have HQ := Lib.hid (block_in HQ.out hb)
      have HQ2 := Lib.hid (block_in HQ2.out hb)
      clear hb z0 z1 p0 p1 p2 p3
      obtain ⟨z0, z1⟩ := cells2 HQ.out
      obtain ⟨p0, p1, p2, p3⟩ := cells4 HQ2.out
      cases g2 : cfOk s.2 r.fs
      · rw [g2] at HF
        go_wp2
        go_ret
        exact ⟨by rw [HF.out]; rfl, hB⟩
      · rw [g2] at HF
        have HF2 : Hid (cfB s W r = cD (∀ k, k < W.length → CfP s.1 (thAt W k).fs)) := Lib.hid (by rw [HF.out]; rfl)
        have hlen3 := hU.len
        clear g0 g1 g2 z0 z1 p0 p1 p2 p3 HF
        go_wp2
        go_loopw [28] (fun i wr => ∃ k : Nat, k ≤ W.length ∧ i = .int .i64 k ∧ Hid (∀ j, j < k → CfP s.1 (thAt W j).fs) ∧ Below w3.heap.size w3 wr) (fun i _ => W.length - (intOf i).toNat)
        case atStart => exact ⟨0, Nat.zero_le _, rfl, Lib.hid (fun j h => by omega), Below.refl _ _⟩
        case round =>
          obtain ⟨k, hk, rfl, HGD, hD⟩ := hrel
          by_cases hlt : k < W.length
          · have hUr := hU.below hD
            obtain ⟨b, off, rfl, hc⟩ := hUr.cells (by omega)
            obtain ⟨A1', c1', A2', c2', hr1, hr2, d0, d1⟩ := hc k hlt
            have hbl := below_alloc wr (.cells #[.slice A1' (thAt W k).gs.length c1', .slice A2' (thAt W k).fs.length c2'] 101)
            have y0 := box_cell wr #[.slice A1' (thAt W k).gs.length c1', .slice A2' (thAt W k).fs.length c2'] 101 0 _ rfl
            have y1 := box_cell wr #[.slice A1' (thAt W k).gs.length c1', .slice A2' (thAt W k).fs.length c2'] 101 1 _ rfl
            have hD2 := ext_trans hD hbl
            have hS3 := hS.below hD2
            have hr3 := hr2.below hbl
            obtain ⟨z0, z1⟩ := cells2 (block_in HQ.out hD2)
            clear hc hr1 hr2 hUr hbl
            go_wp2_with fail
            refine (conform_any hS3.1 hr3).mono ?_
            rintro e w4 ⟨rfl, hb⟩
            have hD4 := ext_trans hD2 hb
            clear hb y0 y1 z0 z1 d0 d1 hS3 hr3 hD hD2
            cases g3 : cfOk s.1 (thAt W k).fs
            · have HE : Hid (cfB s W r = false) := Lib.hid (HF2.out.trans (cD_no (fun h => by rw [cfOk, cD_false] at g3; exact g3 (h k hlt))))
              go_wp2
              go_ret
              exact ⟨by rw [HE.out]; rfl, ext_trans hB hD4⟩
            · have HGD2 : Hid (∀ j, j < k + 1 → CfP s.1 (thAt W j).fs) := Lib.hid (all_succ (p := fun j => CfP s.1 (thAt W j).fs) HGD.out (cD_true.1 g3))
              go_wp2
              go_roundw
              case rel => exact ⟨k + 1, by omega, by go_num, HGD2, hD4⟩
              case measure => simp [intOf]; omega
          · obtain rfl : k = W.length := by omega
            have HE : Hid (cfB s W r = true) := Lib.hid (HF2.out.trans (cD_yes HGD.out))
            go_wp2
            go_ret
            exact ⟨by rw [HE.out]; rfl, ext_trans hB hD⟩
end Go.Proofs.Ytodjokdaofefdaa
/- What is wrong with a policy: by both. -/
namespace Go.Proofs.Ytodjokdaofefdaa
set_option linter.unusedSimpArgs false
set_option linter.unusedVariables false
open Go.RowKit

section
variable {d : Nat} {s : Sc} {many : Int} {p : Po}
end

end Go.Proofs.Ytodjokdaofefdaa
/- Policies: whether all are valid, whether all are safe: by both. -/
namespace Go.Proofs.Ytodjokdaofefdaa
set_option linter.unusedSimpArgs false
set_option linter.unusedVariables false
open Go.RowKit

end Go.Proofs.Ytodjokdaofefdaa
/- Policies that are all safe: by both. -/
namespace Go.Proofs.Ytodjokdaofefdaa
set_option linter.unusedSimpArgs false
set_option linter.unusedVariables false
open Go.RowKit

end Go.Proofs.Ytodjokdaofefdaa
/- Laws of evaluation and of checked policies, plainly. -/
namespace Go.Proofs.Ytodjokdaofefdaa
set_option linter.unusedSimpArgs false
set_option linter.unusedVariables false
open Go.RowKit

theorem cfB_ok {s : Sc} {W : WL} {r : Rq} (h : cfB s W r = true) : rqOk W r = true ∧ scOk s = true := by
  simp only [cfB, Bool.and_eq_true] at h
  exact ⟨h.2.1, h.1⟩
/-! ### Evaluate -/
theorem evX_zero (d : Nat) (W : WL) (r : Rq) (t : Ex) : EvZ (evX d W r t) := by
  unfold evX
  split
  · exact ev_zero _ _ _ _
  · exact fun _ => ⟨rfl, rfl⟩
theorem evX_val {d : Nat} {W : WL} {r : Rq} {t : Ex} (hin : inD (d + 1) t) (h : (evX d W r t).2.2 = 0) : vlB (evX d W r t).1 (evX d W r t).2.1 W.length = true := by
  unfold evX at h ⊢
  by_cases e : (exOk t && rqOk W r) = true
  · rw [if_pos e] at h ⊢
    simp only [Bool.and_eq_true] at e
    exact ev_val (rq_ok e.2) _ _ (ok_parts hin e.1).1 h
  · rw [if_neg e] at h; cases h
theorem evX_law {d : Nat} {s : Sc} {W : WL} {r : Rq} {t : Ex} (hin : inD (d + 1) t) (hc : cfB s W r = true) (hk : koX d s t ≠ 0) :
    (((evX d W r t).2.2 = 0 ∧ (evX d W r t).1 = koX d s t) ∨ (evX d W r t).2.2 = 2 ∨ (evX d W r t).2.2 = 3) ∧ (guOk d t = true → (evX d W r t).2.2 ≠ 2) ∧ (thX d t < W.length → (evX d W r t).2.2 ≠ 3) := by
  have hC := cfB_W hc
  have hr := (cfB_ok hc).1
  have hx : exOk t = true := by
    cases e : exOk t
    · rw [koX, e, Bool.and_false] at hk; exact absurd rfl hk
    · rfl
  have hg := (ok_parts hin hx).1
  have hki : koX d s t = kiR (d + 1) s t := by rw [koX, (cfB_ok hc).2, hx]; rfl
  have he : evX d W r t = ev (d + 1) W r t := by rw [evX, hx, hr]; rfl
  rw [hki] at hk ⊢
  rw [he]
  refine ⟨ev_kind hC (d + 1) t hg hk, fun hgu => ?_, fun hth => ?_⟩
  · refine gu_no2 hC.ok (d + 1) t [] hg ?_ (fun x hx => by simp at hx)
    simp only [guOk, Bool.and_eq_true] at hgu
    exact hgu.2
  · refine th_no3 (d + 1) t hg ?_
    rw [thX, if_pos hx] at hth
    omega
end Go.Proofs.Ytodjokdaofefdaa
/- The reader of codes: pick and odd. -/
namespace Go.Proofs.Ytodjokdaofefdaa
set_option linter.unusedSimpArgs false
set_option linter.unusedVariables false
open Go.RowKit

/-- The reader at block br stands at p: its code reads as bytes. -/
def Rdr (w : World) (br cb : Nat) (p : Int) : Prop :=
  cb ≤ br ∧ ∃ A n c, w.heap[br]? = some (.cells #[.slice A n c, .int .i64 p] 127 (0, 0)) ∧ n ≤ 2000 ∧
    (0 < n → ∃ b off, A = some ⟨b, off, Option.none⟩ ∧ b < cb ∧ ∀ k, k < n → ∃ u : Int, (0 ≤ u ∧ u ≤ 255) ∧ w.cell? ⟨b, off + k, Option.none⟩ = some (.int .u8 u))
theorem Rdr.lt {w : World} {br cb : Nat} {p : Int} (h : Rdr w br cb p) : br < w.heap.size := by
  obtain ⟨_, A, n, c, hb, _⟩ := h
  exact (Array.getElem?_eq_some_iff.1 hb).1
theorem Rdr.cb {w : World} {br cb : Nat} {p : Int} (h : Rdr w br cb p) : cb ≤ br := h.1
theorem Rdr.below {w w' : World} {br cb : Nat} {p : Int} (h : Rdr w br cb p) (hb : Below w.heap.size w w') : Rdr w' br cb p := by
  have hlt := h.lt
  obtain ⟨h0, A, n, c, h1, h2, h3⟩ := h
  refine ⟨h0, A, n, c, (hb.block br hlt).trans h1, h2, fun hn => ?_⟩
  obtain ⟨b, off, e, hne, hc⟩ := h3 hn
  exact ⟨b, off, e, hne, fun k hk => let ⟨u, hu, hcu⟩ := hc k hk; ⟨u, hu, below_cell hb hcu⟩⟩
def PickPost (w : World) (br cb : Nat) (p n : Int) (e : Ending) (w' : World) : Prop :=
  ∃ x : Int, e = .returned (.int .i64 x) ∧ 0 ≤ x ∧ (1 ≤ n → x < n) ∧ (n < 1 → x = 0) ∧ Rdr w' br cb (p + 1) ∧ w.grownBy w' (some br)

theorem xor_nonneg (a b : Nat) (ha : a < 9223372036854775808) (hb : b < 9223372036854775808) : 0 ≤ bits .xor .i64 (a : Int) (b : Int) ∧ bits .xor .i64 (a : Int) (b : Int) ≤ 9223372036854775807 := by
  have hx : a ^^^ b < 2 ^ 63 := Nat.xor_lt_two_pow (by omega) (by omega)
  have e : bits .xor .i64 (a : Int) (b : Int) = ((a ^^^ b : Nat) : Int) := by
    show IntKind.i64.wrap ((BitVec.ofInt 64 (a : Int) ^^^ BitVec.ofInt 64 (b : Int)).toNat : Int) = _
    rw [BitVec.toNat_xor, BitVec.ofInt_natCast, BitVec.ofInt_natCast, BitVec.toNat_ofNat, BitVec.toNat_ofNat, Nat.mod_eq_of_lt (by omega), Nat.mod_eq_of_lt (by omega), IntKind.wrap_i64]
    omega
  rw [e]
  omega
theorem xor_pos {x : Int} (h0 : 0 ≤ x) (h1 : x ≤ 1000000000000000) : 0 ≤ bits .xor .i64 x (x / 64) ∧ bits .xor .i64 x (x / 64) ≤ 9223372036854775807 := by
  obtain ⟨n, rfl⟩ := Int.eq_ofNat_of_zero_le h0
  have := xor_nonneg n (n / 64) (by omega) (by omega)
  rwa [Int.natCast_ediv] at this

theorem rdr_set {w : World} {br cb : Nat} {p : Int} (h : Rdr w br cb p) : Rdr (w.setCell ⟨br, 1, Option.none⟩ (.int .i64 (p + 1))) br cb (p + 1) ∧ w.grownBy (w.setCell ⟨br, 1, Option.none⟩ (.int .i64 (p + 1))) (some br) := by
  obtain ⟨h0, A, n, c, h1, h2, h3⟩ := h
  have hg : w.grownBy (w.setCell ⟨br, 1, Option.none⟩ (.int .i64 (p + 1))) (some br) := ⟨rfl, rfl, rfl, by simp [World.setCell], fun k _ hk => Below.heap_setCell w ⟨br, 1, Option.none⟩ _ k (fun e => hk (by simp [e]))⟩
  refine ⟨⟨h0, A, n, c, ?_, h2, fun hn => ?_⟩, hg⟩
  · simp [World.setCell, Array.getElem?_modify, h1]
  · obtain ⟨b, off, e, hne, hc⟩ := h3 hn
    exact ⟨b, off, e, hne, fun k hk => let ⟨u, hu, hcu⟩ := hc k hk; ⟨u, hu, hg.cell hcu (by simp; omega)⟩⟩

set_option maxRecDepth 100000 in
set_option maxHeartbeats 4000000 in
theorem pick_any {br cb : Nat} {p n : Int} {w : World} (hR : Rdr w br cb p) (hp0 : 0 ≤ p) (hp1 : p ≤ 1000000000) (hn : n ≤ 1000000) :
    Calls Try.prog 51 #[.pointer (some ⟨br, 0, Option.none⟩), .int .i64 n] w (PickPost w br cb p n) := by
  obtain ⟨hR2, hG⟩ := rdr_set hR
  have hlt := hR.lt
  obtain ⟨h0, A, m, c, hb, hm, hcode⟩ := hR
  have c0 : w.cell? ⟨br, 0, Option.none⟩ = some (.slice A m c) := cell_of_row w br 0 _ _ (0, 0) hb
  have c1 : w.cell? ⟨br, 1, Option.none⟩ = some (.int .i64 p) := cell_of_row w br 1 _ _ (0, 0) hb
  have f1 : w.frozen? ⟨br, 1, Option.none⟩ = false := frozen_of_row w br 1 _ _ hb
  have d0 : (w.setCell ⟨br, 1, Option.none⟩ (.int .i64 (p + 1))).cell? ⟨br, 0, Option.none⟩ = some (.slice A m c) := by rw [World.cell?_setCell_other w _ _ _ (by simp)]; exact c0
  have d1 : (w.setCell ⟨br, 1, Option.none⟩ (.int .i64 (p + 1))).cell? ⟨br, 1, Option.none⟩ = some (.int .i64 (p + 1)) := by rw [cell_of_row _ br 1 _ _ (0, 0) (hR2.2.choose_spec.choose_spec.choose_spec.1)]; rfl
  by_cases h1 : n < 1
  · go_enter Try.func51, Try.ntmps51
    go_wp2
    go_ret
    exact ⟨0, rfl, by omega, by omega, fun _ => rfl, hR2, hG⟩
  · rcases Nat.eq_zero_or_pos m with hm0 | hm0
    · subst hm0
      go_enter Try.func51, Try.ntmps51
      go_wp2
      go_ret
      exact ⟨0, rfl, by omega, by omega, fun _ => rfl, hR2, hG⟩
    · have hm1 : ((m : Int) == 0) = false := by simp; omega
      obtain ⟨b, off, rfl, hne, hc⟩ := hcode hm0
      by_cases h2 : p < m
      · obtain ⟨k, rfl⟩ := Int.eq_ofNat_of_zero_le hp0
        obtain ⟨u, ⟨hu0, hu1⟩, hcu⟩ := hc k (by omega)
        have e1 := hG.cell hcu (by simp; omega)
        go_enter Try.func51, Try.ntmps51
        go_wp2
        go_ret
        exact ⟨_, rfl, Int.emod_nonneg _ (by omega), fun _ => Int.emod_lt_of_pos _ (by omega), fun h => by omega, hR2, hG⟩
      · have hmp : (0 : Int) < m := by omega
        have i0 := Int.emod_nonneg p (b := (m : Int)) (by omega)
        have i1 := Int.emod_lt_of_pos p (b := (m : Int)) (by omega)
        have j0 := Int.emod_nonneg (p * 7 + 3) (b := (m : Int)) (by omega)
        have j1 := Int.emod_lt_of_pos (p * 7 + 3) (b := (m : Int)) (by omega)
        obtain ⟨u1, ⟨u10, u11⟩, hu1⟩ := hc (p % m).toNat (by omega)
        obtain ⟨u2, ⟨u20, u21⟩, hu2⟩ := hc ((p * 7 + 3) % m).toNat (by omega)
        have v0 := Int.ediv_nonneg hp0 (Int.le_of_lt hmp)
        have v1 := Int.ediv_le_self (m : Int) hp0
        obtain ⟨x0, x1⟩ := xor_pos (x := u1 * 131 + u2 * 1117 + p * 29 + p / m * 53) (by omega) (by omega)
        have l1 := cell_regrown (hG.cell hu1 (by simp; omega))
        have l2 := cell_regrown (hG.cell hu2 (by simp; omega))
        have k0 := cell_regrown d0
        have k1 := cell_regrown d1
        go_enter Try.func51, Try.ntmps51
        go_wp2
        refine wp_region_quiet_below (by kernel_rfl) (by kernel_rfl) ?_
        repeat (go_big_quiet_step (fail))
        refine wpQuiet_nil ?_
        intro w2 hw2
        have hb2 := below_of_regrown hw2 (Nat.le_refl _)
        clear hw2
        go_wp2
        go_ret
        exact ⟨_, rfl, Int.emod_nonneg _ (by omega), fun _ => Int.emod_lt_of_pos _ (by omega), fun h => by omega, hR2.below hb2, grown_trans_ hG ⟨hb2.os, hb2.tape, hb2.output, hb2.size, fun k hk _ => hb2.block k hk⟩⟩
end Go.Proofs.Ytodjokdaofefdaa
/- The reader of codes: odd and open. -/
namespace Go.Proofs.Ytodjokdaofefdaa
set_option linter.unusedSimpArgs false
set_option linter.unusedVariables false
open Go.RowKit

def OddPost (w : World) (br cb : Nat) (p : Int) (e : Ending) (w' : World) : Prop :=
  ∃ (x : Bool) (p' : Int), e = .returned (.bool x) ∧ p ≤ p' ∧ p' ≤ p + 1 ∧ Rdr w' br cb p' ∧ w.grownBy w' (some br)

set_option maxHeartbeats 1000000 in
theorem odd_any {br cb : Nat} {p n : Int} {w : World} (hR : Rdr w br cb p) (hp0 : 0 ≤ p) (hp1 : p ≤ 1000000000) (hn0 : 0 ≤ n) (hn : n ≤ 1000000) :
    Calls Try.prog 52 #[.pointer (some ⟨br, 0, Option.none⟩), .int .i64 n] w (OddPost w br cb p) := by
  by_cases h : 0 < n
  · go_enter Try.func52, Try.ntmps52
    go_wp2_with fail
    refine (pick_any hR hp0 hp1 hn).mono ?_
    rintro e w1 ⟨x, rfl, hx0, hx1, _, hR1, hG1⟩
    go_wp2
    all_goals
      go_ret
      exact ⟨_, p + 1, rfl, by omega, by omega, hR1, hG1⟩
  · obtain rfl : n = 0 := by omega
    go_enter Try.func52, Try.ntmps52
    go_wp2
    go_ret
    exact ⟨_, p, rfl, by omega, by omega, hR, World.grownBy.refl _ _⟩

/-- A code that came in. -/
def CodeR (w : World) (cb : Nat) (A : Option Addr) (l : List Int) : Prop :=
  l.length ≤ 9223372036854775807 ∧ (0 < l.length → ∃ b off, A = some ⟨b, off, Option.none⟩ ∧ b < cb ∧ ∀ k, k < l.length → ∃ u : Int, (0 ≤ u ∧ u ≤ 255) ∧ w.cell? ⟨b, off + k, Option.none⟩ = some (.int .u8 u))
theorem CodeR.below {w w' : World} {cb : Nat} {A : Option Addr} {l : List Int} (h : CodeR w cb A l) (hb : Below w.heap.size w w') : CodeR w' cb A l :=
  ⟨h.1, fun hn => let ⟨b, off, e, hb0, hc⟩ := h.2 hn; ⟨b, off, e, hb0, fun k hk => let ⟨u, hu, hcu⟩ := hc k hk; ⟨u, hu, below_cell hb hcu⟩⟩⟩
theorem rdr_new {w : World} {cb : Nat} {A : Option Addr} {n c : Nat} {l : List Int} (hcb : cb ≤ w.heap.size) (h : CodeR w cb A l) (hn : n ≤ 2000) (hnl : n ≤ l.length) : Rdr (w.alloc (.cells #[.slice A n c, .int .i64 0] 127)) w.heap.size cb 0 := by
  refine ⟨hcb, A, n, c, heap_alloc_new w _, hn, fun h0 => ?_⟩
  obtain ⟨b, off, e, hb0, hc⟩ := h.2 (by omega)
  refine ⟨b, off, e, hb0, fun k hk => ?_⟩
  · obtain ⟨u, hu, hcu⟩ := hc k (by omega)
    exact ⟨u, hu, below_cell (below_alloc w _) hcu⟩

set_option maxHeartbeats 1000000 in
theorem l20Open_any {A : Option Addr} {l : List Int} {c cb : Nat} {w : World} (hcb : cb ≤ w.heap.size) (hC : CodeR w cb A l) (hc : l.length ≤ c) (hl : l.length ≤ 9223372036854775807) :
    Calls Try.prog 48 #[.slice A l.length c] w fun e w' => e = .returned (.pointer (some ⟨w.heap.size, 0, Option.none⟩)) ∧ Rdr w' w.heap.size cb 0 ∧ Below w.heap.size w w' := by
  by_cases h : 2000 < l.length
  · obtain ⟨b, off, rfl, _⟩ := hC.2 (by omega)
    go_enter Try.func48, Try.ntmps48
    go_wp2
    go_ret
    exact ⟨rfl, rdr_new hcb hC (by omega) (by omega), below_alloc _ _⟩
  · go_enter Try.func48, Try.ntmps48
    go_wp2
    go_ret
    exact ⟨rfl, rdr_new hcb hC (by omega) (by omega), below_alloc _ _⟩
end Go.Proofs.Ytodjokdaofefdaa
/- Draws: kinds of drawn values, and what becomes of them while the draw goes on. -/
namespace Go.Proofs.Ytodjokdaofefdaa
set_option linter.unusedSimpArgs false
set_option linter.unusedVariables false
open Go.RowKit

theorem Rdr.grown {w w' : World} {br cb : Nat} {p : Int} {row : Option Nat} (h : Rdr w br cb p) (hg : w.grownBy w' row) (hr : ∀ k, row = some k → k ≠ br ∧ cb ≤ k) : Rdr w' br cb p := by
  have hlt := h.lt
  obtain ⟨h0, A, n, c, h1, h2, h3⟩ := h
  refine ⟨h0, A, n, c, (hg.block br hlt (fun e => (hr br e.symm).1 rfl)).trans h1, h2, fun hn => ?_⟩
  obtain ⟨b, off, e, hne, hc⟩ := h3 hn
  exact ⟨b, off, e, hne, fun k hk => let ⟨u, hu, hcu⟩ := hc k hk; ⟨u, hu, hg.cell hcu (fun e => by have := (hr b e.symm).2; omega)⟩⟩
/-- The reader at br has drawn at most N times. -/
def RdrT (w : World) (br cb N : Nat) : Prop := ∃ p : Int, 0 ≤ p ∧ p ≤ N ∧ Rdr w br cb p
section
variable {w w' : World} {br cb N N' : Nat}
theorem RdrT.mono (h : RdrT w br cb N) (hN : N ≤ N') : RdrT w br cb N' := let ⟨p, h1, h2, h3⟩ := h; ⟨p, h1, by omega, h3⟩
theorem RdrT.below (h : RdrT w br cb N) (hb : Below w.heap.size w w') : RdrT w' br cb N := let ⟨p, h1, h2, h3⟩ := h; ⟨p, h1, h2, h3.below hb⟩
theorem RdrT.grown {row : Option Nat} (h : RdrT w br cb N) (hg : w.grownBy w' row) (hr : ∀ k, row = some k → k ≠ br ∧ cb ≤ k) : RdrT w' br cb N := let ⟨p, h1, h2, h3⟩ := h; ⟨p, h1, h2, h3.grown hg hr⟩
theorem RdrT.lt (h : RdrT w br cb N) : br < w.heap.size := let ⟨_, _, _, h3⟩ := h; h3.lt
end
theorem grown_of_below {w w' : World} (h : Below w.heap.size w w') (row : Option Nat) : w.grownBy w' row := ⟨h.os, h.tape, h.output, h.size, fun k hk _ => h.block k hk⟩
theorem grown_alloc_ (w : World) (o : Obj) (row : Option Nat) : w.grownBy (w.alloc o) row := grown_of_below (below_alloc w o) row
theorem pick_d {br cb N : Nat} {n : Int} {w : World} (hR : RdrT w br cb N) (hN : N ≤ 1000000000) (h1 : 1 ≤ n) (hn : n ≤ 1000000) :
    Calls Try.prog 51 #[.pointer (some ⟨br, 0, Option.none⟩), .int .i64 n] w fun e w' => ∃ x : Int, e = .returned (.int .i64 x) ∧ 0 ≤ x ∧ x < n ∧ RdrT w' br cb (N + 1) ∧ w.grownBy w' (some br) := by
  obtain ⟨p, hp0, hp1, hR⟩ := hR
  refine (pick_any hR hp0 (by omega) hn).mono ?_
  rintro e w' ⟨x, rfl, h2, h3, _, h4, h5⟩
  exact ⟨x, rfl, h2, h3 h1, ⟨p + 1, by omega, by omega, h4⟩, h5⟩
theorem odd_d {br cb N : Nat} {n : Int} {w : World} (hR : RdrT w br cb N) (hN : N ≤ 1000000000) (h1 : 0 ≤ n) (hn : n ≤ 1000000) :
    Calls Try.prog 52 #[.pointer (some ⟨br, 0, Option.none⟩), .int .i64 n] w fun e w' => ∃ x : Bool, e = .returned (.bool x) ∧ RdrT w' br cb (N + 1) ∧ w.grownBy w' (some br) := by
  obtain ⟨p, hp0, hp1, hR⟩ := hR
  refine (odd_any hR hp0 (by omega) h1 hn).mono ?_
  rintro e w' ⟨x, p', rfl, h2, h3, h4, h5⟩
  exact ⟨x, rfl, ⟨p', by omega, by omega, h4⟩, h5⟩

/-! ### Kinds -/
def IsI (lo hi : Int) (v : Value) : Prop := ∃ x : Int, v = .int .i64 x ∧ lo ≤ x ∧ x ≤ hi
theorem IsI.mono {lo hi lo' hi' : Int} {v : Value} (h : IsI lo hi v) (h1 : lo' ≤ lo) (h2 : hi ≤ hi') : IsI lo' hi' v := let ⟨x, e, a, b⟩ := h; ⟨x, e, by omega, by omega⟩
def CellsP (P : List Value → Prop) (w : World) (g o : Nat) : Prop := ∃ cs, P cs ∧ ∀ (j : Nat) u, cs[j]? = some u → w.cell? ⟨g, o + j, Option.none⟩ = some u
def SlP (B sz n : Nat) (P : List Value → Prop) (w : World) (v : Value) : Prop := n ≤ 9223372036854775807 ∧ ∃ g c, v = .slice (some ⟨g, 0, Option.none⟩) n c ∧ B ≤ g ∧ ∀ k, k < n → CellsP P w g (k * sz)
section
variable {B sz n : Nat} {P : List Value → Prop} {w w' : World} {v : Value} {g o : Nat}
end
def AllP (P : List Value → Prop) : List (List Value) → Prop
  | [] => True
  | x :: l => P x ∧ AllP P l
theorem AllP.at {P : List Value → Prop} : ∀ {l : List (List Value)}, AllP P l → ∀ k (h : k < l.length), P l[k]
  | _ :: _, h, 0, _ => h.1
  | _ :: l, h, k + 1, hk => AllP.at (l := l) h.2 k (by simpa using hk)
/-- A row as a list of flat elements. -/
theorem SlP.rd {α : Type} {enc : α → List Value} {B sz n : Nat} {P : List Value → Prop} {w : World} {v : Value} (h : SlP B sz n P w v) (hsz : ∀ a, (enc a).length = sz) (Q : α → Prop) (hP : ∀ cs, P cs → ∃ a, Q a ∧ cs = enc a) :
    ∃ (l : List α) (A : Option Addr) (c : Nat), v = .slice A l.length c ∧ l.length = n ∧ (∀ a ∈ l, Q a) ∧ RdL (Flat enc) sz w A l := by
  obtain ⟨hn, g, c, rfl, hB, hc⟩ := h
  have hch : ∀ n, n ≤ 9223372036854775807 → (∀ k, k < n → CellsP P w g (k * sz)) → ∃ l : List α, l.length = n ∧ (∀ a ∈ l, Q a) ∧ ∀ k (hk : k < l.length) j u, (enc l[k])[j]? = some u → w.cell? ⟨g, k * sz + j, Option.none⟩ = some u := by
    intro n
    induction n with
    | zero => intro _ _; exact ⟨[], rfl, by simp, by simp⟩
    | succ n ih =>
      intro hn hc
      obtain ⟨l, h1, h2, h3⟩ := ih (by omega) (fun k hk => hc k (by omega))
      obtain ⟨cs, hp, hcs⟩ := hc n (by omega)
      obtain ⟨a, ha, rfl⟩ := hP cs hp
      refine ⟨l ++ [a], by simp [h1], fun b hb => ?_, fun k hk j u hu => ?_⟩
      · rcases List.mem_append.1 hb with hb | hb
        · exact h2 b hb
        · rw [List.mem_singleton.1 hb]; exact ha
      · by_cases e : k < l.length
        · rw [List.getElem_append_left e] at hu; exact h3 k e j u hu
        · have e2 : k = n := by simp at hk; omega
          subst e2
          rw [List.getElem_append_right (by omega)] at hu
          simp [h1] at hu
          exact hcs j u hu
  obtain ⟨l, h1, h2, h3⟩ := hch n hn hc
  refine ⟨l, some ⟨g, 0, Option.none⟩, c, by rw [h1], h1, h2, by omega, fun _ => ⟨g, 0, rfl, fun k hk => ⟨enc l[k], hsz _, rfl, fun j u hu => by rw [Nat.zero_add]; exact h3 k hk j u hu⟩⟩⟩

/-- A row of one's own, drawn: at most n elements of the kind Q. -/
def DrS {α : Type} (B : Nat) (e : TypeId) (sz : Nat) (enc : α → List Value) (n : Nat) (Q : α → Prop) (w : World) (v : Value) : Prop := ∃ l : List α, l.length ≤ n ∧ (∀ a ∈ l, Q a) ∧ OwnA B e sz enc w v l
section
variable {α : Type} {B B' : Nat} {e : TypeId} {sz n n' : Nat} {enc : α → List Value} {Q : α → Prop} {w w' : World} {v : Value}
theorem DrS.grown {row : Option Nat} (h : DrS B e sz enc n Q w v) (hg : w.grownBy w' row) (hr : ∀ k, row = some k → k < B) : DrS B e sz enc n Q w' v := by
  obtain ⟨l, h1, h2, A, c, rfl, ho⟩ := h
  exact ⟨l, h1, h2, A, c, rfl, own_apart_ ho hg (fun k hk e => by have := (ho.lt k hk).1; have := hr k e; omega)⟩
theorem DrS.below (h : DrS B e sz enc n Q w v) (hb : Below w.heap.size w w') : DrS B e sz enc n Q w' v := h.grown (grown_of_below hb Option.none) (fun k e => by cases e)
theorem DrS.lower (h : DrS B e sz enc n Q w v) (hB : B' ≤ B) : DrS B' e sz enc n Q w v := let ⟨l, h1, h2, h3⟩ := h; ⟨l, h1, h2, h3.lower hB⟩
theorem DrS.mono (h : DrS B e sz enc n Q w v) (hn : n ≤ n') : DrS B e sz enc n' Q w v := let ⟨l, h1, h2, h3⟩ := h; ⟨l, by omega, h2, h3⟩
theorem DrS.apart {row : Option Nat} (h : DrS B e sz enc n Q w v) (hg : w.grownBy w' row) (hr : ∀ k, v.ownBlock = some k → row ≠ some k) : DrS B e sz enc n Q w' v := by
  obtain ⟨l, h1, h2, A, c, rfl, ho⟩ := h
  exact ⟨l, h1, h2, A, c, rfl, own_apart_ ho hg hr⟩
theorem DrS.ge (h : DrS B e sz enc n Q w v) (k : Nat) (hk : v.ownBlock = some k) : B ≤ k := by
  obtain ⟨l, _, _, A, c, rfl, ho⟩ := h
  exact (ho.lt k hk).1
theorem DrS.empty (hB : B ≤ w.heap.size) : DrS B e sz enc 0 Q (w.alloc (.cells #[] e)) (.slice (some ⟨w.heap.size, 0, Option.none⟩) 0 0) :=
  ⟨[], by simp, by simp, _, 0, rfl, by simp, .inr ⟨w.heap.size, 0, #[], rfl, hB, heap_alloc_new w _, Nat.le_refl _, by simp [maxLen], by simp, by simp⟩⟩
theorem DrS.nil : DrS B e sz enc n Q w (.slice Option.none 0 0) := ⟨[], by simp, by simp, _, 0, rfl, World.ownsRow_nil _ _ _ _⟩
end
/-- Only rows of the kind R have turned. -/
def GrownP (R : Nat → Prop) (w w' : World) : Prop := w'.os = w.os ∧ w'.tape = w.tape ∧ w'.output = w.output ∧ w.heap.size ≤ w'.heap.size ∧ ∀ k, k < w.heap.size → ¬ R k → w'.heap[k]? = w.heap[k]?
section
variable {R : Nat → Prop} {a b c : World} {row : Option Nat}
theorem GrownP.refl (R : Nat → Prop) (w : World) : GrownP R w w := ⟨rfl, rfl, rfl, Nat.le_refl _, fun _ _ _ => rfl⟩
theorem GrownP.drew (h : GrownP R a b) : GrownP R a b.drew := h
theorem GrownP.step (h : GrownP R a b) (hg : b.grownBy c row) (hr : ∀ k, row = some k → R k ∨ a.heap.size ≤ k) : GrownP R a c :=
  ⟨hg.os.trans h.1, hg.tape.trans h.2.1, hg.output.trans h.2.2.1, Nat.le_trans h.2.2.2.1 hg.size, fun k hk hn => (hg.block k (Nat.lt_of_lt_of_le hk h.2.2.2.1) (fun e => by rcases hr k e.symm with h | h; exact hn h; omega)).trans (h.2.2.2.2 k hk hn)⟩
theorem GrownP.size (h : GrownP R a b) : a.heap.size ≤ b.heap.size := h.2.2.2.1
end
/-- A variable of its own, in block g. -/
def BoxP (P : List Value → Prop) (T : TypeId) (g : Nat) (w : World) : Prop := ∃ cs : List Value, P cs ∧ w.heap[g]? = some (.cells cs.toArray T (0, 0))
section
variable {P P' : List Value → Prop} {T : TypeId} {g : Nat} {w w' : World} {row : Option Nat}
theorem BoxP.lt (h : BoxP P T g w) : g < w.heap.size := let ⟨_, _, h2⟩ := h; (Array.getElem?_eq_some_iff.1 h2).1
theorem BoxP.grown (h : BoxP P T g w) (hg : w.grownBy w' row) (hr : row ≠ some g) : BoxP P T g w' := let ⟨cs, h1, h2⟩ := h; ⟨cs, h1, (hg.block g (Array.getElem?_eq_some_iff.1 h2).1 (fun e => hr e.symm)).trans h2⟩
theorem BoxP.below (h : BoxP P T g w) (hb : Below w.heap.size w w') : BoxP P T g w' := let ⟨cs, h1, h2⟩ := h; ⟨cs, h1, (hb.block g (Array.getElem?_eq_some_iff.1 h2).1).trans h2⟩
theorem setCells_at {g : Nat} {T : TypeId} {fr : Nat × Nat} (vs : List Value) : ∀ {w : World} {cs : List Value} (o : Nat), w.heap[g]? = some (.cells cs.toArray T fr) → o + vs.length ≤ cs.length → (setCells w g o vs).heap[g]? = some (.cells (cs.take o ++ vs ++ cs.drop (o + vs.length)).toArray T fr) := by
  induction vs with
  | nil => intro w cs o h _; simpa [setCells] using h
  | cons v vs ih =>
    intro w cs o h ho
    simp only [List.length_cons] at ho
    have h1 : (w.setCell ⟨g, o, Option.none⟩ v).heap[g]? = some (.cells (cs.set o v).toArray T fr) := by
      simp [World.setCell, Array.getElem?_modify, h]
    have h2 := ih (o + 1) h1 (by simp; omega)
    rw [setCells, h2]
    congr 3
    rw [List.drop_set_of_lt (by omega), List.take_succ_eq_append_getElem (by rw [List.length_set]; omega)]
    simp only [List.getElem_set_self, List.length_cons]
    rw [List.take_set_of_le (Nat.le_refl _), show o + 1 + vs.length = o + (vs.length + 1) by omega]
    simp
theorem BoxP.put (vs : List Value) (h : BoxP P T g w) (hl : ∀ cs, P cs → cs.length = vs.length) (hP : P' vs) : BoxP P' T g (setCells w g 0 vs) := by
  obtain ⟨cs, h1, h2⟩ := h
  have hlen := hl cs h1
  refine ⟨vs, hP, ?_⟩
  rw [setCells_at vs 0 h2 (by omega)]
  simp [List.drop_of_length_le, hlen]
end
section
variable {app : Option Nat} {B1 br i : Nat} {w w' : World}
end
end Go.Proofs.Ytodjokdaofefdaa
/- Kinds of values, for drawn arguments: a value's kind stays whatever typed writes come. -/
namespace Go.Proofs.Ytodjokdaofefdaa
set_option linter.unusedSimpArgs false
set_option linter.unusedVariables false
open Go.RowKit

/-- A kind of values. -/
abbrev VK := World → Value → Prop
section
variable (B br : Nat)
/-- A block of one's own: elements of the type e; room for m; the cells of the first t are of the kinds ks. -/
def BlkK (e : TypeId) (ks : List VK) (t m : Nat) (w : World) (g : Nat) : Prop := B ≤ g ∧ g ≠ br ∧ ∃ cs, w.heap[g]? = some (.cells cs e (0, 0)) ∧ m * ks.length ≤ cs.size ∧ ∀ (q f : Nat) k u, q < t → ks[f]? = some k → cs[q * ks.length + f]? = some u → k w u
/-- A slice of at most m elements. -/
def SlK (e : TypeId) (ks : List VK) (m : Nat) : VK := fun w v => v = .slice Option.none 0 0 ∨ ∃ g o n c, v = .slice (some ⟨g, o * ks.length, Option.none⟩) n c ∧ n ≤ m ∧ n ≤ c ∧ c ≤ 9223372036854775807 ∧ BlkK B br e ks (o + n) (o + c) w g
/-- A slice that was written out, of n elements. -/
def LitK (e : TypeId) (ks : List VK) (n : Nat) : VK := fun w v => ∃ g, v = .slice (some ⟨g, 0, Option.none⟩) n n ∧ BlkK B br e ks n n w g
/-- What an operation may do to memory: blocks of types in S may get cells of their kinds; the reader turns; nothing else does. -/
def RelK (S : TypeId → Bool) (sh : TypeId → List VK) (w w' : World) : Prop := w.heap.size ≤ w'.heap.size ∧ ∀ g cs T, B ≤ g → g ≠ br → w.heap[g]? = some (.cells cs T (0, 0)) →
  ∃ cs', w'.heap[g]? = some (.cells cs' T (0, 0)) ∧ cs'.size = cs.size ∧ (S T = false → cs' = cs) ∧ (S T = true → ∀ (q f : Nat) k u, (sh T)[f]? = some k → cs'[q * (sh T).length + f]? = some u → cs[q * (sh T).length + f]? = some u ∨ k w u)
def StabK (S : TypeId → Bool) (sh : TypeId → List VK) (k : VK) : Prop := ∀ w w' v, RelK B br S sh w w' → k w v → k w' v
end
section
variable {B br : Nat} {S : TypeId → Bool} {sh : TypeId → List VK} {w w' w'' : World} {v : Value} {g n m t : Nat} {e : TypeId} {ks : List VK}
theorem BlkK.rel (hks : ∀ k ∈ ks, StabK B br S sh k) (hS : S e = true → sh e = ks) (hr : RelK B br S sh w w') (h : BlkK B br e ks t m w g) : BlkK B br e ks t m w' g := by
  obtain ⟨h1, h2, cs, h3, h4, h5⟩ := h
  obtain ⟨cs', g1, g2, g3, g4⟩ := hr.2 g cs e h1 h2 h3
  refine ⟨h1, h2, cs', g1, by omega, fun q f k u hq hk hu => ?_⟩
  have hst := hks k (List.mem_of_getElem? hk)
  cases hSe : S e with
  | false =>
    rw [g3 hSe] at hu
    exact hst w w' u hr (h5 q f k u hq hk hu)
  | true =>
    have he := hS hSe
    rcases g4 hSe q f k u (by rw [he]; exact hk) (by rw [he]; exact hu) with h6 | h6
    · rw [he] at h6; exact hst w w' u hr (h5 q f k u hq hk h6)
    · exact hst w w' u hr h6
theorem stab_sl (hks : ∀ k ∈ ks, StabK B br S sh k) (hS : S e = true → sh e = ks) : StabK B br S sh (SlK B br e ks m) := fun w w' v hr h => by
  rcases h with h | ⟨g, o, n, c, h1, h2, h3, h4, h5⟩
  · exact .inl h
  · exact .inr ⟨g, o, n, c, h1, h2, h3, h4, h5.rel hks hS hr⟩
theorem BlkK.le {m' t' : Nat} (h : BlkK B br e ks t m w g) (ht : t' ≤ t) (hm : m' ≤ m) : BlkK B br e ks t' m' w g := by
  obtain ⟨h1, h2, cs, h3, h4, h5⟩ := h
  exact ⟨h1, h2, cs, h3, Nat.le_trans (Nat.mul_le_mul_right _ hm) h4, fun q f k u hq hk hu => h5 q f k u (by omega) hk hu⟩
theorem BlkK.lower {B' : Nat} (hB : B' ≤ B) (hks : ∀ k ∈ ks, True) (h : BlkK B br e ks t m w g) : BlkK B' br e ks t m w g := by
  obtain ⟨h1, h2, h3⟩ := h
  exact ⟨Nat.le_trans hB h1, h2, h3⟩
/-- The cells of an element. -/
theorem BlkK.cell (h : BlkK B br e ks t m w g) (htm : t ≤ m) {q f : Nat} (hq : q < t) {k : VK} (hk : ks[f]? = some k) : ∃ u, w.cell? ⟨g, q * ks.length + f, Option.none⟩ = some u ∧ k w u := by
  obtain ⟨h1, h2, cs, h3, h4, h5⟩ := h
  have hf : f < ks.length := (List.getElem?_eq_some_iff.1 hk).1
  have h6 := Nat.mul_le_mul_right ks.length (show q + 1 ≤ m by omega)
  rw [Nat.succ_mul] at h6
  have hlt : q * ks.length + f < cs.size := by omega
  refine ⟨cs[q * ks.length + f], ?_, h5 q f k _ hq hk (by rw [Array.getElem?_eq_getElem hlt])⟩
  rw [cell_of_row w g _ cs e (0, 0) h3, Array.getElem?_eq_getElem hlt]
theorem BlkK.free (h : BlkK B br e ks t m w g) (j : Nat) : w.frozen? ⟨g, j, Option.none⟩ = false := by
  obtain ⟨h1, h2, cs, h3, _⟩ := h
  exact frozen_of_row w g j _ _ h3
theorem RelK.refl (w : World) : RelK B br S sh w w := ⟨Nat.le_refl _, fun _ cs _ _ _ h => ⟨cs, h, rfl, fun _ => rfl, fun _ _ _ _ _ _ hu => .inl hu⟩⟩
theorem RelK.grown {row : Option Nat} (hg : w.grownBy w' row) (hr : ∀ k, row = some k → k = br ∨ k < B) : RelK B br S sh w w' :=
  ⟨hg.size, fun g cs T h1 h2 h3 => ⟨cs, (hg.block g (Array.getElem?_eq_some_iff.1 h3).1 (fun e => by rcases hr g e.symm with h | h; exact h2 h; omega)).trans h3, rfl, fun _ => rfl, fun _ _ _ _ _ _ hu => .inl hu⟩⟩
theorem RelK.below (hb : Below w.heap.size w w') : RelK B br S sh w w' := RelK.grown (grown_of_below hb Option.none) (fun k e => by cases e)
theorem RelK.alloc (w : World) (o : Obj) : RelK B br S sh w (w.alloc o) := RelK.below (below_alloc w o)
theorem RelK.drew (w : World) : RelK B br S sh w w.drew := RelK.refl w
theorem setCells_other (g : Nat) (vs : List Value) (w : World) (o k : Nat) (hk : k ≠ g) : (setCells w g o vs).heap[k]? = w.heap[k]? := by
  by_cases hlt : k < w.heap.size
  · exact (setCells_grown g vs w o).block k hlt (by simpa using hk)
  · rw [Array.getElem?_eq_none (by rw [setCells_size]; omega), Array.getElem?_eq_none (by omega)]
/-- Cells are stored, each of its kind. -/
theorem RelK.storeAt {start : Nat} {vs : List Value} (h : BlkK B br e ks t m w g) (hS : S e = true) (he : sh e = ks) (hl0 : start + vs.length ≤ m * ks.length)
    (hv : ∀ (q f : Nat) k u, ks[f]? = some k → start ≤ q * ks.length + f → vs[q * ks.length + f - start]? = some u → k w u) : RelK B br S sh w (setCells w g start vs) := by
  obtain ⟨h1, h2, cs, h3, h4, h5⟩ := h
  have hl : start + vs.length ≤ cs.toList.length := by simp; omega
  have hat := setCells_at (T := e) (fr := (0, 0)) vs (cs := cs.toList) start (by simpa using h3) hl
  refine ⟨by rw [setCells_size]; exact Nat.le_refl _, fun k cs1 T g1 g2 g3 => ?_⟩
  by_cases ek : k = g
  · subst ek
    rw [h3] at g3
    simp only [Option.some.injEq, Obj.cells.injEq, and_true] at g3
    obtain ⟨rfl, rfl⟩ := g3
    refine ⟨_, hat, (by simp; simp at hl; omega), (fun hn => by rw [hS] at hn; cases hn), fun _ q' f' k' u hk hu => ?_⟩
    rw [he] at hk hu ⊢
    simp only [List.getElem?_toArray, List.append_assoc] at hu
    by_cases a1 : q' * ks.length + f' < start
    · rw [List.getElem?_append_left (by simp at hl ⊢; omega), List.getElem?_take_of_lt a1] at hu
      exact .inl (by simpa using hu)
    · rw [List.getElem?_append_right (by simp; omega)] at hu
      have e1 : (cs.toList.take start).length = start := by simp at hl ⊢; omega
      rw [e1] at hu
      by_cases a2 : q' * ks.length + f' - start < vs.length
      · rw [List.getElem?_append_left a2] at hu
        exact .inr (hv q' f' k' u hk (by omega) hu)
      · rw [List.getElem?_append_right (by omega), List.getElem?_drop] at hu
        rw [show start + vs.length + (q' * ks.length + f' - start - vs.length) = q' * ks.length + f' by omega] at hu
        exact .inl (by simpa using hu)
  · exact ⟨cs1, by rw [setCells_other g vs w _ k ek]; exact g3, rfl, fun _ => rfl, fun _ _ _ _ _ _ hu => .inl hu⟩
theorem one_elem {q q' f f' len n : Nat} (hf' : f' < len) (hfn : f + n ≤ len) (h1 : q * len + f ≤ q' * len + f') (h2 : q' * len + f' - (q * len + f) < n) : q' = q := by
  rcases Nat.lt_trichotomy q' q with c | c | c
  · have := Nat.mul_le_mul_right len c
    rw [Nat.succ_mul] at this
    omega
  · exact c
  · have := Nat.mul_le_mul_right len c
    rw [Nat.succ_mul] at this
    omega
/-- Cells of an element are stored. -/
theorem RelK.store {q f : Nat} {vs : List Value} (h : BlkK B br e ks t m w g) (hS : S e = true) (he : sh e = ks) (hq : q < m) (hf : f + vs.length ≤ ks.length)
    (hv : ∀ (i : Nat) k u, ks[f + i]? = some k → vs[i]? = some u → k w u) : RelK B br S sh w (setCells w g (q * ks.length + f) vs) := by
  have h6 := Nat.mul_le_mul_right ks.length hq
  rw [Nat.succ_mul] at h6
  refine RelK.storeAt h hS he (by omega) (fun q' f' k u hk hs hu => ?_)
  have hf' : f' < ks.length := (List.getElem?_eq_some_iff.1 hk).1
  have hlt := (List.getElem?_eq_some_iff.1 hu).1
  obtain rfl := one_elem hf' hf hs hlt
  refine hv (f' - f) k u ?_ ?_
  · rwa [show f + (f' - f) = f' by omega]
  · rwa [show q' * ks.length + f' - (q' * ks.length + f) = f' - f by omega] at hu
/-- More elements are stored behind those that are there. -/
theorem BlkK.storeAt {c : Nat} {vs : List Value} (h : BlkK B br e ks t m w g) (hS : S e = true) (he : sh e = ks) (hst : ∀ k ∈ ks, StabK B br S sh k) (hlen : vs.length = c * ks.length) (htc : t + c ≤ m)
    (hv : ∀ (i f : Nat) k u, i < c → ks[f]? = some k → vs[i * ks.length + f]? = some u → k w u) : RelK B br S sh w (setCells w g (t * ks.length) vs) ∧ BlkK B br e ks (t + c) m (setCells w g (t * ks.length) vs) g := by
  have hm := Nat.mul_le_mul_right ks.length htc
  rw [Nat.add_mul] at hm
  have key : ∀ (q f : Nat) k u, ks[f]? = some k → t * ks.length ≤ q * ks.length + f → vs[q * ks.length + f - t * ks.length]? = some u → k w u := fun q f k u hk hs hu => by
    have hf : f < ks.length := (List.getElem?_eq_some_iff.1 hk).1
    have hlt := (List.getElem?_eq_some_iff.1 hu).1
    have hqt : t ≤ q := by
      rcases Nat.lt_or_ge q t with c1 | c1
      · have := Nat.mul_le_mul_right ks.length c1
        rw [Nat.succ_mul] at this
        omega
      · exact c1
    obtain ⟨i, rfl⟩ : ∃ i, q = t + i := ⟨q - t, by omega⟩
    rw [Nat.add_mul, show t * ks.length + i * ks.length + f - t * ks.length = i * ks.length + f by omega] at hu hlt
    have hic : i < c := by
      rcases Nat.lt_or_ge i c with c1 | c1
      · exact c1
      · have := Nat.mul_le_mul_right ks.length c1
        omega
    exact hv i f k u hic hk hu
  have hr := RelK.storeAt (S := S) (sh := sh) h hS he (by omega) key
  refine ⟨hr, ?_⟩
  obtain ⟨h1, h2, cs, h3, h4, h5⟩ := h
  have hl : t * ks.length + vs.length ≤ cs.toList.length := by simp; omega
  have hat := setCells_at (T := e) (fr := (0, 0)) vs (cs := cs.toList) (t * ks.length) (by simpa using h3) hl
  refine ⟨h1, h2, _, hat, (by simp; simp at hl; omega), fun q f k u hq hk hu => ?_⟩
  have hf : f < ks.length := (List.getElem?_eq_some_iff.1 hk).1
  refine hst k (List.mem_of_getElem? hk) _ _ _ hr ?_
  simp only [List.getElem?_toArray, List.append_assoc] at hu
  by_cases a1 : q < t
  · have := Nat.mul_le_mul_right ks.length a1
    rw [Nat.succ_mul] at this
    rw [List.getElem?_append_left (by simp at hl ⊢; omega), List.getElem?_take_of_lt (by omega)] at hu
    exact h5 q f k u a1 hk (by simpa using hu)
  · have hge := Nat.mul_le_mul_right ks.length (show t ≤ q by omega)
    have hle := Nat.mul_le_mul_right ks.length (show q + 1 ≤ t + c by omega)
    rw [Nat.succ_mul, Nat.add_mul] at hle
    rw [List.getElem?_append_right (by simp; omega)] at hu
    have e1 : (cs.toList.take (t * ks.length)).length = t * ks.length := by simp at hl ⊢; omega
    rw [e1, List.getElem?_append_left (by omega)] at hu
    exact key q f k u hk (by omega) hu
end
end Go.Proofs.Ytodjokdaofefdaa

/- Values of expressions: by the reference. -/
import Derived.Test.YtodjokdaofefdaaQ13
import Derived.Test.YtodjokdaofefdaaQ14
namespace Go.Proofs.Ytodjokdaofefdaa
set_option linter.unusedSimpArgs false
set_option linter.unusedVariables false
open Go.RowKit

set_option maxRecDepth 100000 in
set_option maxHeartbeats 8000000 in
theorem lv_1 {d : Nat} {W : WL} {r : Rq} {A B C : Option Addr} {c c2 ct : Nat} {t : Ex} {w : World} (hW : wlR w A W) (hR : fdR w B r.fs) (hU : exW d w C t.ps) (hO : OkW W r) (hg : gdR (d + 1) t = true) (k : t.k = 1) :
    Calls Try.prog 95 #[.slice A W.length c, .agg #[.int .i64 r.who, .int .i64 r.act, .int .i64 r.what, .slice B r.fs.length c2], .agg #[.int .i64 t.k, .int .i64 t.n, .string t.s, .slice C t.ps.length ct]] w fun e w' => e = .returned (evVal (ev (d + 1) W r t)) ∧ Below w.heap.size w w' := by
  have har := gd_len hg
  have hn0 := (gd_n hg).1
  obtain ⟨X, hX⟩ : ∃ X, X = ((w.alloc (.cells #[.int .i64 r.who, .int .i64 r.act, .int .i64 r.what, .slice B r.fs.length c2] 37)).alloc (.cells #[.int .i64 t.k, .int .i64 t.n, .string t.s, .slice C t.ps.length ct] 28)).alloc (.cells #[.int .i64 0, .int .i64 0] 79) := ⟨_, rfl⟩
  obtain ⟨g, hgg⟩ : ∃ g, g = w.heap.size := ⟨_, rfl⟩
  have hB : Below w.heap.size w X := by rw [hX]; (repeat (first | exact Below.refl _ _ | refine ext_alloc ?_ _ | refine Below.setCell ?_ (by simp) _))
  have hq1 : X.heap[g]? = some (.cells #[.int .i64 r.who, .int .i64 r.act, .int .i64 r.what, .slice B r.fs.length c2] 37 (0, 0)) := by rw [hX, hgg]; exact block_in (block_in (heap_alloc_new _ _) (below_alloc _ _)) (below_alloc _ _)
  have hq2 : X.heap[g + 1]? = some (.cells #[.int .i64 t.k, .int .i64 t.n, .string t.s, .slice C t.ps.length ct] 28 (0, 0)) := by rw [hX, hgg]; exact block_in (heap_alloc_at (by simp)) (below_alloc _ _)
  have hq3 : X.heap[g + 1 + 1]? = some (.cells #[.int .i64 0, .int .i64 0] 79 (0, 0)) := by rw [hX, hgg]; exact heap_alloc_at (by simp)
  replace hW := hW.below hB
  replace hR := hR.below hB
  replace hU := hU.below hB
  have hlW := hW.len
  have hlR := hR.len
  have hGB : w.heap.size ≤ g + 1 + 1 ∧ g + 1 + 1 < X.heap.size := ⟨by omega, by rw [hX, hgg]; simp⟩
  have HX := Lib.hid hX
  have HG := Lib.hid hgg
  have HQ1 := Lib.hid hq1
  have HQ2 := Lib.hid hq2
  have HQ3 := Lib.hid hq3
  have HGB := Lib.hid hGB
  have HB := Lib.hid hB
  obtain ⟨p0, p1, p2, p3⟩ := cells4 hq1
  obtain ⟨q0, q1, q2, q3⟩ := cells4 hq2
  obtain ⟨z0, z1⟩ := cells2 hq3
  obtain ⟨f0, f1⟩ := froz2 hq3
  clear hX hgg hq1 hq2 hq3 hB hGB
  have HF := Lib.hid (ev_k1 (d := d) (W := W) (r := r) k)
  have kb1 : (t.k == 1) = true := by rw [k]; rfl
  have kb2 : (t.k == 2) = false := by rw [k]; rfl
  have kb3 : (t.k == 3) = false := by rw [k]; rfl
  have kb4 : (t.k == 4) = false := by rw [k]; rfl
  have kb5 : (t.k == 5) = false := by rw [k]; rfl
  have kb6 : (t.k == 6) = false := by rw [k]; rfl
  have kb7 : (t.k == 7) = false := by rw [k]; rfl
  have kb8 : (t.k == 8) = false := by rw [k]; rfl
  have kb9 : (t.k == 9) = false := by rw [k]; rfl
  have kb10 : (t.k == 10) = false := by rw [k]; rfl
  have kb11 : (t.k == 11) = false := by rw [k]; rfl
  have kb12 : (t.k == 12) = false := by rw [k]; rfl
  have kb13 : (t.k == 13) = false := by rw [k]; rfl
  have kb14 : (t.k == 14) = false := by rw [k]; rfl
  have kb15 : (t.k == 15) = false := by rw [k]; rfl
  have HE : Hid (ev (d + 1) W r t = (1, t.n, 0)) := HF
  clear hU hO k har hR hW hg hn0
  go_enter Try.func95, Try.ntmps95
  go_wp2
  refine bodyPost_ret (v := .tuple #[.agg #[.int .i64 (1), .int .i64 (t.n)], .int .i64 0]) (by simp [results, go_sem]) rfl ⟨by rw [HE.out]; rfl, ?_⟩
  repeat (first | exact Below.refl _ _ | refine ext_alloc ?_ _ | refine Below.setCell ?_ (by (try simp) <;> omega) _)
set_option maxRecDepth 100000 in
set_option maxHeartbeats 8000000 in
theorem lv_2 {d : Nat} {W : WL} {r : Rq} {A B C : Option Addr} {c c2 ct : Nat} {t : Ex} {w : World} (hW : wlR w A W) (hR : fdR w B r.fs) (hU : exW d w C t.ps) (hO : OkW W r) (hg : gdR (d + 1) t = true) (k : t.k = 2) :
    Calls Try.prog 95 #[.slice A W.length c, .agg #[.int .i64 r.who, .int .i64 r.act, .int .i64 r.what, .slice B r.fs.length c2], .agg #[.int .i64 t.k, .int .i64 t.n, .string t.s, .slice C t.ps.length ct]] w fun e w' => e = .returned (evVal (ev (d + 1) W r t)) ∧ Below w.heap.size w w' := by
  have har := gd_len hg
  have hn0 := (gd_n hg).1
  obtain ⟨X, hX⟩ : ∃ X, X = ((w.alloc (.cells #[.int .i64 r.who, .int .i64 r.act, .int .i64 r.what, .slice B r.fs.length c2] 37)).alloc (.cells #[.int .i64 t.k, .int .i64 t.n, .string t.s, .slice C t.ps.length ct] 28)).alloc (.cells #[.int .i64 0, .int .i64 0] 79) := ⟨_, rfl⟩
  obtain ⟨g, hgg⟩ : ∃ g, g = w.heap.size := ⟨_, rfl⟩
  have hB : Below w.heap.size w X := by rw [hX]; (repeat (first | exact Below.refl _ _ | refine ext_alloc ?_ _ | refine Below.setCell ?_ (by simp) _))
  have hq1 : X.heap[g]? = some (.cells #[.int .i64 r.who, .int .i64 r.act, .int .i64 r.what, .slice B r.fs.length c2] 37 (0, 0)) := by rw [hX, hgg]; exact block_in (block_in (heap_alloc_new _ _) (below_alloc _ _)) (below_alloc _ _)
  have hq2 : X.heap[g + 1]? = some (.cells #[.int .i64 t.k, .int .i64 t.n, .string t.s, .slice C t.ps.length ct] 28 (0, 0)) := by rw [hX, hgg]; exact block_in (heap_alloc_at (by simp)) (below_alloc _ _)
  have hq3 : X.heap[g + 1 + 1]? = some (.cells #[.int .i64 0, .int .i64 0] 79 (0, 0)) := by rw [hX, hgg]; exact heap_alloc_at (by simp)
  replace hW := hW.below hB
  replace hR := hR.below hB
  replace hU := hU.below hB
  have hlW := hW.len
  have hlR := hR.len
  have hGB : w.heap.size ≤ g + 1 + 1 ∧ g + 1 + 1 < X.heap.size := ⟨by omega, by rw [hX, hgg]; simp⟩
  have HX := Lib.hid hX
  have HG := Lib.hid hgg
  have HQ1 := Lib.hid hq1
  have HQ2 := Lib.hid hq2
  have HQ3 := Lib.hid hq3
  have HGB := Lib.hid hGB
  have HB := Lib.hid hB
  obtain ⟨p0, p1, p2, p3⟩ := cells4 hq1
  obtain ⟨q0, q1, q2, q3⟩ := cells4 hq2
  obtain ⟨z0, z1⟩ := cells2 hq3
  obtain ⟨f0, f1⟩ := froz2 hq3
  clear hX hgg hq1 hq2 hq3 hB hGB
  have HF := Lib.hid (ev_k2 (d := d) (W := W) (r := r) k)
  have kb1 : (t.k == 1) = false := by rw [k]; rfl
  have kb2 : (t.k == 2) = true := by rw [k]; rfl
  have kb3 : (t.k == 3) = false := by rw [k]; rfl
  have kb4 : (t.k == 4) = false := by rw [k]; rfl
  have kb5 : (t.k == 5) = false := by rw [k]; rfl
  have kb6 : (t.k == 6) = false := by rw [k]; rfl
  have kb7 : (t.k == 7) = false := by rw [k]; rfl
  have kb8 : (t.k == 8) = false := by rw [k]; rfl
  have kb9 : (t.k == 9) = false := by rw [k]; rfl
  have kb10 : (t.k == 10) = false := by rw [k]; rfl
  have kb11 : (t.k == 11) = false := by rw [k]; rfl
  have kb12 : (t.k == 12) = false := by rw [k]; rfl
  have kb13 : (t.k == 13) = false := by rw [k]; rfl
  have kb14 : (t.k == 14) = false := by rw [k]; rfl
  have kb15 : (t.k == 15) = false := by rw [k]; rfl
  have HE : Hid (ev (d + 1) W r t = (2, t.n, 0)) := HF
  clear hU hO k har hR hW hg hn0
  go_enter Try.func95, Try.ntmps95
  go_wp2
  refine bodyPost_ret (v := .tuple #[.agg #[.int .i64 (2), .int .i64 (t.n)], .int .i64 0]) (by simp [results, go_sem]) rfl ⟨by rw [HE.out]; rfl, ?_⟩
  repeat (first | exact Below.refl _ _ | refine ext_alloc ?_ _ | refine Below.setCell ?_ (by (try simp) <;> omega) _)
set_option maxRecDepth 100000 in
set_option maxHeartbeats 8000000 in
theorem lv_3 {d : Nat} {W : WL} {r : Rq} {A B C : Option Addr} {c c2 ct : Nat} {t : Ex} {w : World} (hW : wlR w A W) (hR : fdR w B r.fs) (hU : exW d w C t.ps) (hO : OkW W r) (hg : gdR (d + 1) t = true) (k : t.k = 3) :
    Calls Try.prog 95 #[.slice A W.length c, .agg #[.int .i64 r.who, .int .i64 r.act, .int .i64 r.what, .slice B r.fs.length c2], .agg #[.int .i64 t.k, .int .i64 t.n, .string t.s, .slice C t.ps.length ct]] w fun e w' => e = .returned (evVal (ev (d + 1) W r t)) ∧ Below w.heap.size w w' := by
  have har := gd_len hg
  have hn0 := (gd_n hg).1
  obtain ⟨X, hX⟩ : ∃ X, X = ((w.alloc (.cells #[.int .i64 r.who, .int .i64 r.act, .int .i64 r.what, .slice B r.fs.length c2] 37)).alloc (.cells #[.int .i64 t.k, .int .i64 t.n, .string t.s, .slice C t.ps.length ct] 28)).alloc (.cells #[.int .i64 0, .int .i64 0] 79) := ⟨_, rfl⟩
  obtain ⟨g, hgg⟩ : ∃ g, g = w.heap.size := ⟨_, rfl⟩
  have hB : Below w.heap.size w X := by rw [hX]; (repeat (first | exact Below.refl _ _ | refine ext_alloc ?_ _ | refine Below.setCell ?_ (by simp) _))
  have hq1 : X.heap[g]? = some (.cells #[.int .i64 r.who, .int .i64 r.act, .int .i64 r.what, .slice B r.fs.length c2] 37 (0, 0)) := by rw [hX, hgg]; exact block_in (block_in (heap_alloc_new _ _) (below_alloc _ _)) (below_alloc _ _)
  have hq2 : X.heap[g + 1]? = some (.cells #[.int .i64 t.k, .int .i64 t.n, .string t.s, .slice C t.ps.length ct] 28 (0, 0)) := by rw [hX, hgg]; exact block_in (heap_alloc_at (by simp)) (below_alloc _ _)
  have hq3 : X.heap[g + 1 + 1]? = some (.cells #[.int .i64 0, .int .i64 0] 79 (0, 0)) := by rw [hX, hgg]; exact heap_alloc_at (by simp)
  replace hW := hW.below hB
  replace hR := hR.below hB
  replace hU := hU.below hB
  have hlW := hW.len
  have hlR := hR.len
  have hGB : w.heap.size ≤ g + 1 + 1 ∧ g + 1 + 1 < X.heap.size := ⟨by omega, by rw [hX, hgg]; simp⟩
  have HX := Lib.hid hX
  have HG := Lib.hid hgg
  have HQ1 := Lib.hid hq1
  have HQ2 := Lib.hid hq2
  have HQ3 := Lib.hid hq3
  have HGB := Lib.hid hGB
  have HB := Lib.hid hB
  obtain ⟨p0, p1, p2, p3⟩ := cells4 hq1
  obtain ⟨q0, q1, q2, q3⟩ := cells4 hq2
  obtain ⟨z0, z1⟩ := cells2 hq3
  obtain ⟨f0, f1⟩ := froz2 hq3
  clear hX hgg hq1 hq2 hq3 hB hGB
  have HF := Lib.hid (ev_k3 (d := d) (W := W) (r := r) k)
  have kb1 : (t.k == 1) = false := by rw [k]; rfl
  have kb2 : (t.k == 2) = false := by rw [k]; rfl
  have kb3 : (t.k == 3) = true := by rw [k]; rfl
  have kb4 : (t.k == 4) = false := by rw [k]; rfl
  have kb5 : (t.k == 5) = false := by rw [k]; rfl
  have kb6 : (t.k == 6) = false := by rw [k]; rfl
  have kb7 : (t.k == 7) = false := by rw [k]; rfl
  have kb8 : (t.k == 8) = false := by rw [k]; rfl
  have kb9 : (t.k == 9) = false := by rw [k]; rfl
  have kb10 : (t.k == 10) = false := by rw [k]; rfl
  have kb11 : (t.k == 11) = false := by rw [k]; rfl
  have kb12 : (t.k == 12) = false := by rw [k]; rfl
  have kb13 : (t.k == 13) = false := by rw [k]; rfl
  have kb14 : (t.k == 14) = false := by rw [k]; rfl
  have kb15 : (t.k == 15) = false := by rw [k]; rfl
  by_cases gt : t.n < W.length
  · have gd : decide (W.length ≤ t.n) = false := by simp; omega
    have HE : Hid (ev (d + 1) W r t = (3, t.n, 0)) := Lib.hid (by rw [HF.out, if_pos (show thgB W t.n = true from inB_true.2 ⟨hn0, by omega⟩)])
    clear hU hO k har hR hW hg hn0 gt
    go_enter Try.func95, Try.ntmps95
    go_wp2
    refine bodyPost_ret (v := .tuple #[.agg #[.int .i64 (3), .int .i64 (t.n)], .int .i64 0]) (by simp [results, go_sem]) rfl ⟨by rw [HE.out]; rfl, ?_⟩
    repeat (first | exact Below.refl _ _ | refine ext_alloc ?_ _ | refine Below.setCell ?_ (by (try simp) <;> omega) _)
  · have gd : decide (W.length ≤ t.n) = true := by simp; omega
    have HE : Hid (ev (d + 1) W r t = (0, 0, 3)) := Lib.hid (by rw [HF.out, if_neg (show ¬ thgB W t.n = true from fun h => gt (by have := (inB_true.1 (show inB t.n 0 (W.length - 1) = true from h)).2; omega))]; rfl)
    clear hU hO k har hR hW hg hn0 gt
    go_enter Try.func95, Try.ntmps95
    go_wp2
    refine bodyPost_ret (v := .tuple #[.agg #[.int .i64 (0), .int .i64 (0)], .int .i64 3]) (by simp [results, go_sem]) rfl ⟨by rw [HE.out]; rfl, ?_⟩
    repeat (first | exact Below.refl _ _ | refine ext_alloc ?_ _ | refine Below.setCell ?_ (by (try simp) <;> omega) _)
set_option maxRecDepth 100000 in
set_option maxHeartbeats 8000000 in
theorem lv_4 {d : Nat} {W : WL} {r : Rq} {A B C : Option Addr} {c c2 ct : Nat} {t : Ex} {w : World} (hW : wlR w A W) (hR : fdR w B r.fs) (hU : exW d w C t.ps) (hO : OkW W r) (hg : gdR (d + 1) t = true) (k : t.k = 4) :
    Calls Try.prog 95 #[.slice A W.length c, .agg #[.int .i64 r.who, .int .i64 r.act, .int .i64 r.what, .slice B r.fs.length c2], .agg #[.int .i64 t.k, .int .i64 t.n, .string t.s, .slice C t.ps.length ct]] w fun e w' => e = .returned (evVal (ev (d + 1) W r t)) ∧ Below w.heap.size w w' := by
  have har := gd_len hg
  have hn0 := (gd_n hg).1
  obtain ⟨X, hX⟩ : ∃ X, X = ((w.alloc (.cells #[.int .i64 r.who, .int .i64 r.act, .int .i64 r.what, .slice B r.fs.length c2] 37)).alloc (.cells #[.int .i64 t.k, .int .i64 t.n, .string t.s, .slice C t.ps.length ct] 28)).alloc (.cells #[.int .i64 0, .int .i64 0] 79) := ⟨_, rfl⟩
  obtain ⟨g, hgg⟩ : ∃ g, g = w.heap.size := ⟨_, rfl⟩
  have hB : Below w.heap.size w X := by rw [hX]; (repeat (first | exact Below.refl _ _ | refine ext_alloc ?_ _ | refine Below.setCell ?_ (by simp) _))
  have hq1 : X.heap[g]? = some (.cells #[.int .i64 r.who, .int .i64 r.act, .int .i64 r.what, .slice B r.fs.length c2] 37 (0, 0)) := by rw [hX, hgg]; exact block_in (block_in (heap_alloc_new _ _) (below_alloc _ _)) (below_alloc _ _)
  have hq2 : X.heap[g + 1]? = some (.cells #[.int .i64 t.k, .int .i64 t.n, .string t.s, .slice C t.ps.length ct] 28 (0, 0)) := by rw [hX, hgg]; exact block_in (heap_alloc_at (by simp)) (below_alloc _ _)
  have hq3 : X.heap[g + 1 + 1]? = some (.cells #[.int .i64 0, .int .i64 0] 79 (0, 0)) := by rw [hX, hgg]; exact heap_alloc_at (by simp)
  replace hW := hW.below hB
  replace hR := hR.below hB
  replace hU := hU.below hB
  have hlW := hW.len
  have hlR := hR.len
  have hGB : w.heap.size ≤ g + 1 + 1 ∧ g + 1 + 1 < X.heap.size := ⟨by omega, by rw [hX, hgg]; simp⟩
  have HX := Lib.hid hX
  have HG := Lib.hid hgg
  have HQ1 := Lib.hid hq1
  have HQ2 := Lib.hid hq2
  have HQ3 := Lib.hid hq3
  have HGB := Lib.hid hGB
  have HB := Lib.hid hB
  obtain ⟨p0, p1, p2, p3⟩ := cells4 hq1
  obtain ⟨q0, q1, q2, q3⟩ := cells4 hq2
  obtain ⟨z0, z1⟩ := cells2 hq3
  obtain ⟨f0, f1⟩ := froz2 hq3
  clear hX hgg hq1 hq2 hq3 hB hGB
  have HF := Lib.hid (ev_k4 (d := d) (W := W) (r := r) k)
  have kb1 : (t.k == 1) = false := by rw [k]; rfl
  have kb2 : (t.k == 2) = false := by rw [k]; rfl
  have kb3 : (t.k == 3) = false := by rw [k]; rfl
  have kb4 : (t.k == 4) = true := by rw [k]; rfl
  have kb5 : (t.k == 5) = false := by rw [k]; rfl
  have kb6 : (t.k == 6) = false := by rw [k]; rfl
  have kb7 : (t.k == 7) = false := by rw [k]; rfl
  have kb8 : (t.k == 8) = false := by rw [k]; rfl
  have kb9 : (t.k == 9) = false := by rw [k]; rfl
  have kb10 : (t.k == 10) = false := by rw [k]; rfl
  have kb11 : (t.k == 11) = false := by rw [k]; rfl
  have kb12 : (t.k == 12) = false := by rw [k]; rfl
  have kb13 : (t.k == 13) = false := by rw [k]; rfl
  have kb14 : (t.k == 14) = false := by rw [k]; rfl
  have kb15 : (t.k == 15) = false := by rw [k]; rfl
  have HE : Hid (ev (d + 1) W r t = (3, r.who, 0)) := HF
  clear hU hO k har hR hW hg hn0
  go_enter Try.func95, Try.ntmps95
  go_wp2
  refine bodyPost_ret (v := .tuple #[.agg #[.int .i64 (3), .int .i64 (r.who)], .int .i64 0]) (by simp [results, go_sem]) rfl ⟨by rw [HE.out]; rfl, ?_⟩
  repeat (first | exact Below.refl _ _ | refine ext_alloc ?_ _ | refine Below.setCell ?_ (by (try simp) <;> omega) _)
set_option maxRecDepth 100000 in
set_option maxHeartbeats 8000000 in
theorem lv_5 {d : Nat} {W : WL} {r : Rq} {A B C : Option Addr} {c c2 ct : Nat} {t : Ex} {w : World} (hW : wlR w A W) (hR : fdR w B r.fs) (hU : exW d w C t.ps) (hO : OkW W r) (hg : gdR (d + 1) t = true) (k : t.k = 5) :
    Calls Try.prog 95 #[.slice A W.length c, .agg #[.int .i64 r.who, .int .i64 r.act, .int .i64 r.what, .slice B r.fs.length c2], .agg #[.int .i64 t.k, .int .i64 t.n, .string t.s, .slice C t.ps.length ct]] w fun e w' => e = .returned (evVal (ev (d + 1) W r t)) ∧ Below w.heap.size w w' := by
  have har := gd_len hg
  have hn0 := (gd_n hg).1
  obtain ⟨X, hX⟩ : ∃ X, X = ((w.alloc (.cells #[.int .i64 r.who, .int .i64 r.act, .int .i64 r.what, .slice B r.fs.length c2] 37)).alloc (.cells #[.int .i64 t.k, .int .i64 t.n, .string t.s, .slice C t.ps.length ct] 28)).alloc (.cells #[.int .i64 0, .int .i64 0] 79) := ⟨_, rfl⟩
  obtain ⟨g, hgg⟩ : ∃ g, g = w.heap.size := ⟨_, rfl⟩
  have hB : Below w.heap.size w X := by rw [hX]; (repeat (first | exact Below.refl _ _ | refine ext_alloc ?_ _ | refine Below.setCell ?_ (by simp) _))
  have hq1 : X.heap[g]? = some (.cells #[.int .i64 r.who, .int .i64 r.act, .int .i64 r.what, .slice B r.fs.length c2] 37 (0, 0)) := by rw [hX, hgg]; exact block_in (block_in (heap_alloc_new _ _) (below_alloc _ _)) (below_alloc _ _)
  have hq2 : X.heap[g + 1]? = some (.cells #[.int .i64 t.k, .int .i64 t.n, .string t.s, .slice C t.ps.length ct] 28 (0, 0)) := by rw [hX, hgg]; exact block_in (heap_alloc_at (by simp)) (below_alloc _ _)
  have hq3 : X.heap[g + 1 + 1]? = some (.cells #[.int .i64 0, .int .i64 0] 79 (0, 0)) := by rw [hX, hgg]; exact heap_alloc_at (by simp)
  replace hW := hW.below hB
  replace hR := hR.below hB
  replace hU := hU.below hB
  have hlW := hW.len
  have hlR := hR.len
  have hGB : w.heap.size ≤ g + 1 + 1 ∧ g + 1 + 1 < X.heap.size := ⟨by omega, by rw [hX, hgg]; simp⟩
  have HX := Lib.hid hX
  have HG := Lib.hid hgg
  have HQ1 := Lib.hid hq1
  have HQ2 := Lib.hid hq2
  have HQ3 := Lib.hid hq3
  have HGB := Lib.hid hGB
  have HB := Lib.hid hB
  obtain ⟨p0, p1, p2, p3⟩ := cells4 hq1
  obtain ⟨q0, q1, q2, q3⟩ := cells4 hq2
  obtain ⟨z0, z1⟩ := cells2 hq3
  obtain ⟨f0, f1⟩ := froz2 hq3
  clear hX hgg hq1 hq2 hq3 hB hGB
  have HF := Lib.hid (ev_k5 (d := d) (W := W) (r := r) k)
  have kb1 : (t.k == 1) = false := by rw [k]; rfl
  have kb2 : (t.k == 2) = false := by rw [k]; rfl
  have kb3 : (t.k == 3) = false := by rw [k]; rfl
  have kb4 : (t.k == 4) = false := by rw [k]; rfl
  have kb5 : (t.k == 5) = true := by rw [k]; rfl
  have kb6 : (t.k == 6) = false := by rw [k]; rfl
  have kb7 : (t.k == 7) = false := by rw [k]; rfl
  have kb8 : (t.k == 8) = false := by rw [k]; rfl
  have kb9 : (t.k == 9) = false := by rw [k]; rfl
  have kb10 : (t.k == 10) = false := by rw [k]; rfl
  have kb11 : (t.k == 11) = false := by rw [k]; rfl
  have kb12 : (t.k == 12) = false := by rw [k]; rfl
  have kb13 : (t.k == 13) = false := by rw [k]; rfl
  have kb14 : (t.k == 14) = false := by rw [k]; rfl
  have kb15 : (t.k == 15) = false := by rw [k]; rfl
  have HE : Hid (ev (d + 1) W r t = (3, r.what, 0)) := HF
  clear hU hO k har hR hW hg hn0
  go_enter Try.func95, Try.ntmps95
  go_wp2
  refine bodyPost_ret (v := .tuple #[.agg #[.int .i64 (3), .int .i64 (r.what)], .int .i64 0]) (by simp [results, go_sem]) rfl ⟨by rw [HE.out]; rfl, ?_⟩
  repeat (first | exact Below.refl _ _ | refine ext_alloc ?_ _ | refine Below.setCell ?_ (by (try simp) <;> omega) _)
set_option maxRecDepth 100000 in
set_option maxHeartbeats 8000000 in
theorem lv_6 {d : Nat} {W : WL} {r : Rq} {A B C : Option Addr} {c c2 ct : Nat} {t : Ex} {w : World} (hW : wlR w A W) (hR : fdR w B r.fs) (hU : exW d w C t.ps) (hO : OkW W r) (hg : gdR (d + 1) t = true) (k : t.k = 6) :
    Calls Try.prog 95 #[.slice A W.length c, .agg #[.int .i64 r.who, .int .i64 r.act, .int .i64 r.what, .slice B r.fs.length c2], .agg #[.int .i64 t.k, .int .i64 t.n, .string t.s, .slice C t.ps.length ct]] w fun e w' => e = .returned (evVal (ev (d + 1) W r t)) ∧ Below w.heap.size w w' := by
  have har := gd_len hg
  have hn0 := (gd_n hg).1
  obtain ⟨X, hX⟩ : ∃ X, X = ((w.alloc (.cells #[.int .i64 r.who, .int .i64 r.act, .int .i64 r.what, .slice B r.fs.length c2] 37)).alloc (.cells #[.int .i64 t.k, .int .i64 t.n, .string t.s, .slice C t.ps.length ct] 28)).alloc (.cells #[.int .i64 0, .int .i64 0] 79) := ⟨_, rfl⟩
  obtain ⟨g, hgg⟩ : ∃ g, g = w.heap.size := ⟨_, rfl⟩
  have hB : Below w.heap.size w X := by rw [hX]; (repeat (first | exact Below.refl _ _ | refine ext_alloc ?_ _ | refine Below.setCell ?_ (by simp) _))
  have hq1 : X.heap[g]? = some (.cells #[.int .i64 r.who, .int .i64 r.act, .int .i64 r.what, .slice B r.fs.length c2] 37 (0, 0)) := by rw [hX, hgg]; exact block_in (block_in (heap_alloc_new _ _) (below_alloc _ _)) (below_alloc _ _)
  have hq2 : X.heap[g + 1]? = some (.cells #[.int .i64 t.k, .int .i64 t.n, .string t.s, .slice C t.ps.length ct] 28 (0, 0)) := by rw [hX, hgg]; exact block_in (heap_alloc_at (by simp)) (below_alloc _ _)
  have hq3 : X.heap[g + 1 + 1]? = some (.cells #[.int .i64 0, .int .i64 0] 79 (0, 0)) := by rw [hX, hgg]; exact heap_alloc_at (by simp)
  replace hW := hW.below hB
  replace hR := hR.below hB
  replace hU := hU.below hB
  have hlW := hW.len
  have hlR := hR.len
  have hGB : w.heap.size ≤ g + 1 + 1 ∧ g + 1 + 1 < X.heap.size := ⟨by omega, by rw [hX, hgg]; simp⟩
  have HX := Lib.hid hX
  have HG := Lib.hid hgg
  have HQ1 := Lib.hid hq1
  have HQ2 := Lib.hid hq2
  have HQ3 := Lib.hid hq3
  have HGB := Lib.hid hGB
  have HB := Lib.hid hB
  obtain ⟨p0, p1, p2, p3⟩ := cells4 hq1
  obtain ⟨q0, q1, q2, q3⟩ := cells4 hq2
  obtain ⟨z0, z1⟩ := cells2 hq3
  obtain ⟨f0, f1⟩ := froz2 hq3
  clear hX hgg hq1 hq2 hq3 hB hGB
  have HF := Lib.hid (ev_k6 (d := d) (W := W) (r := r) k)
  have kb1 : (t.k == 1) = false := by rw [k]; rfl
  have kb2 : (t.k == 2) = false := by rw [k]; rfl
  have kb3 : (t.k == 3) = false := by rw [k]; rfl
  have kb4 : (t.k == 4) = false := by rw [k]; rfl
  have kb5 : (t.k == 5) = false := by rw [k]; rfl
  have kb6 : (t.k == 6) = true := by rw [k]; rfl
  have kb7 : (t.k == 7) = false := by rw [k]; rfl
  have kb8 : (t.k == 8) = false := by rw [k]; rfl
  have kb9 : (t.k == 9) = false := by rw [k]; rfl
  have kb10 : (t.k == 10) = false := by rw [k]; rfl
  have kb11 : (t.k == 11) = false := by rw [k]; rfl
  have kb12 : (t.k == 12) = false := by rw [k]; rfl
  have kb13 : (t.k == 13) = false := by rw [k]; rfl
  have kb14 : (t.k == 14) = false := by rw [k]; rfl
  have kb15 : (t.k == 15) = false := by rw [k]; rfl
  have HE : Hid (ev (d + 1) W r t = (2, r.act, 0)) := HF
  clear hU hO k har hR hW hg hn0
  go_enter Try.func95, Try.ntmps95
  go_wp2
  refine bodyPost_ret (v := .tuple #[.agg #[.int .i64 (2), .int .i64 (r.act)], .int .i64 0]) (by simp [results, go_sem]) rfl ⟨by rw [HE.out]; rfl, ?_⟩
  repeat (first | exact Below.refl _ _ | refine ext_alloc ?_ _ | refine Below.setCell ?_ (by (try simp) <;> omega) _)
set_option maxRecDepth 100000 in
set_option maxHeartbeats 8000000 in
theorem lv_7 {d : Nat} {W : WL} {r : Rq} {A B C : Option Addr} {c c2 ct : Nat} {t : Ex} {w : World} (hW : wlR w A W) (hR : fdR w B r.fs) (hU : exW d w C t.ps) (hO : OkW W r) (hg : gdR (d + 1) t = true) (k : t.k = 7) :
    Calls Try.prog 95 #[.slice A W.length c, .agg #[.int .i64 r.who, .int .i64 r.act, .int .i64 r.what, .slice B r.fs.length c2], .agg #[.int .i64 t.k, .int .i64 t.n, .string t.s, .slice C t.ps.length ct]] w fun e w' => e = .returned (evVal (ev (d + 1) W r t)) ∧ Below w.heap.size w w' := by
  have har := gd_len hg
  have hn0 := (gd_n hg).1
  obtain ⟨X, hX⟩ : ∃ X, X = ((w.alloc (.cells #[.int .i64 r.who, .int .i64 r.act, .int .i64 r.what, .slice B r.fs.length c2] 37)).alloc (.cells #[.int .i64 t.k, .int .i64 t.n, .string t.s, .slice C t.ps.length ct] 28)).alloc (.cells #[.int .i64 0, .int .i64 0] 79) := ⟨_, rfl⟩
  obtain ⟨g, hgg⟩ : ∃ g, g = w.heap.size := ⟨_, rfl⟩
  have hB : Below w.heap.size w X := by rw [hX]; (repeat (first | exact Below.refl _ _ | refine ext_alloc ?_ _ | refine Below.setCell ?_ (by simp) _))
  have hq1 : X.heap[g]? = some (.cells #[.int .i64 r.who, .int .i64 r.act, .int .i64 r.what, .slice B r.fs.length c2] 37 (0, 0)) := by rw [hX, hgg]; exact block_in (block_in (heap_alloc_new _ _) (below_alloc _ _)) (below_alloc _ _)
  have hq2 : X.heap[g + 1]? = some (.cells #[.int .i64 t.k, .int .i64 t.n, .string t.s, .slice C t.ps.length ct] 28 (0, 0)) := by rw [hX, hgg]; exact block_in (heap_alloc_at (by simp)) (below_alloc _ _)
  have hq3 : X.heap[g + 1 + 1]? = some (.cells #[.int .i64 0, .int .i64 0] 79 (0, 0)) := by rw [hX, hgg]; exact heap_alloc_at (by simp)
  replace hW := hW.below hB
  replace hR := hR.below hB
  replace hU := hU.below hB
  have hlW := hW.len
  have hlR := hR.len
  have hGB : w.heap.size ≤ g + 1 + 1 ∧ g + 1 + 1 < X.heap.size := ⟨by omega, by rw [hX, hgg]; simp⟩
  have HX := Lib.hid hX
  have HG := Lib.hid hgg
  have HQ1 := Lib.hid hq1
  have HQ2 := Lib.hid hq2
  have HQ3 := Lib.hid hq3
  have HGB := Lib.hid hGB
  have HB := Lib.hid hB
  obtain ⟨p0, p1, p2, p3⟩ := cells4 hq1
  obtain ⟨q0, q1, q2, q3⟩ := cells4 hq2
  obtain ⟨z0, z1⟩ := cells2 hq3
  obtain ⟨f0, f1⟩ := froz2 hq3
  clear hX hgg hq1 hq2 hq3 hB hGB
  have HF := Lib.hid (ev_k7 (d := d) (W := W) (r := r) k)
  have kb1 : (t.k == 1) = false := by rw [k]; rfl
  have kb2 : (t.k == 2) = false := by rw [k]; rfl
  have kb3 : (t.k == 3) = false := by rw [k]; rfl
  have kb4 : (t.k == 4) = false := by rw [k]; rfl
  have kb5 : (t.k == 5) = false := by rw [k]; rfl
  have kb6 : (t.k == 6) = false := by rw [k]; rfl
  have kb7 : (t.k == 7) = true := by rw [k]; rfl
  have kb8 : (t.k == 8) = false := by rw [k]; rfl
  have kb9 : (t.k == 9) = false := by rw [k]; rfl
  have kb10 : (t.k == 10) = false := by rw [k]; rfl
  have kb11 : (t.k == 11) = false := by rw [k]; rfl
  have kb12 : (t.k == 12) = false := by rw [k]; rfl
  have kb13 : (t.k == 13) = false := by rw [k]; rfl
  have kb14 : (t.k == 14) = false := by rw [k]; rfl
  have kb15 : (t.k == 15) = false := by rw [k]; rfl
  clear hU hO k har hW hg hn0
  go_enter Try.func95, Try.ntmps95
  go_wp2_with fail
  rw [← HX.out, ← HG.out]
  refine (specFieldOf hR).mono ?_
  rintro e w1 ⟨rfl, hb⟩
  clear p0 p1 p2 p3 q0 q1 q2 q3 z0 z1 f0 f1
  cases ho : fdOf r.fs t.s with
  | none =>
    have HE : Hid (ev (d + 1) W r t = (0, 0, 2)) := Lib.hid (by rw [HF.out, ho]; rfl)
    have HB1 := Lib.hid (ext_alloc (ext_trans HB.out hb) (.cells #[.int .i64 0, .int .i64 0] 79))
    have HQ3 := Lib.hid (block_in (block_in HQ3.out hb) (below_alloc w1 (.cells #[.int .i64 0, .int .i64 0] 79)))
    obtain ⟨z0, z1⟩ := cells2 HQ3.out
    obtain ⟨f0, f1⟩ := froz2 HQ3.out
    simp only [fdVal, fdV, Option.getD_none, Option.isSome_none]
    clear hb
    go_wp2
    obtain ⟨r0, r1⟩ := cells2 (box_put (.int .i64 (0)) (.int .i64 (0)) HQ3.out rfl)
    exact bodyPost_ret (v := .tuple #[.agg #[.int .i64 (0), .int .i64 (0)], .int .i64 (2)]) (by simp [results, go_sem, r0, r1]) rfl ⟨by rw [HE.out]; rfl, box_put_below _ _ HGB.out.1 HB1.out⟩
  | some v =>
    obtain ⟨x, y⟩ := v
    have HE : Hid (ev (d + 1) W r t = (x, y, 0)) := Lib.hid (by rw [HF.out, ho]; rfl)
    have HB1 := Lib.hid (ext_alloc (ext_trans HB.out hb) (.cells #[.int .i64 x, .int .i64 y] 79))
    have HQ3 := Lib.hid (block_in (block_in HQ3.out hb) (below_alloc w1 (.cells #[.int .i64 x, .int .i64 y] 79)))
    obtain ⟨z0, z1⟩ := cells2 HQ3.out
    obtain ⟨f0, f1⟩ := froz2 HQ3.out
    have y0 := box_cell w1 #[.int .i64 x, .int .i64 y] 79 0 _ rfl
    have y1 := box_cell w1 #[.int .i64 x, .int .i64 y] 79 1 _ rfl
    simp only [fdVal, fdV, Option.getD_some, Option.isSome_some]
    clear hb
    go_wp2
    obtain ⟨r0, r1⟩ := cells2 (box_put (.int .i64 (x)) (.int .i64 (y)) HQ3.out rfl)
    exact bodyPost_ret (v := .tuple #[.agg #[.int .i64 (x), .int .i64 (y)], .int .i64 (0)]) (by simp [results, go_sem, r0, r1]) rfl ⟨by rw [HE.out]; rfl, box_put_below _ _ HGB.out.1 HB1.out⟩
set_option maxRecDepth 100000 in
set_option maxHeartbeats 8000000 in
theorem lv_14 {m : Nat} (hQ : LvQ m) {W : WL} {r : Rq} {A B C : Option Addr} {c c2 ct : Nat} {t : Ex} {w : World} (hW : wlR w A W) (hR : fdR w B r.fs) (hU : exW (m + 1) w C t.ps) (hO : OkW W r) (hg : gdR (m + 1 + 1) t = true) (k : t.k = 14) :
    Calls Try.prog 95 #[.slice A W.length c, .agg #[.int .i64 r.who, .int .i64 r.act, .int .i64 r.what, .slice B r.fs.length c2], .agg #[.int .i64 t.k, .int .i64 t.n, .string t.s, .slice C t.ps.length ct]] w fun e w' => e = .returned (evVal (ev (m + 1 + 1) W r t)) ∧ Below w.heap.size w w' := by
  have har := gd_len hg
  have hn0 := (gd_n hg).1
  obtain ⟨X, hX⟩ : ∃ X, X = ((w.alloc (.cells #[.int .i64 r.who, .int .i64 r.act, .int .i64 r.what, .slice B r.fs.length c2] 37)).alloc (.cells #[.int .i64 t.k, .int .i64 t.n, .string t.s, .slice C t.ps.length ct] 28)).alloc (.cells #[.int .i64 0, .int .i64 0] 79) := ⟨_, rfl⟩
  obtain ⟨g, hgg⟩ : ∃ g, g = w.heap.size := ⟨_, rfl⟩
  have hB : Below w.heap.size w X := by rw [hX]; (repeat (first | exact Below.refl _ _ | refine ext_alloc ?_ _ | refine Below.setCell ?_ (by simp) _))
  have hq1 : X.heap[g]? = some (.cells #[.int .i64 r.who, .int .i64 r.act, .int .i64 r.what, .slice B r.fs.length c2] 37 (0, 0)) := by rw [hX, hgg]; exact block_in (block_in (heap_alloc_new _ _) (below_alloc _ _)) (below_alloc _ _)
  have hq2 : X.heap[g + 1]? = some (.cells #[.int .i64 t.k, .int .i64 t.n, .string t.s, .slice C t.ps.length ct] 28 (0, 0)) := by rw [hX, hgg]; exact block_in (heap_alloc_at (by simp)) (below_alloc _ _)
  have hq3 : X.heap[g + 1 + 1]? = some (.cells #[.int .i64 0, .int .i64 0] 79 (0, 0)) := by rw [hX, hgg]; exact heap_alloc_at (by simp)
  replace hW := hW.below hB
  replace hR := hR.below hB
  replace hU := hU.below hB
  have hlW := hW.len
  have hlR := hR.len
  have hGB : w.heap.size ≤ g + 1 + 1 ∧ g + 1 + 1 < X.heap.size := ⟨by omega, by rw [hX, hgg]; simp⟩
  have HX := Lib.hid hX
  have HG := Lib.hid hgg
  have HQ1 := Lib.hid hq1
  have HQ2 := Lib.hid hq2
  have HQ3 := Lib.hid hq3
  have HGB := Lib.hid hGB
  have HB := Lib.hid hB
  obtain ⟨p0, p1, p2, p3⟩ := cells4 hq1
  obtain ⟨q0, q1, q2, q3⟩ := cells4 hq2
  obtain ⟨z0, z1⟩ := cells2 hq3
  obtain ⟨f0, f1⟩ := froz2 hq3
  clear hX hgg hq1 hq2 hq3 hB hGB
  rw [k] at har
  have hn : t.ps.length = 2 := har
  have HC := Lib.hid (l6Either_any (c := c) (c2 := c2) (ct := ct) (stop := 0) hQ hW hR hU hO hn hg (by decide))
  rw [← ev_k14 k] at HC
  obtain ⟨v, hv⟩ : ∃ v, ev (m + 1 + 1) W r t = v := ⟨_, rfl⟩
  rw [hv] at HC ⊢
  obtain ⟨x, y, f⟩ := v
  unfold evVal at HC
  have kb1 : (t.k == 1) = false := by rw [k]; rfl
  have kb2 : (t.k == 2) = false := by rw [k]; rfl
  have kb3 : (t.k == 3) = false := by rw [k]; rfl
  have kb4 : (t.k == 4) = false := by rw [k]; rfl
  have kb5 : (t.k == 5) = false := by rw [k]; rfl
  have kb6 : (t.k == 6) = false := by rw [k]; rfl
  have kb7 : (t.k == 7) = false := by rw [k]; rfl
  have kb8 : (t.k == 8) = false := by rw [k]; rfl
  have kb9 : (t.k == 9) = false := by rw [k]; rfl
  have kb10 : (t.k == 10) = false := by rw [k]; rfl
  have kb11 : (t.k == 11) = false := by rw [k]; rfl
  have kb12 : (t.k == 12) = false := by rw [k]; rfl
  have kb13 : (t.k == 13) = false := by rw [k]; rfl
  have kb14 : (t.k == 14) = true := by rw [k]; rfl
  have kb15 : (t.k == 15) = false := by rw [k]; rfl
  clear hQ hU hO k har hR hW hg hn0 hn hv
  go_enter Try.func95, Try.ntmps95
  go_wp2_with fail
  rw [← HX.out, ← HG.out]
  refine HC.out.mono ?_
  rintro e w1 ⟨rfl, hb⟩
  have HB1 := Lib.hid (ext_trans HB.out hb)
  have HQ3 := Lib.hid (block_in HQ3.out hb)
  clear p0 p1 p2 p3 q0 q1 q2 q3 z0 z1 f0 f1 hb
  obtain ⟨z0, z1⟩ := cells2 HQ3.out
  obtain ⟨f0, f1⟩ := froz2 HQ3.out
  go_wp2
  obtain ⟨r0, r1⟩ := cells2 (box_put (.int .i64 (x)) (.int .i64 (y)) HQ3.out rfl)
  exact bodyPost_ret (v := .tuple #[.agg #[.int .i64 (x), .int .i64 (y)], .int .i64 (f)]) (by simp [results, go_sem, r0, r1]) rfl ⟨rfl, box_put_below _ _ HGB.out.1 HB1.out⟩
set_option maxRecDepth 100000 in
set_option maxHeartbeats 8000000 in
theorem lv_15 {m : Nat} (hQ : LvQ m) {W : WL} {r : Rq} {A B C : Option Addr} {c c2 ct : Nat} {t : Ex} {w : World} (hW : wlR w A W) (hR : fdR w B r.fs) (hU : exW (m + 1) w C t.ps) (hO : OkW W r) (hg : gdR (m + 1 + 1) t = true) (k : t.k = 15) :
    Calls Try.prog 95 #[.slice A W.length c, .agg #[.int .i64 r.who, .int .i64 r.act, .int .i64 r.what, .slice B r.fs.length c2], .agg #[.int .i64 t.k, .int .i64 t.n, .string t.s, .slice C t.ps.length ct]] w fun e w' => e = .returned (evVal (ev (m + 1 + 1) W r t)) ∧ Below w.heap.size w w' := by
  have har := gd_len hg
  have hn0 := (gd_n hg).1
  obtain ⟨X, hX⟩ : ∃ X, X = ((w.alloc (.cells #[.int .i64 r.who, .int .i64 r.act, .int .i64 r.what, .slice B r.fs.length c2] 37)).alloc (.cells #[.int .i64 t.k, .int .i64 t.n, .string t.s, .slice C t.ps.length ct] 28)).alloc (.cells #[.int .i64 0, .int .i64 0] 79) := ⟨_, rfl⟩
  obtain ⟨g, hgg⟩ : ∃ g, g = w.heap.size := ⟨_, rfl⟩
  have hB : Below w.heap.size w X := by rw [hX]; (repeat (first | exact Below.refl _ _ | refine ext_alloc ?_ _ | refine Below.setCell ?_ (by simp) _))
  have hq1 : X.heap[g]? = some (.cells #[.int .i64 r.who, .int .i64 r.act, .int .i64 r.what, .slice B r.fs.length c2] 37 (0, 0)) := by rw [hX, hgg]; exact block_in (block_in (heap_alloc_new _ _) (below_alloc _ _)) (below_alloc _ _)
  have hq2 : X.heap[g + 1]? = some (.cells #[.int .i64 t.k, .int .i64 t.n, .string t.s, .slice C t.ps.length ct] 28 (0, 0)) := by rw [hX, hgg]; exact block_in (heap_alloc_at (by simp)) (below_alloc _ _)
  have hq3 : X.heap[g + 1 + 1]? = some (.cells #[.int .i64 0, .int .i64 0] 79 (0, 0)) := by rw [hX, hgg]; exact heap_alloc_at (by simp)
  replace hW := hW.below hB
  replace hR := hR.below hB
  replace hU := hU.below hB
  have hlW := hW.len
  have hlR := hR.len
  have hGB : w.heap.size ≤ g + 1 + 1 ∧ g + 1 + 1 < X.heap.size := ⟨by omega, by rw [hX, hgg]; simp⟩
  have HX := Lib.hid hX
  have HG := Lib.hid hgg
  have HQ1 := Lib.hid hq1
  have HQ2 := Lib.hid hq2
  have HQ3 := Lib.hid hq3
  have HGB := Lib.hid hGB
  have HB := Lib.hid hB
  obtain ⟨p0, p1, p2, p3⟩ := cells4 hq1
  obtain ⟨q0, q1, q2, q3⟩ := cells4 hq2
  obtain ⟨z0, z1⟩ := cells2 hq3
  obtain ⟨f0, f1⟩ := froz2 hq3
  clear hX hgg hq1 hq2 hq3 hB hGB
  rw [k] at har
  have hn : t.ps.length = 2 := har
  have HC := Lib.hid (l6Either_any (c := c) (c2 := c2) (ct := ct) (stop := 1) hQ hW hR hU hO hn hg (by decide))
  rw [← ev_k15 k] at HC
  obtain ⟨v, hv⟩ : ∃ v, ev (m + 1 + 1) W r t = v := ⟨_, rfl⟩
  rw [hv] at HC ⊢
  obtain ⟨x, y, f⟩ := v
  unfold evVal at HC
  have kb1 : (t.k == 1) = false := by rw [k]; rfl
  have kb2 : (t.k == 2) = false := by rw [k]; rfl
  have kb3 : (t.k == 3) = false := by rw [k]; rfl
  have kb4 : (t.k == 4) = false := by rw [k]; rfl
  have kb5 : (t.k == 5) = false := by rw [k]; rfl
  have kb6 : (t.k == 6) = false := by rw [k]; rfl
  have kb7 : (t.k == 7) = false := by rw [k]; rfl
  have kb8 : (t.k == 8) = false := by rw [k]; rfl
  have kb9 : (t.k == 9) = false := by rw [k]; rfl
  have kb10 : (t.k == 10) = false := by rw [k]; rfl
  have kb11 : (t.k == 11) = false := by rw [k]; rfl
  have kb12 : (t.k == 12) = false := by rw [k]; rfl
  have kb13 : (t.k == 13) = false := by rw [k]; rfl
  have kb14 : (t.k == 14) = false := by rw [k]; rfl
  have kb15 : (t.k == 15) = true := by rw [k]; rfl
  clear hQ hU hO k har hR hW hg hn0 hn hv
  go_enter Try.func95, Try.ntmps95
  go_wp2_with fail
  rw [← HX.out, ← HG.out]
  refine HC.out.mono ?_
  rintro e w1 ⟨rfl, hb⟩
  have HB1 := Lib.hid (ext_trans HB.out hb)
  have HQ3 := Lib.hid (block_in HQ3.out hb)
  clear p0 p1 p2 p3 q0 q1 q2 q3 z0 z1 f0 f1 hb
  obtain ⟨z0, z1⟩ := cells2 HQ3.out
  obtain ⟨f0, f1⟩ := froz2 HQ3.out
  go_wp2
  obtain ⟨r0, r1⟩ := cells2 (box_put (.int .i64 (x)) (.int .i64 (y)) HQ3.out rfl)
  exact bodyPost_ret (v := .tuple #[.agg #[.int .i64 (x), .int .i64 (y)], .int .i64 (f)]) (by simp [results, go_sem, r0, r1]) rfl ⟨rfl, box_put_below _ _ HGB.out.1 HB1.out⟩
set_option maxRecDepth 100000 in
set_option maxHeartbeats 8000000 in
theorem lv_10 {m : Nat} (hQ : LvQ m) {W : WL} {r : Rq} {A B C : Option Addr} {c c2 ct : Nat} {t : Ex} {w : World} (hW : wlR w A W) (hR : fdR w B r.fs) (hU : exW (m + 1) w C t.ps) (hO : OkW W r) (hg : gdR (m + 1 + 1) t = true) (k : t.k = 10) :
    Calls Try.prog 95 #[.slice A W.length c, .agg #[.int .i64 r.who, .int .i64 r.act, .int .i64 r.what, .slice B r.fs.length c2], .agg #[.int .i64 t.k, .int .i64 t.n, .string t.s, .slice C t.ps.length ct]] w fun e w' => e = .returned (evVal (ev (m + 1 + 1) W r t)) ∧ Below w.heap.size w w' := by
  have har := gd_len hg
  have hn0 := (gd_n hg).1
  obtain ⟨X, hX⟩ : ∃ X, X = ((w.alloc (.cells #[.int .i64 r.who, .int .i64 r.act, .int .i64 r.what, .slice B r.fs.length c2] 37)).alloc (.cells #[.int .i64 t.k, .int .i64 t.n, .string t.s, .slice C t.ps.length ct] 28)).alloc (.cells #[.int .i64 0, .int .i64 0] 79) := ⟨_, rfl⟩
  obtain ⟨g, hgg⟩ : ∃ g, g = w.heap.size := ⟨_, rfl⟩
  have hB : Below w.heap.size w X := by rw [hX]; (repeat (first | exact Below.refl _ _ | refine ext_alloc ?_ _ | refine Below.setCell ?_ (by simp) _))
  have hq1 : X.heap[g]? = some (.cells #[.int .i64 r.who, .int .i64 r.act, .int .i64 r.what, .slice B r.fs.length c2] 37 (0, 0)) := by rw [hX, hgg]; exact block_in (block_in (heap_alloc_new _ _) (below_alloc _ _)) (below_alloc _ _)
  have hq2 : X.heap[g + 1]? = some (.cells #[.int .i64 t.k, .int .i64 t.n, .string t.s, .slice C t.ps.length ct] 28 (0, 0)) := by rw [hX, hgg]; exact block_in (heap_alloc_at (by simp)) (below_alloc _ _)
  have hq3 : X.heap[g + 1 + 1]? = some (.cells #[.int .i64 0, .int .i64 0] 79 (0, 0)) := by rw [hX, hgg]; exact heap_alloc_at (by simp)
  replace hW := hW.below hB
  replace hR := hR.below hB
  replace hU := hU.below hB
  have hlW := hW.len
  have hlR := hR.len
  have hGB : w.heap.size ≤ g + 1 + 1 ∧ g + 1 + 1 < X.heap.size := ⟨by omega, by rw [hX, hgg]; simp⟩
  have HX := Lib.hid hX
  have HG := Lib.hid hgg
  have HQ1 := Lib.hid hq1
  have HQ2 := Lib.hid hq2
  have HQ3 := Lib.hid hq3
  have HGB := Lib.hid hGB
  have HB := Lib.hid hB
  obtain ⟨p0, p1, p2, p3⟩ := cells4 hq1
  obtain ⟨q0, q1, q2, q3⟩ := cells4 hq2
  obtain ⟨z0, z1⟩ := cells2 hq3
  obtain ⟨f0, f1⟩ := froz2 hq3
  clear hX hgg hq1 hq2 hq3 hB hGB
  rw [k] at har
  have hn : t.ps.length = 2 := har
  have HC := Lib.hid (l6Compare_10 (c := c) (c2 := c2) (ct := ct) hQ hW hR hU hO hn hg k)
  rw [← ev_kp (d := m + 1) (W := W) (r := r) (by omega)] at HC
  obtain ⟨v, hv⟩ : ∃ v, ev (m + 1 + 1) W r t = v := ⟨_, rfl⟩
  rw [hv] at HC ⊢
  obtain ⟨x, y, f⟩ := v
  unfold evVal at HC
  have kb1 : (t.k == 1) = false := by rw [k]; rfl
  have kb2 : (t.k == 2) = false := by rw [k]; rfl
  have kb3 : (t.k == 3) = false := by rw [k]; rfl
  have kb4 : (t.k == 4) = false := by rw [k]; rfl
  have kb5 : (t.k == 5) = false := by rw [k]; rfl
  have kb6 : (t.k == 6) = false := by rw [k]; rfl
  have kb7 : (t.k == 7) = false := by rw [k]; rfl
  have kb8 : (t.k == 8) = false := by rw [k]; rfl
  have kb9 : (t.k == 9) = false := by rw [k]; rfl
  have kb10 : (t.k == 10) = true := by rw [k]; rfl
  have kb11 : (t.k == 11) = false := by rw [k]; rfl
  have kb12 : (t.k == 12) = false := by rw [k]; rfl
  have kb13 : (t.k == 13) = false := by rw [k]; rfl
  have kb14 : (t.k == 14) = false := by rw [k]; rfl
  have kb15 : (t.k == 15) = false := by rw [k]; rfl
  clear hQ hU hO k har hR hW hg hn0 hn hv
  go_enter Try.func95, Try.ntmps95
  go_wp2_with fail
  rw [← HX.out, ← HG.out]
  refine HC.out.mono ?_
  rintro e w1 ⟨rfl, hb⟩
  have HB1 := Lib.hid (ext_trans HB.out hb)
  have HQ3 := Lib.hid (block_in HQ3.out hb)
  clear p0 p1 p2 p3 q0 q1 q2 q3 z0 z1 f0 f1 hb
  obtain ⟨z0, z1⟩ := cells2 HQ3.out
  obtain ⟨f0, f1⟩ := froz2 HQ3.out
  go_wp2
  obtain ⟨r0, r1⟩ := cells2 (box_put (.int .i64 (x)) (.int .i64 (y)) HQ3.out rfl)
  exact bodyPost_ret (v := .tuple #[.agg #[.int .i64 (x), .int .i64 (y)], .int .i64 (f)]) (by simp [results, go_sem, r0, r1]) rfl ⟨rfl, box_put_below _ _ HGB.out.1 HB1.out⟩
set_option maxRecDepth 100000 in
set_option maxHeartbeats 8000000 in
theorem lv_11 {m : Nat} (hQ : LvQ m) {W : WL} {r : Rq} {A B C : Option Addr} {c c2 ct : Nat} {t : Ex} {w : World} (hW : wlR w A W) (hR : fdR w B r.fs) (hU : exW (m + 1) w C t.ps) (hO : OkW W r) (hg : gdR (m + 1 + 1) t = true) (k : t.k = 11) :
    Calls Try.prog 95 #[.slice A W.length c, .agg #[.int .i64 r.who, .int .i64 r.act, .int .i64 r.what, .slice B r.fs.length c2], .agg #[.int .i64 t.k, .int .i64 t.n, .string t.s, .slice C t.ps.length ct]] w fun e w' => e = .returned (evVal (ev (m + 1 + 1) W r t)) ∧ Below w.heap.size w w' := by
  have har := gd_len hg
  have hn0 := (gd_n hg).1
  obtain ⟨X, hX⟩ : ∃ X, X = ((w.alloc (.cells #[.int .i64 r.who, .int .i64 r.act, .int .i64 r.what, .slice B r.fs.length c2] 37)).alloc (.cells #[.int .i64 t.k, .int .i64 t.n, .string t.s, .slice C t.ps.length ct] 28)).alloc (.cells #[.int .i64 0, .int .i64 0] 79) := ⟨_, rfl⟩
  obtain ⟨g, hgg⟩ : ∃ g, g = w.heap.size := ⟨_, rfl⟩
  have hB : Below w.heap.size w X := by rw [hX]; (repeat (first | exact Below.refl _ _ | refine ext_alloc ?_ _ | refine Below.setCell ?_ (by simp) _))
  have hq1 : X.heap[g]? = some (.cells #[.int .i64 r.who, .int .i64 r.act, .int .i64 r.what, .slice B r.fs.length c2] 37 (0, 0)) := by rw [hX, hgg]; exact block_in (block_in (heap_alloc_new _ _) (below_alloc _ _)) (below_alloc _ _)
  have hq2 : X.heap[g + 1]? = some (.cells #[.int .i64 t.k, .int .i64 t.n, .string t.s, .slice C t.ps.length ct] 28 (0, 0)) := by rw [hX, hgg]; exact block_in (heap_alloc_at (by simp)) (below_alloc _ _)
  have hq3 : X.heap[g + 1 + 1]? = some (.cells #[.int .i64 0, .int .i64 0] 79 (0, 0)) := by rw [hX, hgg]; exact heap_alloc_at (by simp)
  replace hW := hW.below hB
  replace hR := hR.below hB
  replace hU := hU.below hB
  have hlW := hW.len
  have hlR := hR.len
  have hGB : w.heap.size ≤ g + 1 + 1 ∧ g + 1 + 1 < X.heap.size := ⟨by omega, by rw [hX, hgg]; simp⟩
  have HX := Lib.hid hX
  have HG := Lib.hid hgg
  have HQ1 := Lib.hid hq1
  have HQ2 := Lib.hid hq2
  have HQ3 := Lib.hid hq3
  have HGB := Lib.hid hGB
  have HB := Lib.hid hB
  obtain ⟨p0, p1, p2, p3⟩ := cells4 hq1
  obtain ⟨q0, q1, q2, q3⟩ := cells4 hq2
  obtain ⟨z0, z1⟩ := cells2 hq3
  obtain ⟨f0, f1⟩ := froz2 hq3
  clear hX hgg hq1 hq2 hq3 hB hGB
  rw [k] at har
  have hn : t.ps.length = 2 := har
  have HC := Lib.hid (l6Compare_11 (c := c) (c2 := c2) (ct := ct) hQ hW hR hU hO hn hg k)
  rw [← ev_kp (d := m + 1) (W := W) (r := r) (by omega)] at HC
  obtain ⟨v, hv⟩ : ∃ v, ev (m + 1 + 1) W r t = v := ⟨_, rfl⟩
  rw [hv] at HC ⊢
  obtain ⟨x, y, f⟩ := v
  unfold evVal at HC
  have kb1 : (t.k == 1) = false := by rw [k]; rfl
  have kb2 : (t.k == 2) = false := by rw [k]; rfl
  have kb3 : (t.k == 3) = false := by rw [k]; rfl
  have kb4 : (t.k == 4) = false := by rw [k]; rfl
  have kb5 : (t.k == 5) = false := by rw [k]; rfl
  have kb6 : (t.k == 6) = false := by rw [k]; rfl
  have kb7 : (t.k == 7) = false := by rw [k]; rfl
  have kb8 : (t.k == 8) = false := by rw [k]; rfl
  have kb9 : (t.k == 9) = false := by rw [k]; rfl
  have kb10 : (t.k == 10) = false := by rw [k]; rfl
  have kb11 : (t.k == 11) = true := by rw [k]; rfl
  have kb12 : (t.k == 12) = false := by rw [k]; rfl
  have kb13 : (t.k == 13) = false := by rw [k]; rfl
  have kb14 : (t.k == 14) = false := by rw [k]; rfl
  have kb15 : (t.k == 15) = false := by rw [k]; rfl
  clear hQ hU hO k har hR hW hg hn0 hn hv
  go_enter Try.func95, Try.ntmps95
  go_wp2_with fail
  rw [← HX.out, ← HG.out]
  refine HC.out.mono ?_
  rintro e w1 ⟨rfl, hb⟩
  have HB1 := Lib.hid (ext_trans HB.out hb)
  have HQ3 := Lib.hid (block_in HQ3.out hb)
  clear p0 p1 p2 p3 q0 q1 q2 q3 z0 z1 f0 f1 hb
  obtain ⟨z0, z1⟩ := cells2 HQ3.out
  obtain ⟨f0, f1⟩ := froz2 HQ3.out
  go_wp2
  obtain ⟨r0, r1⟩ := cells2 (box_put (.int .i64 (x)) (.int .i64 (y)) HQ3.out rfl)
  exact bodyPost_ret (v := .tuple #[.agg #[.int .i64 (x), .int .i64 (y)], .int .i64 (f)]) (by simp [results, go_sem, r0, r1]) rfl ⟨rfl, box_put_below _ _ HGB.out.1 HB1.out⟩
set_option maxRecDepth 100000 in
set_option maxHeartbeats 8000000 in
theorem lv_12 {m : Nat} (hQ : LvQ m) {W : WL} {r : Rq} {A B C : Option Addr} {c c2 ct : Nat} {t : Ex} {w : World} (hW : wlR w A W) (hR : fdR w B r.fs) (hU : exW (m + 1) w C t.ps) (hO : OkW W r) (hg : gdR (m + 1 + 1) t = true) (k : t.k = 12) :
    Calls Try.prog 95 #[.slice A W.length c, .agg #[.int .i64 r.who, .int .i64 r.act, .int .i64 r.what, .slice B r.fs.length c2], .agg #[.int .i64 t.k, .int .i64 t.n, .string t.s, .slice C t.ps.length ct]] w fun e w' => e = .returned (evVal (ev (m + 1 + 1) W r t)) ∧ Below w.heap.size w w' := by
  have har := gd_len hg
  have hn0 := (gd_n hg).1
  obtain ⟨X, hX⟩ : ∃ X, X = ((w.alloc (.cells #[.int .i64 r.who, .int .i64 r.act, .int .i64 r.what, .slice B r.fs.length c2] 37)).alloc (.cells #[.int .i64 t.k, .int .i64 t.n, .string t.s, .slice C t.ps.length ct] 28)).alloc (.cells #[.int .i64 0, .int .i64 0] 79) := ⟨_, rfl⟩
  obtain ⟨g, hgg⟩ : ∃ g, g = w.heap.size := ⟨_, rfl⟩
  have hB : Below w.heap.size w X := by rw [hX]; (repeat (first | exact Below.refl _ _ | refine ext_alloc ?_ _ | refine Below.setCell ?_ (by simp) _))
  have hq1 : X.heap[g]? = some (.cells #[.int .i64 r.who, .int .i64 r.act, .int .i64 r.what, .slice B r.fs.length c2] 37 (0, 0)) := by rw [hX, hgg]; exact block_in (block_in (heap_alloc_new _ _) (below_alloc _ _)) (below_alloc _ _)
  have hq2 : X.heap[g + 1]? = some (.cells #[.int .i64 t.k, .int .i64 t.n, .string t.s, .slice C t.ps.length ct] 28 (0, 0)) := by rw [hX, hgg]; exact block_in (heap_alloc_at (by simp)) (below_alloc _ _)
  have hq3 : X.heap[g + 1 + 1]? = some (.cells #[.int .i64 0, .int .i64 0] 79 (0, 0)) := by rw [hX, hgg]; exact heap_alloc_at (by simp)
  replace hW := hW.below hB
  replace hR := hR.below hB
  replace hU := hU.below hB
  have hlW := hW.len
  have hlR := hR.len
  have hGB : w.heap.size ≤ g + 1 + 1 ∧ g + 1 + 1 < X.heap.size := ⟨by omega, by rw [hX, hgg]; simp⟩
  have HX := Lib.hid hX
  have HG := Lib.hid hgg
  have HQ1 := Lib.hid hq1
  have HQ2 := Lib.hid hq2
  have HQ3 := Lib.hid hq3
  have HGB := Lib.hid hGB
  have HB := Lib.hid hB
  obtain ⟨p0, p1, p2, p3⟩ := cells4 hq1
  obtain ⟨q0, q1, q2, q3⟩ := cells4 hq2
  obtain ⟨z0, z1⟩ := cells2 hq3
  obtain ⟨f0, f1⟩ := froz2 hq3
  clear hX hgg hq1 hq2 hq3 hB hGB
  rw [k] at har
  have hn : t.ps.length = 2 := har
  have HC := Lib.hid (l6Compare_12 (c := c) (c2 := c2) (ct := ct) hQ hW hR hU hO hn hg k)
  rw [← ev_kp (d := m + 1) (W := W) (r := r) (by omega)] at HC
  obtain ⟨v, hv⟩ : ∃ v, ev (m + 1 + 1) W r t = v := ⟨_, rfl⟩
  rw [hv] at HC ⊢
  obtain ⟨x, y, f⟩ := v
  unfold evVal at HC
  have kb1 : (t.k == 1) = false := by rw [k]; rfl
  have kb2 : (t.k == 2) = false := by rw [k]; rfl
  have kb3 : (t.k == 3) = false := by rw [k]; rfl
  have kb4 : (t.k == 4) = false := by rw [k]; rfl
  have kb5 : (t.k == 5) = false := by rw [k]; rfl
  have kb6 : (t.k == 6) = false := by rw [k]; rfl
  have kb7 : (t.k == 7) = false := by rw [k]; rfl
  have kb8 : (t.k == 8) = false := by rw [k]; rfl
  have kb9 : (t.k == 9) = false := by rw [k]; rfl
  have kb10 : (t.k == 10) = false := by rw [k]; rfl
  have kb11 : (t.k == 11) = false := by rw [k]; rfl
  have kb12 : (t.k == 12) = true := by rw [k]; rfl
  have kb13 : (t.k == 13) = false := by rw [k]; rfl
  have kb14 : (t.k == 14) = false := by rw [k]; rfl
  have kb15 : (t.k == 15) = false := by rw [k]; rfl
  clear hQ hU hO k har hR hW hg hn0 hn hv
  go_enter Try.func95, Try.ntmps95
  go_wp2_with fail
  rw [← HX.out, ← HG.out]
  refine HC.out.mono ?_
  rintro e w1 ⟨rfl, hb⟩
  have HB1 := Lib.hid (ext_trans HB.out hb)
  have HQ3 := Lib.hid (block_in HQ3.out hb)
  clear p0 p1 p2 p3 q0 q1 q2 q3 z0 z1 f0 f1 hb
  obtain ⟨z0, z1⟩ := cells2 HQ3.out
  obtain ⟨f0, f1⟩ := froz2 HQ3.out
  go_wp2
  obtain ⟨r0, r1⟩ := cells2 (box_put (.int .i64 (x)) (.int .i64 (y)) HQ3.out rfl)
  exact bodyPost_ret (v := .tuple #[.agg #[.int .i64 (x), .int .i64 (y)], .int .i64 (f)]) (by simp [results, go_sem, r0, r1]) rfl ⟨rfl, box_put_below _ _ HGB.out.1 HB1.out⟩
set_option maxRecDepth 100000 in
set_option maxHeartbeats 8000000 in
theorem lv_13 {m : Nat} (hQ : LvQ m) {W : WL} {r : Rq} {A B C : Option Addr} {c c2 ct : Nat} {t : Ex} {w : World} (hW : wlR w A W) (hR : fdR w B r.fs) (hU : exW (m + 1) w C t.ps) (hO : OkW W r) (hg : gdR (m + 1 + 1) t = true) (k : t.k = 13) :
    Calls Try.prog 95 #[.slice A W.length c, .agg #[.int .i64 r.who, .int .i64 r.act, .int .i64 r.what, .slice B r.fs.length c2], .agg #[.int .i64 t.k, .int .i64 t.n, .string t.s, .slice C t.ps.length ct]] w fun e w' => e = .returned (evVal (ev (m + 1 + 1) W r t)) ∧ Below w.heap.size w w' := by
  have har := gd_len hg
  have hn0 := (gd_n hg).1
  obtain ⟨X, hX⟩ : ∃ X, X = ((w.alloc (.cells #[.int .i64 r.who, .int .i64 r.act, .int .i64 r.what, .slice B r.fs.length c2] 37)).alloc (.cells #[.int .i64 t.k, .int .i64 t.n, .string t.s, .slice C t.ps.length ct] 28)).alloc (.cells #[.int .i64 0, .int .i64 0] 79) := ⟨_, rfl⟩
  obtain ⟨g, hgg⟩ : ∃ g, g = w.heap.size := ⟨_, rfl⟩
  have hB : Below w.heap.size w X := by rw [hX]; (repeat (first | exact Below.refl _ _ | refine ext_alloc ?_ _ | refine Below.setCell ?_ (by simp) _))
  have hq1 : X.heap[g]? = some (.cells #[.int .i64 r.who, .int .i64 r.act, .int .i64 r.what, .slice B r.fs.length c2] 37 (0, 0)) := by rw [hX, hgg]; exact block_in (block_in (heap_alloc_new _ _) (below_alloc _ _)) (below_alloc _ _)
  have hq2 : X.heap[g + 1]? = some (.cells #[.int .i64 t.k, .int .i64 t.n, .string t.s, .slice C t.ps.length ct] 28 (0, 0)) := by rw [hX, hgg]; exact block_in (heap_alloc_at (by simp)) (below_alloc _ _)
  have hq3 : X.heap[g + 1 + 1]? = some (.cells #[.int .i64 0, .int .i64 0] 79 (0, 0)) := by rw [hX, hgg]; exact heap_alloc_at (by simp)
  replace hW := hW.below hB
  replace hR := hR.below hB
  replace hU := hU.below hB
  have hlW := hW.len
  have hlR := hR.len
  have hGB : w.heap.size ≤ g + 1 + 1 ∧ g + 1 + 1 < X.heap.size := ⟨by omega, by rw [hX, hgg]; simp⟩
  have HX := Lib.hid hX
  have HG := Lib.hid hgg
  have HQ1 := Lib.hid hq1
  have HQ2 := Lib.hid hq2
  have HQ3 := Lib.hid hq3
  have HGB := Lib.hid hGB
  have HB := Lib.hid hB
  obtain ⟨p0, p1, p2, p3⟩ := cells4 hq1
  obtain ⟨q0, q1, q2, q3⟩ := cells4 hq2
  obtain ⟨z0, z1⟩ := cells2 hq3
  obtain ⟨f0, f1⟩ := froz2 hq3
  clear hX hgg hq1 hq2 hq3 hB hGB
  rw [k] at har
  have hn : t.ps.length = 1 := har
  have hg0 := gd_part hg (k := 0) (by omega)
  obtain ⟨va, hva⟩ : ∃ v, ev (m + 1) W r (exAt t.ps 0) = v := ⟨_, rfl⟩
  have HA : Hid (∀ (Y : World) (C' : Option Addr) (c' : Nat), Below X.heap.size X Y → exW m Y C' (exAt t.ps 0).ps → Calls Try.prog 95 #[.slice A W.length c, .agg #[.int .i64 r.who, .int .i64 r.act, .int .i64 r.what, .slice B r.fs.length c2], .agg #[.int .i64 (exAt t.ps 0).k, .int .i64 (exAt t.ps 0).n, .string (exAt t.ps 0).s, .slice C' (exAt t.ps 0).ps.length c']] Y fun e w' => e = .returned (evVal va) ∧ Below Y.heap.size Y w') := Lib.hid (fun Y C' c' hb h => hva ▸ hQ W r A B C' c c2 c' _ Y (hW.below hb) (hR.below hb) h hO hg0)
  obtain ⟨b, off, A3, c3, rfl, hfd, a0, a1, a2, a3⟩ := ex_one hU hn
  have hlt0 : 0 < t.ps.length := by omega
  have hlm : t.ps.length ≤ 9223372036854775807 := by omega
  have hv0 := ev_val hO (m + 1) _ hg0
  have hev := ev_k13 (d := m + 1) (W := W) (r := r) k
  rw [hva] at hv0 hev
  obtain ⟨x, y, fa⟩ := va
  unfold evVal at HA
  obtain ⟨res, hres⟩ : ∃ v, ev (m + 1 + 1) W r t = v := ⟨_, rfl⟩
  rw [hres] at hev ⊢
  have HF0 : Hid (fa ≠ 0 → res = (0, 0, fa)) := Lib.hid (fun h => by
    have e : evK (x, y, fa) 1 = (x, y, fa) := by unfold evK; rw [if_neg (fun q => h q.1)]
    rw [hev, e, if_pos h]; rfl)
  have HFK : Hid (fa = 0 → x ≠ 1 → res = (0, 0, 1)) := Lib.hid (fun h h2 => by
    have e : evK (x, y, fa) 1 = (0, 0, 1) := by unfold evK; rw [if_pos ⟨h, h2⟩]
    rw [hev, e]; rfl)
  have hka : fa = 0 → x = 1 → evK (x, y, fa) 1 = (x, y, fa) := fun h h2 => by unfold evK; rw [if_neg (fun q => q.2 h2)]
  have HF1 : Hid (fa = 0 → x = 1 → res = (1, b01 (y == 0), 0)) := Lib.hid (fun h h2 => by rw [hev, hka h h2, if_neg (by simpa using h)]; rfl)
  have HFD := Lib.hid hfd
  have kb1 : (t.k == 1) = false := by rw [k]; rfl
  have kb2 : (t.k == 2) = false := by rw [k]; rfl
  have kb3 : (t.k == 3) = false := by rw [k]; rfl
  have kb4 : (t.k == 4) = false := by rw [k]; rfl
  have kb5 : (t.k == 5) = false := by rw [k]; rfl
  have kb6 : (t.k == 6) = false := by rw [k]; rfl
  have kb7 : (t.k == 7) = false := by rw [k]; rfl
  have kb8 : (t.k == 8) = false := by rw [k]; rfl
  have kb9 : (t.k == 9) = false := by rw [k]; rfl
  have kb10 : (t.k == 10) = false := by rw [k]; rfl
  have kb11 : (t.k == 11) = false := by rw [k]; rfl
  have kb12 : (t.k == 12) = false := by rw [k]; rfl
  have kb13 : (t.k == 13) = true := by rw [k]; rfl
  have kb14 : (t.k == 14) = false := by rw [k]; rfl
  have kb15 : (t.k == 15) = false := by rw [k]; rfl
  clear hQ hva hO hg hg0 hn hU hfd hW hR hv0 hev hres hka k har hn0
  go_enter Try.func95, Try.ntmps95
  go_wp2_with fail
  rw [← HX.out, ← HG.out]
  refine wp_region_nbox X 79 2 10 11 10 #[.int .i64 x, .int .i64 y] (fun i wz vz => match i with | 10 => BoxV X 79 2 wz vz | 0 => vz = .slice A W.length c | 1 => vz = .agg #[.int .i64 r.who, .int .i64 r.act, .int .i64 r.what, .slice B r.fs.length c2] | 2 => vz = .pointer (some ⟨g + 1, 3, Option.none⟩) | 3 => vz = .slice (some ⟨b, off, none⟩) t.ps.length ct | 4 => vz = .pointer (some ⟨b, off, Option.none⟩) | 5 => vz = .agg #[.int .i64 (exAt t.ps 0).k, .int .i64 (exAt t.ps 0).n, .string (exAt t.ps 0).s, .slice A3 (exAt t.ps 0).ps.length c3] | 6 => vz = .tuple #[.agg #[.int .i64 x, .int .i64 y], .int .i64 fa] | 7 => vz = .tuple #[.agg #[.int .i64 x, .int .i64 y], .int .i64 fa] | 8 => vz = .agg #[.int .i64 x, .int .i64 y] | 9 => vz = .int .i64 fa | 12 => vz = .int .i64 fa | _ => True) (by kernel_rfl) (by kernel_rfl) (by kernel_rfl) rfl (by kernel_rfl) (fun _ _ h => h) (fun _ _ h => h) ?stab29 ?all29 (by decide) ?fin29
  case stab29 =>
    intro i wa wb v hne hT
    match i, hne, hT with
    | 0, _, hT => exact hT
    | 1, _, hT => exact hT
    | 2, _, hT => exact hT
    | 3, _, hT => exact hT
    | 4, _, hT => exact hT
    | 5, _, hT => exact hT
    | 6, _, hT => exact hT
    | 7, _, hT => exact hT
    | 8, _, hT => exact hT
    | 9, _, hT => exact hT
    | 12, _, hT => exact hT
    | 10, hne, _ => exact absurd rfl hne
    | 11, _, _ => trivial
    | n + 13, _, _ => trivial
  case all29 =>
    refine RAllL.cons rfl ?_ (RAllL.cons rfl ?_ (RAllL.cons rfl ?_ (RAllL.cons rfl ?_ (RAllL.cons rfl ?_ (RAllL.cons rfl ?_ (RAllL.cons rfl ?_ (RAllL.cons rfl ?_ (RAllL.cons rfl ?_ (RAllL.cons rfl ?_ (RAllL.cons rfl ?_ (RAllL.cons rfl ?_ (RAllL.cons rfl ?_ (RAllL.none_)))))))))))))
    · intro a kq_ wa K Q _ hI0 hp hK0
      have hI : Below X.heap.size X wa := hI0
      have hK := fun v w' h1 (h2 : Below wa.heap.size wa w') (h3 : Below X.heap.size X w') => hK0 v w' h1 (RelB.of_below h2) h3 (fun e => absurd e (by decide))
      exact op_move _ (.inl rfl) (hK _ _ (hp.keep 0 (by kernel_rfl)) (Below.refl _ _) hI)
    · intro a kq_ wa K Q _ hI0 hp hK0
      have hI : Below X.heap.size X wa := hI0
      have hK := fun v w' h1 (h2 : Below wa.heap.size wa w') (h3 : Below X.heap.size X w') => hK0 v w' h1 (RelB.of_below h2) h3 (fun e => absurd e (by decide))
      have e4 := tmp_of (show a.eval (.tmp 4) = .pointer (some ⟨g, 0, none⟩) from hp.keep 4 (by kernel_rfl))
      have p0_ := below_cell hI p0
      have p1_ := below_cell hI p1
      have p2_ := below_cell hI p2
      have p3_ := below_cell hI p3
      go_simp
      exact hK _ _ rfl (Below.refl _ _) hI
    · intro a kq_ wa K Q _ hI0 hp hK0
      have hI : Below X.heap.size X wa := hI0
      have hK := fun v w' h1 (h2 : Below wa.heap.size wa w') (h3 : Below X.heap.size X w') => hK0 v w' h1 (RelB.of_below h2) h3 (fun e => absurd e (by decide))
      have e5 := tmp_of (show a.eval (.tmp 5) = .pointer (some ⟨g + 1, 0, none⟩) from hp.keep 5 (by kernel_rfl))
      go_simp
      exact hK _ _ rfl (Below.refl _ _) hI
    · intro a kq_ wa K Q _ hI0 hp hK0
      have hI : Below X.heap.size X wa := hI0
      have hK := fun v w' h1 (h2 : Below wa.heap.size wa w') (h3 : Below X.heap.size X w') => hK0 v w' h1 (RelB.of_below h2) h3 (fun e => absurd e (by decide))
      have e94 := tmp_of (show a.eval (.tmp 94) = .pointer (some ⟨g + 1, 3, Option.none⟩) from hp.dep 2 94 (by kernel_rfl))
      have q3_ := below_cell hI q3
      go_simp
      exact hK _ _ rfl (Below.refl _ _) hI
    · intro a kq_ wa K Q _ hI0 hp hK0
      have hI : Below X.heap.size X wa := hI0
      have hK := fun v w' h1 (h2 : Below wa.heap.size wa w') (h3 : Below X.heap.size X w') => hK0 v w' h1 (RelB.of_below h2) h3 (fun e => absurd e (by decide))
      have e95 := tmp_of (show a.eval (.tmp 95) = .slice (some ⟨b, off, none⟩) t.ps.length ct from hp.dep 3 95 (by kernel_rfl))
      go_simp
      exact hK _ _ rfl (Below.refl _ _) hI
    · intro a kq_ wa K Q _ hI0 hp hK0
      have hI : Below X.heap.size X wa := hI0
      have hK := fun v w' h1 (h2 : Below wa.heap.size wa w') (h3 : Below X.heap.size X w') => hK0 v w' h1 (RelB.of_below h2) h3 (fun e => absurd e (by decide))
      have e96 := tmp_of (show a.eval (.tmp 96) = .pointer (some ⟨b, off, Option.none⟩) from hp.dep 4 96 (by kernel_rfl))
      have a0_ := below_cell hI a0
      have a1_ := below_cell hI a1
      have a2_ := below_cell hI a2
      have a3_ := below_cell hI a3
      go_simp
      exact hK _ _ rfl (Below.refl _ _) hI
    · intro a kq_ wa K Q _ hI0 hp hK0
      have hI : Below X.heap.size X wa := hI0
      have hK := fun v w' h1 (h2 : Below wa.heap.size wa w') (h3 : Below X.heap.size X w') => hK0 v w' h1 (RelB.of_below h2) h3 (fun e => absurd e (by decide))
      have e92 := tmp_of (show a.eval (.tmp 92) = .slice A W.length c from hp.dep 0 92 (by kernel_rfl))
      have e93 := tmp_of (show a.eval (.tmp 93) = .agg #[.int .i64 r.who, .int .i64 r.act, .int .i64 r.what, .slice B r.fs.length c2] from hp.dep 1 93 (by kernel_rfl))
      have e97 := tmp_of (show a.eval (.tmp 97) = .agg #[.int .i64 (exAt t.ps 0).k, .int .i64 (exAt t.ps 0).n, .string (exAt t.ps 0).s, .slice A3 (exAt t.ps 0).ps.length c3] from hp.dep 5 97 (by kernel_rfl))
      go_simp
      refine (HA.out _ _ _ hI (HFD.out.below hI)).mono ?_
      rintro e wb ⟨rfl, hb⟩
      exact hK _ _ (show _ = (.tuple #[.agg #[.int .i64 x, .int .i64 y], .int .i64 fa] : Value) from rfl) hb (ext_trans hI hb)
    · intro a kq_ wa K Q _ hI0 hp hK0
      have hI : Below X.heap.size X wa := hI0
      have hK := fun v w' h1 (h2 : Below wa.heap.size wa w') (h3 : Below X.heap.size X w') => hK0 v w' h1 (RelB.of_below h2) h3 (fun e => absurd e (by decide))
      exact op_move _ (.inl rfl) (hK _ _ (hp.dep 6 98 (by kernel_rfl)) (Below.refl _ _) hI)
    · intro a kq_ wa K Q _ hI0 hp hK0
      have hI : Below X.heap.size X wa := hI0
      have hK := fun v w' h1 (h2 : Below wa.heap.size wa w') (h3 : Below X.heap.size X w') => hK0 v w' h1 (RelB.of_below h2) h3 (fun e => absurd e (by decide))
      have e91 := tmp_of (show a.eval (.tmp 91) = .tuple #[.agg #[.int .i64 x, .int .i64 y], .int .i64 fa] from hp.dep 7 91 (by kernel_rfl))
      go_simp
      exact hK _ _ rfl (Below.refl _ _) hI
    · intro a kq_ wa K Q _ hI0 hp hK0
      have hI : Below X.heap.size X wa := hI0
      have hK := fun v w' h1 (h2 : Below wa.heap.size wa w') (h3 : Below X.heap.size X w') => hK0 v w' h1 (RelB.of_below h2) h3 (fun e => absurd e (by decide))
      have e91 := tmp_of (show a.eval (.tmp 91) = .tuple #[.agg #[.int .i64 x, .int .i64 y], .int .i64 fa] from hp.dep 7 91 (by kernel_rfl))
      go_simp
      exact hK _ _ rfl (Below.refl _ _) hI
    · intro a kq_ wa K Q _ hI0 hp hK0
      have hI : Below X.heap.size X wa := hI0
      have hK := fun v w' h1 (h2 : Below wa.heap.size wa w') (h3 : Below X.heap.size X w') => hK0 v w' h1 (RelB.of_below h2) h3 (fun e => absurd e (by decide))
      go_simp
      exact hK _ _ ⟨_, rfl, hI.size, _, heap_alloc_new _ _, rfl⟩ (below_alloc _ _) (ext_alloc hI _)
    · intro a kq_ wa K Q _ hI0 hp hK0
      have hI : Below X.heap.size X wa := hI0
      obtain ⟨g8, eB, hgB, cs8, hg8, hcs8⟩ := (show BoxV X 79 2 wa (a.eval (.tmp 10)) from hp.base (by kernel_rfl))
      have eB2 := tmp_of eB
      have e99 := tmp_of (show a.eval (.tmp 99) = .agg #[.int .i64 x, .int .i64 y] from hp.dep 8 99 (by kernel_rfl))
      obtain ⟨hr8, hb8, hg9⟩ := nbox_put (N := 11) (.int .i64 x) (.int .i64 y) hgB hg8 hcs8 hI
      obtain ⟨c80, c81, d80, d81, f80, f81⟩ := nbox_cells hg8 hcs8
      go_simp
      exact hK0 (.tuple #[]) _ trivial hr8 hb8 (fun _ => ⟨g8, eB, hgB, hg9⟩)
    · intro a kq_ wa K Q _ hI0 hp hK0
      have hI : Below X.heap.size X wa := hI0
      have hK := fun v w' h1 (h2 : Below wa.heap.size wa w') (h3 : Below X.heap.size X w') => hK0 v w' h1 (RelB.of_below h2) h3 (fun e => absurd e (by decide))
      exact op_move _ (.inr rfl) (hK _ _ (hp.dep 9 100 (by kernel_rfl)) (Below.refl _ _) hI)
  case fin29 =>
    intro f w2 hT hBx hI0
    have hI : Below X.heap.size X w2 := hI0
    have hr : (f 12) = .int .i64 fa := hT 12 (by decide) rfl
    clear hT hI0
    obtain ⟨ga, eA, hgA, hqA⟩ := hBx
    simp only [putAll, eA, hr]
    have HB2 := Lib.hid (ext_trans HB.out hI)
    have HI2 := Lib.hid hI
    have HQ3 := Lib.hid (block_in HQ3.out hI)
    have HQ2b := Lib.hid (block_in HQ2.out hI)
    clear z0 z1 f0 f1 p0 p1 p2 p3 q0 q1 q2 q3
    obtain ⟨q0, q1, q2, q3⟩ := cells4 HQ2b.out
    obtain ⟨u0, u1⟩ := cells2 hqA
    obtain ⟨z0, z1⟩ := cells2 HQ3.out
    obtain ⟨f0, f1⟩ := froz2 HQ3.out
    have hga : ga ≠ g + 1 + 1 := by have := HGB.out.2; omega
    have hga2 := Ne.symm hga
    clear hr eA hqA a0 a1 a2 a3 hI
    go_simp
    by_cases e1 : fa = 0
    · have gb : (fa != 0) = false := by simpa using e1
      by_cases e2 : x = 1
      · have gx : (x == 1) = true := by simpa using e2
        have HE := Lib.hid (HF1.out e1 e2)
        clear e1 e2
        go_wp2_with fail
        refine (specTruthOf _ _).mono ?_
        rintro e w3 ⟨rfl, hb⟩
        have HB3 := Lib.hid (ext_trans HB2.out hb)
        have HQ3 := Lib.hid (block_in HQ3.out hb)
        clear z0 z1 f0 f1 u0 u1 q0 q1 q2 q3
        obtain ⟨z0, z1⟩ := cells2 HQ3.out
        obtain ⟨f0, f1⟩ := froz2 HQ3.out
        clear hb
        go_wp2
        obtain ⟨r0, r1⟩ := cells2 (box_put (.int .i64 (1)) (.int .i64 (b01 (y == 0))) HQ3.out rfl)
        exact bodyPost_ret (v := .tuple #[.agg #[.int .i64 (1), .int .i64 (b01 (y == 0))], .int .i64 (0)]) (by simp [results, go_sem, r0, r1]) rfl ⟨by rw [HE.out]; rfl, box_put_below _ _ HGB.out.1 HB3.out⟩
      · have gx : (x == 1) = false := by simpa using e2
        have HE := Lib.hid (HFK.out e1 e2)
        clear e1 e2
        go_wp2
        obtain ⟨r0, r1⟩ := cells2 (box_put (.int .i64 (0)) (.int .i64 (0)) HQ3.out rfl)
        exact bodyPost_ret (v := .tuple #[.agg #[.int .i64 (0), .int .i64 (0)], .int .i64 (1)]) (by simp [results, go_sem, r0, r1]) rfl ⟨by rw [HE.out]; rfl, box_put_below _ _ HGB.out.1 HB2.out⟩
    · have gb : (fa != 0) = true := by simpa using e1
      have HE := Lib.hid (HF0.out e1)
      clear e1
      go_wp2
      obtain ⟨r0, r1⟩ := cells2 (box_put (.int .i64 (0)) (.int .i64 (0)) HQ3.out rfl)
      exact bodyPost_ret (v := .tuple #[.agg #[.int .i64 (0), .int .i64 (0)], .int .i64 (fa)]) (by simp [results, go_sem, r0, r1]) rfl ⟨by rw [HE.out]; rfl, box_put_below _ _ HGB.out.1 HB2.out⟩
set_option maxRecDepth 100000 in
set_option maxHeartbeats 8000000 in
theorem lv_8 {m : Nat} (hQ : LvQ m) {W : WL} {r : Rq} {A B C : Option Addr} {c c2 ct : Nat} {t : Ex} {w : World} (hW : wlR w A W) (hR : fdR w B r.fs) (hU : exW (m + 1) w C t.ps) (hO : OkW W r) (hg : gdR (m + 1 + 1) t = true) (k : t.k = 8) :
    Calls Try.prog 95 #[.slice A W.length c, .agg #[.int .i64 r.who, .int .i64 r.act, .int .i64 r.what, .slice B r.fs.length c2], .agg #[.int .i64 t.k, .int .i64 t.n, .string t.s, .slice C t.ps.length ct]] w fun e w' => e = .returned (evVal (ev (m + 1 + 1) W r t)) ∧ Below w.heap.size w w' := by
  have har := gd_len hg
  have hn0 := (gd_n hg).1
  obtain ⟨X, hX⟩ : ∃ X, X = ((w.alloc (.cells #[.int .i64 r.who, .int .i64 r.act, .int .i64 r.what, .slice B r.fs.length c2] 37)).alloc (.cells #[.int .i64 t.k, .int .i64 t.n, .string t.s, .slice C t.ps.length ct] 28)).alloc (.cells #[.int .i64 0, .int .i64 0] 79) := ⟨_, rfl⟩
  obtain ⟨g, hgg⟩ : ∃ g, g = w.heap.size := ⟨_, rfl⟩
  have hB : Below w.heap.size w X := by rw [hX]; (repeat (first | exact Below.refl _ _ | refine ext_alloc ?_ _ | refine Below.setCell ?_ (by simp) _))
  have hq1 : X.heap[g]? = some (.cells #[.int .i64 r.who, .int .i64 r.act, .int .i64 r.what, .slice B r.fs.length c2] 37 (0, 0)) := by rw [hX, hgg]; exact block_in (block_in (heap_alloc_new _ _) (below_alloc _ _)) (below_alloc _ _)
  have hq2 : X.heap[g + 1]? = some (.cells #[.int .i64 t.k, .int .i64 t.n, .string t.s, .slice C t.ps.length ct] 28 (0, 0)) := by rw [hX, hgg]; exact block_in (heap_alloc_at (by simp)) (below_alloc _ _)
  have hq3 : X.heap[g + 1 + 1]? = some (.cells #[.int .i64 0, .int .i64 0] 79 (0, 0)) := by rw [hX, hgg]; exact heap_alloc_at (by simp)
  replace hW := hW.below hB
  replace hR := hR.below hB
  replace hU := hU.below hB
  have hlW := hW.len
  have hlR := hR.len
  have hGB : w.heap.size ≤ g + 1 + 1 ∧ g + 1 + 1 < X.heap.size := ⟨by omega, by rw [hX, hgg]; simp⟩
  have HX := Lib.hid hX
  have HG := Lib.hid hgg
  have HQ1 := Lib.hid hq1
  have HQ2 := Lib.hid hq2
  have HQ3 := Lib.hid hq3
  have HGB := Lib.hid hGB
  have HB := Lib.hid hB
  obtain ⟨p0, p1, p2, p3⟩ := cells4 hq1
  obtain ⟨q0, q1, q2, q3⟩ := cells4 hq2
  obtain ⟨z0, z1⟩ := cells2 hq3
  obtain ⟨f0, f1⟩ := froz2 hq3
  clear hX hgg hq1 hq2 hq3 hB hGB
  rw [k] at har
  have hn : t.ps.length = 1 := har
  have hg0 := gd_part hg (k := 0) (by omega)
  obtain ⟨va, hva⟩ : ∃ v, ev (m + 1) W r (exAt t.ps 0) = v := ⟨_, rfl⟩
  have HA : Hid (∀ (Y : World) (C' : Option Addr) (c' : Nat), Below X.heap.size X Y → exW m Y C' (exAt t.ps 0).ps → Calls Try.prog 95 #[.slice A W.length c, .agg #[.int .i64 r.who, .int .i64 r.act, .int .i64 r.what, .slice B r.fs.length c2], .agg #[.int .i64 (exAt t.ps 0).k, .int .i64 (exAt t.ps 0).n, .string (exAt t.ps 0).s, .slice C' (exAt t.ps 0).ps.length c']] Y fun e w' => e = .returned (evVal va) ∧ Below Y.heap.size Y w') := Lib.hid (fun Y C' c' hb h => hva ▸ hQ W r A B C' c c2 c' _ Y (hW.below hb) (hR.below hb) h hO hg0)
  obtain ⟨b, off, A3, c3, rfl, hfd, a0, a1, a2, a3⟩ := ex_one hU hn
  have hlt0 : 0 < t.ps.length := by omega
  have hlm : t.ps.length ≤ 9223372036854775807 := by omega
  have hv0 := ev_val hO (m + 1) _ hg0
  have hev := ev_k8 (d := m + 1) (W := W) (r := r) k
  rw [hva] at hv0 hev
  obtain ⟨x, y, fa⟩ := va
  unfold evVal at HA
  obtain ⟨res, hres⟩ : ∃ v, ev (m + 1 + 1) W r t = v := ⟨_, rfl⟩
  rw [hres] at hev ⊢
  have HF0 : Hid (fa ≠ 0 → res = (0, 0, fa)) := Lib.hid (fun h => by
    have e : evK (x, y, fa) 3 = (x, y, fa) := by unfold evK; rw [if_neg (fun q => h q.1)]
    rw [hev, e, if_pos h]; rfl)
  have HFK : Hid (fa = 0 → x ≠ 3 → res = (0, 0, 1)) := Lib.hid (fun h h2 => by
    have e : evK (x, y, fa) 3 = (0, 0, 1) := by unfold evK; rw [if_pos ⟨h, h2⟩]
    rw [hev, e]; rfl)
  have hka : fa = 0 → x = 3 → evK (x, y, fa) 3 = (x, y, fa) := fun h h2 => by unfold evK; rw [if_neg (fun q => q.2 h2)]
  have HF1 : Hid (fa = 0 → x = 3 → ∃ ny : Nat, ny < W.length ∧ y = (ny : Int) ∧ res = evOf (fdOf (thAt W ny).fs t.s)) := Lib.hid (fun h h2 => by
    have hv := hv0 h
    simp only at hv
    rw [h2] at hv
    have hb : 0 ≤ y ∧ y < W.length := vl_3 hv
    refine ⟨y.toNat, by omega, by omega, ?_⟩
    rw [hev, hka h h2, if_neg (by simpa using h)])
  obtain ⟨bw, ow, rfl, hcw⟩ := hW.cells (ok_pos hO)
  have HCW := Lib.hid hcw
  clear hcw
  have HFD := Lib.hid hfd
  have kb1 : (t.k == 1) = false := by rw [k]; rfl
  have kb2 : (t.k == 2) = false := by rw [k]; rfl
  have kb3 : (t.k == 3) = false := by rw [k]; rfl
  have kb4 : (t.k == 4) = false := by rw [k]; rfl
  have kb5 : (t.k == 5) = false := by rw [k]; rfl
  have kb6 : (t.k == 6) = false := by rw [k]; rfl
  have kb7 : (t.k == 7) = false := by rw [k]; rfl
  have kb8 : (t.k == 8) = true := by rw [k]; rfl
  have kb9 : (t.k == 9) = false := by rw [k]; rfl
  have kb10 : (t.k == 10) = false := by rw [k]; rfl
  have kb11 : (t.k == 11) = false := by rw [k]; rfl
  have kb12 : (t.k == 12) = false := by rw [k]; rfl
  have kb13 : (t.k == 13) = false := by rw [k]; rfl
  have kb14 : (t.k == 14) = false := by rw [k]; rfl
  have kb15 : (t.k == 15) = false := by rw [k]; rfl
  clear hQ hva hO hg hg0 hn hU hfd hW hR hv0 hev hres hka k har hn0
  go_enter Try.func95, Try.ntmps95
  go_wp2_with fail
  rw [← HX.out, ← HG.out]
  refine wp_region_nbox X 79 2 10 11 10 #[.int .i64 x, .int .i64 y] (fun i wz vz => match i with | 10 => BoxV X 79 2 wz vz | 0 => vz = .slice (some ⟨bw, ow, none⟩) W.length c | 1 => vz = .agg #[.int .i64 r.who, .int .i64 r.act, .int .i64 r.what, .slice B r.fs.length c2] | 2 => vz = .pointer (some ⟨g + 1, 3, Option.none⟩) | 3 => vz = .slice (some ⟨b, off, none⟩) t.ps.length ct | 4 => vz = .pointer (some ⟨b, off, Option.none⟩) | 5 => vz = .agg #[.int .i64 (exAt t.ps 0).k, .int .i64 (exAt t.ps 0).n, .string (exAt t.ps 0).s, .slice A3 (exAt t.ps 0).ps.length c3] | 6 => vz = .tuple #[.agg #[.int .i64 x, .int .i64 y], .int .i64 fa] | 7 => vz = .tuple #[.agg #[.int .i64 x, .int .i64 y], .int .i64 fa] | 8 => vz = .agg #[.int .i64 x, .int .i64 y] | 9 => vz = .int .i64 fa | 12 => vz = .int .i64 fa | _ => True) (by kernel_rfl) (by kernel_rfl) (by kernel_rfl) rfl (by kernel_rfl) (fun _ _ h => h) (fun _ _ h => h) ?stab29 ?all29 (by decide) ?fin29
  case stab29 =>
    intro i wa wb v hne hT
    match i, hne, hT with
    | 0, _, hT => exact hT
    | 1, _, hT => exact hT
    | 2, _, hT => exact hT
    | 3, _, hT => exact hT
    | 4, _, hT => exact hT
    | 5, _, hT => exact hT
    | 6, _, hT => exact hT
    | 7, _, hT => exact hT
    | 8, _, hT => exact hT
    | 9, _, hT => exact hT
    | 12, _, hT => exact hT
    | 10, hne, _ => exact absurd rfl hne
    | 11, _, _ => trivial
    | n + 13, _, _ => trivial
  case all29 =>
    refine RAllL.cons rfl ?_ (RAllL.cons rfl ?_ (RAllL.cons rfl ?_ (RAllL.cons rfl ?_ (RAllL.cons rfl ?_ (RAllL.cons rfl ?_ (RAllL.cons rfl ?_ (RAllL.cons rfl ?_ (RAllL.cons rfl ?_ (RAllL.cons rfl ?_ (RAllL.cons rfl ?_ (RAllL.cons rfl ?_ (RAllL.cons rfl ?_ (RAllL.none_)))))))))))))
    · intro a kq_ wa K Q _ hI0 hp hK0
      have hI : Below X.heap.size X wa := hI0
      have hK := fun v w' h1 (h2 : Below wa.heap.size wa w') (h3 : Below X.heap.size X w') => hK0 v w' h1 (RelB.of_below h2) h3 (fun e => absurd e (by decide))
      exact op_move _ (.inl rfl) (hK _ _ (hp.keep 0 (by kernel_rfl)) (Below.refl _ _) hI)
    · intro a kq_ wa K Q _ hI0 hp hK0
      have hI : Below X.heap.size X wa := hI0
      have hK := fun v w' h1 (h2 : Below wa.heap.size wa w') (h3 : Below X.heap.size X w') => hK0 v w' h1 (RelB.of_below h2) h3 (fun e => absurd e (by decide))
      have e4 := tmp_of (show a.eval (.tmp 4) = .pointer (some ⟨g, 0, none⟩) from hp.keep 4 (by kernel_rfl))
      have p0_ := below_cell hI p0
      have p1_ := below_cell hI p1
      have p2_ := below_cell hI p2
      have p3_ := below_cell hI p3
      go_simp
      exact hK _ _ rfl (Below.refl _ _) hI
    · intro a kq_ wa K Q _ hI0 hp hK0
      have hI : Below X.heap.size X wa := hI0
      have hK := fun v w' h1 (h2 : Below wa.heap.size wa w') (h3 : Below X.heap.size X w') => hK0 v w' h1 (RelB.of_below h2) h3 (fun e => absurd e (by decide))
      have e5 := tmp_of (show a.eval (.tmp 5) = .pointer (some ⟨g + 1, 0, none⟩) from hp.keep 5 (by kernel_rfl))
      go_simp
      exact hK _ _ rfl (Below.refl _ _) hI
    · intro a kq_ wa K Q _ hI0 hp hK0
      have hI : Below X.heap.size X wa := hI0
      have hK := fun v w' h1 (h2 : Below wa.heap.size wa w') (h3 : Below X.heap.size X w') => hK0 v w' h1 (RelB.of_below h2) h3 (fun e => absurd e (by decide))
      have e94 := tmp_of (show a.eval (.tmp 94) = .pointer (some ⟨g + 1, 3, Option.none⟩) from hp.dep 2 94 (by kernel_rfl))
      have q3_ := below_cell hI q3
      go_simp
      exact hK _ _ rfl (Below.refl _ _) hI
    · intro a kq_ wa K Q _ hI0 hp hK0
      have hI : Below X.heap.size X wa := hI0
      have hK := fun v w' h1 (h2 : Below wa.heap.size wa w') (h3 : Below X.heap.size X w') => hK0 v w' h1 (RelB.of_below h2) h3 (fun e => absurd e (by decide))
      have e95 := tmp_of (show a.eval (.tmp 95) = .slice (some ⟨b, off, none⟩) t.ps.length ct from hp.dep 3 95 (by kernel_rfl))
      go_simp
      exact hK _ _ rfl (Below.refl _ _) hI
    · intro a kq_ wa K Q _ hI0 hp hK0
      have hI : Below X.heap.size X wa := hI0
      have hK := fun v w' h1 (h2 : Below wa.heap.size wa w') (h3 : Below X.heap.size X w') => hK0 v w' h1 (RelB.of_below h2) h3 (fun e => absurd e (by decide))
      have e96 := tmp_of (show a.eval (.tmp 96) = .pointer (some ⟨b, off, Option.none⟩) from hp.dep 4 96 (by kernel_rfl))
      have a0_ := below_cell hI a0
      have a1_ := below_cell hI a1
      have a2_ := below_cell hI a2
      have a3_ := below_cell hI a3
      go_simp
      exact hK _ _ rfl (Below.refl _ _) hI
    · intro a kq_ wa K Q _ hI0 hp hK0
      have hI : Below X.heap.size X wa := hI0
      have hK := fun v w' h1 (h2 : Below wa.heap.size wa w') (h3 : Below X.heap.size X w') => hK0 v w' h1 (RelB.of_below h2) h3 (fun e => absurd e (by decide))
      have e92 := tmp_of (show a.eval (.tmp 92) = .slice (some ⟨bw, ow, none⟩) W.length c from hp.dep 0 92 (by kernel_rfl))
      have e93 := tmp_of (show a.eval (.tmp 93) = .agg #[.int .i64 r.who, .int .i64 r.act, .int .i64 r.what, .slice B r.fs.length c2] from hp.dep 1 93 (by kernel_rfl))
      have e97 := tmp_of (show a.eval (.tmp 97) = .agg #[.int .i64 (exAt t.ps 0).k, .int .i64 (exAt t.ps 0).n, .string (exAt t.ps 0).s, .slice A3 (exAt t.ps 0).ps.length c3] from hp.dep 5 97 (by kernel_rfl))
      go_simp
      refine (HA.out _ _ _ hI (HFD.out.below hI)).mono ?_
      rintro e wb ⟨rfl, hb⟩
      exact hK _ _ (show _ = (.tuple #[.agg #[.int .i64 x, .int .i64 y], .int .i64 fa] : Value) from rfl) hb (ext_trans hI hb)
    · intro a kq_ wa K Q _ hI0 hp hK0
      have hI : Below X.heap.size X wa := hI0
      have hK := fun v w' h1 (h2 : Below wa.heap.size wa w') (h3 : Below X.heap.size X w') => hK0 v w' h1 (RelB.of_below h2) h3 (fun e => absurd e (by decide))
      exact op_move _ (.inl rfl) (hK _ _ (hp.dep 6 98 (by kernel_rfl)) (Below.refl _ _) hI)
    · intro a kq_ wa K Q _ hI0 hp hK0
      have hI : Below X.heap.size X wa := hI0
      have hK := fun v w' h1 (h2 : Below wa.heap.size wa w') (h3 : Below X.heap.size X w') => hK0 v w' h1 (RelB.of_below h2) h3 (fun e => absurd e (by decide))
      have e91 := tmp_of (show a.eval (.tmp 91) = .tuple #[.agg #[.int .i64 x, .int .i64 y], .int .i64 fa] from hp.dep 7 91 (by kernel_rfl))
      go_simp
      exact hK _ _ rfl (Below.refl _ _) hI
    · intro a kq_ wa K Q _ hI0 hp hK0
      have hI : Below X.heap.size X wa := hI0
      have hK := fun v w' h1 (h2 : Below wa.heap.size wa w') (h3 : Below X.heap.size X w') => hK0 v w' h1 (RelB.of_below h2) h3 (fun e => absurd e (by decide))
      have e91 := tmp_of (show a.eval (.tmp 91) = .tuple #[.agg #[.int .i64 x, .int .i64 y], .int .i64 fa] from hp.dep 7 91 (by kernel_rfl))
      go_simp
      exact hK _ _ rfl (Below.refl _ _) hI
    · intro a kq_ wa K Q _ hI0 hp hK0
      have hI : Below X.heap.size X wa := hI0
      have hK := fun v w' h1 (h2 : Below wa.heap.size wa w') (h3 : Below X.heap.size X w') => hK0 v w' h1 (RelB.of_below h2) h3 (fun e => absurd e (by decide))
      go_simp
      exact hK _ _ ⟨_, rfl, hI.size, _, heap_alloc_new _ _, rfl⟩ (below_alloc _ _) (ext_alloc hI _)
    · intro a kq_ wa K Q _ hI0 hp hK0
      have hI : Below X.heap.size X wa := hI0
      obtain ⟨g8, eB, hgB, cs8, hg8, hcs8⟩ := (show BoxV X 79 2 wa (a.eval (.tmp 10)) from hp.base (by kernel_rfl))
      have eB2 := tmp_of eB
      have e99 := tmp_of (show a.eval (.tmp 99) = .agg #[.int .i64 x, .int .i64 y] from hp.dep 8 99 (by kernel_rfl))
      obtain ⟨hr8, hb8, hg9⟩ := nbox_put (N := 11) (.int .i64 x) (.int .i64 y) hgB hg8 hcs8 hI
      obtain ⟨c80, c81, d80, d81, f80, f81⟩ := nbox_cells hg8 hcs8
      go_simp
      exact hK0 (.tuple #[]) _ trivial hr8 hb8 (fun _ => ⟨g8, eB, hgB, hg9⟩)
    · intro a kq_ wa K Q _ hI0 hp hK0
      have hI : Below X.heap.size X wa := hI0
      have hK := fun v w' h1 (h2 : Below wa.heap.size wa w') (h3 : Below X.heap.size X w') => hK0 v w' h1 (RelB.of_below h2) h3 (fun e => absurd e (by decide))
      exact op_move _ (.inr rfl) (hK _ _ (hp.dep 9 100 (by kernel_rfl)) (Below.refl _ _) hI)
  case fin29 =>
    intro f w2 hT hBx hI0
    have hI : Below X.heap.size X w2 := hI0
    have hr : (f 12) = .int .i64 fa := hT 12 (by decide) rfl
    clear hT hI0
    obtain ⟨ga, eA, hgA, hqA⟩ := hBx
    simp only [putAll, eA, hr]
    have HB2 := Lib.hid (ext_trans HB.out hI)
    have HI2 := Lib.hid hI
    have HQ3 := Lib.hid (block_in HQ3.out hI)
    have HQ2b := Lib.hid (block_in HQ2.out hI)
    clear z0 z1 f0 f1 p0 p1 p2 p3 q0 q1 q2 q3
    obtain ⟨q0, q1, q2, q3⟩ := cells4 HQ2b.out
    obtain ⟨u0, u1⟩ := cells2 hqA
    obtain ⟨z0, z1⟩ := cells2 HQ3.out
    obtain ⟨f0, f1⟩ := froz2 HQ3.out
    have hga : ga ≠ g + 1 + 1 := by have := HGB.out.2; omega
    have hga2 := Ne.symm hga
    clear hr eA hqA a0 a1 a2 a3 hI
    go_simp
    by_cases e1 : fa = 0
    · have gb : (fa != 0) = false := by simpa using e1
      by_cases e2 : x = 3
      · have gx : (x != 3) = false := by simpa using e2
        obtain ⟨ny, hny, rfl, hE⟩ := HF1.out e1 e2
        clear e1 e2
        obtain ⟨A5, c5, A6, c6, _, hf6, _, d1⟩ := HCW.out ny hny
        replace d1 := below_cell HI2.out d1
        have HF6 := Lib.hid (hf6.below HI2.out)
        obtain ⟨o, ho⟩ : ∃ o, fdOf (thAt W ny).fs t.s = o := ⟨_, rfl⟩
        rw [ho] at hE
        have HO := Lib.hid ho
        have HEE := Lib.hid hE
        obtain ⟨⟨xv, yv⟩, hxy⟩ : ∃ v, fdV o = v := ⟨_, rfl⟩
        obtain ⟨bo, hbo⟩ : ∃ b, o.isSome = b := ⟨_, rfl⟩
        have HFV : Hid (fdVal o = .tuple #[.agg #[.int .i64 xv, .int .i64 yv], .bool bo]) := Lib.hid (by rw [fdVal, hxy, hbo])
        have HXY := Lib.hid hxy
        have HBO := Lib.hid hbo
        clear hf6 ho hE hxy hbo hlW
        have hnyi : (ny : Int) < W.length := by omega
        go_wp2
        refine wp_region_nbox w2 79 2 12 13 12 #[.int .i64 xv, .int .i64 yv] (fun i wz vz => match i with | 12 => BoxV w2 79 2 wz vz | 0 => vz = .slice (some ⟨bw, ow, none⟩) W.length c | 1 => vz = .pointer (some ⟨ga, 1, Option.none⟩) | 2 => vz = .int .i64 ny | 3 => vz = .pointer (some ⟨bw, ow + ny * 2, Option.none⟩) | 4 => vz = .pointer (some ⟨bw, ow + ny * 2 + 1, Option.none⟩) | 5 => vz = .slice A6 (thAt W ny).fs.length c6 | 6 => vz = .pointer (some ⟨g + 1, 2, Option.none⟩) | 7 => vz = .string t.s | 8 => vz = .tuple #[.agg #[.int .i64 xv, .int .i64 yv], .bool bo] | 9 => vz = .tuple #[.agg #[.int .i64 xv, .int .i64 yv], .bool bo] | 10 => vz = .agg #[.int .i64 xv, .int .i64 yv] | 11 => vz = .bool bo | 14 => vz = .bool bo | _ => True) (by kernel_rfl) (by kernel_rfl) (by kernel_rfl) rfl (by kernel_rfl) (fun _ _ h => h) (fun _ _ h => h) ?stab36 ?all36 (by decide) ?fin36
        case stab36 =>
          intro i wa wb v hne hT
          match i, hne, hT with
          | 0, _, hT => exact hT
          | 1, _, hT => exact hT
          | 2, _, hT => exact hT
          | 3, _, hT => exact hT
          | 4, _, hT => exact hT
          | 5, _, hT => exact hT
          | 6, _, hT => exact hT
          | 7, _, hT => exact hT
          | 8, _, hT => exact hT
          | 9, _, hT => exact hT
          | 10, _, hT => exact hT
          | 11, _, hT => exact hT
          | 14, _, hT => exact hT
          | 12, hne, _ => exact absurd rfl hne
          | 13, _, _ => trivial
          | n + 15, _, _ => trivial
        case all36 =>
          refine RAllL.cons rfl ?_ (RAllL.cons rfl ?_ (RAllL.cons rfl ?_ (RAllL.cons rfl ?_ (RAllL.cons rfl ?_ (RAllL.cons rfl ?_ (RAllL.cons rfl ?_ (RAllL.cons rfl ?_ (RAllL.cons rfl ?_ (RAllL.cons rfl ?_ (RAllL.cons rfl ?_ (RAllL.cons rfl ?_ (RAllL.cons rfl ?_ (RAllL.cons rfl ?_ (RAllL.cons rfl ?_ (RAllL.none_)))))))))))))))
          · intro a kq_ wa K Q _ hI0 hp hK0
            have hI : Below w2.heap.size w2 wa := hI0
            have hK := fun v w' h1 (h2 : Below wa.heap.size wa w') (h3 : Below w2.heap.size w2 w') => hK0 v w' h1 (RelB.of_below h2) h3 (fun e => absurd e (by decide))
            exact op_move _ (.inl rfl) (hK _ _ (hp.keep 0 (by kernel_rfl)) (Below.refl _ _) hI)
          · intro a kq_ wa K Q _ hI0 hp hK0
            have hI : Below w2.heap.size w2 wa := hI0
            have hK := fun v w' h1 (h2 : Below wa.heap.size wa w') (h3 : Below w2.heap.size w2 w') => hK0 v w' h1 (RelB.of_below h2) h3 (fun e => absurd e (by decide))
            have e10 := tmp_of (show a.eval (.tmp 10) = .pointer (some ⟨ga, 0, none⟩) from hp.keep 10 (by kernel_rfl))
            go_simp
            exact hK _ _ rfl (Below.refl _ _) hI
          · intro a kq_ wa K Q _ hI0 hp hK0
            have hI : Below w2.heap.size w2 wa := hI0
            have hK := fun v w' h1 (h2 : Below wa.heap.size wa w') (h3 : Below w2.heap.size w2 w') => hK0 v w' h1 (RelB.of_below h2) h3 (fun e => absurd e (by decide))
            have e131 := tmp_of (show a.eval (.tmp 131) = .pointer (some ⟨ga, 1, Option.none⟩) from hp.dep 1 131 (by kernel_rfl))
            have u1_ := below_cell hI u1
            go_simp
            exact hK _ _ rfl (Below.refl _ _) hI
          · intro a kq_ wa K Q _ hI0 hp hK0
            have hI : Below w2.heap.size w2 wa := hI0
            have hK := fun v w' h1 (h2 : Below wa.heap.size wa w') (h3 : Below w2.heap.size w2 w') => hK0 v w' h1 (RelB.of_below h2) h3 (fun e => absurd e (by decide))
            have e130 := tmp_of (show a.eval (.tmp 130) = .slice (some ⟨bw, ow, none⟩) W.length c from hp.dep 0 130 (by kernel_rfl))
            have e132 := tmp_of (show a.eval (.tmp 132) = .int .i64 ny from hp.dep 2 132 (by kernel_rfl))
            go_simp
            exact hK _ _ rfl (Below.refl _ _) hI
          · intro a kq_ wa K Q _ hI0 hp hK0
            have hI : Below w2.heap.size w2 wa := hI0
            have hK := fun v w' h1 (h2 : Below wa.heap.size wa w') (h3 : Below w2.heap.size w2 w') => hK0 v w' h1 (RelB.of_below h2) h3 (fun e => absurd e (by decide))
            have e133 := tmp_of (show a.eval (.tmp 133) = .pointer (some ⟨bw, ow + ny * 2, Option.none⟩) from hp.dep 3 133 (by kernel_rfl))
            go_simp
            exact hK _ _ rfl (Below.refl _ _) hI
          · intro a kq_ wa K Q _ hI0 hp hK0
            have hI : Below w2.heap.size w2 wa := hI0
            have hK := fun v w' h1 (h2 : Below wa.heap.size wa w') (h3 : Below w2.heap.size w2 w') => hK0 v w' h1 (RelB.of_below h2) h3 (fun e => absurd e (by decide))
            have e134 := tmp_of (show a.eval (.tmp 134) = .pointer (some ⟨bw, ow + ny * 2 + 1, Option.none⟩) from hp.dep 4 134 (by kernel_rfl))
            have d1_ := below_cell hI d1
            go_simp
            exact hK _ _ rfl (Below.refl _ _) hI
          · intro a kq_ wa K Q _ hI0 hp hK0
            have hI : Below w2.heap.size w2 wa := hI0
            have hK := fun v w' h1 (h2 : Below wa.heap.size wa w') (h3 : Below w2.heap.size w2 w') => hK0 v w' h1 (RelB.of_below h2) h3 (fun e => absurd e (by decide))
            have e5 := tmp_of (show a.eval (.tmp 5) = .pointer (some ⟨g + 1, 0, none⟩) from hp.keep 5 (by kernel_rfl))
            go_simp
            exact hK _ _ rfl (Below.refl _ _) hI
          · intro a kq_ wa K Q _ hI0 hp hK0
            have hI : Below w2.heap.size w2 wa := hI0
            have hK := fun v w' h1 (h2 : Below wa.heap.size wa w') (h3 : Below w2.heap.size w2 w') => hK0 v w' h1 (RelB.of_below h2) h3 (fun e => absurd e (by decide))
            have e136 := tmp_of (show a.eval (.tmp 136) = .pointer (some ⟨g + 1, 2, Option.none⟩) from hp.dep 6 136 (by kernel_rfl))
            have q2_ := below_cell hI q2
            go_simp
            exact hK _ _ rfl (Below.refl _ _) hI
          · intro a kq_ wa K Q _ hI0 hp hK0
            have hI : Below w2.heap.size w2 wa := hI0
            have hK := fun v w' h1 (h2 : Below wa.heap.size wa w') (h3 : Below w2.heap.size w2 w') => hK0 v w' h1 (RelB.of_below h2) h3 (fun e => absurd e (by decide))
            have e135 := tmp_of (show a.eval (.tmp 135) = .slice A6 (thAt W ny).fs.length c6 from hp.dep 5 135 (by kernel_rfl))
            have e137 := tmp_of (show a.eval (.tmp 137) = .string t.s from hp.dep 7 137 (by kernel_rfl))
            go_simp
            refine (specFieldOf (HF6.out.below hI)).mono ?_
            rintro e wb ⟨rfl, hb⟩
            exact hK _ _ (show _ = (.tuple #[.agg #[.int .i64 xv, .int .i64 yv], .bool bo] : Value) from by rw [HO.out, HFV.out]) hb (ext_trans hI hb)
          · intro a kq_ wa K Q _ hI0 hp hK0
            have hI : Below w2.heap.size w2 wa := hI0
            have hK := fun v w' h1 (h2 : Below wa.heap.size wa w') (h3 : Below w2.heap.size w2 w') => hK0 v w' h1 (RelB.of_below h2) h3 (fun e => absurd e (by decide))
            exact op_move _ (.inl rfl) (hK _ _ (hp.dep 8 138 (by kernel_rfl)) (Below.refl _ _) hI)
          · intro a kq_ wa K Q _ hI0 hp hK0
            have hI : Below w2.heap.size w2 wa := hI0
            have hK := fun v w' h1 (h2 : Below wa.heap.size wa w') (h3 : Below w2.heap.size w2 w') => hK0 v w' h1 (RelB.of_below h2) h3 (fun e => absurd e (by decide))
            have e129 := tmp_of (show a.eval (.tmp 129) = .tuple #[.agg #[.int .i64 xv, .int .i64 yv], .bool bo] from hp.dep 9 129 (by kernel_rfl))
            go_simp
            exact hK _ _ rfl (Below.refl _ _) hI
          · intro a kq_ wa K Q _ hI0 hp hK0
            have hI : Below w2.heap.size w2 wa := hI0
            have hK := fun v w' h1 (h2 : Below wa.heap.size wa w') (h3 : Below w2.heap.size w2 w') => hK0 v w' h1 (RelB.of_below h2) h3 (fun e => absurd e (by decide))
            have e129 := tmp_of (show a.eval (.tmp 129) = .tuple #[.agg #[.int .i64 xv, .int .i64 yv], .bool bo] from hp.dep 9 129 (by kernel_rfl))
            go_simp
            exact hK _ _ rfl (Below.refl _ _) hI
          · intro a kq_ wa K Q _ hI0 hp hK0
            have hI : Below w2.heap.size w2 wa := hI0
            have hK := fun v w' h1 (h2 : Below wa.heap.size wa w') (h3 : Below w2.heap.size w2 w') => hK0 v w' h1 (RelB.of_below h2) h3 (fun e => absurd e (by decide))
            go_simp
            exact hK _ _ ⟨_, rfl, hI.size, _, heap_alloc_new _ _, rfl⟩ (below_alloc _ _) (ext_alloc hI _)
          · intro a kq_ wa K Q _ hI0 hp hK0
            have hI : Below w2.heap.size w2 wa := hI0
            obtain ⟨g8, eB, hgB, cs8, hg8, hcs8⟩ := (show BoxV w2 79 2 wa (a.eval (.tmp 12)) from hp.base (by kernel_rfl))
            have eB2 := tmp_of eB
            have e139 := tmp_of (show a.eval (.tmp 139) = .agg #[.int .i64 xv, .int .i64 yv] from hp.dep 10 139 (by kernel_rfl))
            obtain ⟨hr8, hb8, hg9⟩ := nbox_put (N := 13) (.int .i64 xv) (.int .i64 yv) hgB hg8 hcs8 hI
            obtain ⟨c80, c81, d80, d81, f80, f81⟩ := nbox_cells hg8 hcs8
            go_simp
            exact hK0 (.tuple #[]) _ trivial hr8 hb8 (fun _ => ⟨g8, eB, hgB, hg9⟩)
          · intro a kq_ wa K Q _ hI0 hp hK0
            have hI : Below w2.heap.size w2 wa := hI0
            have hK := fun v w' h1 (h2 : Below wa.heap.size wa w') (h3 : Below w2.heap.size w2 w') => hK0 v w' h1 (RelB.of_below h2) h3 (fun e => absurd e (by decide))
            exact op_move _ (.inr rfl) (hK _ _ (hp.dep 11 140 (by kernel_rfl)) (Below.refl _ _) hI)
        case fin36 =>
          intro f w3 hT hBx hI0
          have hI : Below w2.heap.size w2 w3 := hI0
          have hr : (f 14) = .bool bo := hT 14 (by decide) rfl
          clear hT hI0
          obtain ⟨gv, eV, hgV, hqV⟩ := hBx
          simp only [putAll, eV, hr]
          have HB3 := Lib.hid (ext_trans HB2.out hI)
          have HQ3 := Lib.hid (block_in HQ3.out hI)
          have HQ2c := Lib.hid (block_in HQ2b.out hI)
          have hgv : gv ≠ g + 1 + 1 := by have := HGB.out.2; have := HI2.out.size; omega
          have hgv2 := Ne.symm hgv
          clear hr eV q0 q1 q2 q3 z0 z1 f0 f1 u0 u1 d1 hI
          obtain ⟨v0, v1⟩ := cells2 hqV
          obtain ⟨q0, q1, q2, q3⟩ := cells4 HQ2c.out
          obtain ⟨z0, z1⟩ := cells2 HQ3.out
          obtain ⟨f0, f1⟩ := froz2 HQ3.out
          clear hqV
          go_simp
          cases bo
          · have HE : Hid (res = (0, 0, 2)) := Lib.hid (by
              rw [HEE.out]
              have := HBO.out
              cases o with
              | none => rfl
              | some v => cases this)
            go_wp2
            obtain ⟨r0, r1⟩ := cells2 (box_put (.int .i64 (0)) (.int .i64 (0)) HQ3.out rfl)
            exact bodyPost_ret (v := .tuple #[.agg #[.int .i64 (0), .int .i64 (0)], .int .i64 (2)]) (by simp [results, go_sem, r0, r1]) rfl ⟨by rw [HE.out]; rfl, box_put_below _ _ HGB.out.1 HB3.out⟩
          · have HE : Hid (res = (xv, yv, 0)) := Lib.hid (by
              rw [HEE.out]
              have h1 := HBO.out
              have h2 := HXY.out
              cases o with
              | none => cases h1
              | some v =>
                have e : v = (xv, yv) := h2
                rw [e]; rfl)
            go_wp2
            obtain ⟨r0, r1⟩ := cells2 (box_put (.int .i64 (xv)) (.int .i64 (yv)) HQ3.out rfl)
            exact bodyPost_ret (v := .tuple #[.agg #[.int .i64 (xv), .int .i64 (yv)], .int .i64 (0)]) (by simp [results, go_sem, r0, r1]) rfl ⟨by rw [HE.out]; rfl, box_put_below _ _ HGB.out.1 HB3.out⟩
      · have gx : (x != 3) = true := by simpa using e2
        have HE := Lib.hid (HFK.out e1 e2)
        clear e1 e2
        go_wp2
        obtain ⟨r0, r1⟩ := cells2 (box_put (.int .i64 (0)) (.int .i64 (0)) HQ3.out rfl)
        exact bodyPost_ret (v := .tuple #[.agg #[.int .i64 (0), .int .i64 (0)], .int .i64 (1)]) (by simp [results, go_sem, r0, r1]) rfl ⟨by rw [HE.out]; rfl, box_put_below _ _ HGB.out.1 HB2.out⟩
    · have gb : (fa != 0) = true := by simpa using e1
      have HE := Lib.hid (HF0.out e1)
      clear e1
      go_wp2
      obtain ⟨r0, r1⟩ := cells2 (box_put (.int .i64 (0)) (.int .i64 (0)) HQ3.out rfl)
      exact bodyPost_ret (v := .tuple #[.agg #[.int .i64 (0), .int .i64 (0)], .int .i64 (fa)]) (by simp [results, go_sem, r0, r1]) rfl ⟨by rw [HE.out]; rfl, box_put_below _ _ HGB.out.1 HB2.out⟩
set_option maxRecDepth 100000 in
set_option maxHeartbeats 8000000 in
theorem lv_9 {m : Nat} (hQ : LvQ m) {W : WL} {r : Rq} {A B C : Option Addr} {c c2 ct : Nat} {t : Ex} {w : World} (hW : wlR w A W) (hR : fdR w B r.fs) (hU : exW (m + 1) w C t.ps) (hO : OkW W r) (hg : gdR (m + 1 + 1) t = true) (k : t.k = 9) :
    Calls Try.prog 95 #[.slice A W.length c, .agg #[.int .i64 r.who, .int .i64 r.act, .int .i64 r.what, .slice B r.fs.length c2], .agg #[.int .i64 t.k, .int .i64 t.n, .string t.s, .slice C t.ps.length ct]] w fun e w' => e = .returned (evVal (ev (m + 1 + 1) W r t)) ∧ Below w.heap.size w w' := by
  have har := gd_len hg
  have hn0 := (gd_n hg).1
  obtain ⟨X, hX⟩ : ∃ X, X = ((w.alloc (.cells #[.int .i64 r.who, .int .i64 r.act, .int .i64 r.what, .slice B r.fs.length c2] 37)).alloc (.cells #[.int .i64 t.k, .int .i64 t.n, .string t.s, .slice C t.ps.length ct] 28)).alloc (.cells #[.int .i64 0, .int .i64 0] 79) := ⟨_, rfl⟩
  obtain ⟨g, hgg⟩ : ∃ g, g = w.heap.size := ⟨_, rfl⟩
  have hB : Below w.heap.size w X := by rw [hX]; (repeat (first | exact Below.refl _ _ | refine ext_alloc ?_ _ | refine Below.setCell ?_ (by simp) _))
  have hq1 : X.heap[g]? = some (.cells #[.int .i64 r.who, .int .i64 r.act, .int .i64 r.what, .slice B r.fs.length c2] 37 (0, 0)) := by rw [hX, hgg]; exact block_in (block_in (heap_alloc_new _ _) (below_alloc _ _)) (below_alloc _ _)
  have hq2 : X.heap[g + 1]? = some (.cells #[.int .i64 t.k, .int .i64 t.n, .string t.s, .slice C t.ps.length ct] 28 (0, 0)) := by rw [hX, hgg]; exact block_in (heap_alloc_at (by simp)) (below_alloc _ _)
  have hq3 : X.heap[g + 1 + 1]? = some (.cells #[.int .i64 0, .int .i64 0] 79 (0, 0)) := by rw [hX, hgg]; exact heap_alloc_at (by simp)
  replace hW := hW.below hB
  replace hR := hR.below hB
  replace hU := hU.below hB
  have hlW := hW.len
  have hlR := hR.len
  have hGB : w.heap.size ≤ g + 1 + 1 ∧ g + 1 + 1 < X.heap.size := ⟨by omega, by rw [hX, hgg]; simp⟩
  have HX := Lib.hid hX
  have HG := Lib.hid hgg
  have HQ1 := Lib.hid hq1
  have HQ2 := Lib.hid hq2
  have HQ3 := Lib.hid hq3
  have HGB := Lib.hid hGB
  have HB := Lib.hid hB
  obtain ⟨p0, p1, p2, p3⟩ := cells4 hq1
  obtain ⟨q0, q1, q2, q3⟩ := cells4 hq2
  obtain ⟨z0, z1⟩ := cells2 hq3
  obtain ⟨f0, f1⟩ := froz2 hq3
  clear hX hgg hq1 hq2 hq3 hB hGB
  rw [k] at har
  have hn : t.ps.length = 1 := har
  have hg0 := gd_part hg (k := 0) (by omega)
  obtain ⟨va, hva⟩ : ∃ v, ev (m + 1) W r (exAt t.ps 0) = v := ⟨_, rfl⟩
  have HA : Hid (∀ (Y : World) (C' : Option Addr) (c' : Nat), Below X.heap.size X Y → exW m Y C' (exAt t.ps 0).ps → Calls Try.prog 95 #[.slice A W.length c, .agg #[.int .i64 r.who, .int .i64 r.act, .int .i64 r.what, .slice B r.fs.length c2], .agg #[.int .i64 (exAt t.ps 0).k, .int .i64 (exAt t.ps 0).n, .string (exAt t.ps 0).s, .slice C' (exAt t.ps 0).ps.length c']] Y fun e w' => e = .returned (evVal va) ∧ Below Y.heap.size Y w') := Lib.hid (fun Y C' c' hb h => hva ▸ hQ W r A B C' c c2 c' _ Y (hW.below hb) (hR.below hb) h hO hg0)
  obtain ⟨b, off, A3, c3, rfl, hfd, a0, a1, a2, a3⟩ := ex_one hU hn
  have hlt0 : 0 < t.ps.length := by omega
  have hlm : t.ps.length ≤ 9223372036854775807 := by omega
  have hv0 := ev_val hO (m + 1) _ hg0
  have hev := ev_k9 (d := m + 1) (W := W) (r := r) k
  rw [hva] at hv0 hev
  obtain ⟨x, y, fa⟩ := va
  unfold evVal at HA
  obtain ⟨res, hres⟩ : ∃ v, ev (m + 1 + 1) W r t = v := ⟨_, rfl⟩
  rw [hres] at hev ⊢
  have HF0 : Hid (fa ≠ 0 → res = (0, 0, fa)) := Lib.hid (fun h => by
    have e : evK (x, y, fa) 3 = (x, y, fa) := by unfold evK; rw [if_neg (fun q => h q.1)]
    rw [hev, e, if_pos h]; rfl)
  have HFK : Hid (fa = 0 → x ≠ 3 → res = (0, 0, 1)) := Lib.hid (fun h h2 => by
    have e : evK (x, y, fa) 3 = (0, 0, 1) := by unfold evK; rw [if_pos ⟨h, h2⟩]
    rw [hev, e]; rfl)
  have hka : fa = 0 → x = 3 → evK (x, y, fa) 3 = (x, y, fa) := fun h h2 => by unfold evK; rw [if_neg (fun q => q.2 h2)]
  have HF1 : Hid (fa = 0 → x = 3 → ∃ ny : Nat, ny < W.length ∧ y = (ny : Int) ∧ res = evB (fdOf (thAt W ny).fs t.s).isSome) := Lib.hid (fun h h2 => by
    have hv := hv0 h
    simp only at hv
    rw [h2] at hv
    have hb : 0 ≤ y ∧ y < W.length := vl_3 hv
    refine ⟨y.toNat, by omega, by omega, ?_⟩
    rw [hev, hka h h2, if_neg (by simpa using h)])
  obtain ⟨bw, ow, rfl, hcw⟩ := hW.cells (ok_pos hO)
  have HCW := Lib.hid hcw
  clear hcw
  have HFD := Lib.hid hfd
  have kb1 : (t.k == 1) = false := by rw [k]; rfl
  have kb2 : (t.k == 2) = false := by rw [k]; rfl
  have kb3 : (t.k == 3) = false := by rw [k]; rfl
  have kb4 : (t.k == 4) = false := by rw [k]; rfl
  have kb5 : (t.k == 5) = false := by rw [k]; rfl
  have kb6 : (t.k == 6) = false := by rw [k]; rfl
  have kb7 : (t.k == 7) = false := by rw [k]; rfl
  have kb8 : (t.k == 8) = false := by rw [k]; rfl
  have kb9 : (t.k == 9) = true := by rw [k]; rfl
  have kb10 : (t.k == 10) = false := by rw [k]; rfl
  have kb11 : (t.k == 11) = false := by rw [k]; rfl
  have kb12 : (t.k == 12) = false := by rw [k]; rfl
  have kb13 : (t.k == 13) = false := by rw [k]; rfl
  have kb14 : (t.k == 14) = false := by rw [k]; rfl
  have kb15 : (t.k == 15) = false := by rw [k]; rfl
  clear hQ hva hO hg hg0 hn hU hfd hW hR hv0 hev hres hka k har hn0
  go_enter Try.func95, Try.ntmps95
  go_wp2_with fail
  rw [← HX.out, ← HG.out]
  refine wp_region_nbox X 79 2 10 11 10 #[.int .i64 x, .int .i64 y] (fun i wz vz => match i with | 10 => BoxV X 79 2 wz vz | 0 => vz = .slice (some ⟨bw, ow, none⟩) W.length c | 1 => vz = .agg #[.int .i64 r.who, .int .i64 r.act, .int .i64 r.what, .slice B r.fs.length c2] | 2 => vz = .pointer (some ⟨g + 1, 3, Option.none⟩) | 3 => vz = .slice (some ⟨b, off, none⟩) t.ps.length ct | 4 => vz = .pointer (some ⟨b, off, Option.none⟩) | 5 => vz = .agg #[.int .i64 (exAt t.ps 0).k, .int .i64 (exAt t.ps 0).n, .string (exAt t.ps 0).s, .slice A3 (exAt t.ps 0).ps.length c3] | 6 => vz = .tuple #[.agg #[.int .i64 x, .int .i64 y], .int .i64 fa] | 7 => vz = .tuple #[.agg #[.int .i64 x, .int .i64 y], .int .i64 fa] | 8 => vz = .agg #[.int .i64 x, .int .i64 y] | 9 => vz = .int .i64 fa | 12 => vz = .int .i64 fa | _ => True) (by kernel_rfl) (by kernel_rfl) (by kernel_rfl) rfl (by kernel_rfl) (fun _ _ h => h) (fun _ _ h => h) ?stab29 ?all29 (by decide) ?fin29
  case stab29 =>
    intro i wa wb v hne hT
    match i, hne, hT with
    | 0, _, hT => exact hT
    | 1, _, hT => exact hT
    | 2, _, hT => exact hT
    | 3, _, hT => exact hT
    | 4, _, hT => exact hT
    | 5, _, hT => exact hT
    | 6, _, hT => exact hT
    | 7, _, hT => exact hT
    | 8, _, hT => exact hT
    | 9, _, hT => exact hT
    | 12, _, hT => exact hT
    | 10, hne, _ => exact absurd rfl hne
    | 11, _, _ => trivial
    | n + 13, _, _ => trivial
  case all29 =>
    refine RAllL.cons rfl ?_ (RAllL.cons rfl ?_ (RAllL.cons rfl ?_ (RAllL.cons rfl ?_ (RAllL.cons rfl ?_ (RAllL.cons rfl ?_ (RAllL.cons rfl ?_ (RAllL.cons rfl ?_ (RAllL.cons rfl ?_ (RAllL.cons rfl ?_ (RAllL.cons rfl ?_ (RAllL.cons rfl ?_ (RAllL.cons rfl ?_ (RAllL.none_)))))))))))))
    · intro a kq_ wa K Q _ hI0 hp hK0
      have hI : Below X.heap.size X wa := hI0
      have hK := fun v w' h1 (h2 : Below wa.heap.size wa w') (h3 : Below X.heap.size X w') => hK0 v w' h1 (RelB.of_below h2) h3 (fun e => absurd e (by decide))
      exact op_move _ (.inl rfl) (hK _ _ (hp.keep 0 (by kernel_rfl)) (Below.refl _ _) hI)
    · intro a kq_ wa K Q _ hI0 hp hK0
      have hI : Below X.heap.size X wa := hI0
      have hK := fun v w' h1 (h2 : Below wa.heap.size wa w') (h3 : Below X.heap.size X w') => hK0 v w' h1 (RelB.of_below h2) h3 (fun e => absurd e (by decide))
      have e4 := tmp_of (show a.eval (.tmp 4) = .pointer (some ⟨g, 0, none⟩) from hp.keep 4 (by kernel_rfl))
      have p0_ := below_cell hI p0
      have p1_ := below_cell hI p1
      have p2_ := below_cell hI p2
      have p3_ := below_cell hI p3
      go_simp
      exact hK _ _ rfl (Below.refl _ _) hI
    · intro a kq_ wa K Q _ hI0 hp hK0
      have hI : Below X.heap.size X wa := hI0
      have hK := fun v w' h1 (h2 : Below wa.heap.size wa w') (h3 : Below X.heap.size X w') => hK0 v w' h1 (RelB.of_below h2) h3 (fun e => absurd e (by decide))
      have e5 := tmp_of (show a.eval (.tmp 5) = .pointer (some ⟨g + 1, 0, none⟩) from hp.keep 5 (by kernel_rfl))
      go_simp
      exact hK _ _ rfl (Below.refl _ _) hI
    · intro a kq_ wa K Q _ hI0 hp hK0
      have hI : Below X.heap.size X wa := hI0
      have hK := fun v w' h1 (h2 : Below wa.heap.size wa w') (h3 : Below X.heap.size X w') => hK0 v w' h1 (RelB.of_below h2) h3 (fun e => absurd e (by decide))
      have e94 := tmp_of (show a.eval (.tmp 94) = .pointer (some ⟨g + 1, 3, Option.none⟩) from hp.dep 2 94 (by kernel_rfl))
      have q3_ := below_cell hI q3
      go_simp
      exact hK _ _ rfl (Below.refl _ _) hI
    · intro a kq_ wa K Q _ hI0 hp hK0
      have hI : Below X.heap.size X wa := hI0
      have hK := fun v w' h1 (h2 : Below wa.heap.size wa w') (h3 : Below X.heap.size X w') => hK0 v w' h1 (RelB.of_below h2) h3 (fun e => absurd e (by decide))
      have e95 := tmp_of (show a.eval (.tmp 95) = .slice (some ⟨b, off, none⟩) t.ps.length ct from hp.dep 3 95 (by kernel_rfl))
      go_simp
      exact hK _ _ rfl (Below.refl _ _) hI
    · intro a kq_ wa K Q _ hI0 hp hK0
      have hI : Below X.heap.size X wa := hI0
      have hK := fun v w' h1 (h2 : Below wa.heap.size wa w') (h3 : Below X.heap.size X w') => hK0 v w' h1 (RelB.of_below h2) h3 (fun e => absurd e (by decide))
      have e96 := tmp_of (show a.eval (.tmp 96) = .pointer (some ⟨b, off, Option.none⟩) from hp.dep 4 96 (by kernel_rfl))
      have a0_ := below_cell hI a0
      have a1_ := below_cell hI a1
      have a2_ := below_cell hI a2
      have a3_ := below_cell hI a3
      go_simp
      exact hK _ _ rfl (Below.refl _ _) hI
    · intro a kq_ wa K Q _ hI0 hp hK0
      have hI : Below X.heap.size X wa := hI0
      have hK := fun v w' h1 (h2 : Below wa.heap.size wa w') (h3 : Below X.heap.size X w') => hK0 v w' h1 (RelB.of_below h2) h3 (fun e => absurd e (by decide))
      have e92 := tmp_of (show a.eval (.tmp 92) = .slice (some ⟨bw, ow, none⟩) W.length c from hp.dep 0 92 (by kernel_rfl))
      have e93 := tmp_of (show a.eval (.tmp 93) = .agg #[.int .i64 r.who, .int .i64 r.act, .int .i64 r.what, .slice B r.fs.length c2] from hp.dep 1 93 (by kernel_rfl))
      have e97 := tmp_of (show a.eval (.tmp 97) = .agg #[.int .i64 (exAt t.ps 0).k, .int .i64 (exAt t.ps 0).n, .string (exAt t.ps 0).s, .slice A3 (exAt t.ps 0).ps.length c3] from hp.dep 5 97 (by kernel_rfl))
      go_simp
      refine (HA.out _ _ _ hI (HFD.out.below hI)).mono ?_
      rintro e wb ⟨rfl, hb⟩
      exact hK _ _ (show _ = (.tuple #[.agg #[.int .i64 x, .int .i64 y], .int .i64 fa] : Value) from rfl) hb (ext_trans hI hb)
    · intro a kq_ wa K Q _ hI0 hp hK0
      have hI : Below X.heap.size X wa := hI0
      have hK := fun v w' h1 (h2 : Below wa.heap.size wa w') (h3 : Below X.heap.size X w') => hK0 v w' h1 (RelB.of_below h2) h3 (fun e => absurd e (by decide))
      exact op_move _ (.inl rfl) (hK _ _ (hp.dep 6 98 (by kernel_rfl)) (Below.refl _ _) hI)
    · intro a kq_ wa K Q _ hI0 hp hK0
      have hI : Below X.heap.size X wa := hI0
      have hK := fun v w' h1 (h2 : Below wa.heap.size wa w') (h3 : Below X.heap.size X w') => hK0 v w' h1 (RelB.of_below h2) h3 (fun e => absurd e (by decide))
      have e91 := tmp_of (show a.eval (.tmp 91) = .tuple #[.agg #[.int .i64 x, .int .i64 y], .int .i64 fa] from hp.dep 7 91 (by kernel_rfl))
      go_simp
      exact hK _ _ rfl (Below.refl _ _) hI
    · intro a kq_ wa K Q _ hI0 hp hK0
      have hI : Below X.heap.size X wa := hI0
      have hK := fun v w' h1 (h2 : Below wa.heap.size wa w') (h3 : Below X.heap.size X w') => hK0 v w' h1 (RelB.of_below h2) h3 (fun e => absurd e (by decide))
      have e91 := tmp_of (show a.eval (.tmp 91) = .tuple #[.agg #[.int .i64 x, .int .i64 y], .int .i64 fa] from hp.dep 7 91 (by kernel_rfl))
      go_simp
      exact hK _ _ rfl (Below.refl _ _) hI
    · intro a kq_ wa K Q _ hI0 hp hK0
      have hI : Below X.heap.size X wa := hI0
      have hK := fun v w' h1 (h2 : Below wa.heap.size wa w') (h3 : Below X.heap.size X w') => hK0 v w' h1 (RelB.of_below h2) h3 (fun e => absurd e (by decide))
      go_simp
      exact hK _ _ ⟨_, rfl, hI.size, _, heap_alloc_new _ _, rfl⟩ (below_alloc _ _) (ext_alloc hI _)
    · intro a kq_ wa K Q _ hI0 hp hK0
      have hI : Below X.heap.size X wa := hI0
      obtain ⟨g8, eB, hgB, cs8, hg8, hcs8⟩ := (show BoxV X 79 2 wa (a.eval (.tmp 10)) from hp.base (by kernel_rfl))
      have eB2 := tmp_of eB
      have e99 := tmp_of (show a.eval (.tmp 99) = .agg #[.int .i64 x, .int .i64 y] from hp.dep 8 99 (by kernel_rfl))
      obtain ⟨hr8, hb8, hg9⟩ := nbox_put (N := 11) (.int .i64 x) (.int .i64 y) hgB hg8 hcs8 hI
      obtain ⟨c80, c81, d80, d81, f80, f81⟩ := nbox_cells hg8 hcs8
      go_simp
      exact hK0 (.tuple #[]) _ trivial hr8 hb8 (fun _ => ⟨g8, eB, hgB, hg9⟩)
    · intro a kq_ wa K Q _ hI0 hp hK0
      have hI : Below X.heap.size X wa := hI0
      have hK := fun v w' h1 (h2 : Below wa.heap.size wa w') (h3 : Below X.heap.size X w') => hK0 v w' h1 (RelB.of_below h2) h3 (fun e => absurd e (by decide))
      exact op_move _ (.inr rfl) (hK _ _ (hp.dep 9 100 (by kernel_rfl)) (Below.refl _ _) hI)
  case fin29 =>
    intro f w2 hT hBx hI0
    have hI : Below X.heap.size X w2 := hI0
    have hr : (f 12) = .int .i64 fa := hT 12 (by decide) rfl
    clear hT hI0
    obtain ⟨ga, eA, hgA, hqA⟩ := hBx
    simp only [putAll, eA, hr]
    have HB2 := Lib.hid (ext_trans HB.out hI)
    have HI2 := Lib.hid hI
    have HQ3 := Lib.hid (block_in HQ3.out hI)
    have HQ2b := Lib.hid (block_in HQ2.out hI)
    clear z0 z1 f0 f1 p0 p1 p2 p3 q0 q1 q2 q3
    obtain ⟨q0, q1, q2, q3⟩ := cells4 HQ2b.out
    obtain ⟨u0, u1⟩ := cells2 hqA
    obtain ⟨z0, z1⟩ := cells2 HQ3.out
    obtain ⟨f0, f1⟩ := froz2 HQ3.out
    have hga : ga ≠ g + 1 + 1 := by have := HGB.out.2; omega
    have hga2 := Ne.symm hga
    clear hr eA hqA a0 a1 a2 a3 hI
    go_simp
    by_cases e1 : fa = 0
    · have gb : (fa != 0) = false := by simpa using e1
      by_cases e2 : x = 3
      · have gx : (x != 3) = false := by simpa using e2
        obtain ⟨ny, hny, rfl, hE⟩ := HF1.out e1 e2
        clear e1 e2
        obtain ⟨A5, c5, A6, c6, _, hf6, _, d1⟩ := HCW.out ny hny
        replace d1 := below_cell HI2.out d1
        have HF6 := Lib.hid (hf6.below HI2.out)
        obtain ⟨o, ho⟩ : ∃ o, fdOf (thAt W ny).fs t.s = o := ⟨_, rfl⟩
        rw [ho] at hE
        have HO := Lib.hid ho
        have HEE := Lib.hid hE
        obtain ⟨⟨xv, yv⟩, hxy⟩ : ∃ v, fdV o = v := ⟨_, rfl⟩
        obtain ⟨bo, hbo⟩ : ∃ b, o.isSome = b := ⟨_, rfl⟩
        have HFV : Hid (fdVal o = .tuple #[.agg #[.int .i64 xv, .int .i64 yv], .bool bo]) := Lib.hid (by rw [fdVal, hxy, hbo])
        have HXY := Lib.hid hxy
        have HBO := Lib.hid hbo
        clear hf6 ho hE hxy hbo hlW
        have hnyi : (ny : Int) < W.length := by omega
        go_wp2
        refine wp_region_nbox w2 79 2 12 13 12 #[.int .i64 xv, .int .i64 yv] (fun i wz vz => match i with | 12 => BoxV w2 79 2 wz vz | 0 => vz = .slice (some ⟨bw, ow, none⟩) W.length c | 1 => vz = .pointer (some ⟨ga, 1, Option.none⟩) | 2 => vz = .int .i64 ny | 3 => vz = .pointer (some ⟨bw, ow + ny * 2, Option.none⟩) | 4 => vz = .pointer (some ⟨bw, ow + ny * 2 + 1, Option.none⟩) | 5 => vz = .slice A6 (thAt W ny).fs.length c6 | 6 => vz = .pointer (some ⟨g + 1, 2, Option.none⟩) | 7 => vz = .string t.s | 8 => vz = .tuple #[.agg #[.int .i64 xv, .int .i64 yv], .bool bo] | 9 => vz = .tuple #[.agg #[.int .i64 xv, .int .i64 yv], .bool bo] | 10 => vz = .agg #[.int .i64 xv, .int .i64 yv] | 11 => vz = .bool bo | 14 => vz = .bool bo | _ => True) (by kernel_rfl) (by kernel_rfl) (by kernel_rfl) rfl (by kernel_rfl) (fun _ _ h => h) (fun _ _ h => h) ?stab36 ?all36 (by decide) ?fin36
        case stab36 =>
          intro i wa wb v hne hT
          match i, hne, hT with
          | 0, _, hT => exact hT
          | 1, _, hT => exact hT
          | 2, _, hT => exact hT
          | 3, _, hT => exact hT
          | 4, _, hT => exact hT
          | 5, _, hT => exact hT
          | 6, _, hT => exact hT
          | 7, _, hT => exact hT
          | 8, _, hT => exact hT
          | 9, _, hT => exact hT
          | 10, _, hT => exact hT
          | 11, _, hT => exact hT
          | 14, _, hT => exact hT
          | 12, hne, _ => exact absurd rfl hne
          | 13, _, _ => trivial
          | n + 15, _, _ => trivial
        case all36 =>
          refine RAllL.cons rfl ?_ (RAllL.cons rfl ?_ (RAllL.cons rfl ?_ (RAllL.cons rfl ?_ (RAllL.cons rfl ?_ (RAllL.cons rfl ?_ (RAllL.cons rfl ?_ (RAllL.cons rfl ?_ (RAllL.cons rfl ?_ (RAllL.cons rfl ?_ (RAllL.cons rfl ?_ (RAllL.cons rfl ?_ (RAllL.cons rfl ?_ (RAllL.cons rfl ?_ (RAllL.cons rfl ?_ (RAllL.none_)))))))))))))))
          · intro a kq_ wa K Q _ hI0 hp hK0
            have hI : Below w2.heap.size w2 wa := hI0
            have hK := fun v w' h1 (h2 : Below wa.heap.size wa w') (h3 : Below w2.heap.size w2 w') => hK0 v w' h1 (RelB.of_below h2) h3 (fun e => absurd e (by decide))
            exact op_move _ (.inl rfl) (hK _ _ (hp.keep 0 (by kernel_rfl)) (Below.refl _ _) hI)
          · intro a kq_ wa K Q _ hI0 hp hK0
            have hI : Below w2.heap.size w2 wa := hI0
            have hK := fun v w' h1 (h2 : Below wa.heap.size wa w') (h3 : Below w2.heap.size w2 w') => hK0 v w' h1 (RelB.of_below h2) h3 (fun e => absurd e (by decide))
            have e10 := tmp_of (show a.eval (.tmp 10) = .pointer (some ⟨ga, 0, none⟩) from hp.keep 10 (by kernel_rfl))
            go_simp
            exact hK _ _ rfl (Below.refl _ _) hI
          · intro a kq_ wa K Q _ hI0 hp hK0
            have hI : Below w2.heap.size w2 wa := hI0
            have hK := fun v w' h1 (h2 : Below wa.heap.size wa w') (h3 : Below w2.heap.size w2 w') => hK0 v w' h1 (RelB.of_below h2) h3 (fun e => absurd e (by decide))
            have e131 := tmp_of (show a.eval (.tmp 131) = .pointer (some ⟨ga, 1, Option.none⟩) from hp.dep 1 131 (by kernel_rfl))
            have u1_ := below_cell hI u1
            go_simp
            exact hK _ _ rfl (Below.refl _ _) hI
          · intro a kq_ wa K Q _ hI0 hp hK0
            have hI : Below w2.heap.size w2 wa := hI0
            have hK := fun v w' h1 (h2 : Below wa.heap.size wa w') (h3 : Below w2.heap.size w2 w') => hK0 v w' h1 (RelB.of_below h2) h3 (fun e => absurd e (by decide))
            have e130 := tmp_of (show a.eval (.tmp 130) = .slice (some ⟨bw, ow, none⟩) W.length c from hp.dep 0 130 (by kernel_rfl))
            have e132 := tmp_of (show a.eval (.tmp 132) = .int .i64 ny from hp.dep 2 132 (by kernel_rfl))
            go_simp
            exact hK _ _ rfl (Below.refl _ _) hI
          · intro a kq_ wa K Q _ hI0 hp hK0
            have hI : Below w2.heap.size w2 wa := hI0
            have hK := fun v w' h1 (h2 : Below wa.heap.size wa w') (h3 : Below w2.heap.size w2 w') => hK0 v w' h1 (RelB.of_below h2) h3 (fun e => absurd e (by decide))
            have e133 := tmp_of (show a.eval (.tmp 133) = .pointer (some ⟨bw, ow + ny * 2, Option.none⟩) from hp.dep 3 133 (by kernel_rfl))
            go_simp
            exact hK _ _ rfl (Below.refl _ _) hI
          · intro a kq_ wa K Q _ hI0 hp hK0
            have hI : Below w2.heap.size w2 wa := hI0
            have hK := fun v w' h1 (h2 : Below wa.heap.size wa w') (h3 : Below w2.heap.size w2 w') => hK0 v w' h1 (RelB.of_below h2) h3 (fun e => absurd e (by decide))
            have e134 := tmp_of (show a.eval (.tmp 134) = .pointer (some ⟨bw, ow + ny * 2 + 1, Option.none⟩) from hp.dep 4 134 (by kernel_rfl))
            have d1_ := below_cell hI d1
            go_simp
            exact hK _ _ rfl (Below.refl _ _) hI
          · intro a kq_ wa K Q _ hI0 hp hK0
            have hI : Below w2.heap.size w2 wa := hI0
            have hK := fun v w' h1 (h2 : Below wa.heap.size wa w') (h3 : Below w2.heap.size w2 w') => hK0 v w' h1 (RelB.of_below h2) h3 (fun e => absurd e (by decide))
            have e5 := tmp_of (show a.eval (.tmp 5) = .pointer (some ⟨g + 1, 0, none⟩) from hp.keep 5 (by kernel_rfl))
            go_simp
            exact hK _ _ rfl (Below.refl _ _) hI
          · intro a kq_ wa K Q _ hI0 hp hK0
            have hI : Below w2.heap.size w2 wa := hI0
            have hK := fun v w' h1 (h2 : Below wa.heap.size wa w') (h3 : Below w2.heap.size w2 w') => hK0 v w' h1 (RelB.of_below h2) h3 (fun e => absurd e (by decide))
            have e136 := tmp_of (show a.eval (.tmp 136) = .pointer (some ⟨g + 1, 2, Option.none⟩) from hp.dep 6 136 (by kernel_rfl))
            have q2_ := below_cell hI q2
            go_simp
            exact hK _ _ rfl (Below.refl _ _) hI
          · intro a kq_ wa K Q _ hI0 hp hK0
            have hI : Below w2.heap.size w2 wa := hI0
            have hK := fun v w' h1 (h2 : Below wa.heap.size wa w') (h3 : Below w2.heap.size w2 w') => hK0 v w' h1 (RelB.of_below h2) h3 (fun e => absurd e (by decide))
            have e135 := tmp_of (show a.eval (.tmp 135) = .slice A6 (thAt W ny).fs.length c6 from hp.dep 5 135 (by kernel_rfl))
            have e137 := tmp_of (show a.eval (.tmp 137) = .string t.s from hp.dep 7 137 (by kernel_rfl))
            go_simp
            refine (specFieldOf (HF6.out.below hI)).mono ?_
            rintro e wb ⟨rfl, hb⟩
            exact hK _ _ (show _ = (.tuple #[.agg #[.int .i64 xv, .int .i64 yv], .bool bo] : Value) from by rw [HO.out, HFV.out]) hb (ext_trans hI hb)
          · intro a kq_ wa K Q _ hI0 hp hK0
            have hI : Below w2.heap.size w2 wa := hI0
            have hK := fun v w' h1 (h2 : Below wa.heap.size wa w') (h3 : Below w2.heap.size w2 w') => hK0 v w' h1 (RelB.of_below h2) h3 (fun e => absurd e (by decide))
            exact op_move _ (.inl rfl) (hK _ _ (hp.dep 8 138 (by kernel_rfl)) (Below.refl _ _) hI)
          · intro a kq_ wa K Q _ hI0 hp hK0
            have hI : Below w2.heap.size w2 wa := hI0
            have hK := fun v w' h1 (h2 : Below wa.heap.size wa w') (h3 : Below w2.heap.size w2 w') => hK0 v w' h1 (RelB.of_below h2) h3 (fun e => absurd e (by decide))
            have e129 := tmp_of (show a.eval (.tmp 129) = .tuple #[.agg #[.int .i64 xv, .int .i64 yv], .bool bo] from hp.dep 9 129 (by kernel_rfl))
            go_simp
            exact hK _ _ rfl (Below.refl _ _) hI
          · intro a kq_ wa K Q _ hI0 hp hK0
            have hI : Below w2.heap.size w2 wa := hI0
            have hK := fun v w' h1 (h2 : Below wa.heap.size wa w') (h3 : Below w2.heap.size w2 w') => hK0 v w' h1 (RelB.of_below h2) h3 (fun e => absurd e (by decide))
            have e129 := tmp_of (show a.eval (.tmp 129) = .tuple #[.agg #[.int .i64 xv, .int .i64 yv], .bool bo] from hp.dep 9 129 (by kernel_rfl))
            go_simp
            exact hK _ _ rfl (Below.refl _ _) hI
          · intro a kq_ wa K Q _ hI0 hp hK0
            have hI : Below w2.heap.size w2 wa := hI0
            have hK := fun v w' h1 (h2 : Below wa.heap.size wa w') (h3 : Below w2.heap.size w2 w') => hK0 v w' h1 (RelB.of_below h2) h3 (fun e => absurd e (by decide))
            go_simp
            exact hK _ _ ⟨_, rfl, hI.size, _, heap_alloc_new _ _, rfl⟩ (below_alloc _ _) (ext_alloc hI _)
          · intro a kq_ wa K Q _ hI0 hp hK0
            have hI : Below w2.heap.size w2 wa := hI0
            obtain ⟨g8, eB, hgB, cs8, hg8, hcs8⟩ := (show BoxV w2 79 2 wa (a.eval (.tmp 12)) from hp.base (by kernel_rfl))
            have eB2 := tmp_of eB
            have e139 := tmp_of (show a.eval (.tmp 139) = .agg #[.int .i64 xv, .int .i64 yv] from hp.dep 10 139 (by kernel_rfl))
            obtain ⟨hr8, hb8, hg9⟩ := nbox_put (N := 13) (.int .i64 xv) (.int .i64 yv) hgB hg8 hcs8 hI
            obtain ⟨c80, c81, d80, d81, f80, f81⟩ := nbox_cells hg8 hcs8
            go_simp
            exact hK0 (.tuple #[]) _ trivial hr8 hb8 (fun _ => ⟨g8, eB, hgB, hg9⟩)
          · intro a kq_ wa K Q _ hI0 hp hK0
            have hI : Below w2.heap.size w2 wa := hI0
            have hK := fun v w' h1 (h2 : Below wa.heap.size wa w') (h3 : Below w2.heap.size w2 w') => hK0 v w' h1 (RelB.of_below h2) h3 (fun e => absurd e (by decide))
            exact op_move _ (.inr rfl) (hK _ _ (hp.dep 11 140 (by kernel_rfl)) (Below.refl _ _) hI)
        case fin36 =>
          intro f w3 hT hBx hI0
          have hI : Below w2.heap.size w2 w3 := hI0
          have hr : (f 14) = .bool bo := hT 14 (by decide) rfl
          clear hT hI0
          obtain ⟨gv, eV, hgV, hqV⟩ := hBx
          simp only [putAll, eV, hr]
          have HB3 := Lib.hid (ext_trans HB2.out hI)
          have HQ3 := Lib.hid (block_in HQ3.out hI)
          have HQ2c := Lib.hid (block_in HQ2b.out hI)
          have hgv : gv ≠ g + 1 + 1 := by have := HGB.out.2; have := HI2.out.size; omega
          have hgv2 := Ne.symm hgv
          clear hr eV q0 q1 q2 q3 z0 z1 f0 f1 u0 u1 d1 hI
          obtain ⟨v0, v1⟩ := cells2 hqV
          obtain ⟨q0, q1, q2, q3⟩ := cells4 HQ2c.out
          obtain ⟨z0, z1⟩ := cells2 HQ3.out
          obtain ⟨f0, f1⟩ := froz2 HQ3.out
          clear hqV
          go_simp
          have HE : Hid (res = (1, b01 bo, 0)) := Lib.hid (by rw [HEE.out, HBO.out]; rfl)
          go_wp2_with fail
          refine (specTruthOf _ _).mono ?_
          rintro e w4 ⟨rfl, hb⟩
          have HB4 := Lib.hid (ext_trans HB3.out hb)
          have HQ3 := Lib.hid (block_in HQ3.out hb)
          clear z0 z1 f0 f1 v0 v1 q0 q1 q2 q3
          obtain ⟨z0, z1⟩ := cells2 HQ3.out
          obtain ⟨f0, f1⟩ := froz2 HQ3.out
          clear hb
          go_wp2
          obtain ⟨r0, r1⟩ := cells2 (box_put (.int .i64 (1)) (.int .i64 (b01 bo)) HQ3.out rfl)
          exact bodyPost_ret (v := .tuple #[.agg #[.int .i64 (1), .int .i64 (b01 bo)], .int .i64 (0)]) (by simp [results, go_sem, r0, r1]) rfl ⟨by rw [HE.out]; rfl, box_put_below _ _ HGB.out.1 HB4.out⟩
      · have gx : (x != 3) = true := by simpa using e2
        have HE := Lib.hid (HFK.out e1 e2)
        clear e1 e2
        go_wp2
        obtain ⟨r0, r1⟩ := cells2 (box_put (.int .i64 (0)) (.int .i64 (0)) HQ3.out rfl)
        exact bodyPost_ret (v := .tuple #[.agg #[.int .i64 (0), .int .i64 (0)], .int .i64 (1)]) (by simp [results, go_sem, r0, r1]) rfl ⟨by rw [HE.out]; rfl, box_put_below _ _ HGB.out.1 HB2.out⟩
    · have gb : (fa != 0) = true := by simpa using e1
      have HE := Lib.hid (HF0.out e1)
      clear e1
      go_wp2
      obtain ⟨r0, r1⟩ := cells2 (box_put (.int .i64 (0)) (.int .i64 (0)) HQ3.out rfl)
      exact bodyPost_ret (v := .tuple #[.agg #[.int .i64 (0), .int .i64 (0)], .int .i64 (fa)]) (by simp [results, go_sem, r0, r1]) rfl ⟨by rw [HE.out]; rfl, box_put_below _ _ HGB.out.1 HB2.out⟩
theorem lvQ_of {d : Nat} (hQ : ∀ m, d = m + 1 → LvQ m) : LvQ d := by
  intro W r A B C c c2 ct t w hW hR hU hO hg
  have hl := gd_len hg
  have parts : 0 < t.ps.length → ∃ m, d = m + 1 := fun h => by
    cases d with
    | zero => have := exS.zero hU; rw [this] at h; simp at h
    | succ m => exact ⟨m, rfl⟩
  have two : ∀ {P : Prop}, 0 < arK t.k → (∀ m, d = m + 1 → P) → P := fun h f => by
    obtain ⟨m, hm⟩ := parts (by rw [hl]; exact h)
    exact f m hm
  rcases gd_k hg with k | k | k | k | k | k | k | k | k | (k | k | k) | k | k | k
  · exact lv_1 hW hR hU hO hg k
  · exact lv_2 hW hR hU hO hg k
  · exact lv_3 hW hR hU hO hg k
  · exact lv_4 hW hR hU hO hg k
  · exact lv_5 hW hR hU hO hg k
  · exact lv_6 hW hR hU hO hg k
  · exact lv_7 hW hR hU hO hg k
  · exact two (by rw [k]; decide) (fun m hm => by subst hm; exact lv_8 (hQ m rfl) hW hR hU hO hg k)
  · exact two (by rw [k]; decide) (fun m hm => by subst hm; exact lv_9 (hQ m rfl) hW hR hU hO hg k)
  · exact two (by rw [k]; decide) (fun m hm => by subst hm; exact lv_10 (hQ m rfl) hW hR hU hO hg k)
  · exact two (by rw [k]; decide) (fun m hm => by subst hm; exact lv_11 (hQ m rfl) hW hR hU hO hg k)
  · exact two (by rw [k]; decide) (fun m hm => by subst hm; exact lv_12 (hQ m rfl) hW hR hU hO hg k)
  · exact two (by rw [k]; decide) (fun m hm => by subst hm; exact lv_13 (hQ m rfl) hW hR hU hO hg k)
  · exact two (by rw [k]; decide) (fun m hm => by subst hm; exact lv_14 (hQ m rfl) hW hR hU hO hg k)
  · exact two (by rw [k]; decide) (fun m hm => by subst hm; exact lv_15 (hQ m rfl) hW hR hU hO hg k)
theorem lvQ_all : ∀ d, LvQ d
  | 0 => lvQ_of (fun m h => by omega)
  | d + 1 => lvQ_of (fun m h => by cases h; exact lvQ_all d)
end Go.Proofs.Ytodjokdaofefdaa

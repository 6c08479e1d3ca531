/- Policies: whether they are valid, and what is wrong with them: by both. -/
import Derived.Test.YtodjokdaofefdaaGreatQ18
import Derived.Test.YtodjokdaofefdaaGreatQ16
import Derived.Test.YtodjokdaofefdaaGreatQ17
import Derived.Test.YtodjokdaofefdaaGreatQ11
namespace Go.Proofs.YtodjokdaofefdaaGreat
set_option linter.unusedSimpArgs false
set_option linter.unusedVariables false
open Go.RowKit

def scZ (s : Sc) : Prop := WfKd s.1 ∧ WfKd s.2
noncomputable def koX (d : Nat) (s : Sc) (r : Ex) : Int := if (scOk s && exOk r) = true then kiR (d + 1) s r else 0
def thX (d : Nat) (r : Ex) : Int := if exOk r = true then max (-1) (thR (d + 1) r) else -1
set_option maxRecDepth 100000 in
set_option maxHeartbeats 4000000 in
theorem implThingsUsed {d : Nat} {A : Option Addr} {r : Ex} {c : Nat} {w : World} (hU : exW d w A r.ps) (hs : r.s.size ≤ 9223372036854775807) :
    Calls Tryz.prog 40 #[.agg #[.int .i64 r.k, .int .i64 r.n, .string r.s, .slice A r.ps.length c]] w fun e w' => e = .returned (.int .i64 (thX d r)) ∧ Below w.heap.size w w' := by
  obtain ⟨W, hW⟩ : ∃ W, W = (w.alloc (.cells #[.int .i64 r.k, .int .i64 r.n, .string r.s, .slice A r.ps.length c] 36)).alloc (.cells #[.int .i64 (-1)] 3) := ⟨_, rfl⟩
  obtain ⟨g, hg⟩ : ∃ g, g = w.heap.size := ⟨_, rfl⟩
  have hB : Below w.heap.size w W := by rw [hW]; (repeat (first | exact Below.refl _ _ | refine ext_alloc ?_ _ | refine Below.setCell ?_ (by simp) _))
  have hq : W.heap[g]? = some (.cells #[.int .i64 r.k, .int .i64 r.n, .string r.s, .slice A r.ps.length c] 36 (0, 0)) := by rw [hW, hg]; exact block_in (heap_alloc_new _ _) (below_alloc _ _)
  have hq2 : W.heap[g + 1]? = some (.cells #[.int .i64 (-1)] 3 (0, 0)) := by rw [hW, hg]; exact heap_alloc_at (by simp)
  have hU0 : exS d 0 w.heap.size W A r.ps := exS.below hU (Nat.le_refl _) hB
  replace hU := hU.below hB
  obtain ⟨p0, p1, p2, p3⟩ := cells4 hq
  have HU0 := Lib.hid hU0
  have HQ := Lib.hid hq
  have HQ2 := Lib.hid hq2
  have HW := Lib.hid hW
  have HG := Lib.hid hg
  have HGG : Hid (w.heap.size ≤ g + 1) := Lib.hid (by omega)
  have hz0 : W.cell? ⟨g + 1, 0, none⟩ = some (.int .i64 (-1)) := (cell_of_row W (g + 1) 0 _ _ _ hq2).trans rfl
  clear hW hg hq hq2 hU0
  go_enter Tryz.func40, Tryz.ntmps40
  go_wp2_with fail
  rw [← HW.out, ← HG.out]
  refine (implExprValid hU hs).mono ?_
  rintro e w1 ⟨rfl, hb⟩
  have HB1 := Lib.hid (ext_trans hB hb)
  have HU1 : Hid (exS d 0 (g + 1) w1 A r.ps) := Lib.hid ((exS.below HU0.out hB.size hb).wide (Nat.le_refl _) HGG.out)
  obtain ⟨p0, p1, p2, p3⟩ := cells4 (block_in HQ.out hb)
  have HQ3 := Lib.hid (block_in HQ2.out hb)
  have hz1 : w1.cell? ⟨g + 1, 0, none⟩ = some (.int .i64 (-1)) := (cell_of_row w1 (g + 1) 0 _ _ _ HQ3.out).trans rfl
  have HF : Hid (thX d r = if exOk r = true then max (-1) (thR (d + 1) r) else -1) := Lib.hid rfl
  clear hb hU HQ HQ2 hz0
  cases gv : exOk r
  · rw [gv] at HF
    go_wp2
    go_ret
    exact ⟨by rw [HF.out]; rfl, HB1.out⟩
  · rw [gv] at HF
    clear hz1
    go_wp2_with fail
    refine (eaQ_all d _ _ _ _ _ _ HU1.out HQ3.out (by omega)).mono ?_
    rintro e w2 ⟨rfl, hb2, hg2⟩
    have hz2 : w2.cell? ⟨g + 1, 0, none⟩ = some (.int .i64 (max (-1) (thR (d + 1) r))) := (cell_of_row w2 (g + 1) 0 _ _ _ hb2).trans rfl
    have HB2 := Lib.hid (HB1.out.trans (grown_below hg2 HB1.out.size (fun q e => by cases e; exact HGG.out)))
    clear hb2 hg2 p0 p1 p2 p3
    go_wp2
    go_ret
    exact ⟨by rw [HF.out]; rfl, HB2.out⟩

set_option maxRecDepth 100000 in
set_option maxHeartbeats 4000000 in
theorem specKindOf {d : Nat} {s : Sc} {A0 A1 : Option Addr} {c0 c1 : Nat} {A : Option Addr} {r : Ex} {c : Nat} {w : World} (hS : scR w A0 A1 s) (hz : scZ s) (hU : exW d w A r.ps) (hs : r.s.size ≤ 9223372036854775807) (hcn : cntS d r.ps ≤ 2097152) :
    Calls Tryz.prog 43 #[scV s A0 c0 A1 c1, .agg #[.int .i64 r.k, .int .i64 r.n, .string r.s, .slice A r.ps.length c]] w fun e w' => e = .returned (.int .i64 (koX d s r)) ∧ Below w.heap.size w w' := by
  unfold scV
  have HIN := Lib.hid (exS_in hU)
  obtain ⟨W, hW⟩ : ∃ W, W = (w.alloc (.cells #[.slice A0 s.1.length c0, .slice A1 s.2.length c1] 25)).alloc (.cells #[.int .i64 r.k, .int .i64 r.n, .string r.s, .slice A r.ps.length c] 36) := ⟨_, rfl⟩
  obtain ⟨g, hg⟩ : ∃ g, g = w.heap.size := ⟨_, rfl⟩
  have hB : Below w.heap.size w W := by rw [hW]; (repeat (first | exact Below.refl _ _ | refine ext_alloc ?_ _ | refine Below.setCell ?_ (by simp) _))
  have hq : W.heap[g]? = some (.cells #[.slice A0 s.1.length c0, .slice A1 s.2.length c1] 25 (0, 0)) := by rw [hW, hg]; exact block_in (heap_alloc_new _ _) (below_alloc _ _)
  have hq2 : W.heap[g + 1]? = some (.cells #[.int .i64 r.k, .int .i64 r.n, .string r.s, .slice A r.ps.length c] 36 (0, 0)) := by rw [hW, hg]; exact heap_alloc_at (by simp)
  replace hU := hU.below hB
  replace hS := hS.below hB
  obtain ⟨q0, q1⟩ := cells2 hq
  have HQ := Lib.hid hq
  have HQ2 := Lib.hid hq2
  have HW := Lib.hid hW
  have HG := Lib.hid hg
  have HF : Hid (koX d s r = if (scOk s && exOk r) = true then kiR (d + 1) s r else 0) := Lib.hid rfl
  clear hW hg hq hq2
  go_enter Tryz.func43, Tryz.ntmps43
  go_wp2_with fail
  rw [← HW.out, ← HG.out]
  refine (specSchemaValid hS hz.1 hz.2).mono ?_
  rintro e w1 ⟨rfl, hb⟩
  replace hB := ext_trans hB hb
  replace hU := hU.below hb
  replace hS := hS.below hb
  have HQ := Lib.hid (block_in HQ.out hb)
  have HQ2 := Lib.hid (block_in HQ2.out hb)
  obtain ⟨p0, p1, p2, p3⟩ := cells4 HQ2.out
  clear hb q0 q1
  cases g1 : scOk s
  · rw [g1] at HF
    go_wp2
    go_ret
    exact ⟨by rw [HF.out]; rfl, hB⟩
  · rw [g1] at HF
    go_wp2_with fail
    refine (specExprValid hU hs hcn).mono ?_
    rintro e w2 ⟨rfl, hb⟩
    replace hB := ext_trans hB hb
    replace hU := hU.below hb
    replace hS := hS.below hb
    have HQ := Lib.hid (block_in HQ.out hb)
    have HQ2 := Lib.hid (block_in HQ2.out hb)
    obtain ⟨q0, q1⟩ := cells2 HQ.out
    clear hb p0 p1 p2 p3
    obtain ⟨p0, p1, p2, p3⟩ := cells4 HQ2.out
    cases g2 : exOk r
    · rw [g2] at HF
      go_wp2
      go_ret
      exact ⟨by rw [HF.out]; rfl, hB⟩
    · rw [g2] at HF
      have HGD := Lib.hid (ok_parts HIN.out g2).1
      go_wp2_with fail
      refine (ksQ_all d _ _ _ _ _ _ _ _ _ hS hU HGD.out).mono ?_
      rintro e w3 ⟨rfl, hb⟩
      replace hB := ext_trans hB hb
      clear hb p0 p1 p2 p3 q0 q1
      go_wp2
      go_ret
      exact ⟨by rw [HF.out]; rfl, hB⟩
set_option maxRecDepth 100000 in
set_option maxHeartbeats 4000000 in
theorem implKindOf {d : Nat} {s : Sc} {A0 A1 : Option Addr} {c0 c1 : Nat} {A : Option Addr} {r : Ex} {c : Nat} {w : World} (hS : scR w A0 A1 s) (hz : scZ s) (hc0 : s.1.length ≤ c0) (hc1 : s.2.length ≤ c1) (hU : exW d w A r.ps) (hs : r.s.size ≤ 9223372036854775807) :
    Calls Tryz.prog 39 #[scV s A0 c0 A1 c1, .agg #[.int .i64 r.k, .int .i64 r.n, .string r.s, .slice A r.ps.length c]] w fun e w' => e = .returned (.int .i64 (koX d s r)) ∧ Below w.heap.size w w' := by
  unfold scV
  have HIN := Lib.hid (exS_in hU)
  obtain ⟨W, hW⟩ : ∃ W, W = (w.alloc (.cells #[.slice A0 s.1.length c0, .slice A1 s.2.length c1] 25)).alloc (.cells #[.int .i64 r.k, .int .i64 r.n, .string r.s, .slice A r.ps.length c] 36) := ⟨_, rfl⟩
  obtain ⟨g, hg⟩ : ∃ g, g = w.heap.size := ⟨_, rfl⟩
  have hB : Below w.heap.size w W := by rw [hW]; (repeat (first | exact Below.refl _ _ | refine ext_alloc ?_ _ | refine Below.setCell ?_ (by simp) _))
  have hq : W.heap[g]? = some (.cells #[.slice A0 s.1.length c0, .slice A1 s.2.length c1] 25 (0, 0)) := by rw [hW, hg]; exact block_in (heap_alloc_new _ _) (below_alloc _ _)
  have hq2 : W.heap[g + 1]? = some (.cells #[.int .i64 r.k, .int .i64 r.n, .string r.s, .slice A r.ps.length c] 36 (0, 0)) := by rw [hW, hg]; exact heap_alloc_at (by simp)
  replace hU := hU.below hB
  replace hS := hS.below hB
  obtain ⟨q0, q1⟩ := cells2 hq
  have HQ := Lib.hid hq
  have HQ2 := Lib.hid hq2
  have HW := Lib.hid hW
  have HG := Lib.hid hg
  have HF : Hid (koX d s r = if (scOk s && exOk r) = true then kiR (d + 1) s r else 0) := Lib.hid rfl
  clear hW hg hq hq2
  go_enter Tryz.func39, Tryz.ntmps39
  go_wp2_with fail
  rw [← HW.out, ← HG.out]
  refine (implSchemaValid hS hz.1 hz.2 hc0 hc1).mono ?_
  rintro e w1 ⟨rfl, hb⟩
  replace hB := ext_trans hB hb
  replace hU := hU.below hb
  replace hS := hS.below hb
  have HQ := Lib.hid (block_in HQ.out hb)
  have HQ2 := Lib.hid (block_in HQ2.out hb)
  obtain ⟨p0, p1, p2, p3⟩ := cells4 HQ2.out
  clear hb q0 q1
  cases g1 : scOk s
  · rw [g1] at HF
    go_wp2
    go_ret
    exact ⟨by rw [HF.out]; rfl, hB⟩
  · rw [g1] at HF
    go_wp2_with fail
    refine (implExprValid hU hs).mono ?_
    rintro e w2 ⟨rfl, hb⟩
    replace hB := ext_trans hB hb
    replace hU := hU.below hb
    replace hS := hS.below hb
    have HQ := Lib.hid (block_in HQ.out hb)
    have HQ2 := Lib.hid (block_in HQ2.out hb)
    obtain ⟨q0, q1⟩ := cells2 HQ.out
    clear hb p0 p1 p2 p3
    obtain ⟨p0, p1, p2, p3⟩ := cells4 HQ2.out
    cases g2 : exOk r
    · rw [g2] at HF
      go_wp2
      go_ret
      exact ⟨by rw [HF.out]; rfl, hB⟩
    · rw [g2] at HF
      have HGD := Lib.hid (ok_parts HIN.out g2).1
      go_wp2_with fail
      refine (kiQ_all d _ _ _ _ _ _ _ _ _ hS hU HGD.out).mono ?_
      rintro e w3 ⟨rfl, hb⟩
      replace hB := ext_trans hB hb
      clear hb p0 p1 p2 p3 q0 q1
      go_wp2
      go_ret
      exact ⟨by rw [HF.out]; rfl, hB⟩
set_option maxRecDepth 100000 in
set_option maxHeartbeats 4000000 in
theorem specPolicyValid {d : Nat} {p : Po} {A : Option Addr} {c : Nat} {w : World} (hU : exW d w A p.wh.ps) (hz : poZ p) (hcn : cntS d p.wh.ps ≤ 2097152) :
    Calls Tryz.prog 42 #[poV p A c] w fun e w' => e = .returned (.bool (poOk p)) ∧ Below w.heap.size w w' := by
  unfold poV
  obtain ⟨W, hW⟩ : ∃ W, W = w.alloc (.cells #[.string p.nm, .bool p.al, .int .i64 p.who, .int .i64 p.what, .int .i64 p.acts, .int .i64 p.wh.k, .int .i64 p.wh.n, .string p.wh.s, .slice A p.wh.ps.length c] 54) := ⟨_, rfl⟩
  obtain ⟨g, hg⟩ : ∃ g, g = w.heap.size := ⟨_, rfl⟩
  have hB : Below w.heap.size w W := by rw [hW]; exact below_alloc _ _
  have hq : W.heap[g]? = some (.cells #[.string p.nm, .bool p.al, .int .i64 p.who, .int .i64 p.what, .int .i64 p.acts, .int .i64 p.wh.k, .int .i64 p.wh.n, .string p.wh.s, .slice A p.wh.ps.length c] 54 (0, 0)) := by rw [hW, hg]; exact heap_alloc_new _ _
  replace hU := hU.below hB
  obtain ⟨q0, q1, q2, q3, q4, q5, q6, q7, q8⟩ := cells9 hq
  have HQ := Lib.hid hq
  have HW := Lib.hid hW
  have HG := Lib.hid hg
  have HF : Hid (poOk p = (nmOk p.nm && (inB p.who (-2) 6 && (inB p.what (-1) 6 && (inB p.acts 1 15 && exOk p.wh))))) := Lib.hid rfl
  clear hW hg hq
  go_enter Tryz.func42, Tryz.ntmps42
  go_wp2_with fail
  rw [← HW.out, ← HG.out]
  refine (specNameValid _ hz.2 _).mono ?_
  rintro e w1 ⟨rfl, hb⟩
  replace hB := ext_trans hB hb
  replace hU := hU.below hb
  have HQ := Lib.hid (block_in HQ.out hb)
  clear hb q0 q1 q2 q3 q4 q5 q6 q7 q8
  obtain ⟨q0, q1, q2, q3, q4, q5, q6, q7, q8⟩ := cells9 HQ.out
  cases g0 : nmOk p.nm
  · rw [g0] at HF
    go_wp2
    go_ret
    exact ⟨by rw [HF.out]; rfl, hB⟩
  · rw [g0] at HF
    go_wp2_with fail
    refine (l1In_any _ _ _ _).mono ?_
    rintro e w2 ⟨rfl, hb⟩
    replace hB := ext_trans hB hb
    replace hU := hU.below hb
    have HQ := Lib.hid (block_in HQ.out hb)
    clear hb q0 q1 q2 q3 q4 q5 q6 q7 q8
    obtain ⟨q0, q1, q2, q3, q4, q5, q6, q7, q8⟩ := cells9 HQ.out
    cases g1 : inB p.who (-2) 6
    · rw [g1] at HF
      go_wp2
      go_ret
      exact ⟨by rw [HF.out]; rfl, hB⟩
    · rw [g1] at HF
      go_wp2_with fail
      refine (l1In_any _ _ _ _).mono ?_
      rintro e w3 ⟨rfl, hb⟩
      replace hB := ext_trans hB hb
      replace hU := hU.below hb
      have HQ := Lib.hid (block_in HQ.out hb)
      clear hb q0 q1 q2 q3 q4 q5 q6 q7 q8
      obtain ⟨q0, q1, q2, q3, q4, q5, q6, q7, q8⟩ := cells9 HQ.out
      cases g2 : inB p.what (-1) 6
      · rw [g2] at HF
        go_wp2
        go_ret
        exact ⟨by rw [HF.out]; rfl, hB⟩
      · rw [g2] at HF
        go_wp2_with fail
        refine (l1In_any _ _ _ _).mono ?_
        rintro e w4 ⟨rfl, hb⟩
        replace hB := ext_trans hB hb
        replace hU := hU.below hb
        have HQ := Lib.hid (block_in HQ.out hb)
        clear hb q0 q1 q2 q3 q4 q5 q6 q7 q8
        obtain ⟨q0, q1, q2, q3, q4, q5, q6, q7, q8⟩ := cells9 HQ.out
        cases g3 : inB p.acts 1 15
        · rw [g3] at HF
          go_wp2
          go_ret
          exact ⟨by rw [HF.out]; rfl, hB⟩
        · rw [g3] at HF
          go_wp2_with fail
          refine (specExprValid hU hz.1 hcn).mono ?_
          rintro e w5 ⟨rfl, hb⟩
          replace hB := ext_trans hB hb
          replace hU := hU.below hb
          have HQ := Lib.hid (block_in HQ.out hb)
          clear hb q0 q1 q2 q3 q4 q5 q6 q7 q8
          obtain ⟨q0, q1, q2, q3, q4, q5, q6, q7, q8⟩ := cells9 HQ.out
          cases g4 : exOk p.wh
          · rw [g4] at HF
            go_wp2
            go_ret
            exact ⟨by rw [HF.out]; rfl, hB⟩
          · rw [g4] at HF
            go_wp2
            go_ret
            exact ⟨by rw [HF.out]; rfl, hB⟩
set_option maxRecDepth 100000 in
set_option maxHeartbeats 4000000 in
theorem implPolicyValid {d : Nat} {p : Po} {A : Option Addr} {c : Nat} {w : World} (hU : exW d w A p.wh.ps) (hz : poZ p) :
    Calls Tryz.prog 30 #[poV p A c] w fun e w' => e = .returned (.bool (poOk p)) ∧ Below w.heap.size w w' := by
  unfold poV
  obtain ⟨W, hW⟩ : ∃ W, W = w.alloc (.cells #[.string p.nm, .bool p.al, .int .i64 p.who, .int .i64 p.what, .int .i64 p.acts, .int .i64 p.wh.k, .int .i64 p.wh.n, .string p.wh.s, .slice A p.wh.ps.length c] 54) := ⟨_, rfl⟩
  obtain ⟨g, hg⟩ : ∃ g, g = w.heap.size := ⟨_, rfl⟩
  have hB : Below w.heap.size w W := by rw [hW]; exact below_alloc _ _
  have hq : W.heap[g]? = some (.cells #[.string p.nm, .bool p.al, .int .i64 p.who, .int .i64 p.what, .int .i64 p.acts, .int .i64 p.wh.k, .int .i64 p.wh.n, .string p.wh.s, .slice A p.wh.ps.length c] 54 (0, 0)) := by rw [hW, hg]; exact heap_alloc_new _ _
  replace hU := hU.below hB
  obtain ⟨q0, q1, q2, q3, q4, q5, q6, q7, q8⟩ := cells9 hq
  have HQ := Lib.hid hq
  have HW := Lib.hid hW
  have HG := Lib.hid hg
  have HF : Hid (poOk p = (nmOk p.nm && (inB p.who (-2) 6 && (inB p.what (-1) 6 && (inB p.acts 1 15 && exOk p.wh))))) := Lib.hid rfl
  clear hW hg hq
  go_enter Tryz.func30, Tryz.ntmps30
  go_wp2_with fail
  rw [← HW.out, ← HG.out]
  refine (implNameValid _ hz.2 _).mono ?_
  rintro e w1 ⟨rfl, hb⟩
  replace hB := ext_trans hB hb
  replace hU := hU.below hb
  have HQ := Lib.hid (block_in HQ.out hb)
  clear hb q0 q1 q2 q3 q4 q5 q6 q7 q8
  obtain ⟨q0, q1, q2, q3, q4, q5, q6, q7, q8⟩ := cells9 HQ.out
  cases g0 : nmOk p.nm
  · rw [g0] at HF
    go_wp2
    go_ret
    exact ⟨by rw [HF.out]; rfl, hB⟩
  · rw [g0] at HF
    go_wp2_with fail
    refine (in_any _ _ _ _).mono ?_
    rintro e w2 ⟨rfl, hb⟩
    replace hB := ext_trans hB hb
    replace hU := hU.below hb
    have HQ := Lib.hid (block_in HQ.out hb)
    clear hb q0 q1 q2 q3 q4 q5 q6 q7 q8
    obtain ⟨q0, q1, q2, q3, q4, q5, q6, q7, q8⟩ := cells9 HQ.out
    cases g1 : inB p.who (-2) 6
    · rw [g1] at HF
      go_wp2
      go_ret
      exact ⟨by rw [HF.out]; rfl, hB⟩
    · rw [g1] at HF
      go_wp2_with fail
      refine (in_any _ _ _ _).mono ?_
      rintro e w3 ⟨rfl, hb⟩
      replace hB := ext_trans hB hb
      replace hU := hU.below hb
      have HQ := Lib.hid (block_in HQ.out hb)
      clear hb q0 q1 q2 q3 q4 q5 q6 q7 q8
      obtain ⟨q0, q1, q2, q3, q4, q5, q6, q7, q8⟩ := cells9 HQ.out
      cases g2 : inB p.what (-1) 6
      · rw [g2] at HF
        go_wp2
        go_ret
        exact ⟨by rw [HF.out]; rfl, hB⟩
      · rw [g2] at HF
        go_wp2_with fail
        refine (in_any _ _ _ _).mono ?_
        rintro e w4 ⟨rfl, hb⟩
        replace hB := ext_trans hB hb
        replace hU := hU.below hb
        have HQ := Lib.hid (block_in HQ.out hb)
        clear hb q0 q1 q2 q3 q4 q5 q6 q7 q8
        obtain ⟨q0, q1, q2, q3, q4, q5, q6, q7, q8⟩ := cells9 HQ.out
        cases g3 : inB p.acts 1 15
        · rw [g3] at HF
          go_wp2
          go_ret
          exact ⟨by rw [HF.out]; rfl, hB⟩
        · rw [g3] at HF
          go_wp2_with fail
          refine (implExprValid hU hz.1).mono ?_
          rintro e w5 ⟨rfl, hb⟩
          replace hB := ext_trans hB hb
          replace hU := hU.below hb
          have HQ := Lib.hid (block_in HQ.out hb)
          clear hb q0 q1 q2 q3 q4 q5 q6 q7 q8
          obtain ⟨q0, q1, q2, q3, q4, q5, q6, q7, q8⟩ := cells9 HQ.out
          cases g4 : exOk p.wh
          · rw [g4] at HF
            go_wp2
            go_ret
            exact ⟨by rw [HF.out]; rfl, hB⟩
          · rw [g4] at HF
            go_wp2
            go_ret
            exact ⟨by rw [HF.out]; rfl, hB⟩
end Go.Proofs.YtodjokdaofefdaaGreat
/- Evaluate, scopes, what applies: by the program. -/
namespace Go.Proofs.YtodjokdaofefdaaGreat
set_option linter.unusedSimpArgs false
set_option linter.unusedVariables false
open Go.RowKit

noncomputable def evX (d : Nat) (W : WL) (r : Rq) (t : Ex) : Ev := if (exOk t && rqOk W r) = true then ev (d + 1) W r t else (0, 0, -1)
set_option maxRecDepth 100000 in
set_option maxHeartbeats 8000000 in
theorem implEvaluate {d : Nat} {W : WL} {r : Rq} {A B C : Option Addr} {c c2 ct : Nat} {t : Ex} {w : World} (hW : wlR w A W) (hw : WfW W) (hR : fdR w B r.fs) (hf : WfFd r.fs) (hU : exW d w C t.ps) (hs : t.s.size ≤ 9223372036854775807) :
    Calls Tryz.prog 58 #[.slice A W.length c, rqV r B c2, .agg #[.int .i64 t.k, .int .i64 t.n, .string t.s, .slice C t.ps.length ct]] w fun e w' => e = .returned (evVal (evX d W r t)) ∧ Below w.heap.size w w' := by
  unfold rqV
  have hlen := hW.len
  have hlR := hR.len
  have hin := exS_in hU
  have HF : Hid (evX d W r t = if (exOk t && rqOk W r) = true then ev (d + 1) W r t else (0, 0, -1)) := Lib.hid rfl
  have HV : Hid (exOk t = true → rqOk W r = true → OkW W r ∧ gdR (d + 1) t = true) := Lib.hid (fun h1 h2 => ⟨rq_ok h2, (ok_parts hin h1).1⟩)
  obtain ⟨v, hv⟩ : ∃ v, ev (d + 1) W r t = v := ⟨_, rfl⟩
  have hzz := ev_zero (d + 1) W r t
  rw [hv] at hzz
  rw [hv] at HF
  have HVV := Lib.hid hv
  obtain ⟨x, y, f⟩ := v
  have HZ : Hid (f ≠ 0 → x = 0 ∧ y = 0) := Lib.hid hzz
  obtain ⟨X, hX⟩ : ∃ X, X = ((w.alloc (.cells #[.int .i64 r.who, .int .i64 r.act, .int .i64 r.what, .slice B r.fs.length c2] 33)).alloc (.cells #[.int .i64 t.k, .int .i64 t.n, .string t.s, .slice C t.ps.length ct] 36)).alloc (.cells #[.int .i64 0, .int .i64 0] 87) := ⟨_, rfl⟩
  obtain ⟨g, hg⟩ : ∃ g, g = w.heap.size := ⟨_, rfl⟩
  have hB : Below w.heap.size w X := by rw [hX]; (repeat (first | exact Below.refl _ _ | refine ext_alloc ?_ _ | refine Below.setCell ?_ (by simp) _))
  have hq1 : X.heap[g]? = some (.cells #[.int .i64 r.who, .int .i64 r.act, .int .i64 r.what, .slice B r.fs.length c2] 33 (0, 0)) := by rw [hX, hg]; exact block_in (block_in (heap_alloc_new _ _) (below_alloc _ _)) (below_alloc _ _)
  have hq2 : X.heap[g + 1]? = some (.cells #[.int .i64 t.k, .int .i64 t.n, .string t.s, .slice C t.ps.length ct] 36 (0, 0)) := by rw [hX, hg]; exact block_in (heap_alloc_at (by simp)) (below_alloc _ _)
  have hq3 : X.heap[g + 1 + 1]? = some (.cells #[.int .i64 0, .int .i64 0] 87 (0, 0)) := by rw [hX, hg]; exact heap_alloc_at (by simp)
  replace hW := hW.below hB
  replace hR := hR.below hB
  replace hU := hU.below hB
  have HX := Lib.hid hX
  have HG := Lib.hid hg
  have HQ1 := Lib.hid hq1
  have HQ2 := Lib.hid hq2
  have HQ3 := Lib.hid hq3
  have HGB : Hid (w.heap.size ≤ g + 1 + 1 ∧ g + 1 + 1 < X.heap.size) := Lib.hid ⟨by omega, by rw [hX, hg]; simp⟩
  obtain ⟨p0, p1, p2, p3⟩ := cells4 hq1
  obtain ⟨q0, q1, q2, q3⟩ := cells4 hq2
  clear hX hg hq1 hq2 hq3 hv hzz hin
  go_enter Tryz.func58, Tryz.ntmps58
  go_wp2_with fail
  rw [← HX.out, ← HG.out]
  refine (implExprValid hU hs).mono ?_
  rintro e w1 ⟨rfl, hb⟩
  replace hB := ext_trans hB hb
  replace hW := hW.below hb
  replace hR := hR.below hb
  replace hU := hU.below hb
  have HQ1 := Lib.hid (block_in HQ1.out hb)
  have HQ2 := Lib.hid (block_in HQ2.out hb)
  have HQ3 := Lib.hid (block_in HQ3.out hb)
  clear hb p0 p1 p2 p3 q0 q1 q2 q3
  obtain ⟨p0, p1, p2, p3⟩ := cells4 HQ1.out
  obtain ⟨q0, q1, q2, q3⟩ := cells4 HQ2.out
  cases g1 : exOk t
  · have HE : Hid (evX d W r t = (0, 0, -1)) := Lib.hid (by rw [HF.out, g1]; rfl)
    obtain ⟨z0, z1⟩ := cells2 HQ3.out
    obtain ⟨f0, f1⟩ := froz2 HQ3.out
    go_wp2
    obtain ⟨r0, r1⟩ := cells2 (box_put (.int .i64 (0)) (.int .i64 (0)) HQ3.out rfl)
    exact bodyPost_ret (v := .tuple #[.agg #[.int .i64 (0), .int .i64 (0)], .int .i64 (-1)]) (by simp [results, go_sem, r0, r1]) rfl ⟨by rw [HE.out]; rfl, box_put_below _ _ HGB.out.1 hB⟩
  · skip
    go_wp2_with fail
    refine (implRequestValid hW hw hR hf).mono ?_
    rintro e w2 ⟨rfl, hb⟩
    replace hB := ext_trans hB hb
    replace hW := hW.below hb
    replace hR := hR.below hb
    replace hU := hU.below hb
    have HQ1 := Lib.hid (block_in HQ1.out hb)
    have HQ2 := Lib.hid (block_in HQ2.out hb)
    have HQ3 := Lib.hid (block_in HQ3.out hb)
    clear hb p0 p1 p2 p3 q0 q1 q2 q3
    obtain ⟨p0, p1, p2, p3⟩ := cells4 HQ1.out
    obtain ⟨q0, q1, q2, q3⟩ := cells4 HQ2.out
    cases g2 : rqOk W r
    · have HE : Hid (evX d W r t = (0, 0, -1)) := Lib.hid (by rw [HF.out, g1, g2]; rfl)
      obtain ⟨z0, z1⟩ := cells2 HQ3.out
      obtain ⟨f0, f1⟩ := froz2 HQ3.out
      go_wp2
      obtain ⟨r0, r1⟩ := cells2 (box_put (.int .i64 (0)) (.int .i64 (0)) HQ3.out rfl)
      exact bodyPost_ret (v := .tuple #[.agg #[.int .i64 (0), .int .i64 (0)], .int .i64 (-1)]) (by simp [results, go_sem, r0, r1]) rfl ⟨by rw [HE.out]; rfl, box_put_below _ _ HGB.out.1 hB⟩
    · have HE : Hid (evX d W r t = (x, y, f)) := Lib.hid (by rw [HF.out, g1, g2]; rfl)
      have HOO := Lib.hid (HV.out g1 g2)
      clear g1 g2
      have HC := Lib.hid (evQ_all d W r A B C c c2 ct t w2 hW hR hU HOO.out.1 HOO.out.2)
      rw [HVV.out] at HC
      unfold evVal at HC
      go_wp2_with fail
      refine HC.out.mono ?_
      rintro e w3 ⟨rfl, hb⟩
      have HB3 := Lib.hid (ext_alloc (ext_trans hB hb) (.cells #[.int .i64 x, .int .i64 y] 87))
      have HQ3 := Lib.hid (block_in (block_in HQ3.out hb) (below_alloc w3 (.cells #[.int .i64 x, .int .i64 y] 87)))
      have y0 := box_cell w3 #[.int .i64 x, .int .i64 y] 87 0 _ rfl
      have y1 := box_cell w3 #[.int .i64 x, .int .i64 y] 87 1 _ rfl
      clear hb p0 p1 p2 p3 q0 q1 q2 q3 HC hB hW hR hU
      obtain ⟨z0, z1⟩ := cells2 HQ3.out
      obtain ⟨f0, f1⟩ := froz2 HQ3.out
      by_cases e1 : f = 0
      · have gb : (f != 0) = false := by simpa using e1
        subst e1
        go_wp2
        obtain ⟨r0, r1⟩ := cells2 (box_put (.int .i64 (x)) (.int .i64 (y)) HQ3.out rfl)
        exact bodyPost_ret (v := .tuple #[.agg #[.int .i64 (x), .int .i64 (y)], .int .i64 (0)]) (by simp [results, go_sem, r0, r1]) rfl ⟨by rw [HE.out]; rfl, box_put_below _ _ HGB.out.1 HB3.out⟩
      · have gb : (f != 0) = true := by simpa using e1
        obtain ⟨ex, ey⟩ := HZ.out e1
        rw [ex, ey] at HE
        clear e1 ex ey
        go_wp2
        obtain ⟨r0, r1⟩ := cells2 (box_put (.int .i64 (0)) (.int .i64 (0)) HQ3.out rfl)
        exact bodyPost_ret (v := .tuple #[.agg #[.int .i64 (0), .int .i64 (0)], .int .i64 (f)]) (by simp [results, go_sem, r0, r1]) rfl ⟨by rw [HE.out]; rfl, box_put_below _ _ HGB.out.1 HB3.out⟩
set_option maxRecDepth 100000 in
set_option maxHeartbeats 4000000 in
theorem implIsIn {A : Option Addr} {W : WL} {c : Nat} {a b : Int} {w : World} (hU : wlR w A W) (hw : WfW W) (hO : WldP W) :
    Calls Tryz.prog 89 #[.slice A W.length c, .int .i64 a, .int .i64 b] w fun e w' => ∃ q, e = .returned (.bool q) ∧ Below w.heap.size w w' := by
  have hlen := hU.len
  have hwo : wldOk W = true := cD_yes hO
  have HO := Lib.hid hO
  go_enter Tryz.func89, Tryz.ntmps89
  go_wp2_with fail
  refine (implWorldValid hU hw).mono ?_
  rintro e w1 ⟨rfl, hb⟩
  rw [hwo]
  have hB := hb
  clear hb hwo
  go_wp2_with fail
  refine (isThing_any hlen).mono ?_
  rintro e w2 ⟨rfl, hb⟩
  replace hB := ext_trans hB hb
  clear hb
  cases g1 : thgB W a
  · go_wp2
    go_ret
    exact ⟨_, rfl, hB⟩
  · go_wp2_with fail
    refine (isThing_any hlen).mono ?_
    rintro e w3 ⟨rfl, hb⟩
    replace hB := ext_trans hB hb
    clear hb
    cases g2 : thgB W b
    · go_wp2
      go_ret
      exact ⟨_, rfl, hB⟩
    · have hU3 := hU.below hB
      have ha := inB_true.1 g1
      obtain ⟨na, rfl⟩ : ∃ n : Nat, a = n := ⟨a.toNat, by omega⟩
      have h7 := HO.out.2
      clear g1 g2
      go_wp2_with fail
      refine (iiQ_all 7 W A c na b _ hU3 HO.out (by omega) (by omega)).mono ?_
      rintro e w4 ⟨rfl, hb⟩
      replace hB := ext_trans hB hb
      clear hb hU3 ha
      go_wp2
      go_ret
      exact ⟨_, rfl, hB⟩
set_option maxRecDepth 100000 in
set_option maxHeartbeats 4000000 in
theorem scoped_any {A : Option Addr} {W : WL} {c : Nat} {a b : Int} {w : World} (hU : wlR w A W) (hw : WfW W) (hO : WldP W) :
    Calls Tryz.prog 75 #[.slice A W.length c, .int .i64 a, .int .i64 b] w fun e w' => ∃ q, e = .returned (.bool q) ∧ Below w.heap.size w w' := by
  have hlen := hU.len
  by_cases e : b = -1
  · have gb : (b == -1) = true := by simpa using e
    go_enter Tryz.func75, Tryz.ntmps75
    go_wp2
    go_ret
    exact ⟨_, rfl, Below.refl _ _⟩
  · have gb : (b == -1) = false := by simpa using e
    clear e
    have HC := Lib.hid (implIsIn (a := a) (b := b) (c := c) hU hw hO)
    go_enter Tryz.func75, Tryz.ntmps75
    go_wp2_with fail
    refine HC.out.mono ?_
    rintro e w1 ⟨q, rfl, hb⟩
    go_wp2
    go_ret
    exact ⟨_, rfl, hb⟩
set_option maxRecDepth 100000 in
set_option maxHeartbeats 8000000 in
theorem implInScope {d : Nat} {W : WL} {r : Rq} {p : Po} {A B C : Option Addr} {c c2 ct : Nat} {w : World} (hW : wlR w A W) (hw : WfW W) (hR : fdR w B r.fs) (hf : WfFd r.fs) (hU : exW d w C p.wh.ps) (hp : poZ p) (hr : rqOk W r = true) (hpo : poOk p = true) :
    Calls Tryz.prog 57 #[.slice A W.length c, rqV r B c2, poV p C ct] w fun e w' => ∃ q, e = .returned (.bool q) ∧ Below w.heap.size w w' := by
  unfold rqV poV
  have hlen := hW.len
  have hO := rq_ok hr
  have hact := inB_true.1 hO.act
  have hacts : 1 ≤ p.acts ∧ p.acts ≤ 15 := by
    simp only [poOk, Bool.and_eq_true] at hpo
    exact inB_true.1 hpo.2.2.2.1
  have HO := Lib.hid hO
  obtain ⟨X, hX⟩ : ∃ X, X = (w.alloc (.cells #[.int .i64 r.who, .int .i64 r.act, .int .i64 r.what, .slice B r.fs.length c2] 33)).alloc (.cells #[.string p.nm, .bool p.al, .int .i64 p.who, .int .i64 p.what, .int .i64 p.acts, .int .i64 p.wh.k, .int .i64 p.wh.n, .string p.wh.s, .slice C p.wh.ps.length ct] 54) := ⟨_, rfl⟩
  obtain ⟨g, hg⟩ : ∃ g, g = w.heap.size := ⟨_, rfl⟩
  have hB : Below w.heap.size w X := by rw [hX]; (repeat (first | exact Below.refl _ _ | refine ext_alloc ?_ _ | refine Below.setCell ?_ (by simp) _))
  have hq1 : X.heap[g]? = some (.cells #[.int .i64 r.who, .int .i64 r.act, .int .i64 r.what, .slice B r.fs.length c2] 33 (0, 0)) := by rw [hX, hg]; exact block_in (heap_alloc_new _ _) (below_alloc _ _)
  have hq2 : X.heap[g + 1]? = some (.cells #[.string p.nm, .bool p.al, .int .i64 p.who, .int .i64 p.what, .int .i64 p.acts, .int .i64 p.wh.k, .int .i64 p.wh.n, .string p.wh.s, .slice C p.wh.ps.length ct] 54 (0, 0)) := by rw [hX, hg]; exact heap_alloc_at (by simp)
  replace hW := hW.below hB
  replace hR := hR.below hB
  replace hU := hU.below hB
  have HX := Lib.hid hX
  have HG := Lib.hid hg
  have HQ1 := Lib.hid hq1
  have HQ2 := Lib.hid hq2
  have HB0 := Lib.hid hB
  obtain ⟨p0, p1, p2, p3⟩ := cells4 hq1
  obtain ⟨q0, q1, q2, q3, q4, q5, q6, q7, q8⟩ := cells9 hq2
  clear hX hg hq1 hq2 hO
  go_enter Tryz.func57, Tryz.ntmps57
  go_wp2_with fail
  rw [← HX.out, ← HG.out]
  refine (implRequestValid hW hw hR hf).mono ?_
  rintro e w1 ⟨rfl, hb⟩
  replace hB := ext_trans hB hb
  replace hW := hW.below hb
  replace hR := hR.below hb
  replace hU := hU.below hb
  have HQ1 := Lib.hid (block_in HQ1.out hb)
  have HQ2 := Lib.hid (block_in HQ2.out hb)
  clear hb p0 p1 p2 p3 q0 q1 q2 q3 q4 q5 q6 q7 q8
  obtain ⟨p0, p1, p2, p3⟩ := cells4 HQ1.out
  obtain ⟨q0, q1, q2, q3, q4, q5, q6, q7, q8⟩ := cells9 HQ2.out
  rw [hr]
  go_wp2_with fail
  refine (implPolicyValid hU hp).mono ?_
  rintro e w2 ⟨rfl, hb⟩
  replace hB := ext_trans hB hb
  replace hW := hW.below hb
  replace hR := hR.below hb
  replace hU := hU.below hb
  have HQ1 := Lib.hid (block_in HQ1.out hb)
  have HQ2 := Lib.hid (block_in HQ2.out hb)
  clear hb p0 p1 p2 p3 q0 q1 q2 q3 q4 q5 q6 q7 q8
  obtain ⟨p0, p1, p2, p3⟩ := cells4 HQ1.out
  obtain ⟨q0, q1, q2, q3, q4, q5, q6, q7, q8⟩ := cells9 HQ2.out
  rw [hpo]
  go_wp2_with fail
  refine (scoped_any hW hw HO.out.wld).mono ?_
  rintro e w3 ⟨b1, rfl, hb⟩
  replace hB := ext_trans hB hb
  replace hW := hW.below hb
  replace hR := hR.below hb
  replace hU := hU.below hb
  have HQ1 := Lib.hid (block_in HQ1.out hb)
  have HQ2 := Lib.hid (block_in HQ2.out hb)
  clear hb p0 p1 p2 p3 q0 q1 q2 q3 q4 q5 q6 q7 q8
  obtain ⟨p0, p1, p2, p3⟩ := cells4 HQ1.out
  obtain ⟨q0, q1, q2, q3, q4, q5, q6, q7, q8⟩ := cells9 HQ2.out
  cases b1
  · go_wp2
    go_ret
    exact ⟨_, rfl, hB⟩
  · skip
    go_wp2_with fail
    refine (scoped_any hW hw HO.out.wld).mono ?_
    rintro e w4 ⟨b2, rfl, hb⟩
    replace hB := ext_trans hB hb
    replace hW := hW.below hb
    replace hR := hR.below hb
    replace hU := hU.below hb
    have HQ1 := Lib.hid (block_in HQ1.out hb)
    have HQ2 := Lib.hid (block_in HQ2.out hb)
    clear hb p0 p1 p2 p3 q0 q1 q2 q3 q4 q5 q6 q7 q8
    obtain ⟨p0, p1, p2, p3⟩ := cells4 HQ1.out
    obtain ⟨q0, q1, q2, q3, q4, q5, q6, q7, q8⟩ := cells9 HQ2.out
    cases b2
    · go_wp2
      go_ret
      exact ⟨_, rfl, hB⟩
    · go_wp2
      go_ret
      exact ⟨_, rfl, hB⟩
set_option maxRecDepth 100000 in
set_option maxHeartbeats 8000000 in
theorem implApplies {d : Nat} {W : WL} {r : Rq} {p : Po} {A B C : Option Addr} {c c2 ct : Nat} {n : Int} {w : World} (hW : wlR w A W) (hw : WfW W) (hR : fdR w B r.fs) (hf : WfFd r.fs) (hU : exW d w C p.wh.ps) (hp : poZ p) (hr : rqOk W r = true) (hpo : poOk p = true) (hn : n = 0 ∨ n = 1) (he : ev (d + 1) W r p.wh = (1, n, 0)) :
    Calls Tryz.prog 29 #[.slice A W.length c, rqV r B c2, poV p C ct] w fun e w' => ∃ z : Int, e = .returned (.int .i64 z) ∧ (z = 0 ∨ z = 1) ∧ Below w.heap.size w w' := by
  unfold rqV poV
  have hlen := hW.len
  have HN := Lib.hid hn
  have hev : evX d W r p.wh = (1, n, 0) := by rw [evX, if_pos (by rw [po_exOk' hpo, hr]; rfl), he]
  have HEV := Lib.hid hev
  have HPO := Lib.hid hpo
  have HRQ := Lib.hid hr
  obtain ⟨X, hX⟩ : ∃ X, X = (w.alloc (.cells #[.int .i64 r.who, .int .i64 r.act, .int .i64 r.what, .slice B r.fs.length c2] 33)).alloc (.cells #[.string p.nm, .bool p.al, .int .i64 p.who, .int .i64 p.what, .int .i64 p.acts, .int .i64 p.wh.k, .int .i64 p.wh.n, .string p.wh.s, .slice C p.wh.ps.length ct] 54) := ⟨_, rfl⟩
  obtain ⟨g, hg⟩ : ∃ g, g = w.heap.size := ⟨_, rfl⟩
  have hB : Below w.heap.size w X := by rw [hX]; (repeat (first | exact Below.refl _ _ | refine ext_alloc ?_ _ | refine Below.setCell ?_ (by simp) _))
  have hq1 : X.heap[g]? = some (.cells #[.int .i64 r.who, .int .i64 r.act, .int .i64 r.what, .slice B r.fs.length c2] 33 (0, 0)) := by rw [hX, hg]; exact block_in (heap_alloc_new _ _) (below_alloc _ _)
  have hq2 : X.heap[g + 1]? = some (.cells #[.string p.nm, .bool p.al, .int .i64 p.who, .int .i64 p.what, .int .i64 p.acts, .int .i64 p.wh.k, .int .i64 p.wh.n, .string p.wh.s, .slice C p.wh.ps.length ct] 54 (0, 0)) := by rw [hX, hg]; exact heap_alloc_at (by simp)
  replace hW := hW.below hB
  replace hR := hR.below hB
  replace hU := hU.below hB
  have HX := Lib.hid hX
  have HG := Lib.hid hg
  have HQ1 := Lib.hid hq1
  have HQ2 := Lib.hid hq2
  obtain ⟨p0, p1, p2, p3⟩ := cells4 hq1
  obtain ⟨q0, q1, q2, q3, q4, q5, q6, q7, q8⟩ := cells9 hq2
  clear hX hg hq1 hq2 hn he hev hpo hr
  go_enter Tryz.func29, Tryz.ntmps29
  go_wp2_with fail
  rw [← HX.out, ← HG.out]
  refine (implInScope hW hw hR hf hU hp HRQ.out HPO.out).mono ?_
  rintro e w1 ⟨b1, rfl, hb⟩
  replace hB := ext_trans hB hb
  replace hW := hW.below hb
  replace hR := hR.below hb
  replace hU := hU.below hb
  have HQ1 := Lib.hid (block_in HQ1.out hb)
  have HQ2 := Lib.hid (block_in HQ2.out hb)
  clear hb p0 p1 p2 p3 q0 q1 q2 q3 q4 q5 q6 q7 q8
  obtain ⟨p0, p1, p2, p3⟩ := cells4 HQ1.out
  obtain ⟨q0, q1, q2, q3, q4, q5, q6, q7, q8⟩ := cells9 HQ2.out
  cases b1
  · go_wp2
    go_ret
    exact ⟨_, rfl, .inl rfl, hB⟩
  · skip
    go_wp2_with fail
    refine (implEvaluate hW hw hR hf hU hp.1).mono ?_
    rintro e w2 ⟨rfl, hb⟩
    replace hB := ext_trans hB hb
    replace hW := hW.below hb
    replace hR := hR.below hb
    replace hU := hU.below hb
    have HQ1 := Lib.hid (block_in HQ1.out hb)
    have HQ2 := Lib.hid (block_in HQ2.out hb)
    clear hb p0 p1 p2 p3 q0 q1 q2 q3 q4 q5 q6 q7 q8
    obtain ⟨p0, p1, p2, p3⟩ := cells4 HQ1.out
    obtain ⟨q0, q1, q2, q3, q4, q5, q6, q7, q8⟩ := cells9 HQ2.out
    rw [HEV.out]
    unfold evVal
    have y0 := box_cell w2 #[.int .i64 1, .int .i64 n] 87 0 _ rfl
    have y1 := box_cell w2 #[.int .i64 1, .int .i64 n] 87 1 _ rfl
    replace hB := ext_alloc hB (.cells #[.int .i64 1, .int .i64 n] 87)
    go_wp2
    go_ret
    exact ⟨_, rfl, HN.out, hB⟩
end Go.Proofs.YtodjokdaofefdaaGreat
/- What conforms to a schema, by the program. -/
namespace Go.Proofs.YtodjokdaofefdaaGreat
set_option linter.unusedSimpArgs false
set_option linter.unusedVariables false
open Go.RowKit

theorem cf_no {l : KdL} {fs : FdL} {k : Nat} (hk : k < fs.length) (h : kdIn l (fd0 fs k) ≠ fd1 fs k) : cfOk l fs = false := cD_no (fun hh => h (hh k hk))
set_option maxRecDepth 100000 in
set_option maxHeartbeats 4000000 in
theorem conform_any {A B : Option Addr} {l : KdL} {fs : FdL} {c c2 : Nat} {w : World} (hL : kdR w A l) (hU : fdR w B fs) :
    Calls Tryz.prog 28 #[.slice A l.length c, .slice B fs.length c2] w fun e w' => e = .returned (.bool (cfOk l fs)) ∧ Below w.heap.size w w' := by
  have hlen := hU.len
  go_enter Tryz.func28, Tryz.ntmps28
  go_wp2
  go_loopw [9] (fun i wr => ∃ k : Nat, k ≤ fs.length ∧ i = .int .i64 k ∧ Hid (∀ j, j < k → kdIn l (fd0 fs j) = fd1 fs j) ∧ Below w.heap.size w wr) (fun i _ => fs.length - (intOf i).toNat)
  case atStart => exact ⟨0, Nat.zero_le _, rfl, Lib.hid (fun j h => by omega), Below.refl _ _⟩
  case round =>
    obtain ⟨k, hk, rfl, HG, hB⟩ := hrel
    by_cases hlt : k < fs.length
    · obtain ⟨b, off, rfl, hc⟩ := hU.cells (by omega)
      obtain ⟨c0, c1, c2'⟩ := hc k hlt
      replace c0 := below_cell hB c0
      replace c1 := below_cell hB c1
      replace c2' := below_cell hB c2'
      have hbl := below_alloc wr (.cells #[.string (fd0 fs k), .int .i64 (fd1 fs k), .int .i64 (fd2 fs k)] 89)
      have y0 := cell_regrown (box_cell wr #[.string (fd0 fs k), .int .i64 (fd1 fs k), .int .i64 (fd2 fs k)] 89 0 _ rfl)
      have y1 := cell_regrown (box_cell wr #[.string (fd0 fs k), .int .i64 (fd1 fs k), .int .i64 (fd2 fs k)] 89 1 _ rfl)
      have hL2 := hL.below (ext_trans hB hbl)
      replace hB := ext_trans hB hbl
      obtain ⟨q, hq⟩ : ∃ q, kdIn l (fd0 fs k) = q := ⟨_, rfl⟩
      have HQ := Lib.hid hq
      have HK : Hid (∀ (d : Nat) (os : Array Obj), Calls Tryz.prog 38 #[.slice A l.length c, .string (fd0 fs k)] (Sort.grow (redrawn _ d) os) fun e w' => e = .returned (.int .i64 q) ∧ Below _ _ w') := Lib.hid (fun d os => hq ▸ kindIn_any rfl (hL2.below (below_regrown _ d os)))
      clear hc hq hL2 hbl
      by_cases e : q = fd1 fs k
      · have gb : (q != fd1 fs k) = false := by simpa using e
        have HG2 := Lib.hid (all_succ (p := fun j => kdIn l (fd0 fs j) = fd1 fs j) HG.out (HQ.out.trans e))
        clear e
        go_wp2
        refine wp_region_quiet_below (by kernel_rfl) (by kernel_rfl) ?_
        repeat (go_big_quiet_step ((go_at_call 38; (with_reducible exact Calls.regrown_of (HK.out _ _)))))
        refine wpQuiet_nil ?_
        intro w4 hw'regrown
        replace hB := ext_trans hB (below_of_regrown hw'regrown (Nat.le_refl _))
        clear hw'regrown
        go_wp2
        go_roundw
        case rel => exact ⟨k + 1, by omega, by go_num, HG2, hB⟩
        case measure => simp [intOf]; omega
      · have gb : (q != fd1 fs k) = true := by simpa using e
        have HE : Hid (cfOk l fs = false) := Lib.hid (cf_no hlt (by rw [HQ.out]; exact e))
        clear e
        go_wp2
        refine wp_region_quiet_below (by kernel_rfl) (by kernel_rfl) ?_
        repeat (go_big_quiet_step ((go_at_call 38; (with_reducible exact Calls.regrown_of (HK.out _ _)))))
        refine wpQuiet_nil ?_
        intro w4 hw'regrown
        replace hB := ext_trans hB (below_of_regrown hw'regrown (Nat.le_refl _))
        clear hw'regrown
        go_wp2
        go_ret
        exact ⟨by rw [HE.out]; rfl, hB⟩
    · obtain rfl : k = fs.length := by omega
      have HE : Hid (cfOk l fs = true) := Lib.hid (cD_yes HG.out)
      go_wp2
      go_ret
      exact ⟨by rw [HE.out]; rfl, hB⟩
/-- Whether all conforms. -/
noncomputable def cfB (s : Sc) (W : WL) (r : Rq) : Bool := scOk s && (rqOk W r && (cfOk s.2 r.fs && cD (∀ k, k < W.length → CfP s.1 (thAt W k).fs)))
theorem cfB_W {s : Sc} {W : WL} {r : Rq} (h : cfB s W r = true) : CfW s W r := by
  simp only [cfB, Bool.and_eq_true, cD_true, scOk, nmsOk, cfOk] at h
  exact ⟨rq_ok h.2.1, h.1, h.2.2.1, h.2.2.2⟩
set_option maxRecDepth 100000 in
set_option maxHeartbeats 8000000 in
theorem implConforms {A0 A1 A B : Option Addr} {s : Sc} {W : WL} {r : Rq} {c0 c1 c c2 : Nat} {w : World} (hS : scR w A0 A1 s) (hz : scZ s) (hc0 : s.1.length ≤ c0) (hc1 : s.2.length ≤ c1) (hU : wlR w A W) (hw : WfW W) (hR : fdR w B r.fs) (hf : WfFd r.fs) :
    Calls Tryz.prog 8 #[scV s A0 c0 A1 c1, .slice A W.length c, rqV r B c2] w fun e w' => e = .returned (.bool (cfB s W r)) ∧ Below w.heap.size w w' := by
  unfold scV rqV
  have hlen := hU.len
  have HF : Hid (cfB s W r = (scOk s && (rqOk W r && (cfOk s.2 r.fs && cD (∀ k, k < W.length → CfP s.1 (thAt W k).fs))))) := Lib.hid rfl
  obtain ⟨X, hX⟩ : ∃ X, X = (w.alloc (.cells #[.slice A0 s.1.length c0, .slice A1 s.2.length c1] 25)).alloc (.cells #[.int .i64 r.who, .int .i64 r.act, .int .i64 r.what, .slice B r.fs.length c2] 33) := ⟨_, rfl⟩
  obtain ⟨g, hg⟩ : ∃ g, g = w.heap.size := ⟨_, rfl⟩
  have hB : Below w.heap.size w X := by rw [hX]; (repeat (first | exact Below.refl _ _ | refine ext_alloc ?_ _ | refine Below.setCell ?_ (by simp) _))
  have hq : X.heap[g]? = some (.cells #[.slice A0 s.1.length c0, .slice A1 s.2.length c1] 25 (0, 0)) := by rw [hX, hg]; exact block_in (heap_alloc_new _ _) (below_alloc _ _)
  have hq2 : X.heap[g + 1]? = some (.cells #[.int .i64 r.who, .int .i64 r.act, .int .i64 r.what, .slice B r.fs.length c2] 33 (0, 0)) := by rw [hX, hg]; exact heap_alloc_at (by simp)
  replace hU := hU.below hB
  replace hR := hR.below hB
  replace hS := hS.below hB
  have HX := Lib.hid hX
  have HG := Lib.hid hg
  have HQ := Lib.hid hq
  have HQ2 := Lib.hid hq2
  have HWF := Lib.hid hw
  have HB0 := Lib.hid hB
  obtain ⟨z0, z1⟩ := cells2 hq
  obtain ⟨p0, p1, p2, p3⟩ := cells4 hq2
  clear hX hg hq hq2
  go_enter Tryz.func8, Tryz.ntmps8
  go_wp2_with fail
  rw [← HX.out, ← HG.out]
  refine (implSchemaValid hS hz.1 hz.2 hc0 hc1).mono ?_
  rintro e w1 ⟨rfl, hb⟩
  replace hB := ext_trans hB hb
  replace hR := hR.below hb
  replace hU := hU.below hb
  replace hS := hS.below hb
  have HQ := Lib.hid (block_in HQ.out hb)
  have HQ2 := Lib.hid (block_in HQ2.out hb)
  clear hb z0 z1 p0 p1 p2 p3
  obtain ⟨z0, z1⟩ := cells2 HQ.out
  obtain ⟨p0, p1, p2, p3⟩ := cells4 HQ2.out
  cases g0 : scOk s
  · rw [g0] at HF
    go_wp2
    go_ret
    exact ⟨by rw [HF.out]; rfl, hB⟩
  · rw [g0] at HF
    go_wp2_with fail
    refine (implRequestValid hU hw hR hf).mono ?_
    rintro e w2 ⟨rfl, hb⟩
    replace hB := ext_trans hB hb
    replace hR := hR.below hb
    replace hU := hU.below hb
    replace hS := hS.below hb
    have HQ := Lib.hid (block_in HQ.out hb)
    have HQ2 := Lib.hid (block_in HQ2.out hb)
    clear hb z0 z1 p0 p1 p2 p3
    obtain ⟨z0, z1⟩ := cells2 HQ.out
    obtain ⟨p0, p1, p2, p3⟩ := cells4 HQ2.out
    cases g1 : rqOk W r
    · rw [g1] at HF
      go_wp2
      go_ret
      exact ⟨by rw [HF.out]; rfl, hB⟩
    · rw [g1] at HF
      go_wp2_with fail
      refine (conform_any hS.2 hR).mono ?_
      rintro e w3 ⟨rfl, hb⟩
      replace hB := ext_trans hB hb
      replace hR := hR.below hb
      replace hU := hU.below hb
      replace hS := hS.below hb
      have HQ := Lib.hid (block_in HQ.out hb)
      have HQ2 := Lib.hid (block_in HQ2.out hb)
      clear hb z0 z1 p0 p1 p2 p3
      obtain ⟨z0, z1⟩ := cells2 HQ.out
      obtain ⟨p0, p1, p2, p3⟩ := cells4 HQ2.out
      cases g2 : cfOk s.2 r.fs
      · rw [g2] at HF
        go_wp2
        go_ret
        exact ⟨by rw [HF.out]; rfl, hB⟩
      · rw [g2] at HF
        have HF2 : Hid (cfB s W r = cD (∀ k, k < W.length → CfP s.1 (thAt W k).fs)) := Lib.hid (by rw [HF.out]; rfl)
        have hlen3 := hU.len
        clear g0 g1 g2 z0 z1 p0 p1 p2 p3 HF
        go_wp2
        go_loopw [28] (fun i wr => ∃ k : Nat, k ≤ W.length ∧ i = .int .i64 k ∧ Hid (∀ j, j < k → CfP s.1 (thAt W j).fs) ∧ Below w3.heap.size w3 wr) (fun i _ => W.length - (intOf i).toNat)
        case atStart => exact ⟨0, Nat.zero_le _, rfl, Lib.hid (fun j h => by omega), Below.refl _ _⟩
        case round =>
          obtain ⟨k, hk, rfl, HGD, hD⟩ := hrel
          by_cases hlt : k < W.length
          · have hUr := hU.below hD
            obtain ⟨b, off, rfl, hc⟩ := hUr.cells (by omega)
            obtain ⟨A1', c1', A2', c2', hr1, hr2, d0, d1⟩ := hc k hlt
            have hbl := below_alloc wr (.cells #[.slice A1' (thAt W k).gs.length c1', .slice A2' (thAt W k).fs.length c2'] 65)
            have y0 := box_cell wr #[.slice A1' (thAt W k).gs.length c1', .slice A2' (thAt W k).fs.length c2'] 65 0 _ rfl
            have y1 := box_cell wr #[.slice A1' (thAt W k).gs.length c1', .slice A2' (thAt W k).fs.length c2'] 65 1 _ rfl
            have hD2 := ext_trans hD hbl
            have hS3 := hS.below hD2
            have hr3 := hr2.below hbl
            obtain ⟨z0, z1⟩ := cells2 (block_in HQ.out hD2)
            clear hc hr1 hr2 hUr hbl
            go_wp2_with fail
            refine (conform_any hS3.1 hr3).mono ?_
            rintro e w4 ⟨rfl, hb⟩
            have hD4 := ext_trans hD2 hb
            clear hb y0 y1 z0 z1 d0 d1 hS3 hr3 hD hD2
            cases g3 : cfOk s.1 (thAt W k).fs
            · have HE : Hid (cfB s W r = false) := Lib.hid (HF2.out.trans (cD_no (fun h => by rw [cfOk, cD_false] at g3; exact g3 (h k hlt))))
              go_wp2
              go_ret
              exact ⟨by rw [HE.out]; rfl, ext_trans hB hD4⟩
            · have HGD2 : Hid (∀ j, j < k + 1 → CfP s.1 (thAt W j).fs) := Lib.hid (all_succ (p := fun j => CfP s.1 (thAt W j).fs) HGD.out (cD_true.1 g3))
              go_wp2
              go_roundw
              case rel => exact ⟨k + 1, by omega, by go_num, HGD2, hD4⟩
              case measure => simp [intOf]; omega
          · obtain rfl : k = W.length := by omega
            have HE : Hid (cfB s W r = true) := Lib.hid (HF2.out.trans (cD_yes HGD.out))
            go_wp2
            go_ret
            exact ⟨by rw [HE.out]; rfl, ext_trans hB hD⟩
end Go.Proofs.YtodjokdaofefdaaGreat

/- The law of CheckPolicy, walked. -/
import Derived.Test.YtodjokdaofefdaaQ20
import Derived.Test.YtodjokdaofefdaaQ30
import Derived.Test.YtodjokdaofefdaaQ8
namespace Go.Proofs.Ytodjokdaofefdaa
set_option linter.unusedSimpArgs false
set_option linter.unusedVariables false
open Go.RowKit

theorem CodeR.mono_ {w : World} {cb cb' : Nat} {A : Option Addr} {l : List Int} (h : CodeR w cb A l) (hb : cb ≤ cb') : CodeR w cb' A l :=
  ⟨h.1, fun hn => let ⟨b, off, e, hb0, hc⟩ := h.2 hn; ⟨b, off, e, Nat.lt_of_lt_of_le hb0 hb, hc⟩⟩
set_option maxRecDepth 100000 in
set_option maxHeartbeats 8000000 in
theorem lawCheckPolicy {A A' : Option Addr} {l l' : List Int} {q q' : Nat} {w : World} (hC : CodeR w w.heap.size A l) (hq : l.length ≤ q) (hC2 : CodeR w w.heap.size A' l') (hq2 : l'.length ≤ q') :
    Calls Try.prog 3 #[.slice A l.length q, .slice A' l'.length q'] w fun e w' => e = .returned (.bool true) ∧ Below w.heap.size w w' := by
  have hl := hC.1
  have hl2 := hC2.1
  by_cases hlong : 1048576 < l.length
  · go_enter Try.func3, Try.ntmps3
    go_wp2
    go_ret
    exact ⟨rfl, Below.refl _ _⟩
  by_cases hlong2 : 1048576 < l'.length
  · go_enter Try.func3, Try.ntmps3
    go_wp2
    go_ret
    exact ⟨rfl, Below.refl _ _⟩
  go_enter Try.func3, Try.ntmps3
  go_wp2_with fail
  refine (drawCheckPolicy_d hC hq).mono ?_
  rintro e w1 ⟨s, many, p, A0, A1, C, c0, c1, ct, rfl, hS, hz, h0, h1, hU, hp, hcn, hB⟩
  unfold scV poV
  have hin : inD 7 p.wh := exS_in hU
  obtain ⟨n, hn⟩ : ∃ n, ckX 6 s many p = n := ⟨_, rfl⟩
  have HCI : Hid (∀ (m : Int) (v : World), scR v A0 A1 s → exW 6 v C p.wh.ps → Calls Try.prog 12 #[.agg #[.slice A0 s.1.length c0, .slice A1 s.2.length c1], .int .i64 m, .agg #[.string p.nm, .bool p.al, .int .i64 p.who, .int .i64 p.what, .int .i64 p.acts, .int .i64 p.wh.k, .int .i64 p.wh.n, .string p.wh.s, .slice C p.wh.ps.length ct]] v fun e w' => e = .returned (.int .i64 (ckX 6 s m p)) ∧ Below v.heap.size v w') := Lib.hid (fun m v g1 g2 => implCheckPolicy g1 hz h0 h1 g2 hp)
  have HCS : Hid (∀ (v : World), scR v A0 A1 s → exW 6 v C p.wh.ps → Calls Try.prog 13 #[.agg #[.slice A0 s.1.length c0, .slice A1 s.2.length c1], .int .i64 many, .agg #[.string p.nm, .bool p.al, .int .i64 p.who, .int .i64 p.what, .int .i64 p.acts, .int .i64 p.wh.k, .int .i64 p.wh.n, .string p.wh.s, .slice C p.wh.ps.length ct]] v fun e w' => e = .returned (.int .i64 n) ∧ Below v.heap.size v w') := Lib.hid (fun v g1 g2 => hn ▸ specCheckPolicy g1 hz g2 hp hcn)
  have HGU : Hid (∀ (v : World), exW 6 v C p.wh.ps → Calls Try.prog 17 #[.agg #[.int .i64 p.wh.k, .int .i64 p.wh.n, .string p.wh.s, .slice C p.wh.ps.length ct]] v fun e w' => e = .returned (.bool (guOk 6 p.wh)) ∧ Below v.heap.size v w') := Lib.hid (fun v g => implGuarded g hp.1)
  have HKO : Hid (∀ (v : World), scR v A0 A1 s → exW 6 v C p.wh.ps → Calls Try.prog 18 #[.agg #[.slice A0 s.1.length c0, .slice A1 s.2.length c1], .agg #[.int .i64 p.wh.k, .int .i64 p.wh.n, .string p.wh.s, .slice C p.wh.ps.length ct]] v fun e w' => e = .returned (.int .i64 (koX 6 s p.wh)) ∧ Below v.heap.size v w') := Lib.hid (fun v g1 g2 => implKindOf g1 hz h0 h1 g2 hp.1)
  have HCF : Hid (∀ (W : WL) (r : Rq) (A B : Option Addr) (c c2 : Nat) (v : World), scR v A0 A1 s → wlR v A W → WfW W → fdR v B r.fs → WfFd r.fs → Calls Try.prog 15 #[.agg #[.slice A0 s.1.length c0, .slice A1 s.2.length c1], .slice A W.length c, .agg #[.int .i64 r.who, .int .i64 r.act, .int .i64 r.what, .slice B r.fs.length c2]] v fun e w' => e = .returned (.bool (cfB s W r)) ∧ Below v.heap.size v w') := Lib.hid (fun W r A B c c2 v g1 g2 g3 g4 g5 => implConforms g1 hz h0 h1 g2 g3 g4 g5)
  have HAP : Hid (∀ (W : WL) (r : Rq) (A B : Option Addr) (c c2 : Nat) (v : World), wlR v A W → WfW W → fdR v B r.fs → WfFd r.fs → exW 6 v C p.wh.ps → cfB s W r = true → ckX 6 s W.length p = 0 → Calls Try.prog 16 #[.slice A W.length c, .agg #[.int .i64 r.who, .int .i64 r.act, .int .i64 r.what, .slice B r.fs.length c2], .agg #[.string p.nm, .bool p.al, .int .i64 p.who, .int .i64 p.what, .int .i64 p.acts, .int .i64 p.wh.k, .int .i64 p.wh.n, .string p.wh.s, .slice C p.wh.ps.length ct]] v fun e w' => ∃ z : Int, e = .returned (.int .i64 z) ∧ (z = 0 ∨ z = 1) ∧ Below v.heap.size v w') := Lib.hid (fun W r A B c c2 v g1 g2 g3 g4 g5 g6 g7 => by
    obtain ⟨k1, k2, m, k3, k4⟩ := ck_apply hin g6 g7
    exact implApplies g1 g2 g3 g4 g5 hp k1 k2 k3 k4)
  have HR : Hid (-1 ≤ n ∧ n ≤ 3) := Lib.hid (hn ▸ ck_range)
  have HZ : Hid (n = 0 → guOk 6 p.wh = true ∧ koX 6 s p.wh = 1) := Lib.hid (fun h => ck_zero (hn.trans h))
  have HN := Lib.hid hn
  have HC2 : Hid (CodeR w1 w1.heap.size A' l') := Lib.hid ((hC2.below hB).mono_ hB.size)
  obtain ⟨X, hX⟩ : ∃ X, X = (w1.alloc (.cells #[.slice A0 s.1.length c0, .slice A1 s.2.length c1] 25)).alloc (.cells #[.string p.nm, .bool p.al, .int .i64 p.who, .int .i64 p.what, .int .i64 p.acts, .int .i64 p.wh.k, .int .i64 p.wh.n, .string p.wh.s, .slice C p.wh.ps.length ct] 30) := ⟨_, rfl⟩
  obtain ⟨g, hg⟩ : ∃ g, g = w1.heap.size := ⟨_, rfl⟩
  have hbX : Below w1.heap.size w1 X := by rw [hX]; (repeat (first | exact Below.refl _ _ | refine ext_alloc ?_ _ | refine Below.setCell ?_ (by simp) _))
  have hq1 : X.heap[g]? = some (.cells #[.slice A0 s.1.length c0, .slice A1 s.2.length c1] 25 (0, 0)) := by rw [hX, hg]; exact block_in (heap_alloc_new _ _) (below_alloc _ _)
  have hq9 : X.heap[g + 1]? = some (.cells #[.string p.nm, .bool p.al, .int .i64 p.who, .int .i64 p.what, .int .i64 p.acts, .int .i64 p.wh.k, .int .i64 p.wh.n, .string p.wh.s, .slice C p.wh.ps.length ct] 30 (0, 0)) := by rw [hX, hg]; exact heap_alloc_at (by simp)
  have HB := Lib.hid (ext_trans hB hbX)
  have HS := Lib.hid (hS.below hbX)
  have HU := Lib.hid (hU.below hbX)
  have HC2 := Lib.hid ((HC2.out.below hbX).mono_ hbX.size)
  have HX := Lib.hid hX
  have HG := Lib.hid hg
  have HQ1 := Lib.hid hq1
  have HQ2 := Lib.hid hq9
  obtain ⟨z0, z1⟩ := cells2 hq1
  obtain ⟨q0, q1, q2, q3, q4, q5, q6, q7, q8⟩ := cells9 hq9
  clear hX hg hq1 hq9 hbX hB hS hU hC hC2 hn hz h0 h1 hp hcn hin
  go_wp2_with fail
  rw [← HX.out, ← HG.out]
  refine (HCI.out many _ HS.out HU.out).mono ?_
  rintro e w2 ⟨rfl, hb⟩
  have HB := Lib.hid (ext_trans HB.out hb)
  have HS := Lib.hid (HS.out.below hb)
  have HU := Lib.hid (HU.out.below hb)
  have HQ1 := Lib.hid (block_in HQ1.out hb)
  have HQ2 := Lib.hid (block_in HQ2.out hb)
  have HC2 := Lib.hid ((HC2.out.below hb).mono_ hb.size)
  clear hb z0 z1 q0 q1 q2 q3 q4 q5 q6 q7 q8
  obtain ⟨z0, z1⟩ := cells2 HQ1.out
  obtain ⟨q0, q1, q2, q3, q4, q5, q6, q7, q8⟩ := cells9 HQ2.out
  rw [HN.out]
  go_wp2_with fail
  refine (HCS.out _ HS.out HU.out).mono ?_
  rintro e w2 ⟨rfl, hb⟩
  have HB := Lib.hid (ext_trans HB.out hb)
  have HS := Lib.hid (HS.out.below hb)
  have HU := Lib.hid (HU.out.below hb)
  have HQ1 := Lib.hid (block_in HQ1.out hb)
  have HQ2 := Lib.hid (block_in HQ2.out hb)
  have HC2 := Lib.hid ((HC2.out.below hb).mono_ hb.size)
  clear hb z0 z1 q0 q1 q2 q3 q4 q5 q6 q7 q8
  obtain ⟨z0, z1⟩ := cells2 HQ1.out
  obtain ⟨q0, q1, q2, q3, q4, q5, q6, q7, q8⟩ := cells9 HQ2.out
  have hnn : (n != n) = false := by simp
  go_wp2_with fail
  refine (drawEvaluate_d HC2.out hq2).mono ?_
  rintro e w3 ⟨W, r, t, A3, B3, C4, cw, c3, c4, rfl, hW, hwf, hF, hff, hE, _, _, hb⟩
  unfold rqV
  obtain ⟨X3, hX3⟩ : ∃ X, X = (w3.alloc (.cells #[.int .i64 r.who, .int .i64 r.act, .int .i64 r.what, .slice B3 r.fs.length c3] 37)).alloc (.cells #[.int .i64 t.k, .int .i64 t.n, .string t.s, .slice C4 t.ps.length c4] 28) := ⟨_, rfl⟩
  obtain ⟨g3, hg3⟩ : ∃ g, g = w3.heap.size := ⟨_, rfl⟩
  have hbX : Below w3.heap.size w3 X3 := by rw [hX3]; (repeat (first | exact Below.refl _ _ | refine ext_alloc ?_ _ | refine Below.setCell ?_ (by simp) _))
  have hq3 : X3.heap[g3]? = some (.cells #[.int .i64 r.who, .int .i64 r.act, .int .i64 r.what, .slice B3 r.fs.length c3] 37 (0, 0)) := by rw [hX3, hg3]; exact block_in (heap_alloc_new _ _) (below_alloc _ _)
  have hbb := ext_trans hb hbX
  have hlen := hW.len
  have HB := Lib.hid (ext_trans HB.out hbb)
  have HS := Lib.hid (HS.out.below hbb)
  have HU := Lib.hid (HU.out.below hbb)
  have HC2 := Lib.hid ((HC2.out.below hbb).mono_ hbb.size)
  have HQ1 := Lib.hid (block_in HQ1.out hbb)
  have HQ2 := Lib.hid (block_in HQ2.out hbb)
  have HQ3 := Lib.hid hq3
  have HW := Lib.hid (hW.below hbX)
  have HF := Lib.hid (hF.below hbX)
  have HWF := Lib.hid hwf
  have HFF := Lib.hid hff
  have HX3 := Lib.hid hX3
  have HG3 := Lib.hid hg3
  clear hb hbX hbb hX3 hg3 hq3 hW hF hE hwf hff z0 z1 q0 q1 q2 q3 q4 q5 q6 q7 q8
  obtain ⟨z0, z1⟩ := cells2 HQ1.out
  obtain ⟨q0, q1, q2, q3, q4, q5, q6, q7, q8⟩ := cells9 HQ2.out
  obtain ⟨y0, y1, y2, y3⟩ := cells4 HQ3.out
  rw [HX3.out] at z0 z1 q0 q1 q2 q3 q4 q5 q6 q7 q8 y0 y1 y2 y3
  rw [HG3.out] at y0 y1 y2 y3
  obtain ⟨z, hz⟩ : ∃ z, ckX 6 s W.length p = z := ⟨_, rfl⟩
  have HZZ := Lib.hid hz
  clear hz
  go_wp2_with fail
  rw [← HX3.out, ← HG3.out]
  refine (HCI.out _ _ HS.out HU.out).mono ?_
  rintro e w2 ⟨rfl, hb⟩
  have HB := Lib.hid (ext_trans HB.out hb)
  have HS := Lib.hid (HS.out.below hb)
  have HU := Lib.hid (HU.out.below hb)
  have HQ1 := Lib.hid (block_in HQ1.out hb)
  have HQ2 := Lib.hid (block_in HQ2.out hb)
  have HQ3 := Lib.hid (block_in HQ3.out hb)
  have HW := Lib.hid (HW.out.below hb)
  have HF := Lib.hid (HF.out.below hb)
  clear hb z0 z1 q0 q1 q2 q3 q4 q5 q6 q7 q8 y0 y1 y2 y3
  obtain ⟨z0, z1⟩ := cells2 HQ1.out
  obtain ⟨q0, q1, q2, q3, q4, q5, q6, q7, q8⟩ := cells9 HQ2.out
  obtain ⟨y0, y1, y2, y3⟩ := cells4 HQ3.out
  rw [HZZ.out]
  have key : ∀ (K : Prop), K → K := fun _ h => h
  by_cases e1 : z = 0
  · have HE1 := Lib.hid (HZZ.out.trans e1)
    subst e1
    obtain ⟨b, hb0⟩ : ∃ b, cfB s W r = b := ⟨_, rfl⟩
    have HBB := Lib.hid hb0
    clear hb0
    go_wp2_with fail
    refine (HCF.out W r _ _ _ _ _ HS.out HW.out HWF.out HF.out HFF.out).mono ?_
    rintro e w2 ⟨rfl, hb⟩
    have HB := Lib.hid (ext_trans HB.out hb)
    have HS := Lib.hid (HS.out.below hb)
    have HU := Lib.hid (HU.out.below hb)
    have HQ1 := Lib.hid (block_in HQ1.out hb)
    have HQ2 := Lib.hid (block_in HQ2.out hb)
    have HQ3 := Lib.hid (block_in HQ3.out hb)
    have HW := Lib.hid (HW.out.below hb)
    have HF := Lib.hid (HF.out.below hb)
    clear hb z0 z1 q0 q1 q2 q3 q4 q5 q6 q7 q8 y0 y1 y2 y3
    obtain ⟨z0, z1⟩ := cells2 HQ1.out
    obtain ⟨q0, q1, q2, q3, q4, q5, q6, q7, q8⟩ := cells9 HQ2.out
    obtain ⟨y0, y1, y2, y3⟩ := cells4 HQ3.out
    rw [HBB.out]
    cases b
    · clear y0 y1 y2 y3
      have y0 : True := trivial
      have y1 : True := trivial
      have y2 : True := trivial
      have y3 : True := trivial
      obtain ⟨r1, r2⟩ := HR.out
      obtain hn0 | hn0 : n = 0 ∨ n ≠ 0 := by omega
      · obtain ⟨k1, k2⟩ := HZ.out hn0
        subst hn0
        clear r1 r2
        go_wp2_with fail
        refine (HGU.out _ HU.out).mono ?_
        rintro e w2 ⟨rfl, hb⟩
        rw [k1]
        have HB := Lib.hid (ext_trans HB.out hb)
        have HS := Lib.hid (HS.out.below hb)
        have HU := Lib.hid (HU.out.below hb)
        have HQ1 := Lib.hid (block_in HQ1.out hb)
        have HQ2 := Lib.hid (block_in HQ2.out hb)
        clear hb z0 z1 q0 q1 q2 q3 q4 q5 q6 q7 q8 y0 y1 y2 y3
        obtain ⟨z0, z1⟩ := cells2 HQ1.out
        obtain ⟨q0, q1, q2, q3, q4, q5, q6, q7, q8⟩ := cells9 HQ2.out
        go_wp2_with fail
        refine (HKO.out _ HS.out HU.out).mono ?_
        rintro e w2 ⟨rfl, hb⟩
        rw [k2]
        have HB := Lib.hid (ext_trans HB.out hb)
        have HS := Lib.hid (HS.out.below hb)
        have HU := Lib.hid (HU.out.below hb)
        have HQ1 := Lib.hid (block_in HQ1.out hb)
        have HQ2 := Lib.hid (block_in HQ2.out hb)
        clear hb z0 z1 q0 q1 q2 q3 q4 q5 q6 q7 q8
        obtain ⟨z0, z1⟩ := cells2 HQ1.out
        obtain ⟨q0, q1, q2, q3, q4, q5, q6, q7, q8⟩ := cells9 HQ2.out
        go_wp2_with fail
        refine (alive_any _).mono ?_
        rintro e w2 ⟨rfl, hb⟩
        have HB := Lib.hid (ext_trans HB.out hb)
        clear hb
        go_wp2
        go_ret
        exact ⟨rfl, HB.out⟩
      · have gn : (n != 0) = true := by simpa using hn0
        have ga : decide (-1 ≤ n) = true := by simpa using r1
        have gl : decide (n ≤ 3) = true := by simpa using r2
        clear r1 r2 hn0
        go_wp2_with fail
        refine (alive_any _).mono ?_
        rintro e w2 ⟨rfl, hb⟩
        have HB := Lib.hid (ext_trans HB.out hb)
        clear hb
        go_wp2
        go_ret
        exact ⟨rfl, HB.out⟩
    · skip
      go_wp2_with fail
      refine (HAP.out W r _ _ _ _ _ HW.out HWF.out HF.out HFF.out HU.out HBB.out HE1.out).mono ?_
      rintro e w2 ⟨z2, rfl, hz2, hb⟩
      have HB := Lib.hid (ext_trans HB.out hb)
      have HS := Lib.hid (HS.out.below hb)
      have HU := Lib.hid (HU.out.below hb)
      have HQ1 := Lib.hid (block_in HQ1.out hb)
      have HQ2 := Lib.hid (block_in HQ2.out hb)
      have HQ3 := Lib.hid (block_in HQ3.out hb)
      have HW := Lib.hid (HW.out.below hb)
      have HF := Lib.hid (HF.out.below hb)
      clear hb z0 z1 q0 q1 q2 q3 q4 q5 q6 q7 q8 y0 y1 y2 y3
      obtain ⟨z0, z1⟩ := cells2 HQ1.out
      obtain ⟨q0, q1, q2, q3, q4, q5, q6, q7, q8⟩ := cells9 HQ2.out
      obtain ⟨y0, y1, y2, y3⟩ := cells4 HQ3.out
      have gz : (z2 == -1) = false := by rcases hz2 with h | h <;> rw [h] <;> rfl
      clear hz2
      obtain ⟨r1, r2⟩ := HR.out
      obtain hn0 | hn0 : n = 0 ∨ n ≠ 0 := by omega
      · obtain ⟨k1, k2⟩ := HZ.out hn0
        subst hn0
        clear r1 r2
        go_wp2_with fail
        refine (HGU.out _ HU.out).mono ?_
        rintro e w2 ⟨rfl, hb⟩
        rw [k1]
        have HB := Lib.hid (ext_trans HB.out hb)
        have HS := Lib.hid (HS.out.below hb)
        have HU := Lib.hid (HU.out.below hb)
        have HQ1 := Lib.hid (block_in HQ1.out hb)
        have HQ2 := Lib.hid (block_in HQ2.out hb)
        clear hb z0 z1 q0 q1 q2 q3 q4 q5 q6 q7 q8 y0 y1 y2 y3
        obtain ⟨z0, z1⟩ := cells2 HQ1.out
        obtain ⟨q0, q1, q2, q3, q4, q5, q6, q7, q8⟩ := cells9 HQ2.out
        go_wp2_with fail
        refine (HKO.out _ HS.out HU.out).mono ?_
        rintro e w2 ⟨rfl, hb⟩
        rw [k2]
        have HB := Lib.hid (ext_trans HB.out hb)
        have HS := Lib.hid (HS.out.below hb)
        have HU := Lib.hid (HU.out.below hb)
        have HQ1 := Lib.hid (block_in HQ1.out hb)
        have HQ2 := Lib.hid (block_in HQ2.out hb)
        clear hb z0 z1 q0 q1 q2 q3 q4 q5 q6 q7 q8
        obtain ⟨z0, z1⟩ := cells2 HQ1.out
        obtain ⟨q0, q1, q2, q3, q4, q5, q6, q7, q8⟩ := cells9 HQ2.out
        go_wp2_with fail
        refine (alive_any _).mono ?_
        rintro e w2 ⟨rfl, hb⟩
        have HB := Lib.hid (ext_trans HB.out hb)
        clear hb
        go_wp2
        go_ret
        exact ⟨rfl, HB.out⟩
      · have gn : (n != 0) = true := by simpa using hn0
        have ga : decide (-1 ≤ n) = true := by simpa using r1
        have gl : decide (n ≤ 3) = true := by simpa using r2
        clear r1 r2 hn0
        go_wp2_with fail
        refine (alive_any _).mono ?_
        rintro e w2 ⟨rfl, hb⟩
        have HB := Lib.hid (ext_trans HB.out hb)
        clear hb
        go_wp2
        go_ret
        exact ⟨rfl, HB.out⟩
  · have gz : (z == 0) = false := by simpa using e1
    clear e1
    obtain ⟨r1, r2⟩ := HR.out
    obtain hn0 | hn0 : n = 0 ∨ n ≠ 0 := by omega
    · obtain ⟨k1, k2⟩ := HZ.out hn0
      subst hn0
      clear r1 r2
      go_wp2_with fail
      refine (HGU.out _ HU.out).mono ?_
      rintro e w2 ⟨rfl, hb⟩
      rw [k1]
      have HB := Lib.hid (ext_trans HB.out hb)
      have HS := Lib.hid (HS.out.below hb)
      have HU := Lib.hid (HU.out.below hb)
      have HQ1 := Lib.hid (block_in HQ1.out hb)
      have HQ2 := Lib.hid (block_in HQ2.out hb)
      clear hb z0 z1 q0 q1 q2 q3 q4 q5 q6 q7 q8 y0 y1 y2 y3
      obtain ⟨z0, z1⟩ := cells2 HQ1.out
      obtain ⟨q0, q1, q2, q3, q4, q5, q6, q7, q8⟩ := cells9 HQ2.out
      go_wp2_with fail
      refine (HKO.out _ HS.out HU.out).mono ?_
      rintro e w2 ⟨rfl, hb⟩
      rw [k2]
      have HB := Lib.hid (ext_trans HB.out hb)
      have HS := Lib.hid (HS.out.below hb)
      have HU := Lib.hid (HU.out.below hb)
      have HQ1 := Lib.hid (block_in HQ1.out hb)
      have HQ2 := Lib.hid (block_in HQ2.out hb)
      clear hb z0 z1 q0 q1 q2 q3 q4 q5 q6 q7 q8
      obtain ⟨z0, z1⟩ := cells2 HQ1.out
      obtain ⟨q0, q1, q2, q3, q4, q5, q6, q7, q8⟩ := cells9 HQ2.out
      go_wp2_with fail
      refine (alive_any _).mono ?_
      rintro e w2 ⟨rfl, hb⟩
      have HB := Lib.hid (ext_trans HB.out hb)
      clear hb
      go_wp2
      go_ret
      exact ⟨rfl, HB.out⟩
    · have gn : (n != 0) = true := by simpa using hn0
      have ga : decide (-1 ≤ n) = true := by simpa using r1
      have gl : decide (n ≤ 3) = true := by simpa using r2
      clear r1 r2 hn0
      go_wp2_with fail
      refine (alive_any _).mono ?_
      rintro e w2 ⟨rfl, hb⟩
      have HB := Lib.hid (ext_trans HB.out hb)
      clear hb
      go_wp2
      go_ret
      exact ⟨rfl, HB.out⟩
end Go.Proofs.Ytodjokdaofefdaa

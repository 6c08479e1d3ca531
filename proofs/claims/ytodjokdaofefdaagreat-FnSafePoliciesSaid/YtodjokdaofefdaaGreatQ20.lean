/- What is wrong with a policy: by both. -/
import Derived.Test.YtodjokdaofefdaaGreatQ19
import Derived.Test.YtodjokdaofefdaaGreatQ8
namespace Go.Proofs.YtodjokdaofefdaaGreat
set_option linter.unusedSimpArgs false
set_option linter.unusedVariables false
open Go.RowKit

section
variable {d : Nat} {s : Sc} {many : Int} {p : Po}
theorem ck_bad (h : (scOk s && (poOk p && inB many 0 7)) = false) : ckX d s many p = -1 := by rw [ckX, if_pos h]
theorem ck_kind (h : (scOk s && (poOk p && inB many 0 7)) = true) (h1 : kiR (d + 1) s p.wh ≠ 1) : ckX d s many p = 1 := by rw [ckX, if_neg (by rw [h]; decide), if_pos h1]
theorem ck_thing (h : (scOk s && (poOk p && inB many 0 7)) = true) (h1 : kiR (d + 1) s p.wh = 1) (h2 : many ≤ p.who ∨ many ≤ p.what ∨ many ≤ thR (d + 1) p.wh) : ckX d s many p = 2 := by
  rw [ckX, if_neg (by rw [h]; decide), if_neg (by simp [h1]), if_pos h2]
theorem ck_guard (h : (scOk s && (poOk p && inB many 0 7)) = true) (h1 : kiR (d + 1) s p.wh = 1) (h2 : ¬ (many ≤ p.who ∨ many ≤ p.what ∨ many ≤ thR (d + 1) p.wh)) (h3 : guOk d p.wh = false) : ckX d s many p = 3 := by
  rw [ckX, if_neg (by rw [h]; decide), if_neg (by simp [h1]), if_neg h2, if_pos h3]
theorem ck_good (h : (scOk s && (poOk p && inB many 0 7)) = true) (h1 : kiR (d + 1) s p.wh = 1) (h2 : ¬ (many ≤ p.who ∨ many ≤ p.what ∨ many ≤ thR (d + 1) p.wh)) (h3 : guOk d p.wh = true) : ckX d s many p = 0 := by
  rw [ckX, if_neg (by rw [h]; decide), if_neg (by simp [h1]), if_neg h2, if_neg (by rw [h3]; decide)]
theorem po_exOk (h : poOk p = true) : exOk p.wh = true := by
  simp only [poOk, Bool.and_eq_true] at h
  exact h.2.2.2.2
end

set_option maxRecDepth 100000 in
set_option maxHeartbeats 8000000 in
theorem specCheckPolicy {d : Nat} {s : Sc} {A0 A1 : Option Addr} {c0 c1 : Nat} {many : Int} {p : Po} {A : Option Addr} {c : Nat} {w : World} (hS : scR w A0 A1 s) (hz : scZ s) (hU : exW d w A p.wh.ps) (hp : poZ p) (hcn : cntS d p.wh.ps ≤ 2097152) :
    Calls Tryz.prog 20 #[scV s A0 c0 A1 c1, .int .i64 many, poV p A c] w fun e w' => e = .returned (.int .i64 (ckX d s many p)) ∧ Below w.heap.size w w' := by
  unfold scV poV
  obtain ⟨W, hW⟩ : ∃ W, W = (w.alloc (.cells #[.slice A0 s.1.length c0, .slice A1 s.2.length c1] 25)).alloc (.cells #[.string p.nm, .bool p.al, .int .i64 p.who, .int .i64 p.what, .int .i64 p.acts, .int .i64 p.wh.k, .int .i64 p.wh.n, .string p.wh.s, .slice A p.wh.ps.length c] 54) := ⟨_, rfl⟩
  obtain ⟨g, hg⟩ : ∃ g, g = w.heap.size := ⟨_, rfl⟩
  have hB : Below w.heap.size w W := by rw [hW]; (repeat (first | exact Below.refl _ _ | refine ext_alloc ?_ _ | refine Below.setCell ?_ (by simp) _))
  have hq : W.heap[g]? = some (.cells #[.slice A0 s.1.length c0, .slice A1 s.2.length c1] 25 (0, 0)) := by rw [hW, hg]; exact block_in (heap_alloc_new _ _) (below_alloc _ _)
  have hq2 : W.heap[g + 1]? = some (.cells #[.string p.nm, .bool p.al, .int .i64 p.who, .int .i64 p.what, .int .i64 p.acts, .int .i64 p.wh.k, .int .i64 p.wh.n, .string p.wh.s, .slice A p.wh.ps.length c] 54 (0, 0)) := by rw [hW, hg]; exact heap_alloc_at (by simp)
  replace hU := hU.below hB
  replace hS := hS.below hB
  obtain ⟨z0, z1⟩ := cells2 hq
  obtain ⟨q0, q1, q2, q3, q4, q5, q6, q7, q8⟩ := cells9 hq2
  have HQ := Lib.hid hq
  have HQ2 := Lib.hid hq2
  have HW := Lib.hid hW
  have HG := Lib.hid hg
  clear hW hg hq hq2
  go_enter Tryz.func20, Tryz.ntmps20
  go_wp2_with fail
  rw [← HW.out, ← HG.out]
  refine (specSchemaValid hS hz.1 hz.2).mono ?_
  rintro e w1 ⟨rfl, hb⟩
  replace hB := ext_trans hB hb
  replace hU := hU.below hb
  replace hS := hS.below hb
  have HQ := Lib.hid (block_in HQ.out hb)
  have HQ2 := Lib.hid (block_in HQ2.out hb)
  clear hb z0 z1 q0 q1 q2 q3 q4 q5 q6 q7 q8
  obtain ⟨z0, z1⟩ := cells2 HQ.out
  obtain ⟨q0, q1, q2, q3, q4, q5, q6, q7, q8⟩ := cells9 HQ2.out
  cases g0 : scOk s
  · have HE : Hid (ckX d s many p = -1) := Lib.hid (ck_bad (by simp [g0]))
    go_wp2
    go_ret
    exact ⟨by rw [HE.out]; rfl, hB⟩
  · skip
    go_wp2_with fail
    refine (specPolicyValid hU hp hcn).mono ?_
    rintro e w2 ⟨rfl, hb⟩
    replace hB := ext_trans hB hb
    replace hU := hU.below hb
    replace hS := hS.below hb
    have HQ := Lib.hid (block_in HQ.out hb)
    have HQ2 := Lib.hid (block_in HQ2.out hb)
    clear hb z0 z1 q0 q1 q2 q3 q4 q5 q6 q7 q8
    obtain ⟨z0, z1⟩ := cells2 HQ.out
    obtain ⟨q0, q1, q2, q3, q4, q5, q6, q7, q8⟩ := cells9 HQ2.out
    cases g1 : poOk p
    · have HE : Hid (ckX d s many p = -1) := Lib.hid (ck_bad (by simp [g1]))
      go_wp2
      go_ret
      exact ⟨by rw [HE.out]; rfl, hB⟩
    · skip
      go_wp2_with fail
      refine (l1In_any _ _ _ _).mono ?_
      rintro e w3 ⟨rfl, hb⟩
      replace hB := ext_trans hB hb
      replace hU := hU.below hb
      replace hS := hS.below hb
      have HQ := Lib.hid (block_in HQ.out hb)
      have HQ2 := Lib.hid (block_in HQ2.out hb)
      clear hb z0 z1 q0 q1 q2 q3 q4 q5 q6 q7 q8
      obtain ⟨z0, z1⟩ := cells2 HQ.out
      obtain ⟨q0, q1, q2, q3, q4, q5, q6, q7, q8⟩ := cells9 HQ2.out
      cases g2 : inB many 0 7
      · have HE : Hid (ckX d s many p = -1) := Lib.hid (ck_bad (by simp [g2]))
        go_wp2
        go_ret
        exact ⟨by rw [HE.out]; rfl, hB⟩
      · skip
        have hall : (scOk s && (poOk p && inB many 0 7)) = true := by rw [g0, g1, g2]; rfl
        have hko : koX d s p.wh = kiR (d + 1) s p.wh := by rw [koX, if_pos (by rw [g0, po_exOk g1]; rfl)]
        have hm0 : 0 ≤ many := (inB_true.1 g2).1
        have HA := Lib.hid hall
        obtain ⟨kx, hkx⟩ : ∃ k, kiR (d + 1) s p.wh = k := ⟨_, rfl⟩
        rw [hkx] at hko
        have HKX := Lib.hid hkx
        have HKO := Lib.hid hko
        clear hall hkx hko g0 g1 g2
        go_wp2_with fail
        refine (specKindOf hS hz hU hp.1 hcn).mono ?_
        rintro e w4 ⟨rfl, hb⟩
        replace hB := ext_trans hB hb
        replace hU := hU.below hb
        replace hS := hS.below hb
        have HQ := Lib.hid (block_in HQ.out hb)
        have HQ2 := Lib.hid (block_in HQ2.out hb)
        clear hb z0 z1 q0 q1 q2 q3 q4 q5 q6 q7 q8
        obtain ⟨z0, z1⟩ := cells2 HQ.out
        obtain ⟨q0, q1, q2, q3, q4, q5, q6, q7, q8⟩ := cells9 HQ2.out
        rw [HKO.out]
        by_cases hk : kx = 1
        · skip
          have hkb : (kx != 1) = false := by simpa using hk
          have HK1 := Lib.hid (HKX.out.trans hk)
          clear hk
          obtain ⟨t, ht⟩ : ∃ t, thR (d + 1) p.wh = t := ⟨_, rfl⟩
          have HT := Lib.hid ht
          clear ht
          by_cases h0 : many ≤ p.who
          · have HE : Hid (ckX d s many p = 2) := Lib.hid (ck_thing HA.out HK1.out (.inl h0))
            go_wp2
            go_ret
            exact ⟨by rw [HE.out]; rfl, hB⟩
          · skip
            by_cases h1 : many ≤ p.what
            · have HE : Hid (ckX d s many p = 2) := Lib.hid (ck_thing HA.out HK1.out (.inr (.inl h1)))
              go_wp2
              go_ret
              exact ⟨by rw [HE.out]; rfl, hB⟩
            · skip
              go_wp2_with fail
              refine (thQ_all d _ _ _ _ hU).mono ?_
              rintro e w5 ⟨rfl, hb⟩
              replace hB := ext_trans hB hb
              replace hU := hU.below hb
              replace hS := hS.below hb
              have HQ := Lib.hid (block_in HQ.out hb)
              have HQ2 := Lib.hid (block_in HQ2.out hb)
              clear hb z0 z1 q0 q1 q2 q3 q4 q5 q6 q7 q8
              obtain ⟨z0, z1⟩ := cells2 HQ.out
              obtain ⟨q0, q1, q2, q3, q4, q5, q6, q7, q8⟩ := cells9 HQ2.out
              rw [HT.out]
              by_cases h2 : many ≤ t
              · have HE : Hid (ckX d s many p = 2) := Lib.hid (ck_thing HA.out HK1.out (.inr (.inr (by rw [HT.out]; exact h2))))
                go_wp2
                go_ret
                exact ⟨by rw [HE.out]; rfl, hB⟩
              · skip
                have hno : ¬ (many ≤ p.who ∨ many ≤ p.what ∨ many ≤ thR (d + 1) p.wh) := by rw [HT.out]; omega
                have HNO := Lib.hid hno
                clear hno
                go_wp2_with fail
                refine (specGuarded hU hp.1 hcn).mono ?_
                rintro e w6 ⟨rfl, hb⟩
                replace hB := ext_trans hB hb
                replace hU := hU.below hb
                replace hS := hS.below hb
                have HQ := Lib.hid (block_in HQ.out hb)
                have HQ2 := Lib.hid (block_in HQ2.out hb)
                clear hb z0 z1 q0 q1 q2 q3 q4 q5 q6 q7 q8
                obtain ⟨z0, z1⟩ := cells2 HQ.out
                obtain ⟨q0, q1, q2, q3, q4, q5, q6, q7, q8⟩ := cells9 HQ2.out
                cases gg : guOk d p.wh
                · have HE : Hid (ckX d s many p = 3) := Lib.hid (ck_guard HA.out HK1.out HNO.out gg)
                  go_wp2
                  go_ret
                  exact ⟨by rw [HE.out]; rfl, hB⟩
                · have HE : Hid (ckX d s many p = 0) := Lib.hid (ck_good HA.out HK1.out HNO.out gg)
                  go_wp2
                  go_ret
                  exact ⟨by rw [HE.out]; rfl, hB⟩
        · have hkb : (kx != 1) = true := by simpa using hk
          have HE : Hid (ckX d s many p = 1) := Lib.hid (ck_kind HA.out (by rw [HKX.out]; exact hk))
          go_wp2
          go_ret
          exact ⟨by rw [HE.out]; rfl, hB⟩
set_option maxRecDepth 100000 in
set_option maxHeartbeats 8000000 in
theorem implCheckPolicy {d : Nat} {s : Sc} {A0 A1 : Option Addr} {c0 c1 : Nat} {many : Int} {p : Po} {A : Option Addr} {c : Nat} {w : World} (hS : scR w A0 A1 s) (hz : scZ s) (hc0 : s.1.length ≤ c0) (hc1 : s.2.length ≤ c1) (hU : exW d w A p.wh.ps) (hp : poZ p) :
    Calls Tryz.prog 19 #[scV s A0 c0 A1 c1, .int .i64 many, poV p A c] w fun e w' => e = .returned (.int .i64 (ckX d s many p)) ∧ Below w.heap.size w w' := by
  unfold scV poV
  obtain ⟨W, hW⟩ : ∃ W, W = (w.alloc (.cells #[.slice A0 s.1.length c0, .slice A1 s.2.length c1] 25)).alloc (.cells #[.string p.nm, .bool p.al, .int .i64 p.who, .int .i64 p.what, .int .i64 p.acts, .int .i64 p.wh.k, .int .i64 p.wh.n, .string p.wh.s, .slice A p.wh.ps.length c] 54) := ⟨_, rfl⟩
  obtain ⟨g, hg⟩ : ∃ g, g = w.heap.size := ⟨_, rfl⟩
  have hB : Below w.heap.size w W := by rw [hW]; (repeat (first | exact Below.refl _ _ | refine ext_alloc ?_ _ | refine Below.setCell ?_ (by simp) _))
  have hq : W.heap[g]? = some (.cells #[.slice A0 s.1.length c0, .slice A1 s.2.length c1] 25 (0, 0)) := by rw [hW, hg]; exact block_in (heap_alloc_new _ _) (below_alloc _ _)
  have hq2 : W.heap[g + 1]? = some (.cells #[.string p.nm, .bool p.al, .int .i64 p.who, .int .i64 p.what, .int .i64 p.acts, .int .i64 p.wh.k, .int .i64 p.wh.n, .string p.wh.s, .slice A p.wh.ps.length c] 54 (0, 0)) := by rw [hW, hg]; exact heap_alloc_at (by simp)
  replace hU := hU.below hB
  replace hS := hS.below hB
  obtain ⟨z0, z1⟩ := cells2 hq
  obtain ⟨q0, q1, q2, q3, q4, q5, q6, q7, q8⟩ := cells9 hq2
  have HQ := Lib.hid hq
  have HQ2 := Lib.hid hq2
  have HW := Lib.hid hW
  have HG := Lib.hid hg
  clear hW hg hq hq2
  go_enter Tryz.func19, Tryz.ntmps19
  go_wp2_with fail
  rw [← HW.out, ← HG.out]
  refine (implSchemaValid hS hz.1 hz.2 hc0 hc1).mono ?_
  rintro e w1 ⟨rfl, hb⟩
  replace hB := ext_trans hB hb
  replace hU := hU.below hb
  replace hS := hS.below hb
  have HQ := Lib.hid (block_in HQ.out hb)
  have HQ2 := Lib.hid (block_in HQ2.out hb)
  clear hb z0 z1 q0 q1 q2 q3 q4 q5 q6 q7 q8
  obtain ⟨z0, z1⟩ := cells2 HQ.out
  obtain ⟨q0, q1, q2, q3, q4, q5, q6, q7, q8⟩ := cells9 HQ2.out
  cases g0 : scOk s
  · have HE : Hid (ckX d s many p = -1) := Lib.hid (ck_bad (by simp [g0]))
    go_wp2
    go_ret
    exact ⟨by rw [HE.out]; rfl, hB⟩
  · skip
    go_wp2_with fail
    refine (in_any _ _ _ _).mono ?_
    rintro e w2 ⟨rfl, hb⟩
    replace hB := ext_trans hB hb
    replace hU := hU.below hb
    replace hS := hS.below hb
    have HQ := Lib.hid (block_in HQ.out hb)
    have HQ2 := Lib.hid (block_in HQ2.out hb)
    clear hb z0 z1 q0 q1 q2 q3 q4 q5 q6 q7 q8
    obtain ⟨z0, z1⟩ := cells2 HQ.out
    obtain ⟨q0, q1, q2, q3, q4, q5, q6, q7, q8⟩ := cells9 HQ2.out
    cases g1 : inB many 0 7
    · have HE : Hid (ckX d s many p = -1) := Lib.hid (ck_bad (by simp [g1]))
      go_wp2
      go_ret
      exact ⟨by rw [HE.out]; rfl, hB⟩
    · skip
      go_wp2_with fail
      refine (implPolicyValid hU hp).mono ?_
      rintro e w3 ⟨rfl, hb⟩
      replace hB := ext_trans hB hb
      replace hU := hU.below hb
      replace hS := hS.below hb
      have HQ := Lib.hid (block_in HQ.out hb)
      have HQ2 := Lib.hid (block_in HQ2.out hb)
      clear hb z0 z1 q0 q1 q2 q3 q4 q5 q6 q7 q8
      obtain ⟨z0, z1⟩ := cells2 HQ.out
      obtain ⟨q0, q1, q2, q3, q4, q5, q6, q7, q8⟩ := cells9 HQ2.out
      cases g2 : poOk p
      · have HE : Hid (ckX d s many p = -1) := Lib.hid (ck_bad (by simp [g2]))
        go_wp2
        go_ret
        exact ⟨by rw [HE.out]; rfl, hB⟩
      · skip
        have hall : (scOk s && (poOk p && inB many 0 7)) = true := by rw [g0, g1, g2]; rfl
        have hko : koX d s p.wh = kiR (d + 1) s p.wh := by rw [koX, if_pos (by rw [g0, po_exOk g2]; rfl)]
        have hm0 : 0 ≤ many := (inB_true.1 g1).1
        have hth : thX d p.wh = max (-1) (thR (d + 1) p.wh) := by rw [thX, if_pos (po_exOk g2)]
        have HA := Lib.hid hall
        obtain ⟨kx, hkx⟩ : ∃ k, kiR (d + 1) s p.wh = k := ⟨_, rfl⟩
        rw [hkx] at hko
        have HKX := Lib.hid hkx
        have HKO := Lib.hid hko
        clear hall hkx hko g0 g1 g2
        go_wp2_with fail
        refine (implKindOf hS hz hc0 hc1 hU hp.1).mono ?_
        rintro e w4 ⟨rfl, hb⟩
        replace hB := ext_trans hB hb
        replace hU := hU.below hb
        replace hS := hS.below hb
        have HQ := Lib.hid (block_in HQ.out hb)
        have HQ2 := Lib.hid (block_in HQ2.out hb)
        clear hb z0 z1 q0 q1 q2 q3 q4 q5 q6 q7 q8
        obtain ⟨z0, z1⟩ := cells2 HQ.out
        obtain ⟨q0, q1, q2, q3, q4, q5, q6, q7, q8⟩ := cells9 HQ2.out
        rw [HKO.out]
        by_cases hk : kx = 1
        · skip
          have hkb : (kx != 1) = false := by simpa using hk
          have HK1 := Lib.hid (HKX.out.trans hk)
          clear hk
          obtain ⟨t, ht⟩ : ∃ t, thR (d + 1) p.wh = t := ⟨_, rfl⟩
          have HT := Lib.hid ht
          rw [ht] at hth
          clear ht
          have HTX := Lib.hid hth
          clear hth
          have HTU : Hid (∀ (m : Nat) (os : Array Obj), Calls Tryz.prog 40 #[.agg #[.int .i64 p.wh.k, .int .i64 p.wh.n, .string p.wh.s, .slice A p.wh.ps.length c]] (Sort.grow (redrawn _ m) os) fun e w' => e = .returned (.int .i64 (max (-1) t)) ∧ Below _ _ w') := Lib.hid (fun m os => HTX.out ▸ implThingsUsed (hU.regrown m os) hp.1)
          have r0 := cell_regrown q0
          have r1 := cell_regrown q1
          have r2 := cell_regrown q2
          have r3 := cell_regrown q3
          have r4 := cell_regrown q4
          have r5 := cell_regrown q5
          have r6 := cell_regrown q6
          have r7 := cell_regrown q7
          have r8 := cell_regrown q8
          clear q0 q1 q2 q3 q4 q5 q6 q7 q8
          obtain ⟨mx, hmx⟩ : ∃ m, (if (if p.who < p.what then p.what else p.who) < max (-1) t then max (-1) t else if p.who < p.what then p.what else p.who) = m := ⟨_, rfl⟩
          have HMX := Lib.hid hmx
          have hor : (many ≤ p.who ∨ many ≤ p.what ∨ many ≤ t) ↔ many ≤ mx := by rw [← hmx]; constructor <;> intro h <;> (repeat' split at *) <;> omega
          have HOR := Lib.hid hor
          clear hor hmx
          go_wp2
          refine wp_region_quiet_below (by kernel_rfl) (by kernel_rfl) ?_
          repeat (go_big_quiet_step ((go_at_call 40; (with_reducible exact Calls.regrown_of (HTU.out _ _)))))
          refine wpQuiet_nil ?_
          intro w8 hw'regrown
          have hb := below_of_regrown hw'regrown (Nat.le_refl _)
          clear hw'regrown r0 r1 r2 r3 r4 r5 r6 r7 r8
          simp only [HMX.out]
          replace hB := ext_trans hB hb
          replace hU := hU.below hb
          have HQ2 := Lib.hid (block_in HQ2.out hb)
          clear hb
          obtain ⟨q0, q1, q2, q3, q4, q5, q6, q7, q8⟩ := cells9 HQ2.out
          by_cases hx : many ≤ mx
          · have HE : Hid (ckX d s many p = 2) := Lib.hid (ck_thing HA.out HK1.out (by rw [HT.out]; exact HOR.out.2 hx))
            go_wp2
            go_ret
            exact ⟨by rw [HE.out]; rfl, hB⟩
          · skip
            have HNO : Hid (¬ (many ≤ p.who ∨ many ≤ p.what ∨ many ≤ thR (d + 1) p.wh)) := Lib.hid (by rw [HT.out]; exact fun h => hx (HOR.out.1 h))
            go_wp2_with fail
            refine (implGuarded hU hp.1).mono ?_
            rintro e w9 ⟨rfl, hb⟩
            replace hB := ext_trans hB hb
            clear hb q0 q1 q2 q3 q4 q5 q6 q7 q8
            cases gg : guOk d p.wh
            · have HE : Hid (ckX d s many p = 3) := Lib.hid (ck_guard HA.out HK1.out HNO.out gg)
              go_wp2
              go_ret
              exact ⟨by rw [HE.out]; rfl, hB⟩
            · have HE : Hid (ckX d s many p = 0) := Lib.hid (ck_good HA.out HK1.out HNO.out gg)
              go_wp2
              go_ret
              exact ⟨by rw [HE.out]; rfl, hB⟩
        · have hkb : (kx != 1) = true := by simpa using hk
          have HE : Hid (ckX d s many p = 1) := Lib.hid (ck_kind HA.out (by rw [HKX.out]; exact hk))
          go_wp2
          go_ret
          exact ⟨by rw [HE.out]; rfl, hB⟩
end Go.Proofs.YtodjokdaofefdaaGreat
/- Policies: whether all are valid, whether all are safe: by both. -/
namespace Go.Proofs.YtodjokdaofefdaaGreat
set_option linter.unusedSimpArgs false
set_option linter.unusedVariables false
open Go.RowKit

theorem pos_no {l : PoL} {k : Nat} (hk : k < l.length) (h : ¬ PoP l k) : posOk l = false := cD_no (fun hh => h (hh.1 k hk))
def seenP (l : PoL) : Nat → ByteArray → Bool
  | 0 => fun _ => false
  | k + 1 => fun z => if z = (poAt l k).nm then true else seenP l k z
theorem seenP_iff (l : PoL) : ∀ (k : Nat) (z : ByteArray), seenP l k z = true ↔ ∃ j, j < k ∧ (poAt l j).nm = z
  | 0, z => by simp [seenP]
  | k + 1, z => by
    by_cases e : z = (poAt l k).nm
    · simp only [seenP, if_pos e, true_iff]; exact ⟨k, by omega, e.symm⟩
    · simp only [seenP, if_neg e]
      rw [seenP_iff l k z]
      constructor
      · rintro ⟨j, h1, h2⟩; exact ⟨j, by omega, h2⟩
      · rintro ⟨j, h1, h2⟩
        by_cases e2 : j = k
        · subst e2; exact absurd h2.symm e
        · exact ⟨j, by omega, h2⟩
/-- Few parts in all conditions. -/
def cntP (d : Nat) (l : PoL) : Prop := ∀ k, k < l.length → cntS d (poAt l k).wh.ps ≤ 2097152
set_option maxRecDepth 100000 in
set_option maxHeartbeats 8000000 in
theorem specPoliciesValid {d : Nat} {A : Option Addr} {l : PoL} {c : Nat} {w : World} (hU : poW d w A l) (hn : cntP d l) :
    Calls Tryz.prog 21 #[.slice A l.length c] w fun e w' => e = .returned (.bool (posOk l)) ∧ Below w.heap.size w w' := by
  have hlen := poW.len hU
  have HN0 := Lib.hid hn
  clear hn
  go_enter Tryz.func21, Tryz.ntmps21
  go_wp2
  go_loopw [3] (fun i wr => ∃ k : Nat, k ≤ l.length ∧ i = .int .i64 k ∧ Hid (∀ j, j < k → PoP l j) ∧ Below w.heap.size w wr) (fun i _ => l.length - (intOf i).toNat)
  case atStart => exact ⟨0, Nat.zero_le _, rfl, Lib.hid (fun j h => by omega), Below.refl _ _⟩
  case round =>
    obtain ⟨k, hk, rfl, HG, hB⟩ := hrel
    by_cases hlt : k < l.length
    · have hUr := poW.below hU hB
      obtain ⟨b, off, rfl, _, hc⟩ := poS.cells hUr (by omega)
      have HC : Hid (∀ (w' : World), Below wr.heap.size wr w' → ∀ k, k < l.length → w'.cell? ⟨b, off + k * 9, none⟩ = some (.string (poAt l k).nm)) := Lib.hid (fun w' hb k hk => by
        obtain ⟨_, _, _, _, h, _⟩ := hc k hk
        exact below_cell hb h)
      obtain ⟨A', c', hfd, hz, q0, q1, q2, q3, q4, q5, q6, q7, q8⟩ := hc k hlt
      have hfd2 : exW d wr A' (poAt l k).wh.ps := hfd
      have HW : Hid (∀ (w' : World), Below wr.heap.size wr w' → w'.cell? ⟨b, off + k * 9 + 2, none⟩ = some (.int .i64 (poAt l k).who)) := Lib.hid (fun w' hb => below_cell hb q2)
      have HCN := Lib.hid (HN0.out k hlt)
      clear hc hfd hUr
      have hW0 := Below.refl wr.heap.size wr
      cases g1 : poOk (poAt l k)
      · have HE : Hid (posOk l = false) := Lib.hid (pos_no hlt (fun h => by rw [h.1] at g1; cases g1))
        go_wp2_with fail
        refine (specPolicyValid hfd2 hz HCN.out).mono ?_
        rintro e w1 ⟨rfl, hb⟩
        rw [g1]
        replace hB := ext_trans hB hb
        clear hb q0 q1 q2 q3 q4 q5 q6 q7 q8
        go_wp2
        go_ret
        exact ⟨by rw [HE.out]; rfl, hB⟩
      · go_wp2_with fail
        refine (specPolicyValid hfd2 hz HCN.out).mono ?_
        rintro e w1 ⟨rfl, hb⟩
        rw [g1]
        have HB1 := Lib.hid hb
        replace hB := ext_trans hB hb
        clear hb q0 q1 q2 q3 q4 q5 q6 q7 q8 hfd2
        have qw := HW.out _ HB1.out
        by_cases g2 : (poAt l k).who = -2
        · have HE : Hid (posOk l = false) := Lib.hid (pos_no hlt (fun h => h.2.1 g2))
          have gb : ((poAt l k).who == -2) = true := by simpa using g2
          clear g2
          go_wp2
          go_ret
          exact ⟨by rw [HE.out]; rfl, hB⟩
        · have gb : ((poAt l k).who == -2) = false := by simpa using g2
          have H1 := Lib.hid g1
          have H2 := Lib.hid g2
          clear g1 g2
          go_wp2
          go_loopw [4] (fun i w3 => ∃ j : Nat, j ≤ k ∧ i = .int .i64 j ∧ Hid (∀ i, i < j → (poAt l i).nm ≠ (poAt l k).nm) ∧ Below w1.heap.size w1 w3) (fun i _ => k - (intOf i).toNat)
          case atStart => exact ⟨0, Nat.zero_le _, rfl, Lib.hid (fun j h => by omega), Below.refl _ _⟩
          case round =>
            clear gb qw
            obtain ⟨j, hj, rfl, HN, hD⟩ := hrel
            by_cases hjk : j < k
            · have m0 := cell_regrown (HC.out _ (ext_trans HB1.out hD) j (by omega))
              have z0 := cell_regrown (HC.out _ (ext_trans HB1.out hD) k hlt)
              by_cases g : (poAt l j).nm = (poAt l k).nm
              · have gb := strB_yes g
                have HE : Hid (posOk l = false) := Lib.hid (pos_no hlt (fun h => h.2.2 j hjk g))
                clear g
                go_wp2
                refine wp_region_quiet_below (by kernel_rfl) (by kernel_rfl) ?_
                repeat (go_big_quiet_step (fail))
                refine wpQuiet_nil ?_
                intro w4 hw'regrown
                replace hD := ext_trans hD (below_of_regrown hw'regrown (Nat.le_refl _))
                clear hw'regrown
                go_wp2
                go_ret
                exact ⟨by rw [HE.out]; rfl, ext_trans hB hD⟩
              · have gb := strB_no g
                have HN2 := Lib.hid (all_succ (p := fun i => (poAt l i).nm ≠ (poAt l k).nm) HN.out g)
                clear g
                go_wp2
                refine wp_region_quiet_below (by kernel_rfl) (by kernel_rfl) ?_
                repeat (go_big_quiet_step (fail))
                refine wpQuiet_nil ?_
                intro w4 hw'regrown
                replace hD := ext_trans hD (below_of_regrown hw'regrown (Nat.le_refl _))
                clear hw'regrown
                go_wp2
                go_roundw
                case rel => exact ⟨j + 1, by omega, by go_num, HN2, hD⟩
                case measure => simp [intOf]; omega
            · obtain rfl : j = k := by omega
              go_wp2
              go_roundw
              case rel => exact ⟨j + 1, by omega, by go_num, Lib.hid (all_succ (p := PoP l) HG.out ⟨H1.out, H2.out, HN.out⟩), ext_trans hB hD⟩
              case measure => simp [intOf]; omega
    · obtain rfl : k = l.length := by omega
      by_cases g : l.length ≤ 6
      · have HE : Hid (posOk l = true) := Lib.hid (cD_yes ⟨HG.out, g⟩)
        go_wp2
        go_ret
        exact ⟨ret_bool (by rw [HE.out]; simp; omega), hB⟩
      · have HE : Hid (posOk l = false) := Lib.hid (cD_no (fun h => g h.2))
        go_wp2
        go_ret
        exact ⟨ret_bool (by rw [HE.out]; simp; omega), hB⟩
set_option maxRecDepth 100000 in
set_option maxHeartbeats 8000000 in
theorem implPoliciesValid {d n : Nat} {A : Option Addr} {l : PoL} {c : Nat} {w : World} (hnl : n = l.length) (hU : poW d w A l) :
    Calls Tryz.prog 10 #[.slice A n c] w fun e w' => e = .returned (.bool (posOk l)) ∧ Below w.heap.size w w' := by
  subst hnl
  have hmm := @run_makeMap Tryz.prog
  have hlen := poW.len hU
  have hM0 := MapS.made w
  obtain ⟨bm, hbm⟩ : ∃ b, b = w.heap.size := ⟨_, rfl⟩
  rw [← hbm] at hM0
  have hWb : w.heap.size ≤ bm := by omega
  have HM0 := Lib.hid hM0
  have HB := Lib.hid hbm
  clear hbm hM0
  go_enter Tryz.func10, Tryz.ntmps10
  go_wp2_with fail
  rw [← HB.out]
  go_loopw [9] (fun i wr => ∃ k : Nat, k ≤ l.length ∧ i = .int .i64 k ∧ MapS wr bm k (seenP l k) ∧ Hid (∀ j, j < k → PoP l j) ∧ Below w.heap.size w wr) (fun i _ => l.length - (intOf i).toNat)
  case atStart => exact ⟨0, Nat.zero_le _, rfl, HM0.out, Lib.hid (fun j h => by omega), below_alloc _ _⟩
  case round =>
    clear HM0 HB
    obtain ⟨k, hk, rfl, hM, HG, hB⟩ := hrel
    by_cases hlt : k < l.length
    · have hUr := poW.below hU hB
      obtain ⟨b, off, rfl, _, hc⟩ := poS.cells hUr (by omega)
      obtain ⟨A', c', hfd, hz, q0, q1, q2, q3, q4, q5, q6, q7, q8⟩ := hc k hlt
      have hfd2 : exW d wr A' (poAt l k).wh.ps := hfd
      have hszm : (poAt l k).nm.size ≤ maxLen := hz.2
      have HZ := Lib.hid hz
      have HSF : Hid (∀ z, (if z = (poAt l k).nm then true else seenP l k z) = seenP l (k + 1) z) := Lib.hid (fun _ => rfl)
      clear hc hfd hUr
      have hbl := below_alloc wr (.cells #[.string (poAt l k).nm, .bool (poAt l k).al, .int .i64 (poAt l k).who, .int .i64 (poAt l k).what, .int .i64 (poAt l k).acts, .int .i64 (poAt l k).wh.k, .int .i64 (poAt l k).wh.n, .string (poAt l k).wh.s, .slice A' (poAt l k).wh.ps.length c'] 54)
      obtain ⟨X, hX⟩ : ∃ X, X = wr.alloc (.cells #[.string (poAt l k).nm, .bool (poAt l k).al, .int .i64 (poAt l k).who, .int .i64 (poAt l k).what, .int .i64 (poAt l k).acts, .int .i64 (poAt l k).wh.k, .int .i64 (poAt l k).wh.n, .string (poAt l k).wh.s, .slice A' (poAt l k).wh.ps.length c'] 54) := ⟨_, rfl⟩
      obtain ⟨g, hg⟩ : ∃ g, g = wr.heap.size := ⟨_, rfl⟩
      have hq : X.heap[g]? = some (.cells #[.string (poAt l k).nm, .bool (poAt l k).al, .int .i64 (poAt l k).who, .int .i64 (poAt l k).what, .int .i64 (poAt l k).acts, .int .i64 (poAt l k).wh.k, .int .i64 (poAt l k).wh.n, .string (poAt l k).wh.s, .slice A' (poAt l k).wh.ps.length c'] 54 (0, 0)) := by rw [hX, hg]; exact heap_alloc_new _ _
      rw [← hX] at hbl
      replace hB := ext_trans hB hbl
      replace hfd2 := hfd2.below hbl
      replace hM := hM.below hbl
      have HX := Lib.hid hX
      have HGG := Lib.hid hg
      have HQ := Lib.hid hq
      obtain ⟨y0, y1, y2, y3, y4, y5, y6, y7, y8⟩ := cells9 (heap_alloc_new wr (.cells #[.string (poAt l k).nm, .bool (poAt l k).al, .int .i64 (poAt l k).who, .int .i64 (poAt l k).what, .int .i64 (poAt l k).acts, .int .i64 (poAt l k).wh.k, .int .i64 (poAt l k).wh.n, .string (poAt l k).wh.s, .slice A' (poAt l k).wh.ps.length c'] 54))
      clear hX hg hbl hq
      go_wp2_with fail
      rw [← HX.out, ← HGG.out]
      clear q0 q1 q2 q3 q4 q5 q6 q7 q8 y0 y1 y2 y3 y4 y5 y6 y7 y8
      refine (implPolicyValid hfd2 hz).mono ?_
      rintro e w1 ⟨rfl, hb⟩
      replace hB := ext_trans hB hb
      replace hM := hM.below hb
      have HQ := Lib.hid (block_in HQ.out hb)
      obtain ⟨y0, y1, y2, y3, y4, y5, y6, y7, y8⟩ := cells9 HQ.out
      clear hb hfd2
      cases g1 : poOk (poAt l k)
      · have HE : Hid (posOk l = false) := Lib.hid (pos_no hlt (fun h => by rw [h.1] at g1; cases g1))
        go_wp2
        go_ret
        exact ⟨by rw [HE.out]; rfl, hB⟩
      · by_cases g2 : (poAt l k).who = -2
        · have HE : Hid (posOk l = false) := Lib.hid (pos_no hlt (fun h => h.2.1 g2))
          have gb : ((poAt l k).who == -2) = true := by simpa using g2
          clear g2
          go_wp2
          go_ret
          exact ⟨by rw [HE.out]; rfl, hB⟩
        · have gb : ((poAt l k).who == -2) = false := by simpa using g2
          have H1 := Lib.hid g1
          have H2 := Lib.hid g2
          clear g1 g2
          have hlook := hM.look hszm
          cases g3 : seenP l k (poAt l k).nm
          · rw [g3] at hlook
            have HP2 : Hid (∀ j, j < k + 1 → PoP l j) := Lib.hid (all_succ (p := PoP l) HG.out ⟨H1.out, H2.out, fun j hj e => by rw [(seenP_iff l k _).2 ⟨j, hj, e⟩] at g3; cases g3⟩)
            go_wp2_with (at_mapUpdate; go_must (refine wpList_put_mapS rfl (.tmp 27) (.tmp 29) (.const (.bool true)) rfl hM rfl rfl rfl hszm (by omega) ?_); intro w4 hM4 hg4)
            have hC4 := ext_grown hB hg4 (fun k e => by cases e; exact hWb)
            clear hg4
            replace hM4 := hM4.ext HSF.out
            go_roundw
            case rel => exact ⟨k + 1, by omega, by go_num, hM4, HP2, hC4⟩
            case measure => simp [intOf]; omega
          · rw [g3] at hlook
            have HE : Hid (posOk l = false) := Lib.hid (pos_no hlt (fun h => by
              obtain ⟨j, hj, e⟩ := (seenP_iff l k _).1 g3
              exact h.2.2 j hj e))
            go_wp2
            go_ret
            exact ⟨by rw [HE.out]; rfl, hB⟩
    · obtain rfl : k = l.length := by omega
      by_cases g : l.length ≤ 6
      · have HE : Hid (posOk l = true) := Lib.hid (cD_yes ⟨HG.out, g⟩)
        go_wp2
        go_ret
        exact ⟨ret_bool (by rw [HE.out]; simp; omega), hB⟩
      · have HE : Hid (posOk l = false) := Lib.hid (cD_no (fun h => g h.2))
        go_wp2
        go_ret
        exact ⟨ret_bool (by rw [HE.out]; simp; omega), hB⟩
end Go.Proofs.YtodjokdaofefdaaGreat
/- Policies that are all safe: by both. -/
namespace Go.Proofs.YtodjokdaofefdaaGreat
set_option linter.unusedSimpArgs false
set_option linter.unusedVariables false
open Go.RowKit

theorem saf_no {d : Nat} {s : Sc} {many : Int} {l : PoL} (h : ¬ SafP d s many l) : safOk d s many l = false := cD_no h
set_option maxRecDepth 100000 in
set_option maxHeartbeats 8000000 in
theorem specSafePolicies {d : Nat} {s : Sc} {A0 A1 : Option Addr} {c0 c1 : Nat} {many : Int} {A : Option Addr} {l : PoL} {c : Nat} {w : World} (hS : scR w A0 A1 s) (hz : scZ s) (hU : poW d w A l) (hn : cntP d l) :
    Calls Tryz.prog 6 #[scV s A0 c0 A1 c1, .int .i64 many, .slice A l.length c] w fun e w' => e = .returned (.bool (safOk d s many l)) ∧ Below w.heap.size w w' := by
  unfold scV
  have hlen := poW.len hU
  have HZ := Lib.hid hz
  have HN0 := Lib.hid hn
  clear hz hn
  obtain ⟨W, hW⟩ : ∃ W, W = w.alloc (.cells #[.slice A0 s.1.length c0, .slice A1 s.2.length c1] 25) := ⟨_, rfl⟩
  obtain ⟨g, hg⟩ : ∃ g, g = w.heap.size := ⟨_, rfl⟩
  have hB0 : Below w.heap.size w W := by rw [hW]; exact below_alloc _ _
  have hq : W.heap[g]? = some (.cells #[.slice A0 s.1.length c0, .slice A1 s.2.length c1] 25 (0, 0)) := by rw [hW, hg]; exact heap_alloc_new _ _
  replace hU := poW.below hU hB0
  replace hS := hS.below hB0
  have HQ := Lib.hid hq
  have HW := Lib.hid hW
  have HG := Lib.hid hg
  clear hW hg hq
  go_enter Tryz.func6, Tryz.ntmps6
  go_wp2_with fail
  rw [← HW.out, ← HG.out]
  go_loopw [7] (fun i wr => ∃ k : Nat, k ≤ l.length ∧ i = .int .i64 k ∧ Hid (∀ j, j < k → ckX d s many (poAt l j) = 0) ∧ Below W.heap.size W wr) (fun i _ => l.length - (intOf i).toNat)
  case atStart => exact ⟨0, Nat.zero_le _, rfl, Lib.hid (fun j h => by omega), Below.refl _ _⟩
  case round =>
    obtain ⟨k, hk, rfl, HGD, hB⟩ := hrel
    have hUr := poW.below hU hB
    have hSr := hS.below hB
    obtain ⟨z0, z1⟩ := cells2 (block_in HQ.out hB)
    by_cases hlt : k < l.length
    · obtain ⟨b, off, rfl, _, hc⟩ := poS.cells hUr (by omega)
      obtain ⟨A', c', hfd, hp, q0, q1, q2, q3, q4, q5, q6, q7, q8⟩ := hc k hlt
      have hfd2 : exW d wr A' (poAt l k).wh.ps := hfd
      have HCN := Lib.hid (HN0.out k hlt)
      obtain ⟨x, hx⟩ : ∃ x, ckX d s many (poAt l k) = x := ⟨_, rfl⟩
      have HX := Lib.hid hx
      have HC : Hid (∀ (m : Nat) (os : Array Obj), Calls Tryz.prog 20 #[.agg #[.slice A0 s.1.length c0, .slice A1 s.2.length c1], .int .i64 many, .agg #[.string (poAt l k).nm, .bool (poAt l k).al, .int .i64 (poAt l k).who, .int .i64 (poAt l k).what, .int .i64 (poAt l k).acts, .int .i64 (poAt l k).wh.k, .int .i64 (poAt l k).wh.n, .string (poAt l k).wh.s, .slice A' (poAt l k).wh.ps.length c']] (Sort.grow (redrawn wr m) os) fun e w' => e = .returned (.int .i64 x) ∧ Below _ _ w') := Lib.hid (fun m os => hx ▸ specCheckPolicy (hSr.below (below_regrown wr m os)) HZ.out (hfd2.below (below_regrown wr m os)) hp HCN.out)
      have r0 := cell_regrown q0
      have r1 := cell_regrown q1
      have r2 := cell_regrown q2
      have r3 := cell_regrown q3
      have r4 := cell_regrown q4
      have r5 := cell_regrown q5
      have r6 := cell_regrown q6
      have r7 := cell_regrown q7
      have r8 := cell_regrown q8
      have rz0 := cell_regrown z0
      have rz1 := cell_regrown z1
      clear q0 q1 q2 q3 q4 q5 q6 q7 q8 z0 z1
      clear hc hfd hfd2 hx hUr hSr
      by_cases gx : x = 0
      · have gb : (x != 0) = false := by simpa using gx
        have HGD2 := Lib.hid (all_succ (p := fun j => ckX d s many (poAt l j) = 0) HGD.out (HX.out.trans gx))
        clear gx
        go_wp2
        refine wp_region_quiet_below (by kernel_rfl) (by kernel_rfl) ?_
        repeat (go_big_quiet_step ((go_at_call 20; (with_reducible exact Calls.regrown_of (HC.out _ _)))))
        refine wpQuiet_nil ?_
        intro w4 hw'regrown
        replace hB := ext_trans hB (below_of_regrown hw'regrown (Nat.le_refl _))
        clear hw'regrown r0 r1 r2 r3 r4 r5 r6 r7 r8 rz0 rz1
        go_wp2
        go_roundw
        case rel => exact ⟨k + 1, by omega, by go_num, HGD2, hB⟩
        case measure => simp [intOf]; omega
      · have gb : (x != 0) = true := by simpa using gx
        have HE : Hid (safOk d s many l = false) := Lib.hid (saf_no (fun h => gx (HX.out.symm.trans (h.2.2.2 k hlt))))
        clear gx
        go_wp2
        refine wp_region_quiet_below (by kernel_rfl) (by kernel_rfl) ?_
        repeat (go_big_quiet_step ((go_at_call 20; (with_reducible exact Calls.regrown_of (HC.out _ _)))))
        refine wpQuiet_nil ?_
        intro w4 hw'regrown
        replace hB := ext_trans hB (below_of_regrown hw'regrown (Nat.le_refl _))
        clear hw'regrown r0 r1 r2 r3 r4 r5 r6 r7 r8 rz0 rz1
        go_wp2
        go_ret
        exact ⟨by rw [HE.out]; rfl, hB0.trans (hB.mono hB0.size)⟩
    · obtain rfl : k = l.length := by omega
      have HF : Hid (safOk d s many l = (posOk l && (scOk s && inB many 0 7))) := Lib.hid (by
        rw [Bool.eq_iff_iff]
        simp only [Bool.and_eq_true, safOk, posOk, cD_true]
        exact ⟨fun h => ⟨h.2.2.1, h.1, h.2.1⟩, fun h => ⟨h.2.1, h.2.2, h.1, HGD.out⟩⟩)
      go_wp2_with fail
      refine (specPoliciesValid hUr HN0.out).mono ?_
      rintro e w1 ⟨rfl, hb⟩
      replace hB := ext_trans hB hb
      replace hSr := hSr.below hb
      clear z0 z1
      obtain ⟨z0, z1⟩ := cells2 (block_in HQ.out hB)
      clear hb
      cases g1 : posOk l
      · rw [g1] at HF
        go_wp2
        go_ret
        exact ⟨by rw [HF.out]; rfl, hB0.trans (hB.mono hB0.size)⟩
      · rw [g1] at HF
        go_wp2_with fail
        refine (specSchemaValid hSr HZ.out.1 HZ.out.2).mono ?_
        rintro e w2 ⟨rfl, hb⟩
        replace hB := ext_trans hB hb
        clear hb z0 z1
        cases g2 : scOk s
        · rw [g2] at HF
          go_wp2
          go_ret
          exact ⟨by rw [HF.out]; rfl, hB0.trans (hB.mono hB0.size)⟩
        · rw [g2] at HF
          go_wp2_with fail
          refine (l1In_any _ _ _ _).mono ?_
          rintro e w3 ⟨rfl, hb⟩
          replace hB := ext_trans hB hb
          clear hb
          cases g3 : inB many 0 7
          all_goals
            rw [g3] at HF
            go_wp2
            go_ret
            exact ⟨by rw [HF.out]; rfl, hB0.trans (hB.mono hB0.size)⟩
set_option maxRecDepth 100000 in
set_option maxHeartbeats 8000000 in
theorem implSafePolicies {d n : Nat} {s : Sc} {A0 A1 : Option Addr} {c0 c1 : Nat} {many : Int} {A : Option Addr} {l : PoL} {c : Nat} {w : World} (hnl : n = l.length) (hS : scR w A0 A1 s) (hz : scZ s) (hc0 : s.1.length ≤ c0) (hc1 : s.2.length ≤ c1) (hU : poW d w A l) :
    Calls Tryz.prog 5 #[scV s A0 c0 A1 c1, .int .i64 many, .slice A n c] w fun e w' => e = .returned (.bool (safOk d s many l)) ∧ Below w.heap.size w w' := by
  subst hnl
  unfold scV
  have hlen := poW.len hU
  obtain ⟨W, hW⟩ : ∃ W, W = w.alloc (.cells #[.slice A0 s.1.length c0, .slice A1 s.2.length c1] 25) := ⟨_, rfl⟩
  obtain ⟨g, hg⟩ : ∃ g, g = w.heap.size := ⟨_, rfl⟩
  have hB0 : Below w.heap.size w W := by rw [hW]; exact below_alloc _ _
  have hq : W.heap[g]? = some (.cells #[.slice A0 s.1.length c0, .slice A1 s.2.length c1] 25 (0, 0)) := by rw [hW, hg]; exact heap_alloc_new _ _
  replace hU := poW.below hU hB0
  replace hS := hS.below hB0
  have HQ := Lib.hid hq
  have HW := Lib.hid hW
  have HG := Lib.hid hg
  clear hW hg hq
  obtain ⟨z0, z1⟩ := cells2 HQ.out
  go_enter Tryz.func5, Tryz.ntmps5
  go_wp2_with fail
  rw [← HW.out, ← HG.out]
  refine (implSchemaValid hS hz.1 hz.2 hc0 hc1).mono ?_
  rintro e w1 ⟨rfl, hb⟩
  have hB := hb
  clear hb z0 z1
  cases g1 : scOk s
  · have HE : Hid (safOk d s many l = false) := Lib.hid (saf_no (fun h => by rw [h.1] at g1; cases g1))
    go_wp2
    go_ret
    exact ⟨by rw [HE.out]; rfl, hB0.trans (hB.mono hB0.size)⟩
  · go_wp2_with fail
    refine (in_any _ _ _ _).mono ?_
    rintro e w2 ⟨rfl, hb⟩
    replace hB := ext_trans hB hb
    clear hb
    cases g2 : inB many 0 7
    · have HE : Hid (safOk d s many l = false) := Lib.hid (saf_no (fun h => by rw [h.2.1] at g2; cases g2))
      go_wp2
      go_ret
      exact ⟨by rw [HE.out]; rfl, hB0.trans (hB.mono hB0.size)⟩
    · have hU2 := poW.below hU hB
      go_wp2_with fail
      refine (implPoliciesValid rfl hU2).mono ?_
      rintro e w3 ⟨rfl, hb⟩
      replace hB := ext_trans hB hb
      clear hb hU2
      cases g3 : posOk l
      · have HE : Hid (safOk d s many l = false) := Lib.hid (saf_no (fun h => by rw [posOk, cD_false] at g3; exact g3 h.2.2.1))
        go_wp2
        go_ret
        exact ⟨by rw [HE.out]; rfl, hB0.trans (hB.mono hB0.size)⟩
      · have HOK : Hid ((∀ k, k < l.length → ckX d s many (poAt l k) = 0) → safOk d s many l = true) := Lib.hid (fun h => cD_yes ⟨g1, g2, cD_true.1 g3, h⟩)
        clear g1 g2 g3
        go_wp2
        go_loopw [24] (fun i wr => ∃ k : Nat, k ≤ l.length ∧ i = .int .i64 k ∧ Hid (∀ j, j < k → ckX d s many (poAt l j) = 0) ∧ Below W.heap.size W wr) (fun i _ => l.length - (intOf i).toNat)
        case atStart => exact ⟨0, Nat.zero_le _, rfl, Lib.hid (fun j h => by omega), hB⟩
        case round =>
          clear hB
          obtain ⟨k, hk, rfl, HGD, hB⟩ := hrel
          have hUr := poW.below hU hB
          by_cases hlt : k < l.length
          · obtain ⟨b, off, rfl, _, hc⟩ := poS.cells hUr (by omega)
            obtain ⟨A', c', hfd, hp, q0, q1, q2, q3, q4, q5, q6, q7, q8⟩ := hc k hlt
            have hbl := below_alloc wr (.cells #[.string (poAt l k).nm, .bool (poAt l k).al, .int .i64 (poAt l k).who, .int .i64 (poAt l k).what, .int .i64 (poAt l k).acts, .int .i64 (poAt l k).wh.k, .int .i64 (poAt l k).wh.n, .string (poAt l k).wh.s, .slice A' (poAt l k).wh.ps.length c'] 54)
            have hfd2 : exW d (wr.alloc (.cells #[.string (poAt l k).nm, .bool (poAt l k).al, .int .i64 (poAt l k).who, .int .i64 (poAt l k).what, .int .i64 (poAt l k).acts, .int .i64 (poAt l k).wh.k, .int .i64 (poAt l k).wh.n, .string (poAt l k).wh.s, .slice A' (poAt l k).wh.ps.length c'] 54)) A' (poAt l k).wh.ps := exW.below hfd hbl
            have hSr := hS.below (ext_trans hB hbl)
            have hBx := ext_trans hB hbl
            obtain ⟨z0, z1⟩ := cells2 (block_in HQ.out hBx)
            obtain ⟨x, hx⟩ : ∃ x, ckX d s many (poAt l k) = x := ⟨_, rfl⟩
            have HX := Lib.hid hx
            have HC := Lib.hid (implCheckPolicy (many := many) (c := c') hSr hz hc0 hc1 hfd2 hp)
            rw [hx] at HC
            obtain ⟨y0, y1, y2, y3, y4, y5, y6, y7, y8⟩ := cells9 (heap_alloc_new wr (.cells #[.string (poAt l k).nm, .bool (poAt l k).al, .int .i64 (poAt l k).who, .int .i64 (poAt l k).what, .int .i64 (poAt l k).acts, .int .i64 (poAt l k).wh.k, .int .i64 (poAt l k).wh.n, .string (poAt l k).wh.s, .slice A' (poAt l k).wh.ps.length c'] 54))
            clear hc hfd hfd2 hx hUr hSr hbl
            by_cases gx : x = 0
            · have gb : (x != 0) = false := by simpa using gx
              have HGD2 := Lib.hid (all_succ (p := fun j => ckX d s many (poAt l j) = 0) HGD.out (HX.out.trans gx))
              clear gx
              go_wp2_with fail
              refine HC.out.mono ?_
              rintro e w4 ⟨rfl, hb⟩
              have hB4 := ext_trans hBx hb
              clear hb q0 q1 q2 q3 q4 q5 q6 q7 q8 y0 y1 y2 y3 y4 y5 y6 y7 y8 z0 z1 hB hBx
              go_wp2
              go_roundw
              case rel => exact ⟨k + 1, by omega, by go_num, HGD2, hB4⟩
              case measure => simp [intOf]; omega
            · have gb : (x != 0) = true := by simpa using gx
              have HE : Hid (safOk d s many l = false) := Lib.hid (saf_no (fun h => gx (HX.out.symm.trans (h.2.2.2 k hlt))))
              clear gx
              go_wp2_with fail
              refine HC.out.mono ?_
              rintro e w4 ⟨rfl, hb⟩
              have hB4 := ext_trans hBx hb
              clear hb q0 q1 q2 q3 q4 q5 q6 q7 q8 y0 y1 y2 y3 y4 y5 y6 y7 y8 z0 z1 hB hBx
              go_wp2
              go_ret
              exact ⟨by rw [HE.out]; rfl, hB0.trans (hB4.mono hB0.size)⟩
          · obtain rfl : k = l.length := by omega
            have HE := Lib.hid (HOK.out HGD.out)
            go_wp2
            go_ret
            exact ⟨by rw [HE.out]; rfl, hB0.trans (hB.mono hB0.size)⟩
end Go.Proofs.YtodjokdaofefdaaGreat
/- Laws of evaluation and of checked policies, plainly. -/
namespace Go.Proofs.YtodjokdaofefdaaGreat
set_option linter.unusedSimpArgs false
set_option linter.unusedVariables false
open Go.RowKit

theorem cfB_ok {s : Sc} {W : WL} {r : Rq} (h : cfB s W r = true) : rqOk W r = true ∧ scOk s = true := by
  simp only [cfB, Bool.and_eq_true] at h
  exact ⟨h.2.1, h.1⟩
/-- What a checked policy's condition gives. -/
theorem ck_apply {d : Nat} {s : Sc} {W : WL} {r : Rq} {p : Po} (hin : inD (d + 1) p.wh) (hc : cfB s W r = true) (h : ckX d s W.length p = 0) : rqOk W r = true ∧ poOk p = true ∧ ∃ n : Int, (n = 0 ∨ n = 1) ∧ ev (d + 1) W r p.wh = (1, n, 0) := by
  have hC := cfB_W hc
  refine ⟨(cfB_ok hc).1, ?_, ck_sound hC hin h⟩
  rw [ckX] at h
  by_cases h0 : (scOk s && (poOk p && inB (W.length : Int) 0 7)) = false
  · rw [if_pos h0] at h; cases h
  · have hall : (scOk s && (poOk p && inB (W.length : Int) 0 7)) = true := by simpa using h0
    simp only [Bool.and_eq_true] at hall
    exact hall.2.1
theorem poAt_drop {l : PoL} {m k : Nat} : poAt (l.drop m) k = poAt l (m + k) := by simp [poAt, List.getD]
theorem saf_drop {d : Nat} {s : Sc} {many : Int} {l : PoL} (h : safOk d s many l = true) (m : Nat) : safOk d s many (l.drop m) = true := by
  obtain ⟨h1, h2, ⟨h3, h4⟩, h5⟩ := cD_true.1 h
  have hl : (l.drop m).length = l.length - m := by simp
  refine cD_yes ⟨h1, h2, ⟨fun k hk => ?_, by omega⟩, fun k hk => by rw [poAt_drop]; exact h5 _ (by omega)⟩
  obtain ⟨q1, q2, q3⟩ := h3 (m + k) (by omega)
  refine ⟨by rw [poAt_drop]; exact q1, by rw [poAt_drop]; exact q2, fun j hj => ?_⟩
  rw [poAt_drop, poAt_drop]
  exact q3 (m + j) (by omega)
theorem saf_pos {d : Nat} {s : Sc} {many : Int} {l : PoL} (h : safOk d s many l = true) : posOk l = true := cD_yes (cD_true.1 h).2.2.1
theorem saf_at {d : Nat} {s : Sc} {many : Int} {l : PoL} (h : safOk d s many l = true) {k : Nat} (hk : k < l.length) : ckX d s many (poAt l k) = 0 := (cD_true.1 h).2.2.2 k hk
theorem poW_drop {d b off : Nat} {w : World} {l : PoL} (h : poW d w (some ⟨b, off, none⟩) l) (m : Nat) : poW d w (some ⟨b, off + m * 9, none⟩) (l.drop m) :=
  ⟨RdL.dropAt h.1 m, fun hn a ha => by
    cases ha
    have hl : (l.drop m).length = l.length - m := by simp
    exact h.2 (by omega) ⟨b, off, none⟩ rfl⟩
end Go.Proofs.YtodjokdaofefdaaGreat

/- What is wrong with a policy: by both. -/
import Derived.Test.YtodjokdaofefdaaQ19
import Derived.Test.YtodjokdaofefdaaQ8
import Derived.Test.YtodjokdaofefdaaQ2
import Derived.Test.YtodjokdaofefdaaQ1
namespace Go.Proofs.Ytodjokdaofefdaa
set_option linter.unusedSimpArgs false
set_option linter.unusedVariables false
open Go.RowKit

section
variable {d : Nat} {s : Sc} {many : Int} {p : Po}
theorem ck_bad (h : (scOk s && (poOk p && inB many 0 7)) = false) : ckX d s many p = -1 := by rw [ckX, if_pos h]
theorem ck_kind (h : (scOk s && (poOk p && inB many 0 7)) = true) (h1 : kiR (d + 1) s p.wh ≠ 1) : ckX d s many p = 1 := by rw [ckX, if_neg (by rw [h]; decide), if_pos h1]
theorem ck_thing (h : (scOk s && (poOk p && inB many 0 7)) = true) (h1 : kiR (d + 1) s p.wh = 1) (h2 : many ≤ p.who ∨ many ≤ p.what ∨ many ≤ thR (d + 1) p.wh) : ckX d s many p = 2 := by
  rw [ckX, if_neg (by rw [h]; decide), if_neg (by simp [h1]), if_pos h2]
theorem ck_guard (h : (scOk s && (poOk p && inB many 0 7)) = true) (h1 : kiR (d + 1) s p.wh = 1) (h2 : ¬ (many ≤ p.who ∨ many ≤ p.what ∨ many ≤ thR (d + 1) p.wh)) (h3 : guOk d p.wh = false) : ckX d s many p = 3 := by
  rw [ckX, if_neg (by rw [h]; decide), if_neg (by simp [h1]), if_neg h2, if_pos h3]
theorem ck_good (h : (scOk s && (poOk p && inB many 0 7)) = true) (h1 : kiR (d + 1) s p.wh = 1) (h2 : ¬ (many ≤ p.who ∨ many ≤ p.what ∨ many ≤ thR (d + 1) p.wh)) (h3 : guOk d p.wh = true) : ckX d s many p = 0 := by
  rw [ckX, if_neg (by rw [h]; decide), if_neg (by simp [h1]), if_neg h2, if_neg (by rw [h3]; decide)]
theorem po_exOk (h : poOk p = true) : exOk p.wh = true := by
  simp only [poOk, Bool.and_eq_true] at h
  exact h.2.2.2.2
end

set_option maxRecDepth 100000 in
set_option maxHeartbeats 8000000 in
theorem specCheckPolicy {d : Nat} {s : Sc} {A0 A1 : Option Addr} {c0 c1 : Nat} {many : Int} {p : Po} {A : Option Addr} {c : Nat} {w : World} (hS : scR w A0 A1 s) (hz : scZ s) (hU : exW d w A p.wh.ps) (hp : poZ p) (hcn : cntS d p.wh.ps ≤ 2097152) :
    Calls Try.prog 13 #[scV s A0 c0 A1 c1, .int .i64 many, poV p A c] w fun e w' => e = .returned (.int .i64 (ckX d s many p)) ∧ Below w.heap.size w w' := by
  unfold scV poV
  obtain ⟨W, hW⟩ : ∃ W, W = (w.alloc (.cells #[.slice A0 s.1.length c0, .slice A1 s.2.length c1] 25)).alloc (.cells #[.string p.nm, .bool p.al, .int .i64 p.who, .int .i64 p.what, .int .i64 p.acts, .int .i64 p.wh.k, .int .i64 p.wh.n, .string p.wh.s, .slice A p.wh.ps.length c] 30) := ⟨_, rfl⟩
  obtain ⟨g, hg⟩ : ∃ g, g = w.heap.size := ⟨_, rfl⟩
  have hB : Below w.heap.size w W := by rw [hW]; (repeat (first | exact Below.refl _ _ | refine ext_alloc ?_ _ | refine Below.setCell ?_ (by simp) _))
  have hq : W.heap[g]? = some (.cells #[.slice A0 s.1.length c0, .slice A1 s.2.length c1] 25 (0, 0)) := by rw [hW, hg]; exact block_in (heap_alloc_new _ _) (below_alloc _ _)
  have hq2 : W.heap[g + 1]? = some (.cells #[.string p.nm, .bool p.al, .int .i64 p.who, .int .i64 p.what, .int .i64 p.acts, .int .i64 p.wh.k, .int .i64 p.wh.n, .string p.wh.s, .slice A p.wh.ps.length c] 30 (0, 0)) := by rw [hW, hg]; exact heap_alloc_at (by simp)
  replace hU := hU.below hB
  replace hS := hS.below hB
  obtain ⟨z0, z1⟩ := cells2 hq
  obtain ⟨q0, q1, q2, q3, q4, q5, q6, q7, q8⟩ := cells9 hq2
  have HQ := Lib.hid hq
  have HQ2 := Lib.hid hq2
  have HW := Lib.hid hW
  have HG := Lib.hid hg
  clear hW hg hq hq2
  go_enter Try.func13, Try.ntmps13
  go_wp2_with fail
  rw [← HW.out, ← HG.out]
  refine (specSchemaValid hS hz.1 hz.2).mono ?_
  rintro e w1 ⟨rfl, hb⟩
  replace hB := ext_trans hB hb
  replace hU := hU.below hb
  replace hS := hS.below hb
  have HQ := Lib.hid (block_in HQ.out hb)
  have HQ2 := Lib.hid (block_in HQ2.out hb)
  clear hb z0 z1 q0 q1 q2 q3 q4 q5 q6 q7 q8
  obtain ⟨z0, z1⟩ := cells2 HQ.out
  obtain ⟨q0, q1, q2, q3, q4, q5, q6, q7, q8⟩ := cells9 HQ2.out
  cases g0 : scOk s
  · have HE : Hid (ckX d s many p = -1) := Lib.hid (ck_bad (by simp [g0]))
    go_wp2
    go_ret
    exact ⟨by rw [HE.out]; rfl, hB⟩
  · skip
    go_wp2_with fail
    refine (specPolicyValid hU hp hcn).mono ?_
    rintro e w2 ⟨rfl, hb⟩
    replace hB := ext_trans hB hb
    replace hU := hU.below hb
    replace hS := hS.below hb
    have HQ := Lib.hid (block_in HQ.out hb)
    have HQ2 := Lib.hid (block_in HQ2.out hb)
    clear hb z0 z1 q0 q1 q2 q3 q4 q5 q6 q7 q8
    obtain ⟨z0, z1⟩ := cells2 HQ.out
    obtain ⟨q0, q1, q2, q3, q4, q5, q6, q7, q8⟩ := cells9 HQ2.out
    cases g1 : poOk p
    · have HE : Hid (ckX d s many p = -1) := Lib.hid (ck_bad (by simp [g1]))
      go_wp2
      go_ret
      exact ⟨by rw [HE.out]; rfl, hB⟩
    · skip
      go_wp2_with fail
      refine (l1In_any _ _ _ _).mono ?_
      rintro e w3 ⟨rfl, hb⟩
      replace hB := ext_trans hB hb
      replace hU := hU.below hb
      replace hS := hS.below hb
      have HQ := Lib.hid (block_in HQ.out hb)
      have HQ2 := Lib.hid (block_in HQ2.out hb)
      clear hb z0 z1 q0 q1 q2 q3 q4 q5 q6 q7 q8
      obtain ⟨z0, z1⟩ := cells2 HQ.out
      obtain ⟨q0, q1, q2, q3, q4, q5, q6, q7, q8⟩ := cells9 HQ2.out
      cases g2 : inB many 0 7
      · have HE : Hid (ckX d s many p = -1) := Lib.hid (ck_bad (by simp [g2]))
        go_wp2
        go_ret
        exact ⟨by rw [HE.out]; rfl, hB⟩
      · skip
        have hall : (scOk s && (poOk p && inB many 0 7)) = true := by rw [g0, g1, g2]; rfl
        have hko : koX d s p.wh = kiR (d + 1) s p.wh := by rw [koX, if_pos (by rw [g0, po_exOk g1]; rfl)]
        have hm0 : 0 ≤ many := (inB_true.1 g2).1
        have HA := Lib.hid hall
        obtain ⟨kx, hkx⟩ : ∃ k, kiR (d + 1) s p.wh = k := ⟨_, rfl⟩
        rw [hkx] at hko
        have HKX := Lib.hid hkx
        have HKO := Lib.hid hko
        clear hall hkx hko g0 g1 g2
        go_wp2_with fail
        refine (specKindOf hS hz hU hp.1 hcn).mono ?_
        rintro e w4 ⟨rfl, hb⟩
        replace hB := ext_trans hB hb
        replace hU := hU.below hb
        replace hS := hS.below hb
        have HQ := Lib.hid (block_in HQ.out hb)
        have HQ2 := Lib.hid (block_in HQ2.out hb)
        clear hb z0 z1 q0 q1 q2 q3 q4 q5 q6 q7 q8
        obtain ⟨z0, z1⟩ := cells2 HQ.out
        obtain ⟨q0, q1, q2, q3, q4, q5, q6, q7, q8⟩ := cells9 HQ2.out
        rw [HKO.out]
        by_cases hk : kx = 1
        · skip
          have hkb : (kx != 1) = false := by simpa using hk
          have HK1 := Lib.hid (HKX.out.trans hk)
          clear hk
          obtain ⟨t, ht⟩ : ∃ t, thR (d + 1) p.wh = t := ⟨_, rfl⟩
          have HT := Lib.hid ht
          clear ht
          by_cases h0 : many ≤ p.who
          · have HE : Hid (ckX d s many p = 2) := Lib.hid (ck_thing HA.out HK1.out (.inl h0))
            go_wp2
            go_ret
            exact ⟨by rw [HE.out]; rfl, hB⟩
          · skip
            by_cases h1 : many ≤ p.what
            · have HE : Hid (ckX d s many p = 2) := Lib.hid (ck_thing HA.out HK1.out (.inr (.inl h1)))
              go_wp2
              go_ret
              exact ⟨by rw [HE.out]; rfl, hB⟩
            · skip
              go_wp2_with fail
              refine (thQ_all d _ _ _ _ hU).mono ?_
              rintro e w5 ⟨rfl, hb⟩
              replace hB := ext_trans hB hb
              replace hU := hU.below hb
              replace hS := hS.below hb
              have HQ := Lib.hid (block_in HQ.out hb)
              have HQ2 := Lib.hid (block_in HQ2.out hb)
              clear hb z0 z1 q0 q1 q2 q3 q4 q5 q6 q7 q8
              obtain ⟨z0, z1⟩ := cells2 HQ.out
              obtain ⟨q0, q1, q2, q3, q4, q5, q6, q7, q8⟩ := cells9 HQ2.out
              rw [HT.out]
              by_cases h2 : many ≤ t
              · have HE : Hid (ckX d s many p = 2) := Lib.hid (ck_thing HA.out HK1.out (.inr (.inr (by rw [HT.out]; exact h2))))
                go_wp2
                go_ret
                exact ⟨by rw [HE.out]; rfl, hB⟩
              · skip
                have hno : ¬ (many ≤ p.who ∨ many ≤ p.what ∨ many ≤ thR (d + 1) p.wh) := by rw [HT.out]; omega
                have HNO := Lib.hid hno
                clear hno
                go_wp2_with fail
                refine (specGuarded hU hp.1 hcn).mono ?_
                rintro e w6 ⟨rfl, hb⟩
                replace hB := ext_trans hB hb
                replace hU := hU.below hb
                replace hS := hS.below hb
                have HQ := Lib.hid (block_in HQ.out hb)
                have HQ2 := Lib.hid (block_in HQ2.out hb)
                clear hb z0 z1 q0 q1 q2 q3 q4 q5 q6 q7 q8
                obtain ⟨z0, z1⟩ := cells2 HQ.out
                obtain ⟨q0, q1, q2, q3, q4, q5, q6, q7, q8⟩ := cells9 HQ2.out
                cases gg : guOk d p.wh
                · have HE : Hid (ckX d s many p = 3) := Lib.hid (ck_guard HA.out HK1.out HNO.out gg)
                  go_wp2
                  go_ret
                  exact ⟨by rw [HE.out]; rfl, hB⟩
                · have HE : Hid (ckX d s many p = 0) := Lib.hid (ck_good HA.out HK1.out HNO.out gg)
                  go_wp2
                  go_ret
                  exact ⟨by rw [HE.out]; rfl, hB⟩
        · have hkb : (kx != 1) = true := by simpa using hk
          have HE : Hid (ckX d s many p = 1) := Lib.hid (ck_kind HA.out (by rw [HKX.out]; exact hk))
          go_wp2
          go_ret
          exact ⟨by rw [HE.out]; rfl, hB⟩
set_option maxRecDepth 100000 in
set_option maxHeartbeats 8000000 in
theorem implCheckPolicy {d : Nat} {s : Sc} {A0 A1 : Option Addr} {c0 c1 : Nat} {many : Int} {p : Po} {A : Option Addr} {c : Nat} {w : World} (hS : scR w A0 A1 s) (hz : scZ s) (hc0 : s.1.length ≤ c0) (hc1 : s.2.length ≤ c1) (hU : exW d w A p.wh.ps) (hp : poZ p) :
    Calls Try.prog 12 #[scV s A0 c0 A1 c1, .int .i64 many, poV p A c] w fun e w' => e = .returned (.int .i64 (ckX d s many p)) ∧ Below w.heap.size w w' := by
  unfold scV poV
  obtain ⟨W, hW⟩ : ∃ W, W = (w.alloc (.cells #[.slice A0 s.1.length c0, .slice A1 s.2.length c1] 25)).alloc (.cells #[.string p.nm, .bool p.al, .int .i64 p.who, .int .i64 p.what, .int .i64 p.acts, .int .i64 p.wh.k, .int .i64 p.wh.n, .string p.wh.s, .slice A p.wh.ps.length c] 30) := ⟨_, rfl⟩
  obtain ⟨g, hg⟩ : ∃ g, g = w.heap.size := ⟨_, rfl⟩
  have hB : Below w.heap.size w W := by rw [hW]; (repeat (first | exact Below.refl _ _ | refine ext_alloc ?_ _ | refine Below.setCell ?_ (by simp) _))
  have hq : W.heap[g]? = some (.cells #[.slice A0 s.1.length c0, .slice A1 s.2.length c1] 25 (0, 0)) := by rw [hW, hg]; exact block_in (heap_alloc_new _ _) (below_alloc _ _)
  have hq2 : W.heap[g + 1]? = some (.cells #[.string p.nm, .bool p.al, .int .i64 p.who, .int .i64 p.what, .int .i64 p.acts, .int .i64 p.wh.k, .int .i64 p.wh.n, .string p.wh.s, .slice A p.wh.ps.length c] 30 (0, 0)) := by rw [hW, hg]; exact heap_alloc_at (by simp)
  replace hU := hU.below hB
  replace hS := hS.below hB
  obtain ⟨z0, z1⟩ := cells2 hq
  obtain ⟨q0, q1, q2, q3, q4, q5, q6, q7, q8⟩ := cells9 hq2
  have HQ := Lib.hid hq
  have HQ2 := Lib.hid hq2
  have HW := Lib.hid hW
  have HG := Lib.hid hg
  clear hW hg hq hq2
  go_enter Try.func12, Try.ntmps12
  go_wp2_with fail
  rw [← HW.out, ← HG.out]
  refine (implSchemaValid hS hz.1 hz.2 hc0 hc1).mono ?_
  rintro e w1 ⟨rfl, hb⟩
  replace hB := ext_trans hB hb
  replace hU := hU.below hb
  replace hS := hS.below hb
  have HQ := Lib.hid (block_in HQ.out hb)
  have HQ2 := Lib.hid (block_in HQ2.out hb)
  clear hb z0 z1 q0 q1 q2 q3 q4 q5 q6 q7 q8
  obtain ⟨z0, z1⟩ := cells2 HQ.out
  obtain ⟨q0, q1, q2, q3, q4, q5, q6, q7, q8⟩ := cells9 HQ2.out
  cases g0 : scOk s
  · have HE : Hid (ckX d s many p = -1) := Lib.hid (ck_bad (by simp [g0]))
    go_wp2
    go_ret
    exact ⟨by rw [HE.out]; rfl, hB⟩
  · skip
    go_wp2_with fail
    refine (in_any _ _ _ _).mono ?_
    rintro e w2 ⟨rfl, hb⟩
    replace hB := ext_trans hB hb
    replace hU := hU.below hb
    replace hS := hS.below hb
    have HQ := Lib.hid (block_in HQ.out hb)
    have HQ2 := Lib.hid (block_in HQ2.out hb)
    clear hb z0 z1 q0 q1 q2 q3 q4 q5 q6 q7 q8
    obtain ⟨z0, z1⟩ := cells2 HQ.out
    obtain ⟨q0, q1, q2, q3, q4, q5, q6, q7, q8⟩ := cells9 HQ2.out
    cases g1 : inB many 0 7
    · have HE : Hid (ckX d s many p = -1) := Lib.hid (ck_bad (by simp [g1]))
      go_wp2
      go_ret
      exact ⟨by rw [HE.out]; rfl, hB⟩
    · skip
      go_wp2_with fail
      refine (implPolicyValid hU hp).mono ?_
      rintro e w3 ⟨rfl, hb⟩
      replace hB := ext_trans hB hb
      replace hU := hU.below hb
      replace hS := hS.below hb
      have HQ := Lib.hid (block_in HQ.out hb)
      have HQ2 := Lib.hid (block_in HQ2.out hb)
      clear hb z0 z1 q0 q1 q2 q3 q4 q5 q6 q7 q8
      obtain ⟨z0, z1⟩ := cells2 HQ.out
      obtain ⟨q0, q1, q2, q3, q4, q5, q6, q7, q8⟩ := cells9 HQ2.out
      cases g2 : poOk p
      · have HE : Hid (ckX d s many p = -1) := Lib.hid (ck_bad (by simp [g2]))
        go_wp2
        go_ret
        exact ⟨by rw [HE.out]; rfl, hB⟩
      · skip
        have hall : (scOk s && (poOk p && inB many 0 7)) = true := by rw [g0, g1, g2]; rfl
        have hko : koX d s p.wh = kiR (d + 1) s p.wh := by rw [koX, if_pos (by rw [g0, po_exOk g2]; rfl)]
        have hm0 : 0 ≤ many := (inB_true.1 g1).1
        have hth : thX d p.wh = max (-1) (thR (d + 1) p.wh) := by rw [thX, if_pos (po_exOk g2)]
        have HA := Lib.hid hall
        obtain ⟨kx, hkx⟩ : ∃ k, kiR (d + 1) s p.wh = k := ⟨_, rfl⟩
        rw [hkx] at hko
        have HKX := Lib.hid hkx
        have HKO := Lib.hid hko
        clear hall hkx hko g0 g1 g2
        go_wp2_with fail
        refine (implKindOf hS hz hc0 hc1 hU hp.1).mono ?_
        rintro e w4 ⟨rfl, hb⟩
        replace hB := ext_trans hB hb
        replace hU := hU.below hb
        replace hS := hS.below hb
        have HQ := Lib.hid (block_in HQ.out hb)
        have HQ2 := Lib.hid (block_in HQ2.out hb)
        clear hb z0 z1 q0 q1 q2 q3 q4 q5 q6 q7 q8
        obtain ⟨z0, z1⟩ := cells2 HQ.out
        obtain ⟨q0, q1, q2, q3, q4, q5, q6, q7, q8⟩ := cells9 HQ2.out
        rw [HKO.out]
        by_cases hk : kx = 1
        · skip
          have hkb : (kx != 1) = false := by simpa using hk
          have HK1 := Lib.hid (HKX.out.trans hk)
          clear hk
          obtain ⟨t, ht⟩ : ∃ t, thR (d + 1) p.wh = t := ⟨_, rfl⟩
          have HT := Lib.hid ht
          rw [ht] at hth
          clear ht
          have HTX := Lib.hid hth
          clear hth
          have HTU : Hid (∀ (m : Nat) (os : Array Obj), Calls Try.prog 47 #[.agg #[.int .i64 p.wh.k, .int .i64 p.wh.n, .string p.wh.s, .slice A p.wh.ps.length c]] (Sort.grow (redrawn _ m) os) fun e w' => e = .returned (.int .i64 (max (-1) t)) ∧ Below _ _ w') := Lib.hid (fun m os => HTX.out ▸ implThingsUsed (hU.regrown m os) hp.1)
          have r0 := cell_regrown q0
          have r1 := cell_regrown q1
          have r2 := cell_regrown q2
          have r3 := cell_regrown q3
          have r4 := cell_regrown q4
          have r5 := cell_regrown q5
          have r6 := cell_regrown q6
          have r7 := cell_regrown q7
          have r8 := cell_regrown q8
          clear q0 q1 q2 q3 q4 q5 q6 q7 q8
          obtain ⟨mx, hmx⟩ : ∃ m, (if (if p.who < p.what then p.what else p.who) < max (-1) t then max (-1) t else if p.who < p.what then p.what else p.who) = m := ⟨_, rfl⟩
          have HMX := Lib.hid hmx
          have hor : (many ≤ p.who ∨ many ≤ p.what ∨ many ≤ t) ↔ many ≤ mx := by rw [← hmx]; constructor <;> intro h <;> (repeat' split at *) <;> omega
          have HOR := Lib.hid hor
          clear hor hmx
          go_wp2
          refine wp_region_quiet_below (by kernel_rfl) (by kernel_rfl) ?_
          repeat (go_big_quiet_step ((go_at_call 47; (with_reducible exact Calls.regrown_of (HTU.out _ _)))))
          refine wpQuiet_nil ?_
          intro w8 hw'regrown
          have hb := below_of_regrown hw'regrown (Nat.le_refl _)
          clear hw'regrown r0 r1 r2 r3 r4 r5 r6 r7 r8
          simp only [HMX.out]
          replace hB := ext_trans hB hb
          replace hU := hU.below hb
          have HQ2 := Lib.hid (block_in HQ2.out hb)
          clear hb
          obtain ⟨q0, q1, q2, q3, q4, q5, q6, q7, q8⟩ := cells9 HQ2.out
          by_cases hx : many ≤ mx
          · have HE : Hid (ckX d s many p = 2) := Lib.hid (ck_thing HA.out HK1.out (by rw [HT.out]; exact HOR.out.2 hx))
            go_wp2
            go_ret
            exact ⟨by rw [HE.out]; rfl, hB⟩
          · skip
            have HNO : Hid (¬ (many ≤ p.who ∨ many ≤ p.what ∨ many ≤ thR (d + 1) p.wh)) := Lib.hid (by rw [HT.out]; exact fun h => hx (HOR.out.1 h))
            go_wp2_with fail
            refine (implGuarded hU hp.1).mono ?_
            rintro e w9 ⟨rfl, hb⟩
            replace hB := ext_trans hB hb
            clear hb q0 q1 q2 q3 q4 q5 q6 q7 q8
            cases gg : guOk d p.wh
            · have HE : Hid (ckX d s many p = 3) := Lib.hid (ck_guard HA.out HK1.out HNO.out gg)
              go_wp2
              go_ret
              exact ⟨by rw [HE.out]; rfl, hB⟩
            · have HE : Hid (ckX d s many p = 0) := Lib.hid (ck_good HA.out HK1.out HNO.out gg)
              go_wp2
              go_ret
              exact ⟨by rw [HE.out]; rfl, hB⟩
        · have hkb : (kx != 1) = true := by simpa using hk
          have HE : Hid (ckX d s many p = 1) := Lib.hid (ck_kind HA.out (by rw [HKX.out]; exact hk))
          go_wp2
          go_ret
          exact ⟨by rw [HE.out]; rfl, hB⟩
end Go.Proofs.Ytodjokdaofefdaa
/- Policies: whether all are valid, whether all are safe: by both. -/
namespace Go.Proofs.Ytodjokdaofefdaa
set_option linter.unusedSimpArgs false
set_option linter.unusedVariables false
open Go.RowKit

end Go.Proofs.Ytodjokdaofefdaa
/- Policies that are all safe: by both. -/
namespace Go.Proofs.Ytodjokdaofefdaa
set_option linter.unusedSimpArgs false
set_option linter.unusedVariables false
open Go.RowKit

end Go.Proofs.Ytodjokdaofefdaa
/- Laws of evaluation and of checked policies, plainly. -/
namespace Go.Proofs.Ytodjokdaofefdaa
set_option linter.unusedSimpArgs false
set_option linter.unusedVariables false
open Go.RowKit

theorem cfB_ok {s : Sc} {W : WL} {r : Rq} (h : cfB s W r = true) : rqOk W r = true ∧ scOk s = true := by
  simp only [cfB, Bool.and_eq_true] at h
  exact ⟨h.2.1, h.1⟩
/-- What a checked policy's condition gives. -/
theorem ck_apply {d : Nat} {s : Sc} {W : WL} {r : Rq} {p : Po} (hin : inD (d + 1) p.wh) (hc : cfB s W r = true) (h : ckX d s W.length p = 0) : rqOk W r = true ∧ poOk p = true ∧ ∃ n : Int, (n = 0 ∨ n = 1) ∧ ev (d + 1) W r p.wh = (1, n, 0) := by
  have hC := cfB_W hc
  refine ⟨(cfB_ok hc).1, ?_, ck_sound hC hin h⟩
  rw [ckX] at h
  by_cases h0 : (scOk s && (poOk p && inB (W.length : Int) 0 7)) = false
  · rw [if_pos h0] at h; cases h
  · have hall : (scOk s && (poOk p && inB (W.length : Int) 0 7)) = true := by simpa using h0
    simp only [Bool.and_eq_true] at hall
    exact hall.2.1
/-- What a check says. -/
theorem ck_range {d : Nat} {s : Sc} {many : Int} {p : Po} : -1 ≤ ckX d s many p ∧ ckX d s many p ≤ 3 := by
  unfold ckX
  repeat' split
  all_goals omega
theorem ck_zero {d : Nat} {s : Sc} {many : Int} {p : Po} (h : ckX d s many p = 0) : guOk d p.wh = true ∧ koX d s p.wh = 1 := by
  rw [ckX] at h
  by_cases h0 : (scOk s && (poOk p && inB many 0 7)) = false
  · rw [if_pos h0] at h; cases h
  · rw [if_neg h0] at h
    by_cases h1 : kiR (d + 1) s p.wh ≠ 1
    · rw [if_pos h1] at h; cases h
    · rw [if_neg h1] at h
      by_cases h2 : many ≤ p.who ∨ many ≤ p.what ∨ many ≤ thR (d + 1) p.wh
      · rw [if_pos h2] at h; cases h
      · rw [if_neg h2] at h
        by_cases h3 : guOk d p.wh = false
        · rw [if_pos h3] at h; cases h
        · have hall : (scOk s && (poOk p && inB many 0 7)) = true := by simpa using h0
          simp only [Bool.and_eq_true] at hall
          refine ⟨by simpa using h3, ?_⟩
          rw [koX, hall.1, po_exOk' hall.2.1]
          exact Classical.not_not.1 h1
end Go.Proofs.Ytodjokdaofefdaa
/- The reader of codes: pick and odd. -/
namespace Go.Proofs.Ytodjokdaofefdaa
set_option linter.unusedSimpArgs false
set_option linter.unusedVariables false
open Go.RowKit

/-- The reader at block br stands at p: its code reads as bytes. -/
def Rdr (w : World) (br cb : Nat) (p : Int) : Prop :=
  cb ≤ br ∧ ∃ A n c, w.heap[br]? = some (.cells #[.slice A n c, .int .i64 p] 127 (0, 0)) ∧ n ≤ 2000 ∧
    (0 < n → ∃ b off, A = some ⟨b, off, Option.none⟩ ∧ b < cb ∧ ∀ k, k < n → ∃ u : Int, (0 ≤ u ∧ u ≤ 255) ∧ w.cell? ⟨b, off + k, Option.none⟩ = some (.int .u8 u))
theorem Rdr.lt {w : World} {br cb : Nat} {p : Int} (h : Rdr w br cb p) : br < w.heap.size := by
  obtain ⟨_, A, n, c, hb, _⟩ := h
  exact (Array.getElem?_eq_some_iff.1 hb).1
theorem Rdr.cb {w : World} {br cb : Nat} {p : Int} (h : Rdr w br cb p) : cb ≤ br := h.1
theorem Rdr.below {w w' : World} {br cb : Nat} {p : Int} (h : Rdr w br cb p) (hb : Below w.heap.size w w') : Rdr w' br cb p := by
  have hlt := h.lt
  obtain ⟨h0, A, n, c, h1, h2, h3⟩ := h
  refine ⟨h0, A, n, c, (hb.block br hlt).trans h1, h2, fun hn => ?_⟩
  obtain ⟨b, off, e, hne, hc⟩ := h3 hn
  exact ⟨b, off, e, hne, fun k hk => let ⟨u, hu, hcu⟩ := hc k hk; ⟨u, hu, below_cell hb hcu⟩⟩
def PickPost (w : World) (br cb : Nat) (p n : Int) (e : Ending) (w' : World) : Prop :=
  ∃ x : Int, e = .returned (.int .i64 x) ∧ 0 ≤ x ∧ (1 ≤ n → x < n) ∧ (n < 1 → x = 0) ∧ Rdr w' br cb (p + 1) ∧ w.grownBy w' (some br)

theorem xor_nonneg (a b : Nat) (ha : a < 9223372036854775808) (hb : b < 9223372036854775808) : 0 ≤ bits .xor .i64 (a : Int) (b : Int) ∧ bits .xor .i64 (a : Int) (b : Int) ≤ 9223372036854775807 := by
  have hx : a ^^^ b < 2 ^ 63 := Nat.xor_lt_two_pow (by omega) (by omega)
  have e : bits .xor .i64 (a : Int) (b : Int) = ((a ^^^ b : Nat) : Int) := by
    show IntKind.i64.wrap ((BitVec.ofInt 64 (a : Int) ^^^ BitVec.ofInt 64 (b : Int)).toNat : Int) = _
    rw [BitVec.toNat_xor, BitVec.ofInt_natCast, BitVec.ofInt_natCast, BitVec.toNat_ofNat, BitVec.toNat_ofNat, Nat.mod_eq_of_lt (by omega), Nat.mod_eq_of_lt (by omega), IntKind.wrap_i64]
    omega
  rw [e]
  omega
theorem xor_pos {x : Int} (h0 : 0 ≤ x) (h1 : x ≤ 1000000000000000) : 0 ≤ bits .xor .i64 x (x / 64) ∧ bits .xor .i64 x (x / 64) ≤ 9223372036854775807 := by
  obtain ⟨n, rfl⟩ := Int.eq_ofNat_of_zero_le h0
  have := xor_nonneg n (n / 64) (by omega) (by omega)
  rwa [Int.natCast_ediv] at this

theorem rdr_set {w : World} {br cb : Nat} {p : Int} (h : Rdr w br cb p) : Rdr (w.setCell ⟨br, 1, Option.none⟩ (.int .i64 (p + 1))) br cb (p + 1) ∧ w.grownBy (w.setCell ⟨br, 1, Option.none⟩ (.int .i64 (p + 1))) (some br) := by
  obtain ⟨h0, A, n, c, h1, h2, h3⟩ := h
  have hg : w.grownBy (w.setCell ⟨br, 1, Option.none⟩ (.int .i64 (p + 1))) (some br) := ⟨rfl, rfl, rfl, by simp [World.setCell], fun k _ hk => Below.heap_setCell w ⟨br, 1, Option.none⟩ _ k (fun e => hk (by simp [e]))⟩
  refine ⟨⟨h0, A, n, c, ?_, h2, fun hn => ?_⟩, hg⟩
  · simp [World.setCell, Array.getElem?_modify, h1]
  · obtain ⟨b, off, e, hne, hc⟩ := h3 hn
    exact ⟨b, off, e, hne, fun k hk => let ⟨u, hu, hcu⟩ := hc k hk; ⟨u, hu, hg.cell hcu (by simp; omega)⟩⟩

set_option maxRecDepth 100000 in
set_option maxHeartbeats 4000000 in
theorem pick_any {br cb : Nat} {p n : Int} {w : World} (hR : Rdr w br cb p) (hp0 : 0 ≤ p) (hp1 : p ≤ 1000000000) (hn : n ≤ 1000000) :
    Calls Try.prog 51 #[.pointer (some ⟨br, 0, Option.none⟩), .int .i64 n] w (PickPost w br cb p n) := by
  obtain ⟨hR2, hG⟩ := rdr_set hR
  have hlt := hR.lt
  obtain ⟨h0, A, m, c, hb, hm, hcode⟩ := hR
  have c0 : w.cell? ⟨br, 0, Option.none⟩ = some (.slice A m c) := cell_of_row w br 0 _ _ (0, 0) hb
  have c1 : w.cell? ⟨br, 1, Option.none⟩ = some (.int .i64 p) := cell_of_row w br 1 _ _ (0, 0) hb
  have f1 : w.frozen? ⟨br, 1, Option.none⟩ = false := frozen_of_row w br 1 _ _ hb
  have d0 : (w.setCell ⟨br, 1, Option.none⟩ (.int .i64 (p + 1))).cell? ⟨br, 0, Option.none⟩ = some (.slice A m c) := by rw [World.cell?_setCell_other w _ _ _ (by simp)]; exact c0
  have d1 : (w.setCell ⟨br, 1, Option.none⟩ (.int .i64 (p + 1))).cell? ⟨br, 1, Option.none⟩ = some (.int .i64 (p + 1)) := by rw [cell_of_row _ br 1 _ _ (0, 0) (hR2.2.choose_spec.choose_spec.choose_spec.1)]; rfl
  by_cases h1 : n < 1
  · go_enter Try.func51, Try.ntmps51
    go_wp2
    go_ret
    exact ⟨0, rfl, by omega, by omega, fun _ => rfl, hR2, hG⟩
  · rcases Nat.eq_zero_or_pos m with hm0 | hm0
    · subst hm0
      go_enter Try.func51, Try.ntmps51
      go_wp2
      go_ret
      exact ⟨0, rfl, by omega, by omega, fun _ => rfl, hR2, hG⟩
    · have hm1 : ((m : Int) == 0) = false := by simp; omega
      obtain ⟨b, off, rfl, hne, hc⟩ := hcode hm0
      by_cases h2 : p < m
      · obtain ⟨k, rfl⟩ := Int.eq_ofNat_of_zero_le hp0
        obtain ⟨u, ⟨hu0, hu1⟩, hcu⟩ := hc k (by omega)
        have e1 := hG.cell hcu (by simp; omega)
        go_enter Try.func51, Try.ntmps51
        go_wp2
        go_ret
        exact ⟨_, rfl, Int.emod_nonneg _ (by omega), fun _ => Int.emod_lt_of_pos _ (by omega), fun h => by omega, hR2, hG⟩
      · have hmp : (0 : Int) < m := by omega
        have i0 := Int.emod_nonneg p (b := (m : Int)) (by omega)
        have i1 := Int.emod_lt_of_pos p (b := (m : Int)) (by omega)
        have j0 := Int.emod_nonneg (p * 7 + 3) (b := (m : Int)) (by omega)
        have j1 := Int.emod_lt_of_pos (p * 7 + 3) (b := (m : Int)) (by omega)
        obtain ⟨u1, ⟨u10, u11⟩, hu1⟩ := hc (p % m).toNat (by omega)
        obtain ⟨u2, ⟨u20, u21⟩, hu2⟩ := hc ((p * 7 + 3) % m).toNat (by omega)
        have v0 := Int.ediv_nonneg hp0 (Int.le_of_lt hmp)
        have v1 := Int.ediv_le_self (m : Int) hp0
        obtain ⟨x0, x1⟩ := xor_pos (x := u1 * 131 + u2 * 1117 + p * 29 + p / m * 53) (by omega) (by omega)
        have l1 := cell_regrown (hG.cell hu1 (by simp; omega))
        have l2 := cell_regrown (hG.cell hu2 (by simp; omega))
        have k0 := cell_regrown d0
        have k1 := cell_regrown d1
        go_enter Try.func51, Try.ntmps51
        go_wp2
        refine wp_region_quiet_below (by kernel_rfl) (by kernel_rfl) ?_
        repeat (go_big_quiet_step (fail))
        refine wpQuiet_nil ?_
        intro w2 hw2
        have hb2 := below_of_regrown hw2 (Nat.le_refl _)
        clear hw2
        go_wp2
        go_ret
        exact ⟨_, rfl, Int.emod_nonneg _ (by omega), fun _ => Int.emod_lt_of_pos _ (by omega), fun h => by omega, hR2.below hb2, grown_trans_ hG ⟨hb2.os, hb2.tape, hb2.output, hb2.size, fun k hk _ => hb2.block k hk⟩⟩
end Go.Proofs.Ytodjokdaofefdaa
/- The reader of codes: odd and open. -/
namespace Go.Proofs.Ytodjokdaofefdaa
set_option linter.unusedSimpArgs false
set_option linter.unusedVariables false
open Go.RowKit

def OddPost (w : World) (br cb : Nat) (p : Int) (e : Ending) (w' : World) : Prop :=
  ∃ (x : Bool) (p' : Int), e = .returned (.bool x) ∧ p ≤ p' ∧ p' ≤ p + 1 ∧ Rdr w' br cb p' ∧ w.grownBy w' (some br)

set_option maxHeartbeats 1000000 in
theorem odd_any {br cb : Nat} {p n : Int} {w : World} (hR : Rdr w br cb p) (hp0 : 0 ≤ p) (hp1 : p ≤ 1000000000) (hn0 : 0 ≤ n) (hn : n ≤ 1000000) :
    Calls Try.prog 52 #[.pointer (some ⟨br, 0, Option.none⟩), .int .i64 n] w (OddPost w br cb p) := by
  by_cases h : 0 < n
  · go_enter Try.func52, Try.ntmps52
    go_wp2_with fail
    refine (pick_any hR hp0 hp1 hn).mono ?_
    rintro e w1 ⟨x, rfl, hx0, hx1, _, hR1, hG1⟩
    go_wp2
    all_goals
      go_ret
      exact ⟨_, p + 1, rfl, by omega, by omega, hR1, hG1⟩
  · obtain rfl : n = 0 := by omega
    go_enter Try.func52, Try.ntmps52
    go_wp2
    go_ret
    exact ⟨_, p, rfl, by omega, by omega, hR, World.grownBy.refl _ _⟩

/-- A code that came in. -/
def CodeR (w : World) (cb : Nat) (A : Option Addr) (l : List Int) : Prop :=
  l.length ≤ 9223372036854775807 ∧ (0 < l.length → ∃ b off, A = some ⟨b, off, Option.none⟩ ∧ b < cb ∧ ∀ k, k < l.length → ∃ u : Int, (0 ≤ u ∧ u ≤ 255) ∧ w.cell? ⟨b, off + k, Option.none⟩ = some (.int .u8 u))
theorem CodeR.below {w w' : World} {cb : Nat} {A : Option Addr} {l : List Int} (h : CodeR w cb A l) (hb : Below w.heap.size w w') : CodeR w' cb A l :=
  ⟨h.1, fun hn => let ⟨b, off, e, hb0, hc⟩ := h.2 hn; ⟨b, off, e, hb0, fun k hk => let ⟨u, hu, hcu⟩ := hc k hk; ⟨u, hu, below_cell hb hcu⟩⟩⟩
theorem rdr_new {w : World} {cb : Nat} {A : Option Addr} {n c : Nat} {l : List Int} (hcb : cb ≤ w.heap.size) (h : CodeR w cb A l) (hn : n ≤ 2000) (hnl : n ≤ l.length) : Rdr (w.alloc (.cells #[.slice A n c, .int .i64 0] 127)) w.heap.size cb 0 := by
  refine ⟨hcb, A, n, c, heap_alloc_new w _, hn, fun h0 => ?_⟩
  obtain ⟨b, off, e, hb0, hc⟩ := h.2 (by omega)
  refine ⟨b, off, e, hb0, fun k hk => ?_⟩
  · obtain ⟨u, hu, hcu⟩ := hc k (by omega)
    exact ⟨u, hu, below_cell (below_alloc w _) hcu⟩

set_option maxHeartbeats 1000000 in
theorem l20Open_any {A : Option Addr} {l : List Int} {c cb : Nat} {w : World} (hcb : cb ≤ w.heap.size) (hC : CodeR w cb A l) (hc : l.length ≤ c) (hl : l.length ≤ 9223372036854775807) :
    Calls Try.prog 48 #[.slice A l.length c] w fun e w' => e = .returned (.pointer (some ⟨w.heap.size, 0, Option.none⟩)) ∧ Rdr w' w.heap.size cb 0 ∧ Below w.heap.size w w' := by
  by_cases h : 2000 < l.length
  · obtain ⟨b, off, rfl, _⟩ := hC.2 (by omega)
    go_enter Try.func48, Try.ntmps48
    go_wp2
    go_ret
    exact ⟨rfl, rdr_new hcb hC (by omega) (by omega), below_alloc _ _⟩
  · go_enter Try.func48, Try.ntmps48
    go_wp2
    go_ret
    exact ⟨rfl, rdr_new hcb hC (by omega) (by omega), below_alloc _ _⟩
end Go.Proofs.Ytodjokdaofefdaa
/- Draws: kinds of drawn values, and what becomes of them while the draw goes on. -/
namespace Go.Proofs.Ytodjokdaofefdaa
set_option linter.unusedSimpArgs false
set_option linter.unusedVariables false
open Go.RowKit

theorem Rdr.grown {w w' : World} {br cb : Nat} {p : Int} {row : Option Nat} (h : Rdr w br cb p) (hg : w.grownBy w' row) (hr : ∀ k, row = some k → k ≠ br ∧ cb ≤ k) : Rdr w' br cb p := by
  have hlt := h.lt
  obtain ⟨h0, A, n, c, h1, h2, h3⟩ := h
  refine ⟨h0, A, n, c, (hg.block br hlt (fun e => (hr br e.symm).1 rfl)).trans h1, h2, fun hn => ?_⟩
  obtain ⟨b, off, e, hne, hc⟩ := h3 hn
  exact ⟨b, off, e, hne, fun k hk => let ⟨u, hu, hcu⟩ := hc k hk; ⟨u, hu, hg.cell hcu (fun e => by have := (hr b e.symm).2; omega)⟩⟩
/-- The reader at br has drawn at most N times. -/
def RdrT (w : World) (br cb N : Nat) : Prop := ∃ p : Int, 0 ≤ p ∧ p ≤ N ∧ Rdr w br cb p
section
variable {w w' : World} {br cb N N' : Nat}
theorem RdrT.mono (h : RdrT w br cb N) (hN : N ≤ N') : RdrT w br cb N' := let ⟨p, h1, h2, h3⟩ := h; ⟨p, h1, by omega, h3⟩
theorem RdrT.below (h : RdrT w br cb N) (hb : Below w.heap.size w w') : RdrT w' br cb N := let ⟨p, h1, h2, h3⟩ := h; ⟨p, h1, h2, h3.below hb⟩
theorem RdrT.grown {row : Option Nat} (h : RdrT w br cb N) (hg : w.grownBy w' row) (hr : ∀ k, row = some k → k ≠ br ∧ cb ≤ k) : RdrT w' br cb N := let ⟨p, h1, h2, h3⟩ := h; ⟨p, h1, h2, h3.grown hg hr⟩
theorem RdrT.lt (h : RdrT w br cb N) : br < w.heap.size := let ⟨_, _, _, h3⟩ := h; h3.lt
end
theorem grown_of_below {w w' : World} (h : Below w.heap.size w w') (row : Option Nat) : w.grownBy w' row := ⟨h.os, h.tape, h.output, h.size, fun k hk _ => h.block k hk⟩
theorem grown_alloc_ (w : World) (o : Obj) (row : Option Nat) : w.grownBy (w.alloc o) row := grown_of_below (below_alloc w o) row
theorem pick_d {br cb N : Nat} {n : Int} {w : World} (hR : RdrT w br cb N) (hN : N ≤ 1000000000) (h1 : 1 ≤ n) (hn : n ≤ 1000000) :
    Calls Try.prog 51 #[.pointer (some ⟨br, 0, Option.none⟩), .int .i64 n] w fun e w' => ∃ x : Int, e = .returned (.int .i64 x) ∧ 0 ≤ x ∧ x < n ∧ RdrT w' br cb (N + 1) ∧ w.grownBy w' (some br) := by
  obtain ⟨p, hp0, hp1, hR⟩ := hR
  refine (pick_any hR hp0 (by omega) hn).mono ?_
  rintro e w' ⟨x, rfl, h2, h3, _, h4, h5⟩
  exact ⟨x, rfl, h2, h3 h1, ⟨p + 1, by omega, by omega, h4⟩, h5⟩
theorem odd_d {br cb N : Nat} {n : Int} {w : World} (hR : RdrT w br cb N) (hN : N ≤ 1000000000) (h1 : 0 ≤ n) (hn : n ≤ 1000000) :
    Calls Try.prog 52 #[.pointer (some ⟨br, 0, Option.none⟩), .int .i64 n] w fun e w' => ∃ x : Bool, e = .returned (.bool x) ∧ RdrT w' br cb (N + 1) ∧ w.grownBy w' (some br) := by
  obtain ⟨p, hp0, hp1, hR⟩ := hR
  refine (odd_any hR hp0 (by omega) h1 hn).mono ?_
  rintro e w' ⟨x, p', rfl, h2, h3, h4, h5⟩
  exact ⟨x, rfl, ⟨p', by omega, by omega, h4⟩, h5⟩

/-! ### Kinds -/
def IsI (lo hi : Int) (v : Value) : Prop := ∃ x : Int, v = .int .i64 x ∧ lo ≤ x ∧ x ≤ hi
theorem IsI.mono {lo hi lo' hi' : Int} {v : Value} (h : IsI lo hi v) (h1 : lo' ≤ lo) (h2 : hi ≤ hi') : IsI lo' hi' v := let ⟨x, e, a, b⟩ := h; ⟨x, e, by omega, by omega⟩
def CellsP (P : List Value → Prop) (w : World) (g o : Nat) : Prop := ∃ cs, P cs ∧ ∀ (j : Nat) u, cs[j]? = some u → w.cell? ⟨g, o + j, Option.none⟩ = some u
def SlP (B sz n : Nat) (P : List Value → Prop) (w : World) (v : Value) : Prop := n ≤ 9223372036854775807 ∧ ∃ g c, v = .slice (some ⟨g, 0, Option.none⟩) n c ∧ B ≤ g ∧ ∀ k, k < n → CellsP P w g (k * sz)
section
variable {B sz n : Nat} {P : List Value → Prop} {w w' : World} {v : Value} {g o : Nat}
end
def AllP (P : List Value → Prop) : List (List Value) → Prop
  | [] => True
  | x :: l => P x ∧ AllP P l
theorem AllP.at {P : List Value → Prop} : ∀ {l : List (List Value)}, AllP P l → ∀ k (h : k < l.length), P l[k]
  | _ :: _, h, 0, _ => h.1
  | _ :: l, h, k + 1, hk => AllP.at (l := l) h.2 k (by simpa using hk)
/-- A row as a list of flat elements. -/
theorem SlP.rd {α : Type} {enc : α → List Value} {B sz n : Nat} {P : List Value → Prop} {w : World} {v : Value} (h : SlP B sz n P w v) (hsz : ∀ a, (enc a).length = sz) (Q : α → Prop) (hP : ∀ cs, P cs → ∃ a, Q a ∧ cs = enc a) :
    ∃ (l : List α) (A : Option Addr) (c : Nat), v = .slice A l.length c ∧ l.length = n ∧ (∀ a ∈ l, Q a) ∧ RdL (Flat enc) sz w A l := by
  obtain ⟨hn, g, c, rfl, hB, hc⟩ := h
  have hch : ∀ n, n ≤ 9223372036854775807 → (∀ k, k < n → CellsP P w g (k * sz)) → ∃ l : List α, l.length = n ∧ (∀ a ∈ l, Q a) ∧ ∀ k (hk : k < l.length) j u, (enc l[k])[j]? = some u → w.cell? ⟨g, k * sz + j, Option.none⟩ = some u := by
    intro n
    induction n with
    | zero => intro _ _; exact ⟨[], rfl, by simp, by simp⟩
    | succ n ih =>
      intro hn hc
      obtain ⟨l, h1, h2, h3⟩ := ih (by omega) (fun k hk => hc k (by omega))
      obtain ⟨cs, hp, hcs⟩ := hc n (by omega)
      obtain ⟨a, ha, rfl⟩ := hP cs hp
      refine ⟨l ++ [a], by simp [h1], fun b hb => ?_, fun k hk j u hu => ?_⟩
      · rcases List.mem_append.1 hb with hb | hb
        · exact h2 b hb
        · rw [List.mem_singleton.1 hb]; exact ha
      · by_cases e : k < l.length
        · rw [List.getElem_append_left e] at hu; exact h3 k e j u hu
        · have e2 : k = n := by simp at hk; omega
          subst e2
          rw [List.getElem_append_right (by omega)] at hu
          simp [h1] at hu
          exact hcs j u hu
  obtain ⟨l, h1, h2, h3⟩ := hch n hn hc
  refine ⟨l, some ⟨g, 0, Option.none⟩, c, by rw [h1], h1, h2, by omega, fun _ => ⟨g, 0, rfl, fun k hk => ⟨enc l[k], hsz _, rfl, fun j u hu => by rw [Nat.zero_add]; exact h3 k hk j u hu⟩⟩⟩

/-- A row of one's own, drawn: at most n elements of the kind Q. -/
def DrS {α : Type} (B : Nat) (e : TypeId) (sz : Nat) (enc : α → List Value) (n : Nat) (Q : α → Prop) (w : World) (v : Value) : Prop := ∃ l : List α, l.length ≤ n ∧ (∀ a ∈ l, Q a) ∧ OwnA B e sz enc w v l
section
variable {α : Type} {B B' : Nat} {e : TypeId} {sz n n' : Nat} {enc : α → List Value} {Q : α → Prop} {w w' : World} {v : Value}
theorem DrS.grown {row : Option Nat} (h : DrS B e sz enc n Q w v) (hg : w.grownBy w' row) (hr : ∀ k, row = some k → k < B) : DrS B e sz enc n Q w' v := by
  obtain ⟨l, h1, h2, A, c, rfl, ho⟩ := h
  exact ⟨l, h1, h2, A, c, rfl, own_apart_ ho hg (fun k hk e => by have := (ho.lt k hk).1; have := hr k e; omega)⟩
theorem DrS.below (h : DrS B e sz enc n Q w v) (hb : Below w.heap.size w w') : DrS B e sz enc n Q w' v := h.grown (grown_of_below hb Option.none) (fun k e => by cases e)
theorem DrS.lower (h : DrS B e sz enc n Q w v) (hB : B' ≤ B) : DrS B' e sz enc n Q w v := let ⟨l, h1, h2, h3⟩ := h; ⟨l, h1, h2, h3.lower hB⟩
theorem DrS.mono (h : DrS B e sz enc n Q w v) (hn : n ≤ n') : DrS B e sz enc n' Q w v := let ⟨l, h1, h2, h3⟩ := h; ⟨l, by omega, h2, h3⟩
theorem DrS.apart {row : Option Nat} (h : DrS B e sz enc n Q w v) (hg : w.grownBy w' row) (hr : ∀ k, v.ownBlock = some k → row ≠ some k) : DrS B e sz enc n Q w' v := by
  obtain ⟨l, h1, h2, A, c, rfl, ho⟩ := h
  exact ⟨l, h1, h2, A, c, rfl, own_apart_ ho hg hr⟩
theorem DrS.ge (h : DrS B e sz enc n Q w v) (k : Nat) (hk : v.ownBlock = some k) : B ≤ k := by
  obtain ⟨l, _, _, A, c, rfl, ho⟩ := h
  exact (ho.lt k hk).1
theorem DrS.empty (hB : B ≤ w.heap.size) : DrS B e sz enc 0 Q (w.alloc (.cells #[] e)) (.slice (some ⟨w.heap.size, 0, Option.none⟩) 0 0) :=
  ⟨[], by simp, by simp, _, 0, rfl, by simp, .inr ⟨w.heap.size, 0, #[], rfl, hB, heap_alloc_new w _, Nat.le_refl _, by simp [maxLen], by simp, by simp⟩⟩
theorem DrS.nil : DrS B e sz enc n Q w (.slice Option.none 0 0) := ⟨[], by simp, by simp, _, 0, rfl, World.ownsRow_nil _ _ _ _⟩
end
/-- Only rows of the kind R have turned. -/
def GrownP (R : Nat → Prop) (w w' : World) : Prop := w'.os = w.os ∧ w'.tape = w.tape ∧ w'.output = w.output ∧ w.heap.size ≤ w'.heap.size ∧ ∀ k, k < w.heap.size → ¬ R k → w'.heap[k]? = w.heap[k]?
section
variable {R : Nat → Prop} {a b c : World} {row : Option Nat}
theorem GrownP.refl (R : Nat → Prop) (w : World) : GrownP R w w := ⟨rfl, rfl, rfl, Nat.le_refl _, fun _ _ _ => rfl⟩
theorem GrownP.drew (h : GrownP R a b) : GrownP R a b.drew := h
theorem GrownP.step (h : GrownP R a b) (hg : b.grownBy c row) (hr : ∀ k, row = some k → R k ∨ a.heap.size ≤ k) : GrownP R a c :=
  ⟨hg.os.trans h.1, hg.tape.trans h.2.1, hg.output.trans h.2.2.1, Nat.le_trans h.2.2.2.1 hg.size, fun k hk hn => (hg.block k (Nat.lt_of_lt_of_le hk h.2.2.2.1) (fun e => by rcases hr k e.symm with h | h; exact hn h; omega)).trans (h.2.2.2.2 k hk hn)⟩
theorem GrownP.size (h : GrownP R a b) : a.heap.size ≤ b.heap.size := h.2.2.2.1
end
/-- A variable of its own, in block g. -/
def BoxP (P : List Value → Prop) (T : TypeId) (g : Nat) (w : World) : Prop := ∃ cs : List Value, P cs ∧ w.heap[g]? = some (.cells cs.toArray T (0, 0))
section
variable {P P' : List Value → Prop} {T : TypeId} {g : Nat} {w w' : World} {row : Option Nat}
theorem BoxP.lt (h : BoxP P T g w) : g < w.heap.size := let ⟨_, _, h2⟩ := h; (Array.getElem?_eq_some_iff.1 h2).1
theorem BoxP.grown (h : BoxP P T g w) (hg : w.grownBy w' row) (hr : row ≠ some g) : BoxP P T g w' := let ⟨cs, h1, h2⟩ := h; ⟨cs, h1, (hg.block g (Array.getElem?_eq_some_iff.1 h2).1 (fun e => hr e.symm)).trans h2⟩
theorem BoxP.below (h : BoxP P T g w) (hb : Below w.heap.size w w') : BoxP P T g w' := let ⟨cs, h1, h2⟩ := h; ⟨cs, h1, (hb.block g (Array.getElem?_eq_some_iff.1 h2).1).trans h2⟩
theorem setCells_at {g : Nat} {T : TypeId} {fr : Nat × Nat} (vs : List Value) : ∀ {w : World} {cs : List Value} (o : Nat), w.heap[g]? = some (.cells cs.toArray T fr) → o + vs.length ≤ cs.length → (setCells w g o vs).heap[g]? = some (.cells (cs.take o ++ vs ++ cs.drop (o + vs.length)).toArray T fr) := by
  induction vs with
  | nil => intro w cs o h _; simpa [setCells] using h
  | cons v vs ih =>
    intro w cs o h ho
    simp only [List.length_cons] at ho
    have h1 : (w.setCell ⟨g, o, Option.none⟩ v).heap[g]? = some (.cells (cs.set o v).toArray T fr) := by
      simp [World.setCell, Array.getElem?_modify, h]
    have h2 := ih (o + 1) h1 (by simp; omega)
    rw [setCells, h2]
    congr 3
    rw [List.drop_set_of_lt (by omega), List.take_succ_eq_append_getElem (by rw [List.length_set]; omega)]
    simp only [List.getElem_set_self, List.length_cons]
    rw [List.take_set_of_le (Nat.le_refl _), show o + 1 + vs.length = o + (vs.length + 1) by omega]
    simp
theorem BoxP.put (vs : List Value) (h : BoxP P T g w) (hl : ∀ cs, P cs → cs.length = vs.length) (hP : P' vs) : BoxP P' T g (setCells w g 0 vs) := by
  obtain ⟨cs, h1, h2⟩ := h
  have hlen := hl cs h1
  refine ⟨vs, hP, ?_⟩
  rw [setCells_at vs 0 h2 (by omega)]
  simp [List.drop_of_length_le, hlen]
end
section
variable {app : Option Nat} {B1 br i : Nat} {w w' : World}
end
end Go.Proofs.Ytodjokdaofefdaa
/- Kinds of values, for drawn arguments: a value's kind stays whatever typed writes come. -/
namespace Go.Proofs.Ytodjokdaofefdaa
set_option linter.unusedSimpArgs false
set_option linter.unusedVariables false
open Go.RowKit

/-- A kind of values. -/
abbrev VK := World → Value → Prop
section
variable (B br : Nat)
/-- A block of one's own: elements of the type e; room for m; the cells of the first t are of the kinds ks. -/
def BlkK (e : TypeId) (ks : List VK) (t m : Nat) (w : World) (g : Nat) : Prop := B ≤ g ∧ g ≠ br ∧ ∃ cs, w.heap[g]? = some (.cells cs e (0, 0)) ∧ m * ks.length ≤ cs.size ∧ ∀ (q f : Nat) k u, q < t → ks[f]? = some k → cs[q * ks.length + f]? = some u → k w u
/-- A slice of at most m elements. -/
def SlK (e : TypeId) (ks : List VK) (m : Nat) : VK := fun w v => v = .slice Option.none 0 0 ∨ ∃ g o n c, v = .slice (some ⟨g, o * ks.length, Option.none⟩) n c ∧ n ≤ m ∧ n ≤ c ∧ c ≤ 9223372036854775807 ∧ BlkK B br e ks (o + n) (o + c) w g
/-- A slice that was written out, of n elements. -/
def LitK (e : TypeId) (ks : List VK) (n : Nat) : VK := fun w v => ∃ g, v = .slice (some ⟨g, 0, Option.none⟩) n n ∧ BlkK B br e ks n n w g
/-- What an operation may do to memory: blocks of types in S may get cells of their kinds; the reader turns; nothing else does. -/
def RelK (S : TypeId → Bool) (sh : TypeId → List VK) (w w' : World) : Prop := w.heap.size ≤ w'.heap.size ∧ ∀ g cs T, B ≤ g → g ≠ br → w.heap[g]? = some (.cells cs T (0, 0)) →
  ∃ cs', w'.heap[g]? = some (.cells cs' T (0, 0)) ∧ cs'.size = cs.size ∧ (S T = false → cs' = cs) ∧ (S T = true → ∀ (q f : Nat) k u, (sh T)[f]? = some k → cs'[q * (sh T).length + f]? = some u → cs[q * (sh T).length + f]? = some u ∨ k w u)
def StabK (S : TypeId → Bool) (sh : TypeId → List VK) (k : VK) : Prop := ∀ w w' v, RelK B br S sh w w' → k w v → k w' v
end
section
variable {B br : Nat} {S : TypeId → Bool} {sh : TypeId → List VK} {w w' w'' : World} {v : Value} {g n m t : Nat} {e : TypeId} {ks : List VK}
theorem BlkK.rel (hks : ∀ k ∈ ks, StabK B br S sh k) (hS : S e = true → sh e = ks) (hr : RelK B br S sh w w') (h : BlkK B br e ks t m w g) : BlkK B br e ks t m w' g := by
  obtain ⟨h1, h2, cs, h3, h4, h5⟩ := h
  obtain ⟨cs', g1, g2, g3, g4⟩ := hr.2 g cs e h1 h2 h3
  refine ⟨h1, h2, cs', g1, by omega, fun q f k u hq hk hu => ?_⟩
  have hst := hks k (List.mem_of_getElem? hk)
  cases hSe : S e with
  | false =>
    rw [g3 hSe] at hu
    exact hst w w' u hr (h5 q f k u hq hk hu)
  | true =>
    have he := hS hSe
    rcases g4 hSe q f k u (by rw [he]; exact hk) (by rw [he]; exact hu) with h6 | h6
    · rw [he] at h6; exact hst w w' u hr (h5 q f k u hq hk h6)
    · exact hst w w' u hr h6
theorem stab_sl (hks : ∀ k ∈ ks, StabK B br S sh k) (hS : S e = true → sh e = ks) : StabK B br S sh (SlK B br e ks m) := fun w w' v hr h => by
  rcases h with h | ⟨g, o, n, c, h1, h2, h3, h4, h5⟩
  · exact .inl h
  · exact .inr ⟨g, o, n, c, h1, h2, h3, h4, h5.rel hks hS hr⟩
theorem BlkK.le {m' t' : Nat} (h : BlkK B br e ks t m w g) (ht : t' ≤ t) (hm : m' ≤ m) : BlkK B br e ks t' m' w g := by
  obtain ⟨h1, h2, cs, h3, h4, h5⟩ := h
  exact ⟨h1, h2, cs, h3, Nat.le_trans (Nat.mul_le_mul_right _ hm) h4, fun q f k u hq hk hu => h5 q f k u (by omega) hk hu⟩
theorem BlkK.lower {B' : Nat} (hB : B' ≤ B) (hks : ∀ k ∈ ks, True) (h : BlkK B br e ks t m w g) : BlkK B' br e ks t m w g := by
  obtain ⟨h1, h2, h3⟩ := h
  exact ⟨Nat.le_trans hB h1, h2, h3⟩
/-- The cells of an element. -/
theorem BlkK.cell (h : BlkK B br e ks t m w g) (htm : t ≤ m) {q f : Nat} (hq : q < t) {k : VK} (hk : ks[f]? = some k) : ∃ u, w.cell? ⟨g, q * ks.length + f, Option.none⟩ = some u ∧ k w u := by
  obtain ⟨h1, h2, cs, h3, h4, h5⟩ := h
  have hf : f < ks.length := (List.getElem?_eq_some_iff.1 hk).1
  have h6 := Nat.mul_le_mul_right ks.length (show q + 1 ≤ m by omega)
  rw [Nat.succ_mul] at h6
  have hlt : q * ks.length + f < cs.size := by omega
  refine ⟨cs[q * ks.length + f], ?_, h5 q f k _ hq hk (by rw [Array.getElem?_eq_getElem hlt])⟩
  rw [cell_of_row w g _ cs e (0, 0) h3, Array.getElem?_eq_getElem hlt]
theorem BlkK.free (h : BlkK B br e ks t m w g) (j : Nat) : w.frozen? ⟨g, j, Option.none⟩ = false := by
  obtain ⟨h1, h2, cs, h3, _⟩ := h
  exact frozen_of_row w g j _ _ h3
theorem RelK.refl (w : World) : RelK B br S sh w w := ⟨Nat.le_refl _, fun _ cs _ _ _ h => ⟨cs, h, rfl, fun _ => rfl, fun _ _ _ _ _ _ hu => .inl hu⟩⟩
theorem RelK.grown {row : Option Nat} (hg : w.grownBy w' row) (hr : ∀ k, row = some k → k = br ∨ k < B) : RelK B br S sh w w' :=
  ⟨hg.size, fun g cs T h1 h2 h3 => ⟨cs, (hg.block g (Array.getElem?_eq_some_iff.1 h3).1 (fun e => by rcases hr g e.symm with h | h; exact h2 h; omega)).trans h3, rfl, fun _ => rfl, fun _ _ _ _ _ _ hu => .inl hu⟩⟩
theorem RelK.below (hb : Below w.heap.size w w') : RelK B br S sh w w' := RelK.grown (grown_of_below hb Option.none) (fun k e => by cases e)
theorem RelK.alloc (w : World) (o : Obj) : RelK B br S sh w (w.alloc o) := RelK.below (below_alloc w o)
theorem RelK.drew (w : World) : RelK B br S sh w w.drew := RelK.refl w
theorem setCells_other (g : Nat) (vs : List Value) (w : World) (o k : Nat) (hk : k ≠ g) : (setCells w g o vs).heap[k]? = w.heap[k]? := by
  by_cases hlt : k < w.heap.size
  · exact (setCells_grown g vs w o).block k hlt (by simpa using hk)
  · rw [Array.getElem?_eq_none (by rw [setCells_size]; omega), Array.getElem?_eq_none (by omega)]
/-- Cells are stored, each of its kind. -/
theorem RelK.storeAt {start : Nat} {vs : List Value} (h : BlkK B br e ks t m w g) (hS : S e = true) (he : sh e = ks) (hl0 : start + vs.length ≤ m * ks.length)
    (hv : ∀ (q f : Nat) k u, ks[f]? = some k → start ≤ q * ks.length + f → vs[q * ks.length + f - start]? = some u → k w u) : RelK B br S sh w (setCells w g start vs) := by
  obtain ⟨h1, h2, cs, h3, h4, h5⟩ := h
  have hl : start + vs.length ≤ cs.toList.length := by simp; omega
  have hat := setCells_at (T := e) (fr := (0, 0)) vs (cs := cs.toList) start (by simpa using h3) hl
  refine ⟨by rw [setCells_size]; exact Nat.le_refl _, fun k cs1 T g1 g2 g3 => ?_⟩
  by_cases ek : k = g
  · subst ek
    rw [h3] at g3
    simp only [Option.some.injEq, Obj.cells.injEq, and_true] at g3
    obtain ⟨rfl, rfl⟩ := g3
    refine ⟨_, hat, (by simp; simp at hl; omega), (fun hn => by rw [hS] at hn; cases hn), fun _ q' f' k' u hk hu => ?_⟩
    rw [he] at hk hu ⊢
    simp only [List.getElem?_toArray, List.append_assoc] at hu
    by_cases a1 : q' * ks.length + f' < start
    · rw [List.getElem?_append_left (by simp at hl ⊢; omega), List.getElem?_take_of_lt a1] at hu
      exact .inl (by simpa using hu)
    · rw [List.getElem?_append_right (by simp; omega)] at hu
      have e1 : (cs.toList.take start).length = start := by simp at hl ⊢; omega
      rw [e1] at hu
      by_cases a2 : q' * ks.length + f' - start < vs.length
      · rw [List.getElem?_append_left a2] at hu
        exact .inr (hv q' f' k' u hk (by omega) hu)
      · rw [List.getElem?_append_right (by omega), List.getElem?_drop] at hu
        rw [show start + vs.length + (q' * ks.length + f' - start - vs.length) = q' * ks.length + f' by omega] at hu
        exact .inl (by simpa using hu)
  · exact ⟨cs1, by rw [setCells_other g vs w _ k ek]; exact g3, rfl, fun _ => rfl, fun _ _ _ _ _ _ hu => .inl hu⟩
theorem one_elem {q q' f f' len n : Nat} (hf' : f' < len) (hfn : f + n ≤ len) (h1 : q * len + f ≤ q' * len + f') (h2 : q' * len + f' - (q * len + f) < n) : q' = q := by
  rcases Nat.lt_trichotomy q' q with c | c | c
  · have := Nat.mul_le_mul_right len c
    rw [Nat.succ_mul] at this
    omega
  · exact c
  · have := Nat.mul_le_mul_right len c
    rw [Nat.succ_mul] at this
    omega
/-- Cells of an element are stored. -/
theorem RelK.store {q f : Nat} {vs : List Value} (h : BlkK B br e ks t m w g) (hS : S e = true) (he : sh e = ks) (hq : q < m) (hf : f + vs.length ≤ ks.length)
    (hv : ∀ (i : Nat) k u, ks[f + i]? = some k → vs[i]? = some u → k w u) : RelK B br S sh w (setCells w g (q * ks.length + f) vs) := by
  have h6 := Nat.mul_le_mul_right ks.length hq
  rw [Nat.succ_mul] at h6
  refine RelK.storeAt h hS he (by omega) (fun q' f' k u hk hs hu => ?_)
  have hf' : f' < ks.length := (List.getElem?_eq_some_iff.1 hk).1
  have hlt := (List.getElem?_eq_some_iff.1 hu).1
  obtain rfl := one_elem hf' hf hs hlt
  refine hv (f' - f) k u ?_ ?_
  · rwa [show f + (f' - f) = f' by omega]
  · rwa [show q' * ks.length + f' - (q' * ks.length + f) = f' - f by omega] at hu
/-- More elements are stored behind those that are there. -/
theorem BlkK.storeAt {c : Nat} {vs : List Value} (h : BlkK B br e ks t m w g) (hS : S e = true) (he : sh e = ks) (hst : ∀ k ∈ ks, StabK B br S sh k) (hlen : vs.length = c * ks.length) (htc : t + c ≤ m)
    (hv : ∀ (i f : Nat) k u, i < c → ks[f]? = some k → vs[i * ks.length + f]? = some u → k w u) : RelK B br S sh w (setCells w g (t * ks.length) vs) ∧ BlkK B br e ks (t + c) m (setCells w g (t * ks.length) vs) g := by
  have hm := Nat.mul_le_mul_right ks.length htc
  rw [Nat.add_mul] at hm
  have key : ∀ (q f : Nat) k u, ks[f]? = some k → t * ks.length ≤ q * ks.length + f → vs[q * ks.length + f - t * ks.length]? = some u → k w u := fun q f k u hk hs hu => by
    have hf : f < ks.length := (List.getElem?_eq_some_iff.1 hk).1
    have hlt := (List.getElem?_eq_some_iff.1 hu).1
    have hqt : t ≤ q := by
      rcases Nat.lt_or_ge q t with c1 | c1
      · have := Nat.mul_le_mul_right ks.length c1
        rw [Nat.succ_mul] at this
        omega
      · exact c1
    obtain ⟨i, rfl⟩ : ∃ i, q = t + i := ⟨q - t, by omega⟩
    rw [Nat.add_mul, show t * ks.length + i * ks.length + f - t * ks.length = i * ks.length + f by omega] at hu hlt
    have hic : i < c := by
      rcases Nat.lt_or_ge i c with c1 | c1
      · exact c1
      · have := Nat.mul_le_mul_right ks.length c1
        omega
    exact hv i f k u hic hk hu
  have hr := RelK.storeAt (S := S) (sh := sh) h hS he (by omega) key
  refine ⟨hr, ?_⟩
  obtain ⟨h1, h2, cs, h3, h4, h5⟩ := h
  have hl : t * ks.length + vs.length ≤ cs.toList.length := by simp; omega
  have hat := setCells_at (T := e) (fr := (0, 0)) vs (cs := cs.toList) (t * ks.length) (by simpa using h3) hl
  refine ⟨h1, h2, _, hat, (by simp; simp at hl; omega), fun q f k u hq hk hu => ?_⟩
  have hf : f < ks.length := (List.getElem?_eq_some_iff.1 hk).1
  refine hst k (List.mem_of_getElem? hk) _ _ _ hr ?_
  simp only [List.getElem?_toArray, List.append_assoc] at hu
  by_cases a1 : q < t
  · have := Nat.mul_le_mul_right ks.length a1
    rw [Nat.succ_mul] at this
    rw [List.getElem?_append_left (by simp at hl ⊢; omega), List.getElem?_take_of_lt (by omega)] at hu
    exact h5 q f k u a1 hk (by simpa using hu)
  · have hge := Nat.mul_le_mul_right ks.length (show t ≤ q by omega)
    have hle := Nat.mul_le_mul_right ks.length (show q + 1 ≤ t + c by omega)
    rw [Nat.succ_mul, Nat.add_mul] at hle
    rw [List.getElem?_append_right (by simp; omega)] at hu
    have e1 : (cs.toList.take (t * ks.length)).length = t * ks.length := by simp at hl ⊢; omega
    rw [e1, List.getElem?_append_left (by omega)] at hu
    exact key q f k u hk (by omega) hu
end
end Go.Proofs.Ytodjokdaofefdaa

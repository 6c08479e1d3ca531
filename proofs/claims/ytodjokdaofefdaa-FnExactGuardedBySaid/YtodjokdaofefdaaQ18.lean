/- Guards that are added: the exact law, walked. -/
import Derived.Test.YtodjokdaofefdaaQ4
import Derived.Test.YtodjokdaofefdaaQ17
namespace Go.Proofs.Ytodjokdaofefdaa
set_option linter.unusedSimpArgs false
set_option linter.unusedVariables false
open Go.RowKit

theorem exT.rdM {d lo hi n c : Nat} {w : World} {A : Option Addr} {l : ExL} (h : exT d lo hi w (.slice A n c) l) (hn : n = l.length) : exS d lo hi w A l := by
  subst hn
  obtain ⟨A', c', e, hr⟩ := h.rd
  cases e
  exact hr
theorem gb_cnt {d D : Nat} {r : Ex} {w : World} {A : Option Addr} (h : exW D w A (gbE d r).ps) : cntS D (gbE d r).ps ≤ 40 := by
  cases hb : gbB d r
  · rw [gb_no hb]
    show cntS D [] ≤ 40
    simp [cntS]
  · have h1 : exOk (gbE d r) = true := by
      rw [gb_yes hb]
      rw [gbB] at hb
      simp only [Bool.and_eq_true] at hb
      exact hb.2.2
    have h2 := (ok_parts (exS_in h) h1).2
    have e : cntR (D + 1) (gbE d r) = cntS D (gbE d r).ps := rfl
    omega
theorem exBlk {w : World} {g : Nat} {r : Ex} {A : Option Addr} {n c : Nat} {T : TypeId} (h : w.heap[g]? = some (.cells #[.int .i64 r.k, .int .i64 r.n, .string r.s, .slice A n c] T (0, 0))) : g < w.heap.size := (Array.getElem?_eq_some_iff.1 h).1
theorem block_span {lo hi g : Nat} {w w' : World} {ob : Obj} (h : w.heap[g]? = some ob) (hs : Span lo hi w w') (hg : g < lo ∨ hi ≤ g) : w'.heap[g]? = some ob := (hs.out g (Array.getElem?_eq_some_iff.1 h).1 hg).trans h
set_option maxRecDepth 100000 in
set_option maxHeartbeats 16000000 in
theorem lawExactGuardedBy {d : Nat} {A : Option Addr} {r : Ex} {c : Nat} {w : World} (hU : exW d w A r.ps) (hs : r.s.size ≤ 9223372036854775807) :
    Calls Try.prog 5 #[.agg #[.int .i64 r.k, .int .i64 r.n, .string r.s, .slice A r.ps.length c]] w fun e w' => e = .returned (.bool true) ∧ Below w.heap.size w w' := by
  have hlen := exS.len hU
  obtain ⟨o, ho⟩ : ∃ o, o = gbE d r := ⟨_, rfl⟩
  obtain ⟨y, hy⟩ : ∃ y, y = gbB d r := ⟨_, rfl⟩
  obtain ⟨D, hD⟩ : ∃ D, D = d + (gbL d r).length := ⟨_, rfl⟩
  have HSP : Hid (∀ (A : Option Addr) (c : Nat) (w : World), exW d w A r.ps → cntS d r.ps ≤ 2097152 → Calls Try.prog 24 #[.agg #[.int .i64 r.k, .int .i64 r.n, .string r.s, .slice A r.ps.length c]] w fun e w' => ∃ A c, e = .returned (.tuple #[.agg #[.int .i64 o.k, .int .i64 o.n, .string o.s, .slice A o.ps.length c], .bool y]) ∧ exW D w' A o.ps ∧ Below w.heap.size w w') := Lib.hid (fun A c w h1 h2 => by rw [ho, hy, hD]; exact specGuardedBy h1 hs h2)
  have HIM : Hid (∀ (A : Option Addr) (c : Nat) (w : World), exW d w A r.ps → Calls Try.prog 25 #[.agg #[.int .i64 r.k, .int .i64 r.n, .string r.s, .slice A r.ps.length c]] w fun e w' => ∃ A c, e = .returned (.tuple #[.agg #[.int .i64 o.k, .int .i64 o.n, .string o.s, .slice A o.ps.length c], .bool y]) ∧ exT D w.heap.size w'.heap.size w' (.slice A o.ps.length c) o.ps ∧ Below w.heap.size w w') := Lib.hid (fun A c w h1 => by rw [ho, hy, hD]; exact implGuardedBy h1 hs)
  have HCB : Hid (∀ (A : Option Addr) (w : World), exW D w A o.ps → cntS D o.ps ≤ 40) := Lib.hid (fun A w h => by rw [ho] at h ⊢; exact gb_cnt h)
  clear ho hy hD
  obtain ⟨g, hg⟩ : ∃ g, g = w.heap.size := ⟨_, rfl⟩
  obtain ⟨W, hW⟩ : ∃ W, W = w.alloc (.cells #[.int .i64 r.k, .int .i64 r.n, .string r.s, .slice A r.ps.length c] 48) := ⟨_, rfl⟩
  have hB : Below w.heap.size w W := by rw [hW]; exact below_alloc _ _
  have hq : W.heap[g]? = some (.cells #[.int .i64 r.k, .int .i64 r.n, .string r.s, .slice A r.ps.length c] 48 (0, 0)) := by rw [hW, hg]; exact heap_alloc_new _ _
  have HU00 : Hid (exS d 0 w.heap.size w A r.ps) := Lib.hid hU
  have HU := Lib.hid (hU.below hB)
  have HQ := Lib.hid hq
  have HW := Lib.hid hW
  have HG := Lib.hid hg
  have HS := Lib.hid hs
  obtain ⟨q0, q1, q2, q3⟩ := cells4 hq
  clear hW hg hq hU hs
  go_enter Try.func5, Try.ntmps5
  go_wp2_with fail
  rw [← HW.out, ← HG.out]
  refine (szExpr_any HU.out HS.out (by omega) (by omega)).mono ?_
  rintro e w1 ⟨z, rfl, hz, hb⟩
  replace hB := ext_trans hB hb
  have HU := Lib.hid (HU.out.below hb)
  have HQ := Lib.hid (block_below HQ.out hb)
  clear q0 q1 q2 q3 hb
  rcases hz with rfl | ⟨y0, y1, hf⟩
  · go_wp2
    go_ret
    exact ⟨rfl, hB⟩
  · have HF := Lib.hid hf
    have hcn : cntS d r.ps ≤ 2097152 := by omega
    have HCN := Lib.hid hcn
    have HKN : Hid ((1 : Int) + 3 * (cntS d r.ps : Nat) ≤ 100000000000000) := Lib.hid (by omega)
    clear hf hcn
    -- the reference
    obtain ⟨q0, q1, q2, q3⟩ := cells4 HQ.out
    go_wp2_with fail
    refine (toExpr_any HU.out HF.out).mono ?_
    rintro e w2 ⟨A1, c1, rfl, hV, hb⟩
    replace hB := ext_trans hB hb
    have HU := Lib.hid (HU.out.below hb)
    have HQ := Lib.hid (block_below HQ.out hb)
    have HV : Hid (exW d w2 A1 r.ps) := Lib.hid (hV.wide (Nat.zero_le _) (Nat.le_refl _))
    clear q0 q1 q2 q3 hb hV
    go_wp2_with fail
    refine (HSP.out _ _ _ HV.out HCN.out).mono ?_
    rintro e w3 ⟨A0, c0, rfl, h0, hb⟩
    replace hB := ext_trans hB hb
    have HU := Lib.hid (HU.out.below hb)
    have HQ := Lib.hid (block_below HQ.out hb)
    have hCB := HCB.out _ _ h0
    have HKO : Hid ((1 : Int) + 3 * (cntS D o.ps : Nat) ≤ 100000000000000) := Lib.hid (by omega)
    obtain ⟨W3, hW3⟩ : ∃ W, W = w3.alloc (.cells #[.int .i64 o.k, .int .i64 o.n, .string o.s, .slice A0 o.ps.length c0] 28) := ⟨_, rfl⟩
    obtain ⟨g4, hg4⟩ : ∃ g, g = w3.heap.size := ⟨_, rfl⟩
    have hb3 : Below w3.heap.size w3 W3 := by rw [hW3]; exact below_alloc _ _
    have hq4 : W3.heap[g4]? = some (.cells #[.int .i64 o.k, .int .i64 o.n, .string o.s, .slice A0 o.ps.length c0] 28 (0, 0)) := by rw [hW3, hg4]; exact heap_alloc_new _ _
    have hs4 : g4 < W3.heap.size := exBlk hq4
    obtain ⟨q0, q1, q2, q3⟩ := cells4 (block_below HQ.out (below_alloc w3 (.cells #[.int .i64 o.k, .int .i64 o.n, .string o.s, .slice A0 o.ps.length c0] 28)))
    have H0 : Hid (exS D 0 g4 W3 A0 o.ps) := Lib.hid (by rw [hg4]; exact exS.below h0 (Nat.le_refl _) hb3)
    replace hB := ext_trans hB hb3
    have HU := Lib.hid (HU.out.below hb3)
    have HQ := Lib.hid (block_below HQ.out hb3)
    have HQ4 := Lib.hid hq4
    have HL0 : Hid (w.heap.size ≤ W3.heap.size ∧ g < W3.heap.size) := Lib.hid ⟨hB.size, exBlk HQ.out⟩
    have HW3 := Lib.hid hW3
    have HG4 := Lib.hid hg4
    have HS4 := Lib.hid hs4
    clear hb h0 hCB hW3 hg4 hb3 hq4 hs4 HV
    -- the argument
    go_wp2_with fail
    rw [← HW3.out, ← HG4.out]
    refine (toExprT HU.out HF.out).mono ?_
    rintro e w4 ⟨A2, c2, rfl, h2, hb⟩
    replace hB := ext_trans hB hb
    have HU := Lib.hid (HU.out.below hb)
    have HQ := Lib.hid (block_below HQ.out hb)
    have HQ4 := Lib.hid (block_below HQ4.out hb)
    have H0 := Lib.hid (exS.below H0.out (Nat.le_of_lt HS4.out) hb)
    obtain ⟨lo, hlo⟩ : ∃ n, n = W3.heap.size := ⟨_, rfl⟩
    obtain ⟨W4, hW4⟩ : ∃ W, W = w4.alloc (.cells #[.int .i64 r.k, .int .i64 r.n, .string r.s, .slice A2 r.ps.length c2] 28) := ⟨_, rfl⟩
    obtain ⟨g6, hg6⟩ : ∃ g, g = w4.heap.size := ⟨_, rfl⟩
    have hb4 : Below w4.heap.size w4 W4 := by rw [hW4]; exact below_alloc _ _
    have hq6 : W4.heap[g6]? = some (.cells #[.int .i64 r.k, .int .i64 r.n, .string r.s, .slice A2 r.ps.length c2] 28 (0, 0)) := by rw [hW4, hg6]; exact heap_alloc_new _ _
    have hlg : lo ≤ g6 := by rw [hlo, hg6]; exact hb.size
    have hg4l : g4 < lo := by rw [hlo]; exact HS4.out
    have HB4l : Hid (lo ≤ g6 ∧ g4 < lo ∧ g6 < W4.heap.size) := Lib.hid ⟨hlg, hg4l, exBlk hq6⟩
    have H2 : Hid (exT d lo g6 W4 (.slice A2 r.ps.length c2) r.ps) := Lib.hid (by rw [hlo, hg6]; exact h2.below (Nat.le_refl _) hb4)
    have HV : Hid (exW d W4 A2 r.ps) := Lib.hid (((h2.rdM rfl).below (Nat.le_refl _) hb4).wide (Nat.zero_le _) hb4.size)
    have HLO : Hid (w.heap.size ≤ lo ∧ g < lo) := Lib.hid (by rw [hlo]; exact HL0.out)
    replace hB := ext_trans hB hb4
    have HU := Lib.hid (HU.out.below hb4)
    have HQ := Lib.hid (block_below HQ.out hb4)
    have HQ4 := Lib.hid (block_below HQ4.out hb4)
    have H0 := Lib.hid (exS.below H0.out (by have := HB4l.out; have := hb.size; omega) hb4)
    have HQ6 := Lib.hid hq6
    have HW4 := Lib.hid hW4
    have HG6 := Lib.hid hg6
    clear hb h2 hlo hW4 hg6 hb4 hq6 hlg hg4l q0 q1 q2 q3 HL0 HW3
    -- the program
    go_wp2_with fail
    rw [← HW4.out, ← HG6.out]
    refine (HIM.out _ _ _ HV.out).mono ?_
    rintro e w5 ⟨A3, c3, rfl, h3, hb⟩
    replace hB := ext_trans hB hb
    have HU := Lib.hid (HU.out.below hb)
    have HV := Lib.hid (HV.out.below hb)
    have HQ := Lib.hid (block_below HQ.out hb)
    have HQ4 := Lib.hid (block_below HQ4.out hb)
    have HQ6 := Lib.hid (block_below HQ6.out hb)
    have H0 := Lib.hid (exS.below H0.out (by have := HB4l.out; omega) hb)
    have H2 := Lib.hid (H2.out.below (by have := HB4l.out; omega) hb)
    obtain ⟨l7, hl7⟩ : ∃ n, n = W4.heap.size := ⟨_, rfl⟩
    obtain ⟨W5, hW5⟩ : ∃ W, W = w5.alloc (.cells #[.int .i64 o.k, .int .i64 o.n, .string o.s, .slice A3 o.ps.length c3] 28) := ⟨_, rfl⟩
    obtain ⟨g7, hg7⟩ : ∃ g, g = w5.heap.size := ⟨_, rfl⟩
    have hb5 : Below w5.heap.size w5 W5 := by rw [hW5]; exact below_alloc _ _
    have hq7 : W5.heap[g7]? = some (.cells #[.int .i64 o.k, .int .i64 o.n, .string o.s, .slice A3 o.ps.length c3] 28 (0, 0)) := by rw [hW5, hg7]; exact heap_alloc_new _ _
    have H7l : Hid (l7 ≤ g7 ∧ g6 < l7 ∧ g7 < W5.heap.size) := Lib.hid ⟨by rw [hl7, hg7]; exact hb.size, by rw [hl7]; exact HB4l.out.2.2, exBlk hq7⟩
    have H3 : Hid (exT D l7 g7 W5 (.slice A3 o.ps.length c3) o.ps) := Lib.hid (by rw [hl7, hg7]; exact h3.below (Nat.le_refl _) hb5)
    have HX3 : Hid (exW D W5 A3 o.ps) := Lib.hid (((h3.rdM rfl).below (Nat.le_refl _) hb5).wide (Nat.zero_le _) hb5.size)
    obtain ⟨p0, p1, p2, p3⟩ := cells4 (block_below HQ4.out (below_alloc w5 (.cells #[.int .i64 o.k, .int .i64 o.n, .string o.s, .slice A3 o.ps.length c3] 28)))
    replace hB := ext_trans hB hb5
    have HU := Lib.hid (HU.out.below hb5)
    have HV := Lib.hid (HV.out.below hb5)
    have HQ := Lib.hid (block_below HQ.out hb5)
    have HQ4 := Lib.hid (block_below HQ4.out hb5)
    have HQ6 := Lib.hid (block_below HQ6.out hb5)
    have H0 := Lib.hid (exS.below H0.out (by have := HB4l.out; have := H7l.out; omega) hb5)
    have H2 := Lib.hid (H2.out.below (by have := HB4l.out; have := H7l.out; omega) hb5)
    have HX0 : Hid (exW D W5 A0 o.ps) := Lib.hid (exS.wide H0.out (Nat.le_refl _) (by have := HB4l.out; have := H7l.out; omega))
    have HQ7 := Lib.hid hq7
    have HW5 := Lib.hid hW5
    have HG7 := Lib.hid hg7
    clear hb h3 hl7 hW5 hg7 hb5 hq7 HW4
    go_wp2_with fail
    rw [← HW5.out, ← HG7.out]
    refine (eqExpr_any HX3.out HX0.out).mono ?_
    rintro e w6 ⟨rfl, hb⟩
    rw [sameX_self]
    replace hB := ext_trans hB hb
    have HU := Lib.hid (HU.out.below hb)
    have HV := Lib.hid (HV.out.below hb)
    have HQ := Lib.hid (block_below HQ.out hb)
    have HQ4 := Lib.hid (block_below HQ4.out hb)
    have HQ6 := Lib.hid (block_below HQ6.out hb)
    have HQ7 := Lib.hid (block_below HQ7.out hb)
    have H0 := Lib.hid (exS.below H0.out (by have := HB4l.out; have := H7l.out; omega) hb)
    have H2 := Lib.hid (H2.out.below (by have := HB4l.out; have := H7l.out; omega) hb)
    have H3 := Lib.hid (H3.out.below (by have := HB4l.out; have := H7l.out; omega) hb)
    clear p0 p1 p2 p3 hb HX3 HX0
    -- the argument as it was
    obtain ⟨q0, q1, q2, q3⟩ := cells4 HQ.out
    obtain ⟨x0, x1, x2, x3⟩ := cells4 HQ6.out
    go_wp2_with fail
    refine wp_region_kinds2 (fun i wz vz => match i with | 0 => vz = .agg #[.int .i64 r.k, .int .i64 r.n, .string r.s, .slice A2 r.ps.length c2] | 1 => vz = .agg #[.int .i64 r.k, .int .i64 r.n, .string r.s, .slice A r.ps.length c] | 2 => ExV d r wz vz | 3 => vz = .bool true | 4 => vz = .bool false | _ => True) (fun _ wz => Below w6.heap.size w6 wz) (fun i w w' => Below w.heap.size w w') (fun _ => Option.none) (by kernel_rfl) (by kernel_rfl) (by kernel_rfl) ?stab10 (ext_drew (Below.refl _ _)) ?all10 ?fin10
    case stab10 =>
      intro i j wa wb v hR hk hne hd _ h2 hT
      match j, hk, hne, hd, h2, hT with
      | 0, hk, hne, hd, h2, hT => exact hT
      | 1, hk, hne, hd, h2, hT => exact hT
      | 2, hk, hne, hd, h2, hT => exact ExV.below hT hR
      | 3, hk, hne, hd, h2, hT => exact hT
      | 4, hk, hne, hd, h2, hT => exact hT
      | n + 5, _, _, _, _, _ => trivial
    case all10 =>
      refine RAll.cons rfl ?_ (RAll.cons rfl ?_ (RAll.cons rfl ?_ (RAll.cons rfl ?_ (RAll.cons rfl ?_ (RAll.none_)))))
      · intro a k wa K Q _ hI hp hK
        have e6 := tmp_of (show a.eval (.tmp 6) = .pointer (some ⟨g6, 0, none⟩) from hp.keep 6 (by kernel_rfl))
        have x0_ := below_cell hI x0
        have x1_ := below_cell hI x1
        have x2_ := below_cell hI x2
        have x3_ := below_cell hI x3
        go_simp
        exact hK _ _ rfl (Below.refl _ _) hI
      · intro a k wa K Q _ hI hp hK
        have e1 := tmp_of (show a.eval (.tmp 1) = .pointer (some ⟨g, 0, none⟩) from hp.keep 1 (by kernel_rfl))
        have q0_ := below_cell hI q0
        have q1_ := below_cell hI q1
        have q2_ := below_cell hI q2
        have q3_ := below_cell hI q3
        go_simp
        exact hK _ _ rfl (Below.refl _ _) hI
      · intro a k wa K Q _ hI hp hK
        have e42 := tmp_of (show a.eval (.tmp 42) = .agg #[.int .i64 r.k, .int .i64 r.n, .string r.s, .slice A r.ps.length c] from hp.dep 1 42 (by kernel_rfl))
        go_simp
        refine (toExpr_any (HU.out.below hI) HF.out).mono ?_
        rintro e wb ⟨A8, c8, rfl, h8, hb⟩
        exact hK _ _ ⟨A8, c8, rfl, h8.wide (Nat.zero_le _) (Nat.le_refl _)⟩ hb (ext_trans hI hb)
      · intro a k wa K Q _ hI hp hK
        have e41 := tmp_of (show a.eval (.tmp 41) = .agg #[.int .i64 r.k, .int .i64 r.n, .string r.s, .slice A2 r.ps.length c2] from hp.dep 0 41 (by kernel_rfl))
        have t43 : ExV d r wa (a.eval (.tmp 43)) := hp.dep 2 43 (by kernel_rfl)
        obtain ⟨A8, c8, e43, h8⟩ := t43
        replace e43 := tmp_of e43
        go_simp
        refine (eqExpr_any (r := r) (r' := r) (HV.out.below hI) h8).mono ?_
        rintro e wb ⟨rfl, hb⟩
        rw [sameX_self]
        exact hK _ _ rfl hb (ext_trans hI hb)
      · intro a k wa K Q _ hI hp hK
        have e44 := tmp_of (show a.eval (.tmp 44) = .bool true from hp.dep 3 44 (by kernel_rfl))
        go_simp
        exact hK _ _ (rfl) (Below.refl _ _) hI
    case fin10 =>
      intro f w7 hT hI0
      have hI : Below w6.heap.size w6 w7 := hI0
      have hr4 : (f 4) = .bool false := hT 4 (by decide) rfl rfl
      clear hT hI0
      simp only [putAll, hr4]
      have hb := hI
      clear hI hr4
      replace hB := ext_trans hB hb
      have H0 := Lib.hid (exS.below H0.out (by have := HB4l.out; have := H7l.out; have := exBlk HQ7.out; omega) hb)
      have H2 := Lib.hid (H2.out.below (by have := HB4l.out; have := H7l.out; have := exBlk HQ7.out; omega) hb)
      have H3 := Lib.hid (H3.out.below (by have := HB4l.out; have := H7l.out; have := exBlk HQ7.out; omega) hb)
      have HQ := Lib.hid (block_below HQ.out hb)
      have HQ4 := Lib.hid (block_below HQ4.out hb)
      have HQ6 := Lib.hid (block_below HQ6.out hb)
      have HQ7 := Lib.hid (block_below HQ7.out hb)
      clear q0 q1 q2 q3 x0 x1 x2 x3 hb HV HU
      go_simp
      obtain ⟨x0, x1, x2, x3⟩ := cells4 HQ6.out
      go_wp2_with fail
      refine (markExpr_any H2.out (by have := HB4l.out; have := H7l.out; have := exBlk HQ7.out; omega) (by omega) HKN.out).mono ?_
      rintro e w8 ⟨rfl, h2, hs⟩
      have hk1 : (0 : Int) ≤ 1 + 3 * (cntS d r.ps : Nat) := by omega
      obtain ⟨z1, hz1⟩ : ∃ z, z = (1 : Int) + 3 * (cntS d r.ps : Nat) := ⟨_, rfl⟩
      rw [← hz1] at hk1 ⊢
      replace hB := Span.below hB hs hB.size HLO.out.1
      have H0 := Lib.hid (exW.span H0.out hs (by have := HB4l.out; have := H7l.out; have := exBlk HQ7.out; omega) (.inl (by have := HLO.out; have := HB4l.out; have := H7l.out; omega)))
      have H3 := Lib.hid (H3.out.span hs (by have := HB4l.out; have := H7l.out; have := exBlk HQ7.out; omega) (.inr (by have := HLO.out; have := HB4l.out; have := H7l.out; omega)))
      have HQ := Lib.hid (block_span HQ.out hs (.inl (by have := HLO.out; have := HB4l.out; have := H7l.out; omega)))
      have HQ4 := Lib.hid (block_span HQ4.out hs (.inl (by have := HLO.out; have := HB4l.out; have := H7l.out; omega)))
      have HQ6 := Lib.hid (block_span HQ6.out hs (.inr (by have := HLO.out; have := HB4l.out; have := H7l.out; omega)))
      have HQ7 := Lib.hid (block_span HQ7.out hs (.inr (by have := HLO.out; have := HB4l.out; have := H7l.out; omega)))
      have HX3 : Hid (exW D w8 A3 o.ps) := Lib.hid ((H3.out.rdM rfl).wide (Nat.zero_le _) (by have := HB4l.out; have := H7l.out; have := exBlk HQ7.out; omega))
      have HX0 : Hid (exW D w8 A0 o.ps) := Lib.hid (exS.wide H0.out (Nat.le_refl _) (by have := HB4l.out; have := H7l.out; have := exBlk HQ7.out; omega))
      clear h2 hs x0 x1 x2 x3 H2 HKN hz1
      obtain ⟨p0, p1, p2, p3⟩ := cells4 HQ4.out
      obtain ⟨x0, x1, x2, x3⟩ := cells4 HQ7.out
      go_wp2_with fail
      refine (eqExpr_any HX3.out HX0.out).mono ?_
      rintro e w9 ⟨rfl, hb⟩
      rw [sameX_self]
      replace hB := ext_trans hB hb
      have H0 := Lib.hid (exS.below H0.out (by have := HB4l.out; have := H7l.out; have := exBlk HQ7.out; omega) hb)
      have H3 := Lib.hid (H3.out.below (by have := HB4l.out; have := H7l.out; have := exBlk HQ7.out; omega) hb)
      have HQ := Lib.hid (block_below HQ.out hb)
      have HQ4 := Lib.hid (block_below HQ4.out hb)
      have HQ7 := Lib.hid (block_below HQ7.out hb)
      clear p0 p1 p2 p3 x0 x1 x2 x3 hb HX3 HX0 HQ6
      obtain ⟨x0, x1, x2, x3⟩ := cells4 HQ7.out
      go_wp2_with fail
      refine (markExpr_any H3.out (by have := HB4l.out; have := H7l.out; have := exBlk HQ7.out; omega) (by omega) HKO.out).mono ?_
      rintro e w10 ⟨rfl, h3, hs⟩
      replace hB := Span.below hB hs hB.size (by have := HLO.out; have := HB4l.out; have := H7l.out; omega)
      have H0 := Lib.hid (exW.span H0.out hs (by have := HB4l.out; have := H7l.out; have := exBlk HQ7.out; omega) (.inl (by have := HLO.out; have := HB4l.out; have := H7l.out; omega)))
      have HQ := Lib.hid (block_span HQ.out hs (.inl (by have := HLO.out; have := HB4l.out; have := H7l.out; omega)))
      have HQ4 := Lib.hid (block_span HQ4.out hs (.inl (by have := HLO.out; have := HB4l.out; have := H7l.out; omega)))
      have HQ7 := Lib.hid (block_span HQ7.out hs (.inr (by have := HLO.out; have := HB4l.out; have := H7l.out; omega)))
      have HM3 := Lib.hid h3
      have HX3 : Hid (exW D w10 A3 (mkL D 1 o.ps)) := Lib.hid ((h3.rdM (by rw [mkL_len])).wide (Nat.zero_le _) (by have := HB4l.out; have := H7l.out; have := exBlk HQ7.out; omega))
      clear h3 hs x0 x1 x2 x3 H3
      obtain ⟨x0, x1, x2, x3⟩ := cells4 HQ7.out
      have hk2 : (0 : Int) ≤ 1 + 3 * (cntS D o.ps : Nat) := by omega
      have HK2 : Hid ((1 : Int) + 3 * (cntS D o.ps : Nat) ≤ 100000000000000) := HKO
      have HHE : Hid (∀ (w : World), exW D w A3 (mkL D 1 o.ps) → Calls Try.prog 27 #[.agg #[.int .i64 o.k, .int .i64 o.n, .string o.s, .slice A3 o.ps.length c3], .int .i64 1] w fun e w' => e = .returned (.int .i64 (1 + 3 * (cntS D o.ps : Nat))) ∧ Below w.heap.size w w') := Lib.hid (fun w h => heldExpr_any h (by omega) HKO.out)
      obtain ⟨z2, hz2⟩ : ∃ z, z = (1 : Int) + 3 * (cntS D o.ps : Nat) := ⟨_, rfl⟩
      rw [← hz2] at hk2 HHE ⊢
      clear hz2 HK2 HKO
      go_wp2_with fail
      refine (HHE.out _ HX3.out).mono ?_
      rintro e w11 ⟨rfl, hb⟩
      replace hB := ext_trans hB hb
      have H0 := Lib.hid (exS.below H0.out (by have := HB4l.out; have := H7l.out; have := exBlk HQ7.out; omega) hb)
      have HM3 := Lib.hid (HM3.out.below (by have := HB4l.out; have := H7l.out; have := exBlk HQ7.out; omega) hb)
      have HQ := Lib.hid (block_below HQ.out hb)
      have HQ4 := Lib.hid (block_below HQ4.out hb)
      have HQ7 := Lib.hid (block_below HQ7.out hb)
      have HU := Lib.hid ((exS.below HU00.out (Nat.le_refl _) hB).wide (Nat.le_refl _) hB.size)
      clear x0 x1 x2 x3 hb HX3
      obtain ⟨q0, q1, q2, q3⟩ := cells4 HQ.out
      -- again
      go_wp2_with fail
      refine (toExpr_any HU.out HF.out).mono ?_
      rintro e w12 ⟨A8, c8, rfl, hV, hb⟩
      replace hB := ext_trans hB hb
      have H0 := Lib.hid (exS.below H0.out (by have := HB4l.out; have := H7l.out; have := exBlk HQ7.out; omega) hb)
      have HM3 := Lib.hid (HM3.out.below (by have := HB4l.out; have := H7l.out; have := exBlk HQ7.out; omega) hb)
      have HQ4 := Lib.hid (block_below HQ4.out hb)
      have HQ7 := Lib.hid (block_below HQ7.out hb)
      have HV : Hid (exW d w12 A8 r.ps) := Lib.hid (hV.wide (Nat.zero_le _) (Nat.le_refl _))
      clear q0 q1 q2 q3 hb hV HU HQ
      go_wp2_with fail
      refine (HIM.out _ _ _ HV.out).mono ?_
      rintro e w13 ⟨A9, c9, rfl, h9, hb⟩
      replace hB := ext_trans hB hb
      have H0 := Lib.hid (exS.below H0.out (by have := HB4l.out; have := H7l.out; have := exBlk HQ7.out; omega) hb)
      have HM3 := Lib.hid (HM3.out.below (by have := HB4l.out; have := H7l.out; have := exBlk HQ7.out; omega) hb)
      have HQ4 := Lib.hid (block_below HQ4.out hb)
      have HQ7 := Lib.hid (block_below HQ7.out hb)
      obtain ⟨W13, hW13⟩ : ∃ W, W = w13.alloc (.cells #[.int .i64 o.k, .int .i64 o.n, .string o.s, .slice A9 o.ps.length c9] 28) := ⟨_, rfl⟩
      have HX9 : Hid (exW D W13 A9 o.ps) := Lib.hid (((h9.rdM rfl).below (Nat.le_refl _) (by rw [hW13]; exact below_alloc _ _)).wide (Nat.zero_le _) (by rw [hW13]; exact (below_alloc w13 _).size))
      clear hb h9 HV
      obtain ⟨p0, p1, p2, p3⟩ := cells4 (block_below HQ4.out (below_alloc w13 (.cells #[.int .i64 o.k, .int .i64 o.n, .string o.s, .slice A9 o.ps.length c9] 28)))
      have hb : Below w13.heap.size w13 W13 := by rw [hW13]; exact below_alloc _ _
      replace hB := ext_trans hB hb
      have H0 := Lib.hid (exS.below H0.out (by have := HB4l.out; have := H7l.out; have := exBlk HQ7.out; omega) hb)
      have HM3 := Lib.hid (HM3.out.below (by have := HB4l.out; have := H7l.out; have := exBlk HQ7.out; omega) hb)
      have HQ4 := Lib.hid (block_below HQ4.out hb)
      have HQ7 := Lib.hid (block_below HQ7.out hb)
      have HX0 : Hid (exW D W13 A0 o.ps) := Lib.hid (exS.wide H0.out (Nat.le_refl _) (by have := HB4l.out; have := H7l.out; have := exBlk HQ7.out; omega))
      have HW13 := Lib.hid hW13
      clear hW13 hb
      go_wp2_with fail
      rw [← HW13.out]
      refine (eqExpr_any HX9.out HX0.out).mono ?_
      rintro e w14 ⟨rfl, hb⟩
      rw [sameX_self]
      replace hB := ext_trans hB hb
      have HM3 := Lib.hid (HM3.out.below (by have := HB4l.out; have := H7l.out; have := exBlk HQ7.out; omega) hb)
      have HQ7 := Lib.hid (block_below HQ7.out hb)
      have HX3 : Hid (exW D w14 A3 (mkL D 1 o.ps)) := Lib.hid ((HM3.out.rdM (by rw [mkL_len])).wide (Nat.zero_le _) (by have := HB4l.out; have := H7l.out; have := exBlk HQ7.out; omega))
      clear p0 p1 p2 p3 hb HX9 HX0
      obtain ⟨x0, x1, x2, x3⟩ := cells4 HQ7.out
      go_wp2_with fail
      refine (HHE.out _ HX3.out).mono ?_
      rintro e w15 ⟨rfl, hb⟩
      replace hB := ext_trans hB hb
      clear x0 x1 x2 x3 hb HX3
      go_wp2
      go_ret
      exact ⟨rfl, hB⟩
end Go.Proofs.Ytodjokdaofefdaa

/- Guarded, by the program and by the reference; the exact law, walked. -/
import Derived.Test.YtodjokdaofefdaaGdR
import Derived.Test.YtodjokdaofefdaaGdK
import Derived.Test.YtodjokdaofefdaaExC
namespace Go.Proofs.Ytodjokdaofefdaa
set_option linter.unusedSimpArgs false
set_option linter.unusedVariables false
open Go.RowKit

theorem ok_parts {d : Nat} {r : Ex} (hin : inD (d + 1) r) (h : exOk r = true) : gdR (d + 1) r = true ∧ 1 + cntR (d + 1) r ≤ 40 := by
  rw [exOk_eq hin] at h
  simp only [Bool.and_eq_true, decide_eq_true_eq] at h
  exact ⟨h.1, h.2.1⟩
noncomputable def guOk (d : Nat) (r : Ex) : Bool := exOk r && guI (d + 1) r []
theorem gu_same {d : Nat} {r : Ex} (hg : gdR (d + 1) r = true) : guS (d + 1) r [] = guI (d + 1) r [] := gu_eq (d + 1) r [] [] hg (fun _ _ => rfl)
set_option maxRecDepth 100000 in
set_option maxHeartbeats 2000000 in
theorem specGuarded {d : Nat} {A : Option Addr} {r : Ex} {c : Nat} {w : World} (hU : exW d w A r.ps) (hs : r.s.size ≤ 9223372036854775807) (hcnt : cntS d r.ps ≤ 2097152) :
    Calls Try.prog 21 #[.agg #[.int .i64 r.k, .int .i64 r.n, .string r.s, .slice A r.ps.length c]] w fun e w' => e = .returned (.bool (guOk d r)) ∧ Below w.heap.size w w' := by
  have hlen := exS.len hU
  obtain ⟨W, hW⟩ : ∃ W, W = w.alloc (.cells #[.int .i64 r.k, .int .i64 r.n, .string r.s, .slice A r.ps.length c] 28) := ⟨_, rfl⟩
  obtain ⟨gx, hgx⟩ : ∃ g, g = w.heap.size := ⟨_, rfl⟩
  have hB : Below w.heap.size w W := by rw [hW]; (repeat (first | exact Below.refl _ _ | refine ext_alloc ?_ _ | refine Below.setCell ?_ (by simp) _))
  have b0 : W.cell? ⟨gx, 0, none⟩ = some (.int .i64 r.k) := by rw [hW, hgx]; exact box_cell w _ _ 0 _ rfl
  have b1 : W.cell? ⟨gx, 1, none⟩ = some (.int .i64 r.n) := by rw [hW, hgx]; exact box_cell w _ _ 1 _ rfl
  have b2 : W.cell? ⟨gx, 2, none⟩ = some (.string r.s) := by rw [hW, hgx]; exact box_cell w _ _ 2 _ rfl
  have b3 : W.cell? ⟨gx, 3, none⟩ = some (.slice A r.ps.length c) := by rw [hW, hgx]; exact box_cell w _ _ 3 _ rfl
  have hUW := hU.below hB
  have hin := exS_in hU
  have HW := Lib.hid hW
  have HGX := Lib.hid hgx
  clear hW hgx hU
  cases hok : exOk r
  · have HR : Hid (guOk d r = false) := Lib.hid (by rw [guOk, hok]; rfl)
    go_enter Try.func21, Try.ntmps21
    go_wp2_with fail
    rw [← HW.out, ← HGX.out]
    refine (specExprValid hUW hs hcnt).mono ?_
    rintro e w1 ⟨rfl, hb⟩
    rw [hok, HGX.out]
    replace hB := ext_trans hB hb
    go_wp2
    go_ret
    exact ⟨by rw [HR.out]; rfl, hB⟩
  · obtain ⟨hg, hc40⟩ := ok_parts hin hok
    obtain ⟨y, hy⟩ : ∃ y, guI (d + 1) r [] = y := ⟨_, rfl⟩
    have HR : Hid (guOk d r = y) := Lib.hid (by rw [guOk, hok, hy]; rfl)
    have HS : Hid (guS (d + 1) r [] = y) := Lib.hid (by rw [gu_same hg]; exact hy)
    have HG := Lib.hid hg
    have HC := Lib.hid (show ([] : ExL).length + 1 + cntR (d + 1) r ≤ 1048576 by simp; omega)
    clear hg hc40 hy
    go_enter Try.func21, Try.ntmps21
    go_wp2_with fail
    rw [← HW.out, ← HGX.out]
    refine (specExprValid hUW hs hcnt).mono ?_
    rintro e w1 ⟨rfl, hb⟩
    rw [hok]
    replace hB := ext_trans hB hb
    replace b0 := below_cell hb b0
    replace b1 := below_cell hb b1
    replace b2 := below_cell hb b2
    replace b3 := below_cell hb b3
    replace hUW := hUW.below hb
    clear hb
    go_wp2_with fail
    refine (gsQ_all (d + 1) d _ _ r [] c _ _ (hUW.below (below_alloc _ _)) hs exS.nil (Nat.le_refl _) HG.out HC.out).mono ?_
    rintro e w2 ⟨rfl, hb⟩
    rw [HS.out, HGX.out]
    replace hB := ext_trans hB (ext_trans (below_alloc _ _) hb)
    go_wp2
    go_ret
    exact ⟨by rw [HR.out]; rfl, hB⟩
set_option maxRecDepth 100000 in
set_option maxHeartbeats 2000000 in
theorem implGuarded {d : Nat} {A : Option Addr} {r : Ex} {c : Nat} {w : World} (hU : exW d w A r.ps) (hs : r.s.size ≤ 9223372036854775807) :
    Calls Try.prog 17 #[.agg #[.int .i64 r.k, .int .i64 r.n, .string r.s, .slice A r.ps.length c]] w fun e w' => e = .returned (.bool (guOk d r)) ∧ Below w.heap.size w w' := by
  have hlen := exS.len hU
  obtain ⟨W, hW⟩ : ∃ W, W = w.alloc (.cells #[.int .i64 r.k, .int .i64 r.n, .string r.s, .slice A r.ps.length c] 28) := ⟨_, rfl⟩
  obtain ⟨gx, hgx⟩ : ∃ g, g = w.heap.size := ⟨_, rfl⟩
  have hB : Below w.heap.size w W := by rw [hW]; (repeat (first | exact Below.refl _ _ | refine ext_alloc ?_ _ | refine Below.setCell ?_ (by simp) _))
  have b0 : W.cell? ⟨gx, 0, none⟩ = some (.int .i64 r.k) := by rw [hW, hgx]; exact box_cell w _ _ 0 _ rfl
  have b1 : W.cell? ⟨gx, 1, none⟩ = some (.int .i64 r.n) := by rw [hW, hgx]; exact box_cell w _ _ 1 _ rfl
  have b2 : W.cell? ⟨gx, 2, none⟩ = some (.string r.s) := by rw [hW, hgx]; exact box_cell w _ _ 2 _ rfl
  have b3 : W.cell? ⟨gx, 3, none⟩ = some (.slice A r.ps.length c) := by rw [hW, hgx]; exact box_cell w _ _ 3 _ rfl
  have hUW := hU.below hB
  have hin := exS_in hU
  have HW := Lib.hid hW
  have HGX := Lib.hid hgx
  clear hW hgx hU
  cases hok : exOk r
  · have HR : Hid (guOk d r = false) := Lib.hid (by rw [guOk, hok]; rfl)
    go_enter Try.func17, Try.ntmps17
    go_wp2_with fail
    rw [← HW.out, ← HGX.out]
    refine (implExprValid hUW hs).mono ?_
    rintro e w1 ⟨rfl, hb⟩
    rw [hok, HGX.out]
    replace hB := ext_trans hB hb
    go_wp2
    go_ret
    exact ⟨by rw [HR.out]; rfl, hB⟩
  · obtain ⟨hg, hc40⟩ := ok_parts hin hok
    obtain ⟨y, hy⟩ : ∃ y, guI (d + 1) r [] = y := ⟨_, rfl⟩
    have HR : Hid (guOk d r = y) := Lib.hid (by rw [guOk, hok, hy]; rfl)
    have HS := Lib.hid hy
    have HG := Lib.hid hg
    have HC := Lib.hid (show ([] : ExL).length + 1 + cntR (d + 1) r ≤ 1048576 by simp; omega)
    clear hg hc40 hy
    go_enter Try.func17, Try.ntmps17
    go_wp2_with fail
    rw [← HW.out, ← HGX.out]
    refine (implExprValid hUW hs).mono ?_
    rintro e w1 ⟨rfl, hb⟩
    rw [hok]
    replace hB := ext_trans hB hb
    replace b0 := below_cell hb b0
    replace b1 := below_cell hb b1
    replace b2 := below_cell hb b2
    replace b3 := below_cell hb b3
    replace hUW := hUW.below hb
    clear hb
    go_wp2_with fail
    refine (giQ_all (d + 1) d _ _ r [] c _ _ hUW hs exS.nil (Nat.le_refl _) HG.out HC.out).mono ?_
    rintro e w2 ⟨rfl, hb⟩
    rw [HS.out, HGX.out]
    replace hB := ext_trans hB hb
    go_wp2
    go_ret
    exact ⟨by rw [HR.out]; rfl, hB⟩
/-- An expression that reads. -/
def ExV (d : Nat) (r : Ex) (w : World) (v : Value) : Prop := ∃ A c, v = .agg #[.int .i64 r.k, .int .i64 r.n, .string r.s, .slice A r.ps.length c] ∧ exW d w A r.ps
theorem ExV.below {d : Nat} {r : Ex} {w w' : World} {v : Value} (h : ExV d r w v) (hb : Below w.heap.size w w') : ExV d r w' v := let ⟨A, c, e, h⟩ := h; ⟨A, c, e, h.below hb⟩
set_option maxRecDepth 100000 in
set_option maxHeartbeats 4000000 in
theorem lawExactGuarded {d : Nat} {A : Option Addr} {r : Ex} {c : Nat} {w : World} (hU : exW d w A r.ps) (hs : r.s.size ≤ 9223372036854775807) :
    Calls Try.prog 4 #[.agg #[.int .i64 r.k, .int .i64 r.n, .string r.s, .slice A r.ps.length c]] w fun e w' => e = .returned (.bool true) ∧ Below w.heap.size w w' := by
  have hlen := exS.len hU
  obtain ⟨W, hW⟩ : ∃ W, W = w.alloc (.cells #[.int .i64 r.k, .int .i64 r.n, .string r.s, .slice A r.ps.length c] 48) := ⟨_, rfl⟩
  obtain ⟨g, hg⟩ : ∃ g, g = w.heap.size := ⟨_, rfl⟩
  have hB : Below w.heap.size w W := by rw [hW]; (repeat (first | exact Below.refl _ _ | refine ext_alloc ?_ _ | refine Below.setCell ?_ (by simp) _))
  have q0 : W.cell? ⟨g, 0, none⟩ = some (.int .i64 r.k) := by rw [hW, hg]; exact box_cell w _ _ 0 _ rfl
  have q1 : W.cell? ⟨g, 1, none⟩ = some (.int .i64 r.n) := by rw [hW, hg]; exact box_cell w _ _ 1 _ rfl
  have q2 : W.cell? ⟨g, 2, none⟩ = some (.string r.s) := by rw [hW, hg]; exact box_cell w _ _ 2 _ rfl
  have q3 : W.cell? ⟨g, 3, none⟩ = some (.slice A r.ps.length c) := by rw [hW, hg]; exact box_cell w _ _ 3 _ rfl
  replace hU := hU.below hB
  have HW := Lib.hid hW
  have HG := Lib.hid hg
  clear hW hg
  go_enter Try.func4, Try.ntmps4
  go_wp2_with fail
  rw [← HW.out, ← HG.out]
  refine (szExpr_any hU hs (by omega) (by omega)).mono ?_
  rintro e w1 ⟨y, rfl, hy, hBc⟩
  replace hB := ext_trans hB hBc
  replace hU := hU.below hBc
  replace q0 := below_cell hBc q0
  replace q1 := below_cell hBc q1
  replace q2 := below_cell hBc q2
  replace q3 := below_cell hBc q3
  clear hBc
  rcases hy with rfl | ⟨y0, y1, hf⟩
  · go_wp2
    go_ret
    exact ⟨rfl, hB⟩
  · have HF := Lib.hid hf
    have HCN := Lib.hid (show cntS d r.ps ≤ 2097152 by omega)
    clear hf
    go_wp2_with fail
    refine (toExpr_any hU HF.out).mono ?_
    rintro e w2 ⟨A1, c1, rfl, hV, hBc⟩
    replace hB := ext_trans hB hBc
    replace hU := hU.below hBc
    replace q0 := below_cell hBc q0
    replace q1 := below_cell hBc q1
    replace q2 := below_cell hBc q2
    replace q3 := below_cell hBc q3
    have hV' : exW d w2 A1 r.ps := hV.wide (Nat.zero_le _) (Nat.le_refl _)
    clear hBc hV
    go_wp2_with fail
    refine (specGuarded hV' hs HCN.out).mono ?_
    rintro e w3 ⟨rfl, hBc⟩
    replace hB := ext_trans hB hBc
    replace hU := hU.below hBc
    replace q0 := below_cell hBc q0
    replace q1 := below_cell hBc q1
    replace q2 := below_cell hBc q2
    replace q3 := below_cell hBc q3
    obtain ⟨z, hz⟩ : ∃ z, guOk d r = z := ⟨_, rfl⟩
    have HZ := Lib.hid hz
    rw [hz]
    clear hBc hV' hz
    go_wp2_with fail
    refine (toExpr_any hU HF.out).mono ?_
    rintro e w4 ⟨A2, c2, rfl, hV, hBc⟩
    replace hB := ext_trans hB hBc
    replace hU := hU.below hBc
    replace q0 := below_cell hBc q0
    replace q1 := below_cell hBc q1
    replace q2 := below_cell hBc q2
    replace q3 := below_cell hBc q3
    have hV' : exW d w4 A2 r.ps := hV.wide (Nat.zero_le _) (Nat.le_refl _)
    clear hBc hV
    obtain ⟨X, hX⟩ : ∃ X, X = w4.alloc (.cells #[.int .i64 r.k, .int .i64 r.n, .string r.s, .slice A2 r.ps.length c2] 28) := ⟨_, rfl⟩
    obtain ⟨gx, hgx⟩ : ∃ g, g = w4.heap.size := ⟨_, rfl⟩
    have x0 : X.cell? ⟨gx, 0, none⟩ = some (.int .i64 r.k) := by rw [hX, hgx]; exact box_cell _ _ _ 0 _ rfl
    have x1 : X.cell? ⟨gx, 1, none⟩ = some (.int .i64 r.n) := by rw [hX, hgx]; exact box_cell _ _ _ 1 _ rfl
    have x2 : X.cell? ⟨gx, 2, none⟩ = some (.string r.s) := by rw [hX, hgx]; exact box_cell _ _ _ 2 _ rfl
    have x3 : X.cell? ⟨gx, 3, none⟩ = some (.slice A2 r.ps.length c2) := by rw [hX, hgx]; exact box_cell _ _ _ 3 _ rfl
    have hb4 : Below w4.heap.size w4 X := by rw [hX]; exact below_alloc _ _
    replace hB := ext_trans hB hb4
    replace hU := hU.below hb4
    replace hV' := hV'.below hb4
    replace q0 := below_cell hb4 q0
    replace q1 := below_cell hb4 q1
    replace q2 := below_cell hb4 q2
    replace q3 := below_cell hb4 q3
    have HX := Lib.hid hX
    have HGX := Lib.hid hgx
    clear hX hgx hb4
    go_wp2_with fail
    rw [← HX.out, ← HGX.out]
    refine (implGuarded hV' hs).mono ?_
    rintro e w5 ⟨rfl, hBc⟩
    rw [HZ.out]
    replace hB := ext_trans hB hBc
    replace hU := hU.below hBc
    replace hV' := hV'.below hBc
    replace q0 := below_cell hBc q0
    replace q1 := below_cell hBc q1
    replace q2 := below_cell hBc q2
    replace q3 := below_cell hBc q3
    replace x0 := below_cell hBc x0
    replace x1 := below_cell hBc x1
    replace x2 := below_cell hBc x2
    replace x3 := below_cell hBc x3
    clear hBc
    go_wp2_with fail
    refine wp_region_kinds2 (fun i wz vz => match i with | 0 => vz = .agg #[.int .i64 r.k, .int .i64 r.n, .string r.s, .slice A2 r.ps.length c2] | 1 => vz = .agg #[.int .i64 r.k, .int .i64 r.n, .string r.s, .slice A r.ps.length c] | 2 => ExV d r wz vz | 3 => vz = .bool true | 4 => vz = .bool false | _ => True) (fun _ wz => Below w5.heap.size w5 wz) (fun i w w' => Below w.heap.size w w') (fun _ => Option.none) (by kernel_rfl) (by kernel_rfl) (by kernel_rfl) ?stab10 (ext_drew (Below.refl _ _)) ?all10 ?fin10
    case stab10 =>
      intro i j wa wb v hR hk hne hd _ h2 hT
      match j, hk, hne, hd, h2, hT with
      | 0, hk, hne, hd, h2, hT => exact hT
      | 1, hk, hne, hd, h2, hT => exact hT
      | 2, hk, hne, hd, h2, hT => exact ExV.below hT hR
      | 3, hk, hne, hd, h2, hT => exact hT
      | 4, hk, hne, hd, h2, hT => exact hT
      | n + 5, _, _, _, _, _ => trivial
    case all10 =>
      refine RAll.cons rfl ?_ (RAll.cons rfl ?_ (RAll.cons rfl ?_ (RAll.cons rfl ?_ (RAll.cons rfl ?_ (RAll.none_)))))
      · intro a k wa K Q _ hI hp hK
        have e5 := tmp_of (show a.eval (.tmp 5) = .pointer (some ⟨gx, 0, none⟩) from hp.keep 5 (by kernel_rfl))
        have x0_ := below_cell hI x0
        have x1_ := below_cell hI x1
        have x2_ := below_cell hI x2
        have x3_ := below_cell hI x3
        go_simp
        exact hK _ _ rfl (Below.refl _ _) hI
      · intro a k wa K Q _ hI hp hK
        have e1 := tmp_of (show a.eval (.tmp 1) = .pointer (some ⟨g, 0, none⟩) from hp.keep 1 (by kernel_rfl))
        have q0_ := below_cell hI q0
        have q1_ := below_cell hI q1
        have q2_ := below_cell hI q2
        have q3_ := below_cell hI q3
        go_simp
        exact hK _ _ rfl (Below.refl _ _) hI
      · intro a k wa K Q _ hI hp hK
        have e23 := tmp_of (show a.eval (.tmp 23) = .agg #[.int .i64 r.k, .int .i64 r.n, .string r.s, .slice A r.ps.length c] from hp.dep 1 23 (by kernel_rfl))
        go_simp
        refine (toExpr_any (hU.below hI) HF.out).mono ?_
        rintro e wb ⟨A8, c8, rfl, h8, hb⟩
        exact hK _ _ ⟨A8, c8, rfl, h8.wide (Nat.zero_le _) (Nat.le_refl _)⟩ hb (ext_trans hI hb)
      · intro a k wa K Q _ hI hp hK
        have e22 := tmp_of (show a.eval (.tmp 22) = .agg #[.int .i64 r.k, .int .i64 r.n, .string r.s, .slice A2 r.ps.length c2] from hp.dep 0 22 (by kernel_rfl))
        have t24 : ExV d r wa (a.eval (.tmp 24)) := hp.dep 2 24 (by kernel_rfl)
        obtain ⟨A8, c8, e24, h8⟩ := t24
        replace e24 := tmp_of e24
        go_simp
        refine (eqExpr_any (r := r) (r' := r) (hV'.below hI) h8).mono ?_
        rintro e wb ⟨rfl, hb⟩
        rw [sameX_self]
        exact hK _ _ rfl hb (ext_trans hI hb)
      · intro a k wa K Q _ hI hp hK
        have e25 := tmp_of (show a.eval (.tmp 25) = .bool true from hp.dep 3 25 (by kernel_rfl))
        go_simp
        exact hK _ _ (rfl) (Below.refl _ _) hI
    case fin10 =>
      intro f w9 hT hI0
      have hI : Below w5.heap.size w5 w9 := hI0
      have hr4 : (f 4) = .bool false := hT 4 (by decide) rfl rfl
      clear hT hI0
      simp only [putAll, hr4]
      go_simp
      go_wp2
      go_ret
      exact ⟨rfl, ext_trans hB hI⟩
end Go.Proofs.Ytodjokdaofefdaa

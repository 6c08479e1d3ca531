/- Guarded, by the program and by the reference; the exact law, walked. -/
import Derived.Test.YtodjokdaofefdaaQ4
import Derived.Test.YtodjokdaofefdaaQ5
import Derived.Test.YtodjokdaofefdaaQ2
import Derived.Test.YtodjokdaofefdaaQ3
namespace Go.Proofs.Ytodjokdaofefdaa
set_option linter.unusedSimpArgs false
set_option linter.unusedVariables false
open Go.RowKit

theorem ok_parts {d : Nat} {r : Ex} (hin : inD (d + 1) r) (h : exOk r = true) : gdR (d + 1) r = true ∧ 1 + cntR (d + 1) r ≤ 40 := by
  rw [exOk_eq hin] at h
  simp only [Bool.and_eq_true, decide_eq_true_eq] at h
  exact ⟨h.1, h.2.1⟩
noncomputable def guOk (d : Nat) (r : Ex) : Bool := exOk r && guI (d + 1) r []
theorem gu_same {d : Nat} {r : Ex} (hg : gdR (d + 1) r = true) : guS (d + 1) r [] = guI (d + 1) r [] := gu_eq (d + 1) r [] [] hg (fun _ _ => rfl)
set_option maxRecDepth 100000 in
set_option maxHeartbeats 2000000 in
theorem specGuarded {d : Nat} {A : Option Addr} {r : Ex} {c : Nat} {w : World} (hU : exW d w A r.ps) (hs : r.s.size ≤ 9223372036854775807) (hcnt : cntS d r.ps ≤ 2097152) :
    Calls Try.prog 21 #[.agg #[.int .i64 r.k, .int .i64 r.n, .string r.s, .slice A r.ps.length c]] w fun e w' => e = .returned (.bool (guOk d r)) ∧ Below w.heap.size w w' := by
  have hlen := exS.len hU
  obtain ⟨W, hW⟩ : ∃ W, W = w.alloc (.cells #[.int .i64 r.k, .int .i64 r.n, .string r.s, .slice A r.ps.length c] 28) := ⟨_, rfl⟩
  obtain ⟨gx, hgx⟩ : ∃ g, g = w.heap.size := ⟨_, rfl⟩
  have hB : Below w.heap.size w W := by rw [hW]; (repeat (first | exact Below.refl _ _ | refine ext_alloc ?_ _ | refine Below.setCell ?_ (by simp) _))
  have b0 : W.cell? ⟨gx, 0, none⟩ = some (.int .i64 r.k) := by rw [hW, hgx]; exact box_cell w _ _ 0 _ rfl
  have b1 : W.cell? ⟨gx, 1, none⟩ = some (.int .i64 r.n) := by rw [hW, hgx]; exact box_cell w _ _ 1 _ rfl
  have b2 : W.cell? ⟨gx, 2, none⟩ = some (.string r.s) := by rw [hW, hgx]; exact box_cell w _ _ 2 _ rfl
  have b3 : W.cell? ⟨gx, 3, none⟩ = some (.slice A r.ps.length c) := by rw [hW, hgx]; exact box_cell w _ _ 3 _ rfl
  have hUW := hU.below hB
  have hin := exS_in hU
  have HW := Lib.hid hW
  have HGX := Lib.hid hgx
  clear hW hgx hU
  cases hok : exOk r
  · have HR : Hid (guOk d r = false) := Lib.hid (by rw [guOk, hok]; rfl)
    go_enter Try.func21, Try.ntmps21
    go_wp2_with fail
    rw [← HW.out, ← HGX.out]
    refine (specExprValid hUW hs hcnt).mono ?_
    rintro e w1 ⟨rfl, hb⟩
    rw [hok, HGX.out]
    replace hB := ext_trans hB hb
    go_wp2
    go_ret
    exact ⟨by rw [HR.out]; rfl, hB⟩
  · obtain ⟨hg, hc40⟩ := ok_parts hin hok
    obtain ⟨y, hy⟩ : ∃ y, guI (d + 1) r [] = y := ⟨_, rfl⟩
    have HR : Hid (guOk d r = y) := Lib.hid (by rw [guOk, hok, hy]; rfl)
    have HS : Hid (guS (d + 1) r [] = y) := Lib.hid (by rw [gu_same hg]; exact hy)
    have HG := Lib.hid hg
    have HC := Lib.hid (show ([] : ExL).length + 1 + cntR (d + 1) r ≤ 1048576 by simp; omega)
    clear hg hc40 hy
    go_enter Try.func21, Try.ntmps21
    go_wp2_with fail
    rw [← HW.out, ← HGX.out]
    refine (specExprValid hUW hs hcnt).mono ?_
    rintro e w1 ⟨rfl, hb⟩
    rw [hok]
    replace hB := ext_trans hB hb
    replace b0 := below_cell hb b0
    replace b1 := below_cell hb b1
    replace b2 := below_cell hb b2
    replace b3 := below_cell hb b3
    replace hUW := hUW.below hb
    clear hb
    go_wp2_with fail
    refine (gsQ_all (d + 1) d _ _ r [] c _ _ (hUW.below (below_alloc _ _)) hs exS.nil (Nat.le_refl _) HG.out HC.out).mono ?_
    rintro e w2 ⟨rfl, hb⟩
    rw [HS.out, HGX.out]
    replace hB := ext_trans hB (ext_trans (below_alloc _ _) hb)
    go_wp2
    go_ret
    exact ⟨by rw [HR.out]; rfl, hB⟩
set_option maxRecDepth 100000 in
set_option maxHeartbeats 2000000 in
theorem implGuarded {d : Nat} {A : Option Addr} {r : Ex} {c : Nat} {w : World} (hU : exW d w A r.ps) (hs : r.s.size ≤ 9223372036854775807) :
    Calls Try.prog 17 #[.agg #[.int .i64 r.k, .int .i64 r.n, .string r.s, .slice A r.ps.length c]] w fun e w' => e = .returned (.bool (guOk d r)) ∧ Below w.heap.size w w' := by
  have hlen := exS.len hU
  obtain ⟨W, hW⟩ : ∃ W, W = w.alloc (.cells #[.int .i64 r.k, .int .i64 r.n, .string r.s, .slice A r.ps.length c] 28) := ⟨_, rfl⟩
  obtain ⟨gx, hgx⟩ : ∃ g, g = w.heap.size := ⟨_, rfl⟩
  have hB : Below w.heap.size w W := by rw [hW]; (repeat (first | exact Below.refl _ _ | refine ext_alloc ?_ _ | refine Below.setCell ?_ (by simp) _))
  have b0 : W.cell? ⟨gx, 0, none⟩ = some (.int .i64 r.k) := by rw [hW, hgx]; exact box_cell w _ _ 0 _ rfl
  have b1 : W.cell? ⟨gx, 1, none⟩ = some (.int .i64 r.n) := by rw [hW, hgx]; exact box_cell w _ _ 1 _ rfl
  have b2 : W.cell? ⟨gx, 2, none⟩ = some (.string r.s) := by rw [hW, hgx]; exact box_cell w _ _ 2 _ rfl
  have b3 : W.cell? ⟨gx, 3, none⟩ = some (.slice A r.ps.length c) := by rw [hW, hgx]; exact box_cell w _ _ 3 _ rfl
  have hUW := hU.below hB
  have hin := exS_in hU
  have HW := Lib.hid hW
  have HGX := Lib.hid hgx
  clear hW hgx hU
  cases hok : exOk r
  · have HR : Hid (guOk d r = false) := Lib.hid (by rw [guOk, hok]; rfl)
    go_enter Try.func17, Try.ntmps17
    go_wp2_with fail
    rw [← HW.out, ← HGX.out]
    refine (implExprValid hUW hs).mono ?_
    rintro e w1 ⟨rfl, hb⟩
    rw [hok, HGX.out]
    replace hB := ext_trans hB hb
    go_wp2
    go_ret
    exact ⟨by rw [HR.out]; rfl, hB⟩
  · obtain ⟨hg, hc40⟩ := ok_parts hin hok
    obtain ⟨y, hy⟩ : ∃ y, guI (d + 1) r [] = y := ⟨_, rfl⟩
    have HR : Hid (guOk d r = y) := Lib.hid (by rw [guOk, hok, hy]; rfl)
    have HS := Lib.hid hy
    have HG := Lib.hid hg
    have HC := Lib.hid (show ([] : ExL).length + 1 + cntR (d + 1) r ≤ 1048576 by simp; omega)
    clear hg hc40 hy
    go_enter Try.func17, Try.ntmps17
    go_wp2_with fail
    rw [← HW.out, ← HGX.out]
    refine (implExprValid hUW hs).mono ?_
    rintro e w1 ⟨rfl, hb⟩
    rw [hok]
    replace hB := ext_trans hB hb
    replace b0 := below_cell hb b0
    replace b1 := below_cell hb b1
    replace b2 := below_cell hb b2
    replace b3 := below_cell hb b3
    replace hUW := hUW.below hb
    clear hb
    go_wp2_with fail
    refine (giQ_all (d + 1) d _ _ r [] c _ _ hUW hs exS.nil (Nat.le_refl _) HG.out HC.out).mono ?_
    rintro e w2 ⟨rfl, hb⟩
    rw [HS.out, HGX.out]
    replace hB := ext_trans hB hb
    go_wp2
    go_ret
    exact ⟨by rw [HR.out]; rfl, hB⟩
/-- An expression that reads. -/
def ExV (d : Nat) (r : Ex) (w : World) (v : Value) : Prop := ∃ A c, v = .agg #[.int .i64 r.k, .int .i64 r.n, .string r.s, .slice A r.ps.length c] ∧ exW d w A r.ps
theorem ExV.below {d : Nat} {r : Ex} {w w' : World} {v : Value} (h : ExV d r w v) (hb : Below w.heap.size w w') : ExV d r w' v := let ⟨A, c, e, h⟩ := h; ⟨A, c, e, h.below hb⟩
set_option maxRecDepth 100000 in
set_option maxHeartbeats 4000000 in
theorem lawExactGuarded {d : Nat} {A : Option Addr} {r : Ex} {c : Nat} {w : World} (hU : exW d w A r.ps) (hs : r.s.size ≤ 9223372036854775807) :
    Calls Try.prog 4 #[.agg #[.int .i64 r.k, .int .i64 r.n, .string r.s, .slice A r.ps.length c]] w fun e w' => e = .returned (.bool true) ∧ Below w.heap.size w w' := by
  have hlen := exS.len hU
  obtain ⟨W, hW⟩ : ∃ W, W = w.alloc (.cells #[.int .i64 r.k, .int .i64 r.n, .string r.s, .slice A r.ps.length c] 48) := ⟨_, rfl⟩
  obtain ⟨g, hg⟩ : ∃ g, g = w.heap.size := ⟨_, rfl⟩
  have hB : Below w.heap.size w W := by rw [hW]; (repeat (first | exact Below.refl _ _ | refine ext_alloc ?_ _ | refine Below.setCell ?_ (by simp) _))
  have q0 : W.cell? ⟨g, 0, none⟩ = some (.int .i64 r.k) := by rw [hW, hg]; exact box_cell w _ _ 0 _ rfl
  have q1 : W.cell? ⟨g, 1, none⟩ = some (.int .i64 r.n) := by rw [hW, hg]; exact box_cell w _ _ 1 _ rfl
  have q2 : W.cell? ⟨g, 2, none⟩ = some (.string r.s) := by rw [hW, hg]; exact box_cell w _ _ 2 _ rfl
  have q3 : W.cell? ⟨g, 3, none⟩ = some (.slice A r.ps.length c) := by rw [hW, hg]; exact box_cell w _ _ 3 _ rfl
  replace hU := hU.below hB
  have HW := Lib.hid hW
  have HG := Lib.hid hg
  clear hW hg
  go_enter Try.func4, Try.ntmps4
  go_wp2_with fail
  rw [← HW.out, ← HG.out]
  refine (szExpr_any hU hs (by omega) (by omega)).mono ?_
  rintro e w1 ⟨y, rfl, hy, hBc⟩
  replace hB := ext_trans hB hBc
  replace hU := hU.below hBc
  replace q0 := below_cell hBc q0
  replace q1 := below_cell hBc q1
  replace q2 := below_cell hBc q2
  replace q3 := below_cell hBc q3
  clear hBc
  rcases hy with rfl | ⟨y0, y1, hf⟩
  · go_wp2
    go_ret
    exact ⟨rfl, hB⟩
  · have HF := Lib.hid hf
    have HCN := Lib.hid (show cntS d r.ps ≤ 2097152 by omega)
    clear hf
    go_wp2_with fail
    refine (toExpr_any hU HF.out).mono ?_
    rintro e w2 ⟨A1, c1, rfl, hV, hBc⟩
    replace hB := ext_trans hB hBc
    replace hU := hU.below hBc
    replace q0 := below_cell hBc q0
    replace q1 := below_cell hBc q1
    replace q2 := below_cell hBc q2
    replace q3 := below_cell hBc q3
    have hV' : exW d w2 A1 r.ps := hV.wide (Nat.zero_le _) (Nat.le_refl _)
    clear hBc hV
    go_wp2_with fail
    refine (specGuarded hV' hs HCN.out).mono ?_
    rintro e w3 ⟨rfl, hBc⟩
    replace hB := ext_trans hB hBc
    replace hU := hU.below hBc
    replace q0 := below_cell hBc q0
    replace q1 := below_cell hBc q1
    replace q2 := below_cell hBc q2
    replace q3 := below_cell hBc q3
    obtain ⟨z, hz⟩ : ∃ z, guOk d r = z := ⟨_, rfl⟩
    have HZ := Lib.hid hz
    rw [hz]
    clear hBc hV' hz
    go_wp2_with fail
    refine (toExpr_any hU HF.out).mono ?_
    rintro e w4 ⟨A2, c2, rfl, hV, hBc⟩
    replace hB := ext_trans hB hBc
    replace hU := hU.below hBc
    replace q0 := below_cell hBc q0
    replace q1 := below_cell hBc q1
    replace q2 := below_cell hBc q2
    replace q3 := below_cell hBc q3
    have hV' : exW d w4 A2 r.ps := hV.wide (Nat.zero_le _) (Nat.le_refl _)
    clear hBc hV
    obtain ⟨X, hX⟩ : ∃ X, X = w4.alloc (.cells #[.int .i64 r.k, .int .i64 r.n, .string r.s, .slice A2 r.ps.length c2] 28) := ⟨_, rfl⟩
    obtain ⟨gx, hgx⟩ : ∃ g, g = w4.heap.size := ⟨_, rfl⟩
    have x0 : X.cell? ⟨gx, 0, none⟩ = some (.int .i64 r.k) := by rw [hX, hgx]; exact box_cell _ _ _ 0 _ rfl
    have x1 : X.cell? ⟨gx, 1, none⟩ = some (.int .i64 r.n) := by rw [hX, hgx]; exact box_cell _ _ _ 1 _ rfl
    have x2 : X.cell? ⟨gx, 2, none⟩ = some (.string r.s) := by rw [hX, hgx]; exact box_cell _ _ _ 2 _ rfl
    have x3 : X.cell? ⟨gx, 3, none⟩ = some (.slice A2 r.ps.length c2) := by rw [hX, hgx]; exact box_cell _ _ _ 3 _ rfl
    have hb4 : Below w4.heap.size w4 X := by rw [hX]; exact below_alloc _ _
    replace hB := ext_trans hB hb4
    replace hU := hU.below hb4
    replace hV' := hV'.below hb4
    replace q0 := below_cell hb4 q0
    replace q1 := below_cell hb4 q1
    replace q2 := below_cell hb4 q2
    replace q3 := below_cell hb4 q3
    have HX := Lib.hid hX
    have HGX := Lib.hid hgx
    clear hX hgx hb4
    go_wp2_with fail
    rw [← HX.out, ← HGX.out]
    refine (implGuarded hV' hs).mono ?_
    rintro e w5 ⟨rfl, hBc⟩
    rw [HZ.out]
    replace hB := ext_trans hB hBc
    replace hU := hU.below hBc
    replace hV' := hV'.below hBc
    replace q0 := below_cell hBc q0
    replace q1 := below_cell hBc q1
    replace q2 := below_cell hBc q2
    replace q3 := below_cell hBc q3
    replace x0 := below_cell hBc x0
    replace x1 := below_cell hBc x1
    replace x2 := below_cell hBc x2
    replace x3 := below_cell hBc x3
    clear hBc
    go_wp2_with fail
    refine wp_region_kinds2 (fun i wz vz => match i with | 0 => vz = .agg #[.int .i64 r.k, .int .i64 r.n, .string r.s, .slice A2 r.ps.length c2] | 1 => vz = .agg #[.int .i64 r.k, .int .i64 r.n, .string r.s, .slice A r.ps.length c] | 2 => ExV d r wz vz | 3 => vz = .bool true | 4 => vz = .bool false | _ => True) (fun _ wz => Below w5.heap.size w5 wz) (fun i w w' => Below w.heap.size w w') (fun _ => Option.none) (by kernel_rfl) (by kernel_rfl) (by kernel_rfl) ?stab10 (ext_drew (Below.refl _ _)) ?all10 ?fin10
    case stab10 =>
      intro i j wa wb v hR hk hne hd _ h2 hT
      match j, hk, hne, hd, h2, hT with
      | 0, hk, hne, hd, h2, hT => exact hT
      | 1, hk, hne, hd, h2, hT => exact hT
      | 2, hk, hne, hd, h2, hT => exact ExV.below hT hR
      | 3, hk, hne, hd, h2, hT => exact hT
      | 4, hk, hne, hd, h2, hT => exact hT
      | n + 5, _, _, _, _, _ => trivial
    case all10 =>
      refine RAll.cons rfl ?_ (RAll.cons rfl ?_ (RAll.cons rfl ?_ (RAll.cons rfl ?_ (RAll.cons rfl ?_ (RAll.none_)))))
      · intro a k wa K Q _ hI hp hK
        have e5 := tmp_of (show a.eval (.tmp 5) = .pointer (some ⟨gx, 0, none⟩) from hp.keep 5 (by kernel_rfl))
        have x0_ := below_cell hI x0
        have x1_ := below_cell hI x1
        have x2_ := below_cell hI x2
        have x3_ := below_cell hI x3
        go_simp
        exact hK _ _ rfl (Below.refl _ _) hI
      · intro a k wa K Q _ hI hp hK
        have e1 := tmp_of (show a.eval (.tmp 1) = .pointer (some ⟨g, 0, none⟩) from hp.keep 1 (by kernel_rfl))
        have q0_ := below_cell hI q0
        have q1_ := below_cell hI q1
        have q2_ := below_cell hI q2
        have q3_ := below_cell hI q3
        go_simp
        exact hK _ _ rfl (Below.refl _ _) hI
      · intro a k wa K Q _ hI hp hK
        have e23 := tmp_of (show a.eval (.tmp 23) = .agg #[.int .i64 r.k, .int .i64 r.n, .string r.s, .slice A r.ps.length c] from hp.dep 1 23 (by kernel_rfl))
        go_simp
        refine (toExpr_any (hU.below hI) HF.out).mono ?_
        rintro e wb ⟨A8, c8, rfl, h8, hb⟩
        exact hK _ _ ⟨A8, c8, rfl, h8.wide (Nat.zero_le _) (Nat.le_refl _)⟩ hb (ext_trans hI hb)
      · intro a k wa K Q _ hI hp hK
        have e22 := tmp_of (show a.eval (.tmp 22) = .agg #[.int .i64 r.k, .int .i64 r.n, .string r.s, .slice A2 r.ps.length c2] from hp.dep 0 22 (by kernel_rfl))
        have t24 : ExV d r wa (a.eval (.tmp 24)) := hp.dep 2 24 (by kernel_rfl)
        obtain ⟨A8, c8, e24, h8⟩ := t24
        replace e24 := tmp_of e24
        go_simp
        refine (eqExpr_any (r := r) (r' := r) (hV'.below hI) h8).mono ?_
        rintro e wb ⟨rfl, hb⟩
        rw [sameX_self]
        exact hK _ _ rfl hb (ext_trans hI hb)
      · intro a k wa K Q _ hI hp hK
        have e25 := tmp_of (show a.eval (.tmp 25) = .bool true from hp.dep 3 25 (by kernel_rfl))
        go_simp
        exact hK _ _ (rfl) (Below.refl _ _) hI
    case fin10 =>
      intro f w9 hT hI0
      have hI : Below w5.heap.size w5 w9 := hI0
      have hr4 : (f 4) = .bool false := hT 4 (by decide) rfl rfl
      clear hT hI0
      simp only [putAll, hr4]
      go_simp
      go_wp2
      go_ret
      exact ⟨rfl, ext_trans hB hI⟩
end Go.Proofs.Ytodjokdaofefdaa
/- Schemas, kinds, policies: what their checks say, plainly. -/
namespace Go.Proofs.Ytodjokdaofefdaa
set_option linter.unusedSimpArgs false
set_option linter.unusedVariables false
open Go.RowKit

noncomputable def cD (p : Prop) : Bool := @decide p (Classical.propDecidable _)
theorem cD_true {p : Prop} : cD p = true ↔ p := by simp [cD]
theorem cD_false {p : Prop} : cD p = false ↔ ¬ p := by simp [cD]
theorem cD_yes {p : Prop} (h : p) : cD p = true := cD_true.2 h
theorem cD_no {p : Prop} (h : ¬ p) : cD p = false := cD_false.2 h
/-- The kind of a name. -/
def kdIn : KdL → ByteArray → Int
  | [], _ => 0
  | x :: l, s => if x.1 = s then x.2 else kdIn l s
theorem kd0_zero (x : Kd2) (l : KdL) : kd0 (x :: l) 0 = x.1 := rfl
theorem kd0_succ (x : Kd2) (l : KdL) (k : Nat) : kd0 (x :: l) (k + 1) = kd0 l k := rfl
theorem kd1_succ (x : Kd2) (l : KdL) (k : Nat) : kd1 (x :: l) (k + 1) = kd1 l k := rfl
theorem kdIn_hit : ∀ {l : KdL} {s : ByteArray} {k : Nat}, k < l.length → (∀ j, j < k → kd0 l j ≠ s) → kd0 l k = s → kdIn l s = kd1 l k
  | [], _, _, hk, _, _ => by simp at hk
  | x :: l, s, 0, _, _, he => by rw [kdIn, if_pos (show x.1 = s from he)]; rfl
  | x :: l, s, k + 1, hk, h, he => by
    rw [kdIn, if_neg (show ¬ x.1 = s from h 0 (by omega)), kd1_succ]
    exact kdIn_hit (by simpa using hk) (fun j hj => h (j + 1) (by omega)) he
theorem kdIn_miss : ∀ {l : KdL} {s : ByteArray}, (∀ j, j < l.length → kd0 l j ≠ s) → kdIn l s = 0
  | [], _, _ => rfl
  | x :: l, s, h => by
    rw [kdIn, if_neg (show ¬ x.1 = s from h 0 (by simp))]
    exact kdIn_miss (fun j hj => h (j + 1) (by simpa using hj))
theorem kdIn_some {l : KdL} {s : ByteArray} {k : Nat} (hk : k < l.length) (he : kd0 l k = s) : ∃ j, j ≤ k ∧ kdIn l s = kd1 l j := by
  obtain ⟨j, hj⟩ : ∃ j, j < l.length ∧ kd0 l j = s := ⟨k, hk, he⟩
  induction k using Nat.strongRecOn with
  | ind k ih =>
    by_cases h : ∃ i, i < k ∧ kd0 l i = s
    · obtain ⟨i, hi, hs⟩ := h
      obtain ⟨j, h1, h2⟩ := ih i hi (by omega) hs
      exact ⟨j, by omega, h2⟩
    · exact ⟨k, Nat.le_refl _, kdIn_hit hk (fun j hj e => h ⟨j, hj, e⟩) he⟩
theorem kd0_take {l : KdL} {n k : Nat} (h : k < n) : kd0 (l.take n) k = kd0 l k := by
  simp only [kd0, List.getD_eq_getElem?_getD, List.getElem?_take, if_pos h]
theorem kd1_take {l : KdL} {n k : Nat} (h : k < n) : kd1 (l.take n) k = kd1 l k := by
  simp only [kd1, List.getD_eq_getElem?_getD, List.getElem?_take, if_pos h]
/-- One name of many: it is a name, it has a kind, and none before it is alike. -/
def NmP (l : KdL) (k : Nat) : Prop := nmOk (kd0 l k) = true ∧ inB (kd1 l k) 1 3 = true ∧ ∀ j, j < k → kd0 l j ≠ kd0 l k
theorem seen_iff {l : KdL} {k : Nat} (hk : k < l.length) (h : ∀ j, j < k → NmP l j) : (kdIn (l.take k) (kd0 l k) ≠ 0) ↔ ∃ j, j < k ∧ kd0 l j = kd0 l k := by
  have hl : (l.take k).length = k := by rw [List.length_take]; omega
  constructor
  · intro h0
    apply Classical.byContradiction
    intro hn
    exact h0 (kdIn_miss (fun j hj e => hn ⟨j, by omega, by rwa [kd0_take (by omega)] at e⟩))
  · rintro ⟨j, hj, e⟩
    obtain ⟨i, hi, e2⟩ := kdIn_some (l := l.take k) (k := j) (s := kd0 l k) (by omega) (by rw [kd0_take hj]; exact e)
    rw [e2, kd1_take (by omega)]
    have := inB_true.1 (h i (by omega)).2.1
    omega
def NmsP (l : KdL) : Prop := (∀ k, k < l.length → NmP l k) ∧ l.length ≤ 6
noncomputable def nmsOk (l : KdL) : Bool := cD (NmsP l)
noncomputable def scOk (s : Sc) : Bool := nmsOk s.1 && nmsOk s.2
/-- The kind of an expression with parts of the kinds ks. -/
def allK (ks : List Int) (x : Int) : Bool := ks.all (fun k => decide (k = x))
def kdFin (s : Sc) (t : Ex) (ks : List Int) : Int :=
  if t.k = 2 ∨ t.k = 6 then 2
  else if t.k = 3 ∨ t.k = 4 ∨ t.k = 5 then 3
  else if t.k = 7 then kdIn s.2 t.s
  else if t.k = 8 then (if allK ks 3 = true then kdIn s.1 t.s else 0)
  else if t.k = 9 ∨ t.k = 12 then (if allK ks 3 = true then 1 else 0)
  else if t.k = 10 then (if il0 ks 0 = il0 ks 1 then 1 else 0)
  else if t.k = 11 then (if allK ks 2 = true then 1 else 0)
  else if t.k = 13 ∨ t.k = 14 ∨ t.k = 15 then (if allK ks 1 = true then 1 else 0)
  else 1
def kiR : Nat → Sc → Ex → Int
  | 0, _, _ => 0
  | d + 1, s, t => if (t.ps.map (kiR d s)).any (fun k => decide (k = 0)) = true then 0 else kdFin s t (t.ps.map (kiR d s))
theorem kiR_stop {d : Nat} {s : Sc} {t : Ex} {k : Nat} (hk : k < t.ps.length) (h : kiR d s (exAt t.ps k) = 0) : kiR (d + 1) s t = 0 := by
  rw [kiR, if_pos]
  rw [List.any_eq_true]
  exact ⟨_, List.mem_map.2 ⟨exAt t.ps k, by rw [exAt_eq hk]; exact List.getElem_mem hk, rfl⟩, by simpa using h⟩
theorem kiR_go {d : Nat} {s : Sc} {t : Ex} (h : ∀ k, k < t.ps.length → kiR d s (exAt t.ps k) ≠ 0) : kiR (d + 1) s t = kdFin s t (t.ps.map (kiR d s)) := by
  rw [kiR, if_neg]
  rw [List.any_eq_true]
  rintro ⟨x, hx, h0⟩
  obtain ⟨p, hp, rfl⟩ := List.mem_map.1 hx
  obtain ⟨k, hk, rfl⟩ := List.getElem_of_mem hp
  have := h k hk
  rw [exAt_eq hk] at this
  exact this (by simpa using h0)
/-- The greatest thing. -/
def mxI (x : Int) (l : List Int) : Int := l.foldl max x
def thR : Nat → Ex → Int
  | 0, _ => -1
  | d + 1, t => mxI (if t.k = 3 then t.n else -1) (t.ps.map (thR d))
theorem mxI_snoc (x : Int) (l : List Int) (y : Int) : mxI x (l ++ [y]) = max (mxI x l) y := by simp [mxI]
theorem mxI_ge : ∀ (l : List Int) (x : Int), x ≤ mxI x l
  | [], _ => Int.le_refl _
  | y :: l, x => Int.le_trans (Int.le_max_left x y) (mxI_ge l (max x y))
theorem mxI_max : ∀ (l : List Int) (x y : Int), mxI (max x y) l = max x (mxI y l)
  | [], _, _ => rfl
  | z :: l, x, y => by
    show mxI (max (max x y) z) l = max x (mxI (max y z) l)
    rw [← mxI_max l x (max y z), Int.max_assoc]
/-- A policy. -/
structure Po where
  nm : ByteArray
  al : Bool
  who : Int
  what : Int
  acts : Int
  wh : Ex
theorem Po.same {a b : Po} (h0 : a.nm = b.nm) (h1 : a.al = b.al) (h2 : a.who = b.who) (h3 : a.what = b.what) (h4 : a.acts = b.acts) (h5 : a.wh = b.wh) : a = b := by
  cases a; cases b; simp only at h0 h1 h2 h3 h4 h5; subst h0; subst h1; subst h2; subst h3; subst h4; subst h5; rfl
abbrev PoL := List Po
def poD : Po := ⟨ByteArray.empty, false, 0, 0, 0, exD⟩
def poAt (l : PoL) (k : Nat) : Po := l.getD k poD
theorem poAt_eq {l : PoL} {k : Nat} (hk : k < l.length) : poAt l k = l[k] := by simp [poAt, hk]
def poOk (p : Po) : Bool := nmOk p.nm && (inB p.who (-2) 6 && (inB p.what (-1) 6 && (inB p.acts 1 15 && exOk p.wh)))
noncomputable def ckX (d : Nat) (s : Sc) (many : Int) (p : Po) : Int :=
  if (scOk s && (poOk p && inB many 0 7)) = false then -1
  else if kiR (d + 1) s p.wh ≠ 1 then 1
  else if many ≤ p.who ∨ many ≤ p.what ∨ many ≤ thR (d + 1) p.wh then 2
  else if guOk d p.wh = false then 3 else 0
def PoP (l : PoL) (k : Nat) : Prop := poOk (poAt l k) = true ∧ (poAt l k).who ≠ -2 ∧ ∀ j, j < k → (poAt l j).nm ≠ (poAt l k).nm
def PosP (l : PoL) : Prop := (∀ k, k < l.length → PoP l k) ∧ l.length ≤ 6
noncomputable def posOk (l : PoL) : Bool := cD (PosP l)
def SafP (d : Nat) (s : Sc) (many : Int) (l : PoL) : Prop := scOk s = true ∧ inB many 0 7 = true ∧ PosP l ∧ ∀ k, k < l.length → ckX d s many (poAt l k) = 0
noncomputable def safOk (d : Nat) (s : Sc) (many : Int) (l : PoL) : Bool := cD (SafP d s many l)
end Go.Proofs.Ytodjokdaofefdaa
/- Schemas: names and their kinds, by the reference. -/
namespace Go.Proofs.Ytodjokdaofefdaa
set_option linter.unusedSimpArgs false
set_option linter.unusedVariables false
open Go.RowKit

theorem strB_no {a b : ByteArray} (h : a ≠ b) : (a.toList == b.toList) = false := by
  rw [beq_eq_false_iff_ne]; intro e; exact h (str_eq.1 e)
theorem strB_yes {a b : ByteArray} (h : a = b) : (a.toList == b.toList) = true := by subst h; simp
theorem nms_no {l : KdL} {k : Nat} (hk : k < l.length) (h : ¬ NmP l k) : nmsOk l = false := cD_no (fun hh => h (hh.1 k hk))
set_option maxRecDepth 100000 in
set_option maxHeartbeats 2000000 in
theorem l7Kind_any {A : Option Addr} {l : KdL} {c : Nat} {s : ByteArray} {w : World} (hU : kdR w A l) :
    Calls Try.prog 142 #[.slice A l.length c, .string s] w fun e w' => e = .returned (.int .i64 (kdIn l s)) ∧ Below w.heap.size w w' := by
  have hlen := hU.len
  go_enter Try.func142, Try.ntmps142
  go_wp2
  go_loopw [5] (fun i wr => ∃ k : Nat, k ≤ l.length ∧ i = .int .i64 k ∧ Hid (∀ j, j < k → kd0 l j ≠ s) ∧ Below w.heap.size w wr) (fun i _ => l.length - (intOf i).toNat)
  case atStart => exact ⟨0, Nat.zero_le _, rfl, Lib.hid (fun j h => by omega), Below.refl _ _⟩
  case round =>
    obtain ⟨k, hk, rfl, HG, hB⟩ := hrel
    by_cases hlt : k < l.length
    · obtain ⟨b, off, rfl, hc⟩ := hU.cells (by omega)
      obtain ⟨c0, c1⟩ := hc k hlt
      replace c0 := below_cell hB c0
      replace c1 := below_cell hB c1
      clear hc
      by_cases g : kd0 l k = s
      · have gb := strB_yes g
        have HE := Lib.hid (kdIn_hit hlt HG.out g)
        clear g
        go_wp2
        go_ret
        exact ⟨by rw [HE.out]; rfl, hB⟩
      · have gb := strB_no g
        have HG2 := Lib.hid (all_succ (p := fun j => kd0 l j ≠ s) HG.out g)
        clear g
        go_wp2
        go_roundw
        case rel => exact ⟨k + 1, by omega, by go_num, HG2, hB⟩
        case measure => simp [intOf]; omega
    · obtain rfl : k = l.length := by omega
      have HE := Lib.hid (kdIn_miss HG.out)
      go_wp2
      go_ret
      exact ⟨by rw [HE.out]; rfl, hB⟩
set_option maxRecDepth 100000 in
set_option maxHeartbeats 4000000 in
theorem l7Names_any {A : Option Addr} {l : KdL} {c : Nat} {w : World} (hU : kdR w A l) (hw : WfKd l) :
    Calls Try.prog 100 #[.slice A l.length c] w fun e w' => e = .returned (.bool (nmsOk l)) ∧ Below w.heap.size w w' := by
  have hlen := hU.len
  have HW := Lib.hid hw
  clear hw
  go_enter Try.func100, Try.ntmps100
  go_wp2
  go_loopw [3] (fun i wr => ∃ k : Nat, k ≤ l.length ∧ i = .int .i64 k ∧ Hid (∀ j, j < k → NmP l j) ∧ Below w.heap.size w wr) (fun i _ => l.length - (intOf i).toNat)
  case atStart => exact ⟨0, Nat.zero_le _, rfl, Lib.hid (fun j h => by omega), Below.refl _ _⟩
  case round =>
    obtain ⟨k, hk, rfl, HG, hB⟩ := hrel
    by_cases hlt : k < l.length
    · obtain ⟨b, off, rfl, hc⟩ := hU.cells (by omega)
      obtain ⟨c0, c1⟩ := hc k hlt
      have m0 := below_cell hB c0
      have m1 := below_cell hB c1
      have HC := Lib.hid hc
      have HS := Lib.hid (HW.out.at hlt)
      clear c0 c1 hc
      cases g1 : nmOk (kd0 l k)
      · have HE : Hid (nmsOk l = false) := Lib.hid (nms_no hlt (fun h => by rw [h.1] at g1; cases g1))
        go_wp2_with fail
        refine (specNameValid _ HS.out _).mono ?_
        rintro e w1 ⟨rfl, hb⟩
        rw [g1]
        replace hB := ext_trans hB hb
        clear hb m0 m1
        go_wp2
        go_ret
        exact ⟨by rw [HE.out]; rfl, hB⟩
      · cases g2 : inB (kd1 l k) 1 3
        · have HE : Hid (nmsOk l = false) := Lib.hid (nms_no hlt (fun h => by rw [h.2.1] at g2; cases g2))
          go_wp2_with fail
          refine (specNameValid _ HS.out _).mono ?_
          rintro e w1 ⟨rfl, hb⟩
          rw [g1]
          replace hB := ext_trans hB hb
          replace m1 := below_cell hb m1
          clear hb m0
          go_wp2_with fail
          refine (l1In_any _ _ _ _).mono ?_
          rintro e w2 ⟨rfl, hb⟩
          rw [g2]
          replace hB := ext_trans hB hb
          clear hb m1
          go_wp2
          go_ret
          exact ⟨by rw [HE.out]; rfl, hB⟩
        · go_wp2_with fail
          refine (specNameValid _ HS.out _).mono ?_
          rintro e w1 ⟨rfl, hb⟩
          rw [g1]
          replace hB := ext_trans hB hb
          replace m1 := below_cell hb m1
          clear hb m0
          go_wp2_with fail
          refine (l1In_any _ _ _ _).mono ?_
          rintro e w2 ⟨rfl, hb⟩
          rw [g2]
          replace hB := ext_trans hB hb
          clear hb m1
          have H1 := Lib.hid g1
          have H2 := Lib.hid g2
          clear g1 g2
          go_wp2
          go_loopw [4] (fun i w3 => ∃ j : Nat, j ≤ k ∧ i = .int .i64 j ∧ Hid (∀ i, i < j → kd0 l i ≠ kd0 l k) ∧ Below w2.heap.size w2 w3) (fun i _ => k - (intOf i).toNat)
          case atStart => exact ⟨0, Nat.zero_le _, rfl, Lib.hid (fun j h => by omega), Below.refl _ _⟩
          case round =>
            rename_i w3
            obtain ⟨j, hj, rfl, HN, hD⟩ := hrel
            by_cases hjk : j < k
            · obtain ⟨d0, _⟩ := HC.out j (by omega)
              obtain ⟨e0, _⟩ := HC.out k hlt
              have m0 := cell_regrown (below_cell hD (below_cell hB d0))
              have z0 := cell_regrown (below_cell hD (below_cell hB e0))
              clear d0 e0
              by_cases g : kd0 l j = kd0 l k
              · have gb := strB_yes g
                have HE : Hid (nmsOk l = false) := Lib.hid (nms_no hlt (fun h => h.2.2 j hjk g))
                clear g
                go_wp2
                refine wp_region_quiet_below (by kernel_rfl) (by kernel_rfl) ?_
                repeat (go_big_quiet_step (fail))
                refine wpQuiet_nil ?_
                intro w4 hw'regrown
                replace hD := ext_trans hD (below_of_regrown hw'regrown (Nat.le_refl _))
                clear hw'regrown
                go_wp2
                go_ret
                exact ⟨by rw [HE.out]; rfl, ext_trans hB hD⟩
              · have gb := strB_no g
                have HN2 := Lib.hid (all_succ (p := fun i => kd0 l i ≠ kd0 l k) HN.out g)
                clear g
                go_wp2
                refine wp_region_quiet_below (by kernel_rfl) (by kernel_rfl) ?_
                repeat (go_big_quiet_step (fail))
                refine wpQuiet_nil ?_
                intro w4 hw'regrown
                replace hD := ext_trans hD (below_of_regrown hw'regrown (Nat.le_refl _))
                clear hw'regrown
                go_wp2
                go_roundw
                case rel => exact ⟨j + 1, by omega, by go_num, HN2, hD⟩
                case measure => simp [intOf]; omega
            · obtain rfl : j = k := by omega
              go_wp2
              go_roundw
              case rel => exact ⟨j + 1, by omega, by go_num, Lib.hid (all_succ (p := NmP l) HG.out ⟨H1.out, H2.out, HN.out⟩), ext_trans hB hD⟩
              case measure => simp [intOf]; omega
    · obtain rfl : k = l.length := by omega
      by_cases g : l.length ≤ 6
      · have HE : Hid (nmsOk l = true) := Lib.hid (cD_yes ⟨HG.out, g⟩)
        go_wp2
        go_ret
        exact ⟨ret_bool (by rw [HE.out]; simp; omega), hB⟩
      · have HE : Hid (nmsOk l = false) := Lib.hid (cD_no (fun h => g h.2))
        go_wp2
        go_ret
        exact ⟨ret_bool (by rw [HE.out]; simp; omega), hB⟩
set_option maxRecDepth 100000 in
set_option maxHeartbeats 2000000 in
theorem specSchemaValid {A0 A1 : Option Addr} {s : Sc} {c0 c1 : Nat} {w : World} (hU : scR w A0 A1 s) (h0 : WfKd s.1) (h1 : WfKd s.2) :
    Calls Try.prog 57 #[scV s A0 c0 A1 c1] w fun e w' => e = .returned (.bool (scOk s)) ∧ Below w.heap.size w w' := by
  unfold scV
  obtain ⟨W, hW⟩ : ∃ W, W = w.alloc (.cells #[.slice A0 s.1.length c0, .slice A1 s.2.length c1] 25) := ⟨_, rfl⟩
  obtain ⟨g, hg⟩ : ∃ g, g = w.heap.size := ⟨_, rfl⟩
  have hB : Below w.heap.size w W := by rw [hW]; exact below_alloc _ _
  have hq : W.heap[g]? = some (.cells #[.slice A0 s.1.length c0, .slice A1 s.2.length c1] 25 (0, 0)) := by rw [hW, hg]; exact heap_alloc_new _ _
  replace hU := hU.below hB
  have HQ := Lib.hid hq
  have HW := Lib.hid hW
  have HG := Lib.hid hg
  have H0 := Lib.hid h0
  have H1 := Lib.hid h1
  obtain ⟨q0, q1⟩ := cells2 hq
  clear hW hg hq h0 h1
  go_enter Try.func57, Try.ntmps57
  cases g1 : nmsOk s.1
  · have HE : Hid (scOk s = false) := Lib.hid (by rw [scOk, g1]; rfl)
    go_wp2_with fail
    rw [← HW.out, ← HG.out]
    refine (l7Names_any hU.1 H0.out).mono ?_
    rintro e w1 ⟨rfl, hb⟩
    rw [g1]
    replace hB := ext_trans hB hb
    clear hb q0 q1
    go_wp2
    go_ret
    exact ⟨by rw [HE.out]; rfl, hB⟩
  · have HE : Hid (scOk s = nmsOk s.2) := Lib.hid (by rw [scOk, g1]; rfl)
    go_wp2_with fail
    rw [← HW.out, ← HG.out]
    refine (l7Names_any hU.1 H0.out).mono ?_
    rintro e w1 ⟨rfl, hb⟩
    rw [g1]
    replace hB := ext_trans hB hb
    replace q1 := below_cell hb q1
    replace hU := hU.below hb
    clear hb q0
    go_wp2_with fail
    refine (l7Names_any hU.2 H1.out).mono ?_
    rintro e w2 ⟨rfl, hb⟩
    replace hB := ext_trans hB hb
    clear hb q1
    cases g2 : nmsOk s.2
    all_goals
      rw [g2] at HE
      go_wp2
      go_ret
      exact ⟨by rw [HE.out]; rfl, hB⟩
end Go.Proofs.Ytodjokdaofefdaa
/- Schemas: names and their kinds, by the program. -/
namespace Go.Proofs.Ytodjokdaofefdaa
set_option linter.unusedSimpArgs false
set_option linter.unusedVariables false
open Go.RowKit

set_option maxRecDepth 100000 in
set_option maxHeartbeats 2000000 in
theorem kindIn_any {A : Option Addr} {l : KdL} {c n : Nat} {s : ByteArray} {w : World} (hn : n = l.length) (hU : kdR w A l) :
    Calls Try.prog 99 #[.slice A n c, .string s] w fun e w' => e = .returned (.int .i64 (kdIn l s)) ∧ Below w.heap.size w w' := by
  subst hn
  have hlen := hU.len
  go_enter Try.func99, Try.ntmps99
  go_wp2
  go_loopw [9] (fun i wr => ∃ k : Nat, k ≤ l.length ∧ i = .int .i64 k ∧ Hid (∀ j, j < k → kd0 l j ≠ s) ∧ Below w.heap.size w wr) (fun i _ => l.length - (intOf i).toNat)
  case atStart => exact ⟨0, Nat.zero_le _, rfl, Lib.hid (fun j h => by omega), Below.refl _ _⟩
  case round =>
    rename_i wr
    obtain ⟨k, hk, rfl, HG, hB⟩ := hrel
    by_cases hlt : k < l.length
    · obtain ⟨b, off, rfl, hc⟩ := hU.cells (by omega)
      obtain ⟨c0, c1⟩ := hc k hlt
      replace c0 := below_cell hB c0
      replace c1 := below_cell hB c1
      have y0 := box_cell wr #[.string (kd0 l k), .int .i64 (kd1 l k)] 84 0 (.string (kd0 l k)) rfl
      have y1 := box_cell wr #[.string (kd0 l k), .int .i64 (kd1 l k)] 84 1 (.int .i64 (kd1 l k)) rfl
      replace hB := ext_alloc hB (.cells #[.string (kd0 l k), .int .i64 (kd1 l k)] 84)
      clear hc
      by_cases g : kd0 l k = s
      · have gb := strB_yes g
        have HE := Lib.hid (kdIn_hit hlt HG.out g)
        clear g
        go_wp2
        go_ret
        exact ⟨by rw [HE.out]; rfl, hB⟩
      · have gb := strB_no g
        have HG2 := Lib.hid (all_succ (p := fun j => kd0 l j ≠ s) HG.out g)
        clear g
        go_wp2
        go_roundw
        case rel => exact ⟨k + 1, by omega, by go_num, HG2, hB⟩
        case measure => simp [intOf]; omega
    · obtain rfl : k = l.length := by omega
      have HE := Lib.hid (kdIn_miss HG.out)
      go_wp2
      go_ret
      exact ⟨by rw [HE.out]; rfl, hB⟩
theorem kdR.take {w : World} {A : Option Addr} {l : KdL} (h : kdR w A l) (k : Nat) : kdR w A (l.take k) := RdL.take h k
/-- Both lists of a schema. -/
def scAt (s : Sc) (k : Nat) : KdL := if k = 0 then s.1 else s.2
theorem sc_no {s : Sc} {k : Nat} (h : nmsOk (scAt s k) = false) : scOk s = false := by
  unfold scAt at h
  split at h <;> simp [scOk, h]
set_option maxRecDepth 100000 in
set_option maxHeartbeats 8000000 in
theorem implSchemaValid {A0 A1 : Option Addr} {s : Sc} {c0 c1 : Nat} {w : World} (hU : scR w A0 A1 s) (h0 : WfKd s.1) (h1 : WfKd s.2) (hc0 : s.1.length ≤ c0) (hc1 : s.2.length ≤ c1) :
    Calls Try.prog 54 #[scV s A0 c0 A1 c1] w fun e w' => e = .returned (.bool (scOk s)) ∧ Below w.heap.size w w' := by
  unfold scV
  obtain ⟨W, hW⟩ : ∃ W, W = (w.alloc (.cells #[.slice A0 s.1.length c0, .slice A1 s.2.length c1] 25)).alloc (.cells #[.slice A0 s.1.length c0, .slice A1 s.2.length c1] 23) := ⟨_, rfl⟩
  obtain ⟨g, hg⟩ : ∃ g, g = w.heap.size := ⟨_, rfl⟩
  have hB : Below w.heap.size w W := by rw [hW]; (repeat (first | exact Below.refl _ _ | refine ext_alloc ?_ _ | refine Below.setCell ?_ (by simp) _))
  have hq : W.heap[g + 1]? = some (.cells #[.slice A0 s.1.length c0, .slice A1 s.2.length c1] 23 (0, 0)) := by rw [hW, hg]; exact heap_alloc_at (by simp)
  replace hU := hU.below hB
  have HL : Hid (∀ k, k < 2 → ∃ A c, W.cell? ⟨g + 1, k, none⟩ = some (.slice A (scAt s k).length c) ∧ kdR W A (scAt s k) ∧ WfKd (scAt s k) ∧ (scAt s k).length ≤ c) := Lib.hid (fun k hk => by
    obtain ⟨q0, q1⟩ := cells2 hq
    rcases (by omega : k = 0 ∨ k = 1) with rfl | rfl
    · exact ⟨A0, c0, q0, hU.1, h0, hc0⟩
    · exact ⟨A1, c1, q1, hU.2, h1, hc1⟩)
  have HW := Lib.hid hW
  have HG := Lib.hid hg
  clear hW hg hq h0 h1 hU hc0 hc1
  go_enter Try.func54, Try.ntmps54
  go_wp2_with fail
  rw [← HW.out, ← HG.out]
  go_loopw [13] (fun i wr => ∃ k : Nat, k ≤ 2 ∧ i = .int .i64 k ∧ Hid (∀ j, j < k → nmsOk (scAt s j) = true) ∧ Below W.heap.size W wr) (fun i _ => 2 - (intOf i).toNat)
  case atStart => exact ⟨0, Nat.zero_le _, rfl, Lib.hid (fun j h => by omega), Below.refl _ _⟩
  case round =>
    obtain ⟨k, hk, rfl, HO, hC⟩ := hrel
    by_cases hlt : k < 2
    · obtain ⟨A, c, hcell, hU, hw, hcap⟩ := HL.out k hlt
      replace hcell := below_cell hC hcell
      replace hU := hU.below hC
      have hlen := hU.len
      have HWF := Lib.hid hw
      have HNO : Hid (nmsOk (scAt s k) = false → scOk s = false) := Lib.hid sc_no
      have HYES : Hid (nmsOk (scAt s k) = true → ∀ j, j < k + 1 → nmsOk (scAt s j) = true) := Lib.hid (fun h => all_succ (p := fun j => nmsOk (scAt s j) = true) HO.out h)
      obtain ⟨l, hl⟩ : ∃ l, l = scAt s k := ⟨_, rfl⟩
      rw [← hl] at hcell hU hlen HWF HNO HYES hcap
      clear hl hw
      go_wp2
      go_loopw [19] (fun i w3 => ∃ m : Nat, m ≤ l.length ∧ i = .int .i64 m ∧ Hid (∀ j, j < m → NmP l j) ∧ Below wr.heap.size wr w3) (fun i _ => l.length - (intOf i).toNat)
      case atStart => exact ⟨0, Nat.zero_le _, rfl, Lib.hid (fun j h => by omega), Below.refl _ _⟩
      case round =>
        obtain ⟨m, hm, rfl, HN, hD⟩ := hrel
        by_cases hml : m < l.length
        · obtain ⟨b, off, rfl, hc⟩ := hU.cells (by omega)
          obtain ⟨d0, d1⟩ := hc m hml
          replace d0 := below_cell hD d0
          replace d1 := below_cell hD d1
          clear hc hcell
          have y0 := cell_regrown (box_cell wr #[.string (kd0 l m), .int .i64 (kd1 l m)] 84 0 (.string (kd0 l m)) rfl)
          have y1 := cell_regrown (box_cell wr #[.string (kd0 l m), .int .i64 (kd1 l m)] 84 1 (.int .i64 (kd1 l m)) rfl)
          have hU2 := (hU.below (ext_alloc hD (.cells #[.string (kd0 l m), .int .i64 (kd1 l m)] 84))).take m
          replace hD := ext_alloc hD (.cells #[.string (kd0 l m), .int .i64 (kd1 l m)] 84)
          have HS := Lib.hid (HWF.out.at hml)
          have HSN : Hid ((kdIn (l.take m) (kd0 l m) ≠ 0) ↔ ∃ j, j < m ∧ kd0 l j = kd0 l m) := Lib.hid (seen_iff hml HN.out)
          obtain ⟨q, hq⟩ : ∃ q, kdIn (l.take m) (kd0 l m) = q := ⟨_, rfl⟩
          rw [hq] at HSN
          have hlt : (l.take m).length = m := by rw [List.length_take]; omega
          obtain ⟨b1, g1⟩ : ∃ b, nmOk (kd0 l m) = b := ⟨_, rfl⟩
          have HK : Hid (∀ (d : Nat) (os : Array Obj) (c' : Nat), Calls Try.prog 99 #[.slice (some ⟨b, off, none⟩) m c', .string (kd0 l m)] (Sort.grow (redrawn _ d) os) fun e w' => e = .returned (.int .i64 q) ∧ Below _ _ w') := Lib.hid (fun d os c' => hq ▸ kindIn_any (n := m) (c := c') hlt.symm (kdR.regrown hU2 d os))
          have HV := Lib.hid (fun w => implNameValid_v g1 HS.out w)
          have H1 := Lib.hid g1
          clear hlt hq hU2 g1
          cases b1
          · have HE : Hid (scOk s = false) := Lib.hid (HNO.out (nms_no hml (fun h => by have := H1.out.symm.trans h.1; cases this)))
            go_wp2
            refine wp_region_quiet_below (by kernel_rfl) (by kernel_rfl) ?_
            repeat (go_big_quiet_step (first | (go_at_call 70; (with_reducible exact Calls.regrown_of (HV.out _))) | (go_at_call 55; exact Calls.regrown_of (in_any _ _ _ _)) | (go_at_call 99; (with_reducible exact Calls.regrown_of (HK.out _ _ _)))))
            refine wpQuiet_nil ?_
            intro w2 hw'regrown
            replace hD := ext_trans hD (below_of_regrown hw'regrown (Nat.le_refl _))
            clear hw'regrown
            go_wp2
            go_ret
            exact ⟨by rw [HE.out]; rfl, ext_trans (ext_trans hB hC) hD⟩
          · cases g2 : inB (kd1 l m) 1 3
            · have HE : Hid (scOk s = false) := Lib.hid (HNO.out (nms_no hml (fun h => by rw [h.2.1] at g2; cases g2)))
              go_wp2
              refine wp_region_quiet_below (by kernel_rfl) (by kernel_rfl) ?_
              repeat (go_big_quiet_step (first | (go_at_call 70; (with_reducible exact Calls.regrown_of (HV.out _))) | (go_at_call 55; exact Calls.regrown_of (in_any _ _ _ _)) | (go_at_call 99; (with_reducible exact Calls.regrown_of (HK.out _ _ _)))))
              refine wpQuiet_nil ?_
              intro w2 hw'regrown
              replace hD := ext_trans hD (below_of_regrown hw'regrown (Nat.le_refl _))
              clear hw'regrown
              go_wp2
              go_ret
              exact ⟨by rw [HE.out]; rfl, ext_trans (ext_trans hB hC) hD⟩
            · by_cases g3 : q = 0
              · subst g3
                have HN2 : Hid (∀ j, j < m + 1 → NmP l j) := Lib.hid (all_succ (p := NmP l) HN.out ⟨H1.out, g2, fun j hj e => absurd rfl (HSN.out.2 ⟨j, hj, e⟩)⟩)
                go_wp2
                refine wp_region_quiet_below (by kernel_rfl) (by kernel_rfl) ?_
                repeat (go_big_quiet_step (first | (go_at_call 70; (with_reducible exact Calls.regrown_of (HV.out _))) | (go_at_call 55; exact Calls.regrown_of (in_any _ _ _ _)) | (go_at_call 99; (with_reducible exact Calls.regrown_of (HK.out _ _ _)))))
                refine wpQuiet_nil ?_
                intro w2 hw'regrown
                replace hD := ext_trans hD (below_of_regrown hw'regrown (Nat.le_refl _))
                clear hw'regrown
                go_wp2
                go_roundw
                case rel => exact ⟨m + 1, by omega, by go_num, HN2, hD⟩
                case measure => simp [intOf]; omega
              · have HE : Hid (scOk s = false) := Lib.hid (HNO.out (nms_no hml (fun h => by obtain ⟨j, hj, e⟩ := HSN.out.1 g3; exact h.2.2 j hj e)))
                have gq : (q != 0) = true := by simpa using g3
                go_wp2
                refine wp_region_quiet_below (by kernel_rfl) (by kernel_rfl) ?_
                repeat (go_big_quiet_step (first | (go_at_call 70; (with_reducible exact Calls.regrown_of (HV.out _))) | (go_at_call 55; exact Calls.regrown_of (in_any _ _ _ _)) | (go_at_call 99; (with_reducible exact Calls.regrown_of (HK.out _ _ _)))))
                refine wpQuiet_nil ?_
                intro w2 hw'regrown
                replace hD := ext_trans hD (below_of_regrown hw'regrown (Nat.le_refl _))
                clear hw'regrown
                go_wp2
                go_ret
                exact ⟨by rw [HE.out]; rfl, ext_trans (ext_trans hB hC) hD⟩
        · obtain rfl : m = l.length := by omega
          by_cases g : l.length ≤ 6
          · have HY : Hid (∀ j, j < k + 1 → nmsOk (scAt s j) = true) := Lib.hid (HYES.out (cD_yes ⟨HN.out, g⟩))
            go_wp2
            go_roundw
            case rel => exact ⟨k + 1, by omega, by go_num, HY, ext_trans hC hD⟩
            case measure => simp [intOf]; omega
          · have HE : Hid (scOk s = false) := Lib.hid (HNO.out (cD_no (fun h => g h.2)))
            go_wp2
            go_ret
            exact ⟨by rw [HE.out]; rfl, ext_trans (ext_trans hB hC) hD⟩
    · obtain rfl : k = 2 := by omega
      have HE : Hid (scOk s = true) := Lib.hid (by
        have h0 := HO.out 0 (by omega)
        have h1 := HO.out 1 (by omega)
        simp only [scAt, if_true] at h0
        simp only [scAt, Nat.one_ne_zero, if_false] at h1
        rw [scOk, h0, h1]; rfl)
      go_wp2
      go_ret
      exact ⟨by rw [HE.out]; rfl, ext_trans hB hC⟩
end Go.Proofs.Ytodjokdaofefdaa
/- Expressions whose parts stand apart: trees of rows of one's own. -/
namespace Go.Proofs.Ytodjokdaofefdaa
set_option linter.unusedSimpArgs false
set_option linter.unusedVariables false
open Go.RowKit

theorem setCells_atG {g : Nat} {T : TypeId} {fr : Nat × Nat} (vs : List Value) : ∀ {w : World} {cs : List Value} (o : Nat), w.heap[g]? = some (.cells cs.toArray T fr) → o + vs.length ≤ cs.length → (setCells w g o vs).heap[g]? = some (.cells (cs.take o ++ vs ++ cs.drop (o + vs.length)).toArray T fr) := by
  induction vs with
  | nil => intro w cs o h _; simpa [setCells] using h
  | cons v vs ih =>
    intro w cs o h ho
    simp only [List.length_cons] at ho
    have h1 : (w.setCell ⟨g, o, Option.none⟩ v).heap[g]? = some (.cells (cs.set o v).toArray T fr) := by
      simp [World.setCell, Array.getElem?_modify, h]
    have h2 := ih (o + 1) h1 (by simp; omega)
    rw [setCells, h2]
    congr 3
    rw [List.drop_set_of_lt (by omega), List.take_succ_eq_append_getElem (by rw [List.length_set]; omega)]
    simp only [List.getElem_set_self, List.length_cons]
    rw [List.take_set_of_le (Nat.le_refl _), show o + 1 + vs.length = o + (vs.length + 1) by omega]
    simp
/-- A part with the blocks, from lo on and below hi, in which all that is in it stands. -/
abbrev ExX := Ex × Nat × Nat
def AscX (lo hi : Nat) (l : List ExX) : Prop := (∀ a ∈ l, lo ≤ a.2.1 ∧ a.2.1 ≤ a.2.2 ∧ a.2.2 ≤ hi) ∧ l.Pairwise fun a b => a.2.2 ≤ b.2.1
def AvX (v : Value) (l : List ExX) : Prop := ∀ a ∈ l, ∀ k, v.ownBlock = some k → k < a.2.1 ∨ a.2.2 ≤ k
def exT : Nat → Nat → Nat → World → Value → ExL → Prop
  | 0, _, _, _, v, l => l = [] ∧ ∃ A c, v = .slice A 0 c
  | d + 1, lo, hi, w, v, l => ∃ l' : List ExX, l'.map Prod.fst = l ∧ AscX lo hi l' ∧ AvX v l' ∧ (∀ k, v.ownBlock = some k → k < hi) ∧
      OwnG (fun w (a : ExX) cs => ∃ v', cs = exHead a.1 v' ∧ exT d a.2.1 a.2.2 w v' a.1.ps ∧ a.1.s.size ≤ 9223372036854775807) lo 28 4 w v l'
/-- An element of such a row. -/
def ExN (d : Nat) (w : World) (a : ExX) (cs : List Value) : Prop := ∃ v', cs = exHead a.1 v' ∧ exT d a.2.1 a.2.2 w v' a.1.ps ∧ a.1.s.size ≤ 9223372036854775807
theorem exT_succ {d lo hi : Nat} {w : World} {v : Value} {l : ExL} : exT (d + 1) lo hi w v l = ∃ l' : List ExX, l'.map Prod.fst = l ∧ AscX lo hi l' ∧ AvX v l' ∧ (∀ k, v.ownBlock = some k → k < hi) ∧ OwnG (ExN d) lo 28 4 w v l' := rfl
section
variable {α : Type} {R R' : α → List Value → Prop} {sz : Nat}
theorem Chunks.mono_mem {l : List α} {xs : List Value} (hR : ∀ a ∈ l, ∀ cs, R a cs → R' a cs) (h : Chunks R sz l xs) : Chunks R' sz l xs := by
  induction l generalizing xs with
  | nil => exact h
  | cons a l ih => obtain ⟨c, r, rfl, h1, h2, h3⟩ := h; exact ⟨c, r, rfl, h1, hR a (by simp) _ h2, ih (fun b hb => hR b (by simp [hb])) h3⟩
theorem Chunks.cut {p q : List α} {a : α} {xs : List Value} (h : Chunks R sz (p ++ a :: q) xs) : ∃ xp c xq, xs = xp ++ c ++ xq ∧ xp.length = p.length * sz ∧ c.length = sz ∧ Chunks R sz p xp ∧ R a c ∧ Chunks R sz q xq := by
  induction p generalizing xs with
  | nil =>
    obtain ⟨c, r, rfl, h1, h2, h3⟩ := h
    exact ⟨[], c, r, by simp, by simp, h1, rfl, h2, h3⟩
  | cons b p ih =>
    obtain ⟨c, r, rfl, h1, h2, h3⟩ := h
    obtain ⟨xp, c', xq, rfl, g1, g2, g3, g4, g5⟩ := ih h3
    exact ⟨c ++ xp, c', xq, by simp [List.append_assoc], by simp [g1, h1, Nat.add_mul]; omega, g2, ⟨c, xp, rfl, h1, h2, g3⟩, g4, g5⟩
theorem Chunks.join {p q : List α} {a : α} {xp c xq : List Value} (hp : Chunks R sz p xp) (hc : c.length = sz) (ha : R a c) (hq : Chunks R sz q xq) : Chunks R sz (p ++ a :: q) (xp ++ c ++ xq) := by
  rw [List.append_assoc]
  exact hp.append ⟨c, xq, rfl, hc, ha, hq⟩
end
theorem own_keep {B sz n lo hi : Nat} {e : TypeId} {w w' : World} {v : Value} {xs : List Value} (h : w.ownsRow B e sz v n xs) (hk : ∀ k, lo ≤ k → k < hi → w'.heap[k]? = w.heap[k]?) (hne : ∀ k, v.ownBlock = some k → lo ≤ k ∧ k < hi) : w'.ownsRow B e sz v n xs := by
  rcases h with ⟨h1, h2 | ⟨g, cap, cur, hv, hg, hc, hrest⟩⟩
  · exact ⟨h1, .inl h2⟩
  · have hb := hne g (by rw [hv]; rfl)
    exact ⟨h1, .inr ⟨g, cap, cur, hv, hg, (hk g hb.1 hb.2).trans hc, hrest⟩⟩
section
variable {lo hi lo' hi' : Nat} {w w' : World}
theorem AscX.wide {l : List ExX} (h : AscX lo hi l) (h1 : lo' ≤ lo) (h2 : hi ≤ hi') : AscX lo' hi' l := ⟨fun a ha => by have := h.1 a ha; omega, h.2⟩
theorem AscX.nil : AscX lo hi [] := ⟨by simp, List.Pairwise.nil⟩
theorem AscX.snoc {l : List ExX} {t : Ex} {a b : Nat} (h : AscX lo hi l) (h1 : hi ≤ a) (h2 : a ≤ b) (h3 : lo ≤ a) (h4 : b ≤ hi') : AscX lo hi' (l ++ [(t, a, b)]) := by
  refine ⟨fun c hc => ?_, List.pairwise_append.2 ⟨h.2, List.pairwise_singleton _ _, fun c hc d hd => ?_⟩⟩
  · rcases List.mem_append.1 hc with hc | hc
    · have := h.1 c hc; omega
    · rw [List.mem_singleton.1 hc]; exact ⟨h3, h2, h4⟩
  · rw [List.mem_singleton.1 hd]
    have := (h.1 c hc).2.2
    show c.2.2 ≤ a
    omega
theorem exT.keep : ∀ {d lo hi : Nat} {v : Value} {l : ExL}, (∀ k, lo ≤ k → k < hi → w'.heap[k]? = w.heap[k]?) → exT d lo hi w v l → exT d lo hi w' v l
  | 0, _, _, _, _, _, h => h
  | d + 1, lo, hi, v, l, hk, ⟨l', h1, h2, h3, h4, h5⟩ => by
    refine ⟨l', h1, h2, h3, h4, ?_⟩
    have hge := h5.ge
    obtain ⟨A, c, xs, e, ho, hc⟩ := h5
    refine ⟨A, c, xs, e, own_keep ho hk (fun k hv => ?_), hc.mono_mem (fun a ha cs hcs => ?_)⟩
    · rw [← e] at hv; exact ⟨(hge k hv).1, h4 k hv⟩
    · obtain ⟨v', g1, g2, g3⟩ := hcs
      have hb := h2.1 a ha
      exact ⟨v', g1, exT.keep (fun k k1 k2 => hk k (by omega) (by omega)) g2, g3⟩
theorem exT.wide : ∀ {d lo hi : Nat} {v : Value} {l : ExL}, lo' ≤ lo → hi ≤ hi' → exT d lo hi w v l → exT d lo' hi' w v l
  | 0, _, _, _, _, _, _, h => h
  | d + 1, lo, hi, v, l, k1, k2, ⟨l', h1, h2, h3, h4, h5⟩ => ⟨l', h1, h2.wide k1 k2, h3, fun k hk => by have := h4 k hk; omega, h5.lower k1 (fun _ _ h => h)⟩
theorem exT.below {d B : Nat} {v : Value} {l : ExL} (h : exT d lo hi w v l) (hB : hi ≤ B) (hb : Below B w w') : exT d lo hi w' v l := h.keep (fun k _ hk => hb.block k (by omega))
theorem exT.slice : ∀ {d lo hi : Nat} {v : Value} {l : ExL}, exT d lo hi w v l → ∃ A c, v = .slice A l.length c
  | 0, _, _, _, _, ⟨h, A, c, e⟩ => ⟨A, c, by rw [h]; exact e⟩
  | d + 1, _, _, _, _, ⟨l', h1, _, _, _, A, c, xs, e, _⟩ => ⟨A, c, by rw [e, ← h1, List.length_map]⟩
theorem exT.blk : ∀ {d lo hi : Nat} {v : Value} {l : ExL}, exT (d + 1) lo hi w v l → ∀ k, v.ownBlock = some k → lo ≤ k ∧ k < hi ∧ k < w.heap.size
  | _, _, _, _, _, ⟨l', _, _, _, h4, h5⟩, k, hk => ⟨(h5.ge k hk).1, h4 k hk, (h5.ge k hk).2⟩
theorem RdL.map {α β : Type} {R : World → α → List Value → Prop} {R' : World → β → List Value → Prop} {sz : Nat} {A : Option Addr} {l : List α} (f : α → β) (h : RdL R sz w A l) (hR : ∀ a ∈ l, ∀ cs, R w a cs → R' w (f a) cs) : RdL R' sz w A (l.map f) := by
  refine ⟨by rw [List.length_map]; exact h.1, fun hn => ?_⟩
  rw [List.length_map] at hn
  obtain ⟨b, off, e, hc⟩ := h.2 hn
  refine ⟨b, off, e, fun k hk => ?_⟩
  have hk' : k < l.length := by rwa [List.length_map] at hk
  obtain ⟨cs, h1, h2, h3⟩ := hc k hk'
  refine ⟨cs, h1, ?_, h3⟩
  rw [List.getElem_map]
  exact hR _ (List.getElem_mem hk') _ h2
theorem own_small {B sz n : Nat} {e : TypeId} {v : Value} {xs : List Value} (h : w.ownsRow B e sz v n xs) : n ≤ 9223372036854775807 := by
  obtain ⟨A, c, rfl⟩ := own_slice_ h
  rcases own_split2 h with ⟨_, h2, _⟩ | ⟨_, _, h2, h3⟩ <;> omega
/-- As it reads. -/
theorem exT.rd : ∀ {d lo hi : Nat} {v : Value} {l : ExL}, exT d lo hi w v l → ∃ A c, v = .slice A l.length c ∧ exS d lo hi w A l
  | 0, _, _, _, _, ⟨h, A, c, e⟩ => ⟨A, c, by rw [h]; exact e, by rw [h]; exact exS.nil⟩
  | d + 1, lo, hi, v, l, ⟨l', h1, h2, h3, h4, h5⟩ => by
    have hge := h5.ge
    have hsm : l'.length ≤ 9223372036854775807 := by
      obtain ⟨A, c, xs, e, ho, _⟩ := h5
      exact own_small ho
    obtain ⟨A, c, e, hr⟩ := h5.rd hsm
    have hl : l'.length = l.length := by rw [← h1, List.length_map]
    refine ⟨A, c, by rw [e, hl], ?_, fun hn a ha => ?_⟩
    · rw [← h1]
      refine RdL.map Prod.fst hr (fun a ha cs hcs => ?_)
      obtain ⟨v', g1, g2, g3⟩ := hcs
      obtain ⟨A', c', e', hr'⟩ := exT.rd g2
      have hb := h2.1 a ha
      subst e'
      have hw := hr'.wide hb.1 hb.2.2
      exact ⟨A', c', g1, hw.1, hw.2, g3⟩
    · obtain ⟨b, off, e2, _⟩ := hr.2 (by omega)
      rw [ha] at e2
      cases e2
      have := hge b (by rw [e, ha]; rfl)
      exact ⟨this.1, h4 b (by rw [e, ha]; rfl)⟩
theorem exT.rdW {d : Nat} {v : Value} {l : ExL} (h : exT d lo hi w v l) (hh : hi ≤ w.heap.size) : ∃ A c, v = .slice A l.length c ∧ exW d w A l := by
  obtain ⟨A, c, e, hr⟩ := h.rd
  exact ⟨A, c, e, hr.wide (Nat.zero_le _) hh⟩
theorem exT.rdA {d c : Nat} {A : Option Addr} {l : ExL} (h : exT d lo hi w (.slice A l.length c) l) (hh : hi ≤ w.heap.size) : exW d w A l := by
  obtain ⟨A', c', e, hr⟩ := h.rdW hh
  cases e; exact hr
end
/-- What an append goes from and to: elements that avoid the row, in blocks below N. -/
def ExA (d : Nat) (v : Value) (N : Nat) (w : World) (a : ExX) (cs : List Value) : Prop := ExN d w a cs ∧ a.2.1 ≤ a.2.2 ∧ a.2.2 ≤ N ∧ ∀ k, v.ownBlock = some k → k < a.2.1 ∨ a.2.2 ≤ k
theorem ExN.one {d : Nat} {w : World} {a : ExX} {cs : List Value} (h : ExN d w a cs) : ∀ u ∈ cs, u.oneCell' = true := by
  obtain ⟨v', rfl, hT, _⟩ := h
  obtain ⟨A, c, rfl⟩ := hT.slice
  intro u hu
  simp [exHead] at hu
  rcases hu with rfl | rfl | rfl | rfl <;> rfl
theorem ExN.keep {d : Nat} {w w' : World} {a : ExX} {cs : List Value} (h : ExN d w a cs) (hk : ∀ k, a.2.1 ≤ k → k < a.2.2 → w'.heap[k]? = w.heap[k]?) : ExN d w' a cs := by
  obtain ⟨v', h1, h2, h3⟩ := h
  exact ⟨v', h1, h2.keep hk, h3⟩
theorem ExA.row {d N : Nat} {v : Value} {w w' : World} {a : ExX} {cs : List Value} (h : ExA d v N w a cs) (hN : N ≤ w.heap.size) (hg : w.grownBy w' v.ownBlock) : ExA d v N w' a cs := by
  obtain ⟨h1, h2, h3, h4⟩ := h
  refine ⟨h1.keep (fun k k1 k2 => hg.block k (by omega) (fun e => ?_)), h2, h3, h4⟩
  have := h4 k e.symm
  omega
theorem ExA.below {d N : Nat} {v : Value} {w w' : World} {a : ExX} {cs : List Value} (h : ExA d v N w a cs) (hN : N ≤ w.heap.size) (hb : Below w.heap.size w w') : ExA d v N w' a cs := by
  obtain ⟨h1, h2, h3, h4⟩ := h
  exact ⟨h1.keep (fun k k1 k2 => hb.block k (by omega)), h2, h3, h4⟩
/-- A row of one's own whose elements stand apart from it and from one another, from lo on, below N. -/
def ExO (d lo N : Nat) (w : World) (v : Value) (l' : List ExX) : Prop := AscX lo N l' ∧ N ≤ w.heap.size ∧ OwnG (ExA d v N) lo 28 4 w v l'
theorem ExO.below {d lo N : Nat} {w w' : World} {v : Value} {l' : List ExX} (h : ExO d lo N w v l') (hb : Below w.heap.size w w') : ExO d lo N w' v l' :=
  ⟨h.1, Nat.le_trans h.2.1 hb.size, h.2.2.below hb (fun _ _ g => g.below h.2.1 hb)⟩
theorem ExO.nil {d lo N : Nat} {w : World} (hN : N ≤ w.heap.size) : ExO d lo N w (.slice Option.none 0 0) [] := ⟨AscX.nil, hN, OwnG.nil⟩
theorem ExO.t {d lo N : Nat} {w : World} {v : Value} {l' : List ExX} (h : ExO d lo N w v l') : exT (d + 1) lo w.heap.size w v (l'.map Prod.fst) := by
  refine ⟨l', rfl, h.1.wide (Nat.le_refl _) h.2.1, ?_, fun k hk => (h.2.2.ge k hk).2, h.2.2.lower (Nat.le_refl _) (fun _ _ g => g.1)⟩
  obtain ⟨A, c, xs, e, ho, hc⟩ := h.2.2
  clear h ho e
  induction l' generalizing xs with
  | nil => intro a ha; simp at ha
  | cons b l' ih =>
    obtain ⟨cc, r, rfl, h1, h2, h3⟩ := hc
    intro a ha
    rcases List.mem_cons.1 ha with rfl | ha
    · exact h2.2.2.2
    · exact ih r h3 a ha
/-- Behind an append of one that is new. -/
theorem ExO.add {d lo N : Nat} {w w' : World} {v v' : Value} {l' : List ExX} {t : Ex} {a b : Nat} (hasc : AscX lo N l') (hN : N ≤ a) (hab : a ≤ b) (hlo : lo ≤ a) (hb : b ≤ w.heap.size) (hw : w.heap.size ≤ w'.heap.size)
    (ho : OwnG (ExA d v b) lo 28 4 w' v' (l' ++ [(t, a, b)])) (hv : v'.ownBlock = v.ownBlock ∨ v'.ownBlock = some w.heap.size) : ExO d lo b w' v' (l' ++ [(t, a, b)]) := by
  refine ⟨hasc.snoc hN hab hlo (Nat.le_refl _), by omega, ho.lower (Nat.le_refl _) (fun x cs g => ?_)⟩
  obtain ⟨g1, g2, g3, g4⟩ := g
  refine ⟨g1, g2, g3, fun k hk => ?_⟩
  rcases hv with e | e
  · rw [e] at hk; exact g4 k hk
  · rw [e] at hk; cases hk; exact .inr (by omega)
end Go.Proofs.Ytodjokdaofefdaa
/- Guards that are added: what both compute, and that they agree at valid expressions: plain. -/
namespace Go.Proofs.Ytodjokdaofefdaa
set_option linter.unusedSimpArgs false
set_option linter.unusedVariables false
open Go.RowKit

def asB : Nat → Ex → Bool
  | 0, _ => false
  | d + 1, t => t.ps.any (asB d) || decide (t.k = 7)
noncomputable def addS (t : Ex) (l : ExL) : ExL := if t.k = 8 ∧ hasB l (asHas0 t) = false then l ++ [asHas0 t] else l
noncomputable def addI (t : Ex) (l : ExL) : ExL := if t.k = 8 ∧ hasB l (asHas t) = false then l ++ [asHas t] else l
/-- What must be there, by the reference. -/
noncomputable def fiS : Nat → Ex → ExL → ExL
  | 0, _, l => l
  | d + 1, t, l => addS t (t.ps.foldl (fun l p => fiS d p l) l)
/-- All expressions in one, parts before the whole. -/
def poL : Nat → Ex → ExL
  | 0, _ => []
  | d + 1, t => t.ps.flatMap (poL d) ++ [t]
noncomputable def fiF (d : Nat) (ps : ExL) (l : ExL) (k : Nat) : ExL := (ps.take k).foldl (fun l p => fiS d p l) l
theorem fiF_succ {d : Nat} {ps l : ExL} {k : Nat} (hk : k < ps.length) : fiF d ps l (k + 1) = fiS d (exAt ps k) (fiF d ps l k) := by
  rw [fiF, List.take_succ_eq_append_getElem hk, List.foldl_append, exAt_eq hk]; rfl
theorem fiF_all (d : Nat) (ps l : ExL) : fiF d ps l ps.length = ps.foldl (fun l p => fiS d p l) l := by rw [fiF, List.take_length]
theorem addS_len (t : Ex) (l : ExL) : (addS t l).length ≤ l.length + 1 := by
  unfold addS
  split <;> simp
theorem fi_len : ∀ (d : Nat) (t : Ex) (l : ExL), (fiS d t l).length ≤ l.length + 1 + cntR d t
  | 0, t, l => by simp [fiS]; omega
  | d + 1, t, l => by
    have h1 : ∀ k, k ≤ t.ps.length → (fiF d t.ps l k).length ≤ l.length + k + ((t.ps.take k).map (cntR d)).sum := by
      intro k
      induction k with
      | zero => intro _; simp [fiF]
      | succ k ih =>
        intro hk
        rw [fiF_succ hk, cnt_take hk]
        have := fi_len d (exAt t.ps k) (fiF d t.ps l k)
        have := ih (by omega)
        omega
    have h2 := h1 t.ps.length (Nat.le_refl _)
    rw [List.take_length, fiF_all] at h2
    rw [fiS, cntR]
    have := addS_len t (t.ps.foldl (fun l p => fiS d p l) l)
    omega
theorem fiF_len {d : Nat} {t : Ex} {l : ExL} {k : Nat} (hk : k < t.ps.length) : (fiF d t.ps l k).length + 1 + cntR d (exAt t.ps k) ≤ l.length + 1 + cntR (d + 1) t := by
  have h1 : ∀ k, k ≤ t.ps.length → (fiF d t.ps l k).length ≤ l.length + k + ((t.ps.take k).map (cntR d)).sum := by
    intro k
    induction k with
    | zero => intro _; simp [fiF]
    | succ k ih =>
      intro hk
      rw [fiF_succ hk, cnt_take hk]
      have := fi_len d (exAt t.ps k) (fiF d t.ps l k)
      have := ih (by omega)
      omega
  have h2 := h1 k (by omega)
  have h3 := cnt_take (d := d) hk
  have h4 : ((t.ps.take (k + 1)).map (cntR d)).sum ≤ (t.ps.map (cntR d)).sum := by
    conv => rhs; rw [← List.take_append_drop (k + 1) t.ps, List.map_append, List.sum_append]
    omega
  rw [cntR]
  omega
theorem po_any : ∀ (d : Nat) (t : Ex), (poL d t).any (fun x => decide (x.k = 7)) = asB d t
  | 0, t => rfl
  | d + 1, t => by
    rw [poL, asB, List.any_append, List.any_flatMap]
    have e : (fun a => (poL d a).any fun x => decide (x.k = 7)) = asB d := funext fun a => po_any d a
    rw [e]; simp
theorem add_eq {d : Nat} {t : Ex} {l : ExL} (h : gdR (d + 1) t = true) : addI t l = addS t l := by
  unfold addI addS
  by_cases h8 : t.k = 8
  · have hn := (head_8 (gd_head h) h8).1
    have e : asHas t = asHas0 t := by unfold asHas0 asHas; rw [hn]
    rw [e]
  · rw [if_neg (fun h => h8 h.1), if_neg (fun h => h8 h.1)]
theorem foldl_mem {α β : Type} {f g : β → α → β} {l : List α} (h : ∀ a ∈ l, ∀ b, f b a = g b a) : ∀ b, l.foldl f b = l.foldl g b := by
  induction l with
  | nil => intro b; rfl
  | cons a l ih =>
    intro b
    rw [List.foldl_cons, List.foldl_cons, h a (by simp), ih (fun c hc => h c (by simp [hc]))]
theorem fi_eq : ∀ (d : Nat) (t : Ex) (l : ExL), gdR d t = true → (poL d t).foldl (fun l x => addI x l) l = fiS d t l
  | 0, t, l, h => by cases h
  | d + 1, t, l, h => by
    rw [poL, fiS, List.foldl_append, List.foldl_flatMap]
    have e : t.ps.foldl (fun acc b => (poL d b).foldl (fun l x => addI x l) acc) l = t.ps.foldl (fun l p => fiS d p l) l :=
      foldl_mem (fun p hp b => fi_eq d p b (by
        have := (Bool.and_eq_true_iff.1 h).2
        exact List.all_eq_true.1 this p hp)) l
    rw [e]
    exact add_eq h
/-- All joined by ExprAnd, the first one outermost. -/
def joinE (l : ExL) (t : Ex) : Ex := l.foldr (fun g out => .nd 14 0 ByteArray.empty [g, out]) t
noncomputable def gbL (d : Nat) (r : Ex) : ExL := fiS (d + 1) r []
noncomputable def gbO (d : Nat) (r : Ex) : Ex := joinE (gbL d r) r
noncomputable def gbB (d : Nat) (r : Ex) : Bool := exOk r && (!asB (d + 1) r && exOk (gbO d r))
noncomputable def gbE (d : Nat) (r : Ex) : Ex := if gbB d r = true then gbO d r else exD
theorem cnt_max : ∀ (d : Nat) (t : Ex) (m : Nat), inD d t → cntR m t ≤ cntR d t
  | 0, _, _, h => h.elim
  | d + 1, t, 0, _ => Nat.zero_le _
  | d + 1, t, m + 1, h => by
    rw [cntR, cntR]
    have : ∀ l : ExL, (∀ p ∈ l, inD d p) → (l.map (cntR m)).sum ≤ (l.map (cntR d)).sum := by
      intro l
      induction l with
      | nil => intro _; simp
      | cons a l ih =>
        intro hl
        simp only [List.map_cons, List.sum_cons]
        have := cnt_max d a m (hl a (by simp))
        have := ih (fun p hp => hl p (by simp [hp]))
        omega
    have := this t.ps h
    omega
theorem cnt_mem {m : Nat} {t p : Ex} (hp : p ∈ t.ps) : cntR m p ≤ cntR (m + 1) t := by
  obtain ⟨k, hk, rfl⟩ := List.getElem_of_mem hp
  have := cnt_at (d := m) hk
  rw [exAt_eq hk] at this
  rw [cntR]; omega
theorem fi_mem {C : Nat} : ∀ (d : Nat) (t : Ex) (l : ExL), (∀ m, cntR m t ≤ C) → (∀ x ∈ l, ∀ m, cntR m x ≤ C) → ∀ x ∈ fiS d t l, ∀ m, cntR m x ≤ C
  | 0, t, l, _, hl => hl
  | d + 1, t, l, ht, hl => by
    have h1 : ∀ (q : ExL) (l : ExL), (∀ p ∈ q, ∀ m, cntR m p ≤ C) → (∀ x ∈ l, ∀ m, cntR m x ≤ C) → ∀ x ∈ q.foldl (fun l p => fiS d p l) l, ∀ m, cntR m x ≤ C := by
      intro q
      induction q with
      | nil => intro l _ hl; exact hl
      | cons a q ih =>
        intro l hq hl
        exact ih _ (fun p hp => hq p (by simp [hp])) (fi_mem d a l (hq a (by simp)) hl)
    have h2 := h1 t.ps l (fun p hp m => Nat.le_trans (cnt_mem hp) (ht (m + 1))) hl
    rw [fiS]
    unfold addS
    split
    · intro x hx m
      rcases List.mem_append.1 hx with hx | hx
      · exact h2 x hx m
      · rw [List.mem_singleton.1 hx]
        have e : cntR m (asHas0 t) = cntR m t := by cases m <;> rfl
        rw [e]; exact ht m
    · exact h2
theorem join_cnt {C : Nat} {t : Ex} : ∀ (l : ExL), (∀ x ∈ l, ∀ m, cntR m x ≤ C) → (∀ m, cntR m t ≤ C) → ∀ m, cntR m (joinE l t) ≤ l.length * (C + 2) + C
  | [], _, ht, m => by simpa [joinE] using ht m
  | a :: l, hl, ht, m => by
    cases m with
    | zero => simp [cntR]
    | succ m =>
      have h1 := hl a (by simp) m
      have h2 := join_cnt l (fun x hx => hl x (by simp [hx])) ht m
      have e : cntR (m + 1) (joinE (a :: l) t) = 2 + cntR m a + cntR m (joinE l t) := by
        show cntR (m + 1) (.nd 14 0 ByteArray.empty [a, joinE l t]) = _
        rw [cntR]; simp [Ex.ps]; omega
      rw [e, List.length_cons, Nat.add_mul]
      omega
theorem joinE_cons (a : Ex) (l : ExL) (t : Ex) : joinE (a :: l) t = .nd 14 0 ByteArray.empty [a, joinE l t] := rfl
theorem join_drop {l : ExL} {t : Ex} {j : Nat} (h : j < l.length) : joinE (l.drop j) t = .nd 14 0 ByteArray.empty [exAt l j, joinE (l.drop (j + 1)) t] := by
  rw [List.drop_eq_getElem_cons h, joinE_cons, exAt_eq h]
end Go.Proofs.Ytodjokdaofefdaa
/- Guards that are added, by the reference: whether a request is asked for, what must be there. -/
namespace Go.Proofs.Ytodjokdaofefdaa
set_option linter.unusedSimpArgs false
set_option linter.unusedVariables false
open Go.RowKit

def AsQ (d : Nat) : Prop := ∀ (A : Option Addr) (r : Ex) (c : Nat) (w : World), exW d w A r.ps → 
  Calls Try.prog 76 #[.agg #[.int .i64 r.k, .int .i64 r.n, .string r.s, .slice A r.ps.length c]] w fun e w' => e = .returned (.bool (asB (d + 1) r)) ∧ Below w.heap.size w w'
theorem as_yes {d : Nat} {r : Ex} {k : Nat} (hk : k < r.ps.length) (h : asB d (exAt r.ps k) = true) : asB (d + 1) r = true := by
  rw [asB, Bool.or_eq_true, List.any_eq_true]
  exact .inl ⟨_, List.getElem_mem hk, by rw [← exAt_eq hk]; exact h⟩
theorem as_no {d : Nat} {r : Ex} (h : ∀ k, k < r.ps.length → asB d (exAt r.ps k) = false) : asB (d + 1) r = decide (r.k = 7) := by
  have : r.ps.any (asB d) = false := by
    rw [List.any_eq_false]
    intro x hx
    obtain ⟨k, hk, rfl⟩ := List.getElem_of_mem hx
    have := h k hk
    rw [exAt_eq hk] at this
    rw [this]; simp
  rw [asB, this]; simp
set_option maxRecDepth 100000 in
set_option maxHeartbeats 4000000 in
theorem asQ_of {d : Nat} (hQ : ∀ m, d = m + 1 → AsQ m) : AsQ d := by
  intro A r c w hU
  have hlen := exS.len hU
  have HQ := Lib.hid hQ
  clear hQ
  obtain ⟨W, hW⟩ : ∃ W, W = w.alloc (.cells #[.int .i64 r.k, .int .i64 r.n, .string r.s, .slice A r.ps.length c] 28) := ⟨_, rfl⟩
  obtain ⟨gx, hgx⟩ : ∃ g, g = w.heap.size := ⟨_, rfl⟩
  have hBW : Below w.heap.size w W := by rw [hW]; (repeat (first | exact Below.refl _ _ | refine ext_alloc ?_ _ | refine Below.setCell ?_ (by simp) _))
  have b0 : W.cell? ⟨gx, 0, none⟩ = some (.int .i64 r.k) := by rw [hW, hgx]; exact box_cell w _ _ 0 _ rfl
  have b3 : W.cell? ⟨gx, 3, none⟩ = some (.slice A r.ps.length c) := by rw [hW, hgx]; exact box_cell w _ _ 3 _ rfl
  have hUW := hU.below hBW
  have HW := Lib.hid hW
  have HGX := Lib.hid hgx
  have HBW := Lib.hid hBW
  have HB0 := Lib.hid b0
  have HB3 := Lib.hid b3
  clear hW hgx hBW hU b0 b3
  go_enter Try.func76, Try.ntmps76
  go_wp2
  rw [← HW.out, ← HGX.out]
  go_loopw [3] (fun i wr => ∃ k : Nat, k ≤ r.ps.length ∧ i = .int .i64 k ∧ Hid (∀ j, j < k → asB d (exAt r.ps j) = false) ∧ Below W.heap.size W wr) (fun i _ => r.ps.length - (intOf i).toNat)
  case atStart => exact ⟨0, Nat.zero_le _, rfl, Lib.hid (fun j h => by omega), Below.refl _ _⟩
  case round =>
    obtain ⟨k, hk, rfl, HA, hB⟩ := hrel
    have b0 := below_cell hB HB0.out
    have b3 := below_cell hB HB3.out
    by_cases hlt : k < r.ps.length
    · have hd : ∃ m, d = m + 1 := by
        cases d with
        | zero => have := exS.zero hUW; rw [this] at hlt; simp at hlt
        | succ m => exact ⟨m, rfl⟩
      obtain ⟨m, hm⟩ := hd
      subst hm
      have HQ1 := Lib.hid (HQ.out m rfl)
      obtain ⟨b, off, rfl, hc⟩ := hUW.cells (by omega)
      obtain ⟨A1, c1, hfd, hs1, p0, p1, p2, p3⟩ := hc k hlt
      replace p0 := below_cell hB p0
      replace p1 := below_cell hB p1
      replace p2 := below_cell hB p2
      replace p3 := below_cell hB p3
      replace hfd := hfd.below hB
      clear hc
      obtain ⟨y, hy⟩ : ∃ y, asB (m + 1) (exAt r.ps k) = y := ⟨_, rfl⟩
      have HY := Lib.hid hy
      clear hy
      cases y
      all_goals
        go_wp2_with fail
        refine (HQ1.out _ _ _ _ hfd).mono ?_
        rintro e w4 ⟨rfl, hb⟩
        rw [HY.out]
        replace hB := ext_trans hB hb
        clear hb p0 p1 p2 p3 b0 b3
        go_wp2
      · go_roundw
        case rel => exact ⟨k + 1, by omega, by go_num, Lib.hid (all_succ HA.out HY.out), hB⟩
        case measure => simp [intOf]; omega
      · go_ret
        exact ⟨by rw [as_yes hlt HY.out]; rfl, ext_trans HBW.out hB⟩
    · obtain rfl : k = r.ps.length := by omega
      go_wp2
      go_ret
      exact ⟨by rw [as_no HA.out]; first | rfl | (apply ret_bool; simp), ext_trans HBW.out hB⟩
theorem asQ_all : ∀ d, AsQ d
  | 0 => asQ_of (fun m h => by cases h)
  | d + 1 => asQ_of (fun m h => by cases h; exact asQ_all d)
def FiQ (d D : Nat) : Prop := ∀ (A Ak : Option Addr) (r : Ex) (kl : ExL) (c ck : Nat) (w : World), exW d w A r.ps → r.s.size ≤ 9223372036854775807 → exW D w Ak kl → d + 1 ≤ D → kl.length + 1 + cntR (d + 1) r ≤ 1048576 →
  Calls Try.prog 77 #[.agg #[.int .i64 r.k, .int .i64 r.n, .string r.s, .slice A r.ps.length c], .slice Ak kl.length ck] w fun e w' => ∃ A' c', e = .returned (.slice A' (fiS (d + 1) r kl).length c') ∧ exW D w' A' (fiS (d + 1) r kl) ∧ Below w.heap.size w w'
set_option maxRecDepth 100000 in
set_option maxHeartbeats 8000000 in
theorem fiQ_of {d D : Nat} (hQ : ∀ m, d = m + 1 → FiQ m D) : FiQ d D := by
  intro A Ak r kl c ck w hU hs hK0 hD hn
  have hlen := exS.len hU
  have HQ := Lib.hid hQ
  have HN := Lib.hid hn
  have HFL := Lib.hid (fi_len (d + 1) r kl)
  clear hQ hn
  obtain ⟨W, hW⟩ : ∃ W, W = w.alloc (.cells #[.int .i64 r.k, .int .i64 r.n, .string r.s, .slice A r.ps.length c] 28) := ⟨_, rfl⟩
  obtain ⟨gx, hgx⟩ : ∃ g, g = w.heap.size := ⟨_, rfl⟩
  have hBW : Below w.heap.size w W := by rw [hW]; (repeat (first | exact Below.refl _ _ | refine ext_alloc ?_ _ | refine Below.setCell ?_ (by simp) _))
  have b0 : W.cell? ⟨gx, 0, none⟩ = some (.int .i64 r.k) := by rw [hW, hgx]; exact box_cell w _ _ 0 _ rfl
  have b2 : W.cell? ⟨gx, 2, none⟩ = some (.string r.s) := by rw [hW, hgx]; exact box_cell w _ _ 2 _ rfl
  have b3 : W.cell? ⟨gx, 3, none⟩ = some (.slice A r.ps.length c) := by rw [hW, hgx]; exact box_cell w _ _ 3 _ rfl
  have hUW := hU.below hBW
  have hKW := hK0.below hBW
  have HW := Lib.hid hW
  have HGX := Lib.hid hgx
  have HBW := Lib.hid hBW
  have HB0 := Lib.hid b0
  have HB2 := Lib.hid b2
  have HB3 := Lib.hid b3
  clear hW hgx hBW hU hK0 b0 b2 b3
  go_enter Try.func77, Try.ntmps77
  go_wp2
  rw [← HW.out, ← HGX.out]
  go_loopw [1, 5] (fun kv i wr => ∃ k : Nat, k ≤ r.ps.length ∧ i = .int .i64 k ∧ KnV D (fiF d r.ps kl k) wr kv ∧ Below W.heap.size W wr) (fun _ i _ => r.ps.length - (intOf i).toNat)
  case atStart => exact ⟨0, Nat.zero_le _, rfl, ⟨Ak, ck, rfl, hKW⟩, Below.refl _ _⟩
  case round =>
    clear hKW
    obtain ⟨k, hk, rfl, ⟨A5, c5, rfl, hk5⟩, hB⟩ := hrel
    have b3 := below_cell hB HB3.out
    by_cases hlt : k < r.ps.length
    · have hd : ∃ m, d = m + 1 := by
        cases d with
        | zero => have := exS.zero hUW; rw [this] at hlt; simp at hlt
        | succ m => exact ⟨m, rfl⟩
      obtain ⟨m, hm⟩ := hd
      subst hm
      have HQ1 := Lib.hid (HQ.out m rfl)
      have hstep := fiF_succ (d := m + 1) (l := kl) hlt
      have hfl := fiF_len (d := m + 1) (t := r) (l := kl) hlt
      have HC := Lib.hid (Nat.le_trans hfl HN.out)
      obtain ⟨K1, hK1⟩ : ∃ K, K = fiF (m + 1) r.ps kl k := ⟨_, rfl⟩
      rw [← hK1] at hstep HC hk5 ⊢
      have HS := Lib.hid hstep
      obtain ⟨b, off, rfl, hc⟩ := hUW.cells (by omega)
      obtain ⟨A1, c1, hfd, hs1, p0, p1, p2, p3⟩ := hc k hlt
      replace p0 := below_cell hB p0
      replace p1 := below_cell hB p1
      replace p2 := below_cell hB p2
      replace p3 := below_cell hB p3
      replace hfd := hfd.below hB
      clear hc hstep hfl hK1
      go_wp2_with fail
      refine (HQ1.out _ _ _ K1 c1 c5 _ hfd hs1 hk5 (by omega) HC.out).mono ?_
      rw [← HS.out]
      rintro e w4 ⟨A6, c6, rfl, hk6, hb⟩
      replace hB := ext_trans hB hb
      clear hb p0 p1 p2 p3 b3 hk5
      go_wp2
      go_roundw
      case rel => exact ⟨k + 1, by omega, by go_num, ⟨A6, c6, rfl, hk6⟩, hB⟩
      case measure => simp [intOf]; omega
    · obtain rfl : k = r.ps.length := by omega
      obtain ⟨K1, hK1⟩ : ∃ K, K = fiF d r.ps kl r.ps.length := ⟨_, rfl⟩
      have HR : Hid (fiS (d + 1) r kl = addS r K1) := Lib.hid (by rw [fiS, hK1, fiF_all])
      rw [← hK1] at hk5 ⊢
      clear hK1
      have b0 := below_cell hB HB0.out
      have b2 := below_cell hB HB2.out
      have HKL := Lib.hid (show (addS r K1).length ≤ 1048576 by rw [← HR.out]; have := HFL.out; have := HN.out; omega)
      have hD2 : ∃ D', D = D' + 1 := ⟨D - 1, by omega⟩
      obtain ⟨D', hD'⟩ := hD2
      subst hD'
      obtain ⟨Y, hY⟩ : ∃ Y, Y = wr.alloc (.cells #[.int .i64 9, .int .i64 0, .string r.s, .slice A r.ps.length c] 28) := ⟨_, rfl⟩
      obtain ⟨gy, hgy⟩ : ∃ g, g = wr.heap.size := ⟨_, rfl⟩
      have hbY : Below wr.heap.size wr Y := by rw [hY]; (repeat (first | exact Below.refl _ _ | refine ext_alloc ?_ _ | refine Below.setCell ?_ (by simp) _))
      have y0 : Y.cell? ⟨gy, 0, none⟩ = some (.int .i64 9) := by rw [hY, hgy]; exact box_cell _ _ _ 0 _ rfl
      have y1 : Y.cell? ⟨gy, 1, none⟩ = some (.int .i64 0) := by rw [hY, hgy]; exact box_cell _ _ _ 1 _ rfl
      have y2 : Y.cell? ⟨gy, 2, none⟩ = some (.string r.s) := by rw [hY, hgy]; exact box_cell _ _ _ 2 _ rfl
      have y3 : Y.cell? ⟨gy, 3, none⟩ = some (.slice A r.ps.length c) := by rw [hY, hgy]; exact box_cell _ _ _ 3 _ rfl
      have a0 : (wr.alloc (.cells #[.int .i64 9, .int .i64 0, .string r.s, .slice A r.ps.length c] 28)).cell? ⟨gx, 0, none⟩ = some (.int .i64 r.k) := by rw [← hY]; exact below_cell hbY b0
      have hk6 := hk5.below hbY
      have hU6 := (hUW.below hB).below hbY
      have hB6 := ext_trans hB hbY
      have HY := Lib.hid hY
      have HGY := Lib.hid hgy
      have HK6 := Lib.hid hk6
      have HU6 := Lib.hid hU6
      clear hY hgy hk6 hU6 hbY hlt
      by_cases h8 : r.k = 8
      · have e8 : (r.k == 8) = true := by simp [h8]
        obtain ⟨y, hy⟩ : ∃ y, hasB K1 (asHas0 r) = y := ⟨_, rfl⟩
        have hcon : Calls Try.prog 120 #[.slice A5 K1.length c5, .agg #[.int .i64 9, .int .i64 0, .string r.s, .slice A r.ps.length c]] Y fun e w' => e = .returned (.bool y) ∧ Below Y.heap.size Y w' := by
          have h := specHas_any (D := D') (l := K1) (r := asHas0 r) (A := A5) (A' := A) (c := c5) (c' := c) (w := Y) HK6.out (exS.deeper HU6.out (by omega))
          rw [hy] at h
          exact h
        have HCON := Lib.hid hcon
        cases y
        · have HR2 : Hid (addS r K1 = K1 ++ [asHas0 r]) := Lib.hid (by rw [addS, if_pos ⟨h8, hy⟩])
          rw [HR2.out] at HKL
          clear hcon hy h8
          go_wp2_with fail
          rw [← HY.out, ← HGY.out]
          refine HCON.out.mono ?_
          rintro e w5 ⟨rfl, hb⟩
          replace hB := ext_trans hB6 hb
          replace y0 := below_cell hb y0
          replace y1 := below_cell hb y1
          replace y2 := below_cell hb y2
          replace y3 := below_cell hb y3
          have hK5 := HK6.out.below hb
          have hU5 := exS.deeper (HU6.out.below hb) (show d ≤ D' by omega)
          clear hb a0 b0 b2 b3
          go_wp2_with fail
          refine wp_region_kinds2 (fun i wz vz => match i with | 0 => FrB w5.heap.size 28 0 #[] wz vz | 1 => vz = .slice A5 K1.length c5 | 2 => OwnE (D' + 1) w5.heap.size w5.heap.size K1 wz vz | 3 => vz = .agg #[.int .i64 9, .int .i64 0, .string r.s, .slice A r.ps.length c] | 4 => FrB w5.heap.size 28 1 #[.int .i64 9, .int .i64 0, .string r.s, .slice A r.ps.length c] wz vz | 5 => OwnE (D' + 1) w5.heap.size w5.heap.size (K1 ++ [asHas0 r]) wz vz | 6 => OwnE (D' + 1) w5.heap.size w5.heap.size (K1 ++ [asHas0 r]) wz vz | _ => True) (fun _ wz => Below w5.heap.size w5 wz) (fun i w w' => Below (if i = 5 then w5.heap.size else w.heap.size) w w') (fun j => match j with | 0 => some 5 | 2 => some 5 | 4 => some 5 | _ => Option.none) (by kernel_rfl) (by kernel_rfl) (by kernel_rfl) ?stab7 (ext_drew (Below.refl _ _)) ?all7 ?fin7
          case stab7 =>
            intro i j wa wb v hR hk hne hd _ h2 hT
            match j, hk, hne, hd, h2, hT with
            | 0, hk, hne, hd, h2, hT => exact FrB.below hT (rel_un (fun e => hk (by subst e; rfl)) hR)
            | 1, hk, hne, hd, h2, hT => exact hT
            | 2, hk, hne, hd, h2, hT => exact OwnE.below hT (rel_un (fun e => hk (by subst e; rfl)) hR)
            | 3, hk, hne, hd, h2, hT => exact hT
            | 4, hk, hne, hd, h2, hT => exact FrB.below hT (rel_un (fun e => hk (by subst e; rfl)) hR)
            | 5, hk, hne, hd, h2, hT => exact OwnE.below hT (rel_un (fun e => hne e.symm) hR)
            | 6, hk, hne, hd, h2, hT => exact OwnE.below hT (rel_un (fun e => by subst e; exact Bool.noConfusion (hd.symm.trans (show depB _ 6 5 = true from by kernel_rfl))) hR)
            | n + 7, _, _, _, _, _ => trivial
          case all7 =>
            refine RAll.cons rfl ?_ (RAll.cons rfl ?_ (RAll.cons rfl ?_ (RAll.cons rfl ?_ (RAll.cons rfl ?_ (RAll.cons rfl ?_ (RAll.cons rfl ?_ (RAll.none_)))))))
            · intro a k wa K Q _ hI hp hK
              go_simp
              exact hK _ _ ⟨_, rfl, hI.size, heap_alloc_new _ _⟩ (rel_ne (by decide) (below_alloc _ _)) (ext_alloc hI _)
            · intro a k wa K Q _ hI hp hK
              exact op_move _ (.inl rfl) (hK _ _ (hp.keep 1 (by kernel_rfl)) (Below.refl _ _) hI)
            · intro a k wa K Q _ hI hp hK
              have t35 : FrB w5.heap.size 28 0 #[] wa (a.eval (.tmp 35)) := hp.dep 0 35 (by kernel_rfl)
              have e36 := tmp_of (show a.eval (.tmp 36) = .slice A5 K1.length c5 from hp.dep 1 36 (by kernel_rfl))
              refine op_append_emptyG (R := exR (D' + 1) 0 w5.heap.size) (l := K1) (B := w5.heap.size) (.tmp 35) (.tmp 36) 26 28 _ 4 56 rfl Try.underlying26 Try.infoExpr rfl (by decide) t35 (hp.dep 1 36 (by kernel_rfl)) (exS.below hK5 (Nat.le_refl _) hI).1 (fun w' hb a cs h => exR.below h hI.size hb) hI.size (by have := HKL.out; simp at this; omega) (by have := HKL.out; simp at this; omega) ?_
              intro v' wb ho' hb
              exact hK _ _ ⟨⟨Nat.le_trans hI.size hb.size, Nat.le_refl _⟩, ho'⟩ (rel_ne (by decide) hb) (ext_trans hI hb)
            · intro a k wa K Q _ hI hp hK
              have e6 := tmp_of (show a.eval (.tmp 6) = .pointer (some ⟨gy, 0, none⟩) from hp.keep 6 (by kernel_rfl))
              have y0_ := below_cell hI y0
              have y1_ := below_cell hI y1
              have y2_ := below_cell hI y2
              have y3_ := below_cell hI y3
              go_simp
              exact hK _ _ rfl (Below.refl _ _) hI
            · intro a k wa K Q _ hI hp hK
              have e38 := tmp_of (show a.eval (.tmp 38) = .agg #[.int .i64 9, .int .i64 0, .string r.s, .slice A r.ps.length c] from hp.dep 3 38 (by kernel_rfl))
              go_simp
              exact hK _ _ ⟨_, rfl, hI.size, heap_alloc_new _ _⟩ (rel_ne (by decide) (below_alloc _ _)) (ext_alloc hI _)
            · intro a k wa K Q _ hI hp hK
              have t37 : OwnE (D' + 1) w5.heap.size w5.heap.size K1 wa (a.eval (.tmp 37)) := hp.dep 2 37 (by kernel_rfl)
              have t39 : FrB w5.heap.size 28 1 #[.int .i64 9, .int .i64 0, .string r.s, .slice A r.ps.length c] wa (a.eval (.tmp 39)) := hp.dep 4 39 (by kernel_rfl)
              have hM := t37.2
              obtain ⟨A9, c9, e39, hr9⟩ := ((OwnE.one (t := asHas0 r) (exS.below hU5 (Nat.le_refl _) hI) hs (Nat.le_refl _) hI.size t39)).2.rd (by simp)
              refine op_appendG (R := exR (D' + 1) 0 w5.heap.size) (l := K1) (l2 := [asHas0 r]) (.tmp 37) (.tmp 39) 26 28 _ 4 56 rfl Try.underlying26 Try.infoExpr rfl (by decide) (fun a cs h => exR.one h) rfl hM e39 hr9 (fun w' hg a cs h => exR.row hI.size hg (fun k hk => (hM.ge k hk).1) h) (by have := HKL.out; simp at this; simp; omega) (by have := HKL.out; simp at this; simp; omega) hI.size ?_
              intro v' wb ho' hb' hgr _
              exact hK _ _ ⟨⟨Nat.le_trans hI.size hb'.size, Nat.le_refl _⟩, ho'⟩ (rel_eq rfl hb') (hI.trans hb')
            · intro a k wa K Q _ hI hp hK
              exact op_move _ (.inr rfl) (hK _ _ (hp.dep 5 40 (by kernel_rfl)) (Below.refl _ _) hI)
          case fin7 =>
            intro f w9 hT hI0
            have hI : Below w5.heap.size w5 w9 := hI0
            have hr6 : OwnE (D' + 1) w5.heap.size w5.heap.size (K1 ++ [asHas0 r]) w9 (f 6) := hT 6 (by decide) rfl rfl
            clear hT hI0
            obtain ⟨A6, c6, e6, h6⟩ := hr6.rd (by have := HKL.out; omega)
            simp only [putAll, e6]
            go_simp
            go_wp2
            go_ret
            rw [HR.out, HR2.out]
            exact ⟨A6, c6, by simp, h6, ext_trans HBW.out (ext_trans hB hI)⟩
        · have HR2 : Hid (addS r K1 = K1) := Lib.hid (by rw [addS, if_neg (fun h => by rw [hy] at h; cases h.2)])
          clear hcon hy h8
          go_wp2_with fail
          rw [← HY.out, ← HGY.out]
          refine HCON.out.mono ?_
          rintro e w5 ⟨rfl, hb⟩
          replace hB := ext_trans hB6 hb
          have hK5 := HK6.out.below hb
          clear hb a0 b0 b2 b3 y0 y1 y2 y3
          go_wp2
          go_ret
          rw [HR.out, HR2.out]
          exact ⟨A5, c5, rfl, hK5, ext_trans HBW.out hB⟩
      · have e8 : (r.k == 8) = false := by simp [h8]
        have HR2 : Hid (addS r K1 = K1) := Lib.hid (by rw [addS, if_neg (fun h => h8 h.1)])
        clear h8
        go_wp2
        go_ret
        rw [HR.out, HR2.out]
        rw [← HY.out]
        exact ⟨A5, c5, rfl, HK6.out, ext_trans HBW.out hB6⟩
theorem fiQ_all (D : Nat) : ∀ d, FiQ d D
  | 0 => fiQ_of (fun m h => by cases h)
  | d + 1 => fiQ_of (fun m h => by cases h; exact fiQ_all D d)
end Go.Proofs.Ytodjokdaofefdaa

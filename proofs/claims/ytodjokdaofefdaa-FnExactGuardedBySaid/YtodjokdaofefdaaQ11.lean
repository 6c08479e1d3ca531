/- Guarded, by the program and by the reference; the exact law, walked. -/
import Derived.Test.YtodjokdaofefdaaQ8
import Derived.Test.YtodjokdaofefdaaQ10
import Derived.Test.YtodjokdaofefdaaQ3
import Derived.Test.YtodjokdaofefdaaQ1
namespace Go.Proofs.Ytodjokdaofefdaa
set_option linter.unusedSimpArgs false
set_option linter.unusedVariables false
open Go.RowKit

theorem ok_parts {d : Nat} {r : Ex} (hin : inD (d + 1) r) (h : exOk r = true) : gdR (d + 1) r = true ∧ 1 + cntR (d + 1) r ≤ 40 := by
  rw [exOk_eq hin] at h
  simp only [Bool.and_eq_true, decide_eq_true_eq] at h
  exact ⟨h.1, h.2.1⟩
noncomputable def guOk (d : Nat) (r : Ex) : Bool := exOk r && guI (d + 1) r []
theorem gu_same {d : Nat} {r : Ex} (hg : gdR (d + 1) r = true) : guS (d + 1) r [] = guI (d + 1) r [] := gu_eq (d + 1) r [] [] hg (fun _ _ => rfl)
set_option maxRecDepth 100000 in
set_option maxHeartbeats 2000000 in
theorem specGuarded {d : Nat} {A : Option Addr} {r : Ex} {c : Nat} {w : World} (hU : exW d w A r.ps) (hs : r.s.size ≤ 9223372036854775807) (hcnt : cntS d r.ps ≤ 2097152) :
    Calls Try.prog 21 #[.agg #[.int .i64 r.k, .int .i64 r.n, .string r.s, .slice A r.ps.length c]] w fun e w' => e = .returned (.bool (guOk d r)) ∧ Below w.heap.size w w' := by
  have hlen := exS.len hU
  obtain ⟨W, hW⟩ : ∃ W, W = w.alloc (.cells #[.int .i64 r.k, .int .i64 r.n, .string r.s, .slice A r.ps.length c] 28) := ⟨_, rfl⟩
  obtain ⟨gx, hgx⟩ : ∃ g, g = w.heap.size := ⟨_, rfl⟩
  have hB : Below w.heap.size w W := by rw [hW]; (repeat (first | exact Below.refl _ _ | refine ext_alloc ?_ _ | refine Below.setCell ?_ (by simp) _))
  have b0 : W.cell? ⟨gx, 0, none⟩ = some (.int .i64 r.k) := by rw [hW, hgx]; exact box_cell w _ _ 0 _ rfl
  have b1 : W.cell? ⟨gx, 1, none⟩ = some (.int .i64 r.n) := by rw [hW, hgx]; exact box_cell w _ _ 1 _ rfl
  have b2 : W.cell? ⟨gx, 2, none⟩ = some (.string r.s) := by rw [hW, hgx]; exact box_cell w _ _ 2 _ rfl
  have b3 : W.cell? ⟨gx, 3, none⟩ = some (.slice A r.ps.length c) := by rw [hW, hgx]; exact box_cell w _ _ 3 _ rfl
  have hUW := hU.below hB
  have hin := exS_in hU
  have HW := Lib.hid hW
  have HGX := Lib.hid hgx
  clear hW hgx hU
  cases hok : exOk r
  · have HR : Hid (guOk d r = false) := Lib.hid (by rw [guOk, hok]; rfl)
    go_enter Try.func21, Try.ntmps21
    go_wp2_with fail
    rw [← HW.out, ← HGX.out]
    refine (specExprValid hUW hs hcnt).mono ?_
    rintro e w1 ⟨rfl, hb⟩
    rw [hok, HGX.out]
    replace hB := ext_trans hB hb
    go_wp2
    go_ret
    exact ⟨by rw [HR.out]; rfl, hB⟩
  · obtain ⟨hg, hc40⟩ := ok_parts hin hok
    obtain ⟨y, hy⟩ : ∃ y, guI (d + 1) r [] = y := ⟨_, rfl⟩
    have HR : Hid (guOk d r = y) := Lib.hid (by rw [guOk, hok, hy]; rfl)
    have HS : Hid (guS (d + 1) r [] = y) := Lib.hid (by rw [gu_same hg]; exact hy)
    have HG := Lib.hid hg
    have HC := Lib.hid (show ([] : ExL).length + 1 + cntR (d + 1) r ≤ 1048576 by simp; omega)
    clear hg hc40 hy
    go_enter Try.func21, Try.ntmps21
    go_wp2_with fail
    rw [← HW.out, ← HGX.out]
    refine (specExprValid hUW hs hcnt).mono ?_
    rintro e w1 ⟨rfl, hb⟩
    rw [hok]
    replace hB := ext_trans hB hb
    replace b0 := below_cell hb b0
    replace b1 := below_cell hb b1
    replace b2 := below_cell hb b2
    replace b3 := below_cell hb b3
    replace hUW := hUW.below hb
    clear hb
    go_wp2_with fail
    refine (gsQ_all (d + 1) d _ _ r [] c _ _ (hUW.below (below_alloc _ _)) hs exS.nil (Nat.le_refl _) HG.out HC.out).mono ?_
    rintro e w2 ⟨rfl, hb⟩
    rw [HS.out, HGX.out]
    replace hB := ext_trans hB (ext_trans (below_alloc _ _) hb)
    go_wp2
    go_ret
    exact ⟨by rw [HR.out]; rfl, hB⟩
set_option maxRecDepth 100000 in
set_option maxHeartbeats 2000000 in
theorem implGuarded {d : Nat} {A : Option Addr} {r : Ex} {c : Nat} {w : World} (hU : exW d w A r.ps) (hs : r.s.size ≤ 9223372036854775807) :
    Calls Try.prog 17 #[.agg #[.int .i64 r.k, .int .i64 r.n, .string r.s, .slice A r.ps.length c]] w fun e w' => e = .returned (.bool (guOk d r)) ∧ Below w.heap.size w w' := by
  have hlen := exS.len hU
  obtain ⟨W, hW⟩ : ∃ W, W = w.alloc (.cells #[.int .i64 r.k, .int .i64 r.n, .string r.s, .slice A r.ps.length c] 28) := ⟨_, rfl⟩
  obtain ⟨gx, hgx⟩ : ∃ g, g = w.heap.size := ⟨_, rfl⟩
  have hB : Below w.heap.size w W := by rw [hW]; (repeat (first | exact Below.refl _ _ | refine ext_alloc ?_ _ | refine Below.setCell ?_ (by simp) _))
  have b0 : W.cell? ⟨gx, 0, none⟩ = some (.int .i64 r.k) := by rw [hW, hgx]; exact box_cell w _ _ 0 _ rfl
  have b1 : W.cell? ⟨gx, 1, none⟩ = some (.int .i64 r.n) := by rw [hW, hgx]; exact box_cell w _ _ 1 _ rfl
  have b2 : W.cell? ⟨gx, 2, none⟩ = some (.string r.s) := by rw [hW, hgx]; exact box_cell w _ _ 2 _ rfl
  have b3 : W.cell? ⟨gx, 3, none⟩ = some (.slice A r.ps.length c) := by rw [hW, hgx]; exact box_cell w _ _ 3 _ rfl
  have hUW := hU.below hB
  have hin := exS_in hU
  have HW := Lib.hid hW
  have HGX := Lib.hid hgx
  clear hW hgx hU
  cases hok : exOk r
  · have HR : Hid (guOk d r = false) := Lib.hid (by rw [guOk, hok]; rfl)
    go_enter Try.func17, Try.ntmps17
    go_wp2_with fail
    rw [← HW.out, ← HGX.out]
    refine (implExprValid hUW hs).mono ?_
    rintro e w1 ⟨rfl, hb⟩
    rw [hok, HGX.out]
    replace hB := ext_trans hB hb
    go_wp2
    go_ret
    exact ⟨by rw [HR.out]; rfl, hB⟩
  · obtain ⟨hg, hc40⟩ := ok_parts hin hok
    obtain ⟨y, hy⟩ : ∃ y, guI (d + 1) r [] = y := ⟨_, rfl⟩
    have HR : Hid (guOk d r = y) := Lib.hid (by rw [guOk, hok, hy]; rfl)
    have HS := Lib.hid hy
    have HG := Lib.hid hg
    have HC := Lib.hid (show ([] : ExL).length + 1 + cntR (d + 1) r ≤ 1048576 by simp; omega)
    clear hg hc40 hy
    go_enter Try.func17, Try.ntmps17
    go_wp2_with fail
    rw [← HW.out, ← HGX.out]
    refine (implExprValid hUW hs).mono ?_
    rintro e w1 ⟨rfl, hb⟩
    rw [hok]
    replace hB := ext_trans hB hb
    replace b0 := below_cell hb b0
    replace b1 := below_cell hb b1
    replace b2 := below_cell hb b2
    replace b3 := below_cell hb b3
    replace hUW := hUW.below hb
    clear hb
    go_wp2_with fail
    refine (giQ_all (d + 1) d _ _ r [] c _ _ hUW hs exS.nil (Nat.le_refl _) HG.out HC.out).mono ?_
    rintro e w2 ⟨rfl, hb⟩
    rw [HS.out, HGX.out]
    replace hB := ext_trans hB hb
    go_wp2
    go_ret
    exact ⟨by rw [HR.out]; rfl, hB⟩
/-- An expression that reads. -/
def ExV (d : Nat) (r : Ex) (w : World) (v : Value) : Prop := ∃ A c, v = .agg #[.int .i64 r.k, .int .i64 r.n, .string r.s, .slice A r.ps.length c] ∧ exW d w A r.ps
theorem ExV.below {d : Nat} {r : Ex} {w w' : World} {v : Value} (h : ExV d r w v) (hb : Below w.heap.size w w') : ExV d r w' v := let ⟨A, c, e, h⟩ := h; ⟨A, c, e, h.below hb⟩
set_option maxRecDepth 100000 in
set_option maxHeartbeats 4000000 in
theorem lawExactGuarded {d : Nat} {A : Option Addr} {r : Ex} {c : Nat} {w : World} (hU : exW d w A r.ps) (hs : r.s.size ≤ 9223372036854775807) :
    Calls Try.prog 4 #[.agg #[.int .i64 r.k, .int .i64 r.n, .string r.s, .slice A r.ps.length c]] w fun e w' => e = .returned (.bool true) ∧ Below w.heap.size w w' := by
  have hlen := exS.len hU
  obtain ⟨W, hW⟩ : ∃ W, W = w.alloc (.cells #[.int .i64 r.k, .int .i64 r.n, .string r.s, .slice A r.ps.length c] 48) := ⟨_, rfl⟩
  obtain ⟨g, hg⟩ : ∃ g, g = w.heap.size := ⟨_, rfl⟩
  have hB : Below w.heap.size w W := by rw [hW]; (repeat (first | exact Below.refl _ _ | refine ext_alloc ?_ _ | refine Below.setCell ?_ (by simp) _))
  have q0 : W.cell? ⟨g, 0, none⟩ = some (.int .i64 r.k) := by rw [hW, hg]; exact box_cell w _ _ 0 _ rfl
  have q1 : W.cell? ⟨g, 1, none⟩ = some (.int .i64 r.n) := by rw [hW, hg]; exact box_cell w _ _ 1 _ rfl
  have q2 : W.cell? ⟨g, 2, none⟩ = some (.string r.s) := by rw [hW, hg]; exact box_cell w _ _ 2 _ rfl
  have q3 : W.cell? ⟨g, 3, none⟩ = some (.slice A r.ps.length c) := by rw [hW, hg]; exact box_cell w _ _ 3 _ rfl
  replace hU := hU.below hB
  have HW := Lib.hid hW
  have HG := Lib.hid hg
  clear hW hg
  go_enter Try.func4, Try.ntmps4
  go_wp2_with fail
  rw [← HW.out, ← HG.out]
  refine (szExpr_any hU hs (by omega) (by omega)).mono ?_
  rintro e w1 ⟨y, rfl, hy, hBc⟩
  replace hB := ext_trans hB hBc
  replace hU := hU.below hBc
  replace q0 := below_cell hBc q0
  replace q1 := below_cell hBc q1
  replace q2 := below_cell hBc q2
  replace q3 := below_cell hBc q3
  clear hBc
  rcases hy with rfl | ⟨y0, y1, hf⟩
  · go_wp2
    go_ret
    exact ⟨rfl, hB⟩
  · have HF := Lib.hid hf
    have HCN := Lib.hid (show cntS d r.ps ≤ 2097152 by omega)
    clear hf
    go_wp2_with fail
    refine (toExpr_any hU HF.out).mono ?_
    rintro e w2 ⟨A1, c1, rfl, hV, hBc⟩
    replace hB := ext_trans hB hBc
    replace hU := hU.below hBc
    replace q0 := below_cell hBc q0
    replace q1 := below_cell hBc q1
    replace q2 := below_cell hBc q2
    replace q3 := below_cell hBc q3
    have hV' : exW d w2 A1 r.ps := hV.wide (Nat.zero_le _) (Nat.le_refl _)
    clear hBc hV
    go_wp2_with fail
    refine (specGuarded hV' hs HCN.out).mono ?_
    rintro e w3 ⟨rfl, hBc⟩
    replace hB := ext_trans hB hBc
    replace hU := hU.below hBc
    replace q0 := below_cell hBc q0
    replace q1 := below_cell hBc q1
    replace q2 := below_cell hBc q2
    replace q3 := below_cell hBc q3
    obtain ⟨z, hz⟩ : ∃ z, guOk d r = z := ⟨_, rfl⟩
    have HZ := Lib.hid hz
    rw [hz]
    clear hBc hV' hz
    go_wp2_with fail
    refine (toExpr_any hU HF.out).mono ?_
    rintro e w4 ⟨A2, c2, rfl, hV, hBc⟩
    replace hB := ext_trans hB hBc
    replace hU := hU.below hBc
    replace q0 := below_cell hBc q0
    replace q1 := below_cell hBc q1
    replace q2 := below_cell hBc q2
    replace q3 := below_cell hBc q3
    have hV' : exW d w4 A2 r.ps := hV.wide (Nat.zero_le _) (Nat.le_refl _)
    clear hBc hV
    obtain ⟨X, hX⟩ : ∃ X, X = w4.alloc (.cells #[.int .i64 r.k, .int .i64 r.n, .string r.s, .slice A2 r.ps.length c2] 28) := ⟨_, rfl⟩
    obtain ⟨gx, hgx⟩ : ∃ g, g = w4.heap.size := ⟨_, rfl⟩
    have x0 : X.cell? ⟨gx, 0, none⟩ = some (.int .i64 r.k) := by rw [hX, hgx]; exact box_cell _ _ _ 0 _ rfl
    have x1 : X.cell? ⟨gx, 1, none⟩ = some (.int .i64 r.n) := by rw [hX, hgx]; exact box_cell _ _ _ 1 _ rfl
    have x2 : X.cell? ⟨gx, 2, none⟩ = some (.string r.s) := by rw [hX, hgx]; exact box_cell _ _ _ 2 _ rfl
    have x3 : X.cell? ⟨gx, 3, none⟩ = some (.slice A2 r.ps.length c2) := by rw [hX, hgx]; exact box_cell _ _ _ 3 _ rfl
    have hb4 : Below w4.heap.size w4 X := by rw [hX]; exact below_alloc _ _
    replace hB := ext_trans hB hb4
    replace hU := hU.below hb4
    replace hV' := hV'.below hb4
    replace q0 := below_cell hb4 q0
    replace q1 := below_cell hb4 q1
    replace q2 := below_cell hb4 q2
    replace q3 := below_cell hb4 q3
    have HX := Lib.hid hX
    have HGX := Lib.hid hgx
    clear hX hgx hb4
    go_wp2_with fail
    rw [← HX.out, ← HGX.out]
    refine (implGuarded hV' hs).mono ?_
    rintro e w5 ⟨rfl, hBc⟩
    rw [HZ.out]
    replace hB := ext_trans hB hBc
    replace hU := hU.below hBc
    replace hV' := hV'.below hBc
    replace q0 := below_cell hBc q0
    replace q1 := below_cell hBc q1
    replace q2 := below_cell hBc q2
    replace q3 := below_cell hBc q3
    replace x0 := below_cell hBc x0
    replace x1 := below_cell hBc x1
    replace x2 := below_cell hBc x2
    replace x3 := below_cell hBc x3
    clear hBc
    go_wp2_with fail
    refine wp_region_kinds2 (fun i wz vz => match i with | 0 => vz = .agg #[.int .i64 r.k, .int .i64 r.n, .string r.s, .slice A2 r.ps.length c2] | 1 => vz = .agg #[.int .i64 r.k, .int .i64 r.n, .string r.s, .slice A r.ps.length c] | 2 => ExV d r wz vz | 3 => vz = .bool true | 4 => vz = .bool false | _ => True) (fun _ wz => Below w5.heap.size w5 wz) (fun i w w' => Below w.heap.size w w') (fun _ => Option.none) (by kernel_rfl) (by kernel_rfl) (by kernel_rfl) ?stab10 (ext_drew (Below.refl _ _)) ?all10 ?fin10
    case stab10 =>
      intro i j wa wb v hR hk hne hd _ h2 hT
      match j, hk, hne, hd, h2, hT with
      | 0, hk, hne, hd, h2, hT => exact hT
      | 1, hk, hne, hd, h2, hT => exact hT
      | 2, hk, hne, hd, h2, hT => exact ExV.below hT hR
      | 3, hk, hne, hd, h2, hT => exact hT
      | 4, hk, hne, hd, h2, hT => exact hT
      | n + 5, _, _, _, _, _ => trivial
    case all10 =>
      refine RAll.cons rfl ?_ (RAll.cons rfl ?_ (RAll.cons rfl ?_ (RAll.cons rfl ?_ (RAll.cons rfl ?_ (RAll.none_)))))
      · intro a k wa K Q _ hI hp hK
        have e5 := tmp_of (show a.eval (.tmp 5) = .pointer (some ⟨gx, 0, none⟩) from hp.keep 5 (by kernel_rfl))
        have x0_ := below_cell hI x0
        have x1_ := below_cell hI x1
        have x2_ := below_cell hI x2
        have x3_ := below_cell hI x3
        go_simp
        exact hK _ _ rfl (Below.refl _ _) hI
      · intro a k wa K Q _ hI hp hK
        have e1 := tmp_of (show a.eval (.tmp 1) = .pointer (some ⟨g, 0, none⟩) from hp.keep 1 (by kernel_rfl))
        have q0_ := below_cell hI q0
        have q1_ := below_cell hI q1
        have q2_ := below_cell hI q2
        have q3_ := below_cell hI q3
        go_simp
        exact hK _ _ rfl (Below.refl _ _) hI
      · intro a k wa K Q _ hI hp hK
        have e23 := tmp_of (show a.eval (.tmp 23) = .agg #[.int .i64 r.k, .int .i64 r.n, .string r.s, .slice A r.ps.length c] from hp.dep 1 23 (by kernel_rfl))
        go_simp
        refine (toExpr_any (hU.below hI) HF.out).mono ?_
        rintro e wb ⟨A8, c8, rfl, h8, hb⟩
        exact hK _ _ ⟨A8, c8, rfl, h8.wide (Nat.zero_le _) (Nat.le_refl _)⟩ hb (ext_trans hI hb)
      · intro a k wa K Q _ hI hp hK
        have e22 := tmp_of (show a.eval (.tmp 22) = .agg #[.int .i64 r.k, .int .i64 r.n, .string r.s, .slice A2 r.ps.length c2] from hp.dep 0 22 (by kernel_rfl))
        have t24 : ExV d r wa (a.eval (.tmp 24)) := hp.dep 2 24 (by kernel_rfl)
        obtain ⟨A8, c8, e24, h8⟩ := t24
        replace e24 := tmp_of e24
        go_simp
        refine (eqExpr_any (r := r) (r' := r) (hV'.below hI) h8).mono ?_
        rintro e wb ⟨rfl, hb⟩
        rw [sameX_self]
        exact hK _ _ rfl hb (ext_trans hI hb)
      · intro a k wa K Q _ hI hp hK
        have e25 := tmp_of (show a.eval (.tmp 25) = .bool true from hp.dep 3 25 (by kernel_rfl))
        go_simp
        exact hK _ _ (rfl) (Below.refl _ _) hI
    case fin10 =>
      intro f w9 hT hI0
      have hI : Below w5.heap.size w5 w9 := hI0
      have hr4 : (f 4) = .bool false := hT 4 (by decide) rfl rfl
      clear hT hI0
      simp only [putAll, hr4]
      go_simp
      go_wp2
      go_ret
      exact ⟨rfl, ext_trans hB hI⟩
end Go.Proofs.Ytodjokdaofefdaa
/- A region that draws its order and whose one store is known to be behind what it needs: what holds ahead of the store, what holds behind it. -/
namespace Go.Proofs.Ytodjokdaofefdaa
set_option linter.unusedSimpArgs false
set_option linter.unusedVariables false
open Go.RowKit

structure RGoodH (ops : Array Oper) (a0 : Act) (T : Nat → World → Value → Prop) (Inv : Nat → World → Prop) (kill : Nat → Option Nat) (gc : Option Nat) (G H : World → Prop) (k : Nat) (listed : Array Bool) (a : Act) (w : World) : Prop where
  size : a.tmps.size = a0.tmps.size
  defers : a.defers = a0.defers
  inv : Inv k w
  lsize : listed.size = ops.size
  closed : ∀ i j, listed.getD i false = true → depB ops i j = true → listed.getD j false = true
  done : ∀ i d, dstOf ops i = some d → listed.getD i false = true → (∀ c, kill i = some c → listed.getD c false = false) → T i w (a.eval (.tmp d))
  todo : ∀ s, (∀ i, dstOf ops i = some s → listed.getD i false = false) → a.eval (.tmp s) = a0.eval (.tmp s)
  pre : (∀ c, gc = some c → listed.getD c false = false) → G w
  post : ∀ c, gc = some c → listed.getD c false = true → H w

def ROneH (P : Program) (ops : Array Oper) (a0 : Act) (T : Nat → World → Value → Prop) (Inv : Nat → World → Prop) (Rel : Nat → World → World → Prop) (gc : Option Nat) (G H : World → Prop) (i : Nat) (o : Oper) : Prop :=
  ∀ (a : Act) (k : Nat) (w : World) (K : Act → World → Prop) (Q : Exit → Act → World → Prop), k < ops.size → Inv k w → RPre ops a0 T gc G i a w →
    (∀ v w', T i w' v → Rel i w w' → Inv (k + 1) w' → (gc = some i → H w') → K (a.put o.dst v) w') → if Region.wanted o (yielded ops a.tmps) = true then o.wp P a w K Q else K (a.put o.dst undef) w

section
variable {P : Program} {ops : Array Oper} {n : Nat} {a0 : Act} {T : Nat → World → Value → Prop} {Inv : Nat → World → Prop} {Rel : Nat → World → World → Prop} {kill : Nat → Option Nat} {gc : Option Nat} {G H : World → Prop}
theorem region_any_stepH (hok : okRegion ops a0.tmps.size = true) (hkill : okKill ops kill = true) (hstab : ∀ i j w w' v, Rel i w w' → kill j ≠ some i → j ≠ i → depB ops j i = false → (∀ c, kill j = some c → depB ops i c = false) → (∀ m, depB ops j m = true → depB ops m i = false) → T j w v → T j w' v)
    (hstabG : ∀ i w w', Rel i w w' → gc ≠ some i → G w → G w') (hstabH : ∀ i w w', Rel i w w' → gc ≠ some i → (∀ c, gc = some c → depB ops c i = false) → H w → H w') (hone : ∀ i o, ops[i]? = some o → ROneH P ops a0 T Inv Rel gc G H i o) {Q : Exit → Act → World → Prop}
    (hQ : ∀ listed a w, (∀ i, i < ops.size → listed.getD i true = true) → RGoodH ops a0 T Inv kill gc G H ops.size listed a w → Q .normal a w) :
    ∀ (fuel k : Nat) (listed : Array Bool) (a : Act) (w : World), k + fuel = ops.size → unl ops.size (fun i => !listed.getD i true) = fuel → RGoodH ops a0 T Inv kill gc G H k listed a w → wpAny P .any ops Q fuel listed a w := by
  intro fuel
  induction fuel with
  | zero =>
    intro k listed a w hk hu hg
    have hall := unl_zero hu
    have hr : Region.ready .any ops listed = [] := by
      apply List.eq_nil_iff_forall_not_mem.2
      intro i hi
      obtain ⟨h1, h2, _⟩ := mem_ready_iff.1 hi
      have := hall i h1
      simp [h2] at this
    obtain rfl : k = ops.size := by omega
    exact ⟨hr, hQ listed a w (fun i hi => by simpa using hall i hi) hg⟩
  | succ fuel ih =>
    intro k listed a w hk hu hg
    refine ⟨fun hr => ?_, fun i hi => ?_⟩
    · exfalso
      have hex : ∃ i, i < ops.size ∧ listed.getD i true = false := by
        by_cases h : ∃ i, i < ops.size ∧ listed.getD i true = false
        · exact h
        · exfalso
          have : unl ops.size (fun i => !listed.getD i true) = 0 := by
            unfold unl
            rw [List.filter_eq_nil_iff.2]
            · rfl
            · intro j hj
              simp only [Bool.not_eq_true', Bool.not_eq_false]
              cases hh : listed.getD j true with
              | true => rfl
              | false => exact absurd ⟨j, List.mem_range.1 hj, hh⟩ h
          omega
      have hmin : ∀ m, (∃ i, i < m ∧ i < ops.size ∧ listed.getD i true = false) → ∃ i, i < ops.size ∧ listed.getD i true = false ∧ ∀ j, j < i → listed.getD j true = true := by
        intro m
        induction m with
        | zero => rintro ⟨i, h, _⟩; omega
        | succ m ihm =>
          rintro ⟨i, h1, h2, h3⟩
          by_cases h : ∃ i, i < m ∧ i < ops.size ∧ listed.getD i true = false
          · exact ihm h
          · refine ⟨i, h2, h3, fun j hj => ?_⟩
            cases hh : listed.getD j true with
            | true => rfl
            | false => exact absurd ⟨j, by omega, by omega, hh⟩ h
      obtain ⟨i, h1, h2⟩ := hex
      obtain ⟨i, h1, h2, h3⟩ := hmin (i + 1) ⟨i, by omega, h1, h2⟩
      have := ready_first hok hg.lsize h1 h2 h3
      rw [hr] at this
      cases this
    · obtain ⟨h1, h2, h3⟩ := mem_ready_iff.1 hi
      have hli : listed.getD i false = false := by
        rw [Array.getD_eq_getD_getElem?, Array.getElem?_eq_getElem (by rw [hg.lsize]; exact h1)] at h2 ⊢
        exact h2
      have hdeps : ∀ j, depB ops i j = true → listed.getD j false = true := by
        intro j hd
        simp only [depB, Array.getElem?_eq_getElem h1, Option.map_some, Option.getD_some] at hd
        obtain ⟨e, he, hd⟩ := Array.any_eq_true.1 hd
        rw [Array.getElem?_eq_getElem h1] at h3
        simp only [Option.map_some, Option.getD_some] at h3
        have := Array.all_eq_true.1 h3 e he
        simp only [Bool.and_eq_true, beq_iff_eq] at hd
        rw [hd.1, hd.2] at this
        simpa using this
      have hpre : RPre ops a0 T gc G i a w := by
        refine ⟨fun j s hd => ?_, fun s hs => ?_, fun hpr => hg.pre fun c hc => ?_⟩
        · simp only [depSlot, Bool.and_eq_true, beq_iff_eq] at hd
          have hd1 := readB_dep hd.1
          refine hg.done j s hd.2 (hdeps j hd1) (fun c hc => ?_)
          have hji := okRegion_dep hok hd1
          have := List.all_eq_true.1 (List.all_eq_true.1 hkill i (List.mem_range.2 hji.2)) j (List.mem_range.2 (by omega))
          simp only [hd.1, hc, Bool.not_true, Bool.false_or, Bool.or_eq_true, beq_iff_eq] at this
          rcases this with rfl | hci
          · exact hli
          · cases hh : listed.getD c false with
            | false => rfl
            | true =>
              have := hg.closed c i hh hci
              rw [hli] at this
              cases this
        · refine hg.todo s (fun j hj => ?_)
          have hjs : j < ops.size := by
            unfold dstOf at hj
            cases ho : ops[j]? with
            | none => simp [ho] at hj
            | some o => exact (Array.getElem?_eq_some_iff.1 ho).1
          have := List.all_eq_true.1 hs j (List.mem_range.2 hjs)
          simp only [hj, bne_self_eq_false, Bool.false_or] at this
          cases hh : listed.getD j false with
          | false => rfl
          | true =>
            have := hg.closed j i hh this
            rw [hli] at this
            cases this
        · have := hpr c hc
          simp only [Bool.or_eq_true, beq_iff_eq] at this
          rcases this with rfl | hci
          · exact hli
          · cases hh : listed.getD c false with
            | false => rfl
            | true =>
              have := hg.closed c i hh hci
              rw [hli] at this
              cases this
      have hgood : ∀ v w', T i w' v → Rel i w w' → Inv (k + 1) w' → (gc = some i → H w') → RGoodH ops a0 T Inv kill gc G H (k + 1) (listed.setIfInBounds i true) (a.put ((ops[i]?).bind (·.dst)) v) w' := by
        intro v w' hT hR hI hH
        have hset : ∀ j, (listed.setIfInBounds i true).getD j false = if j = i then true else listed.getD j false := by
          intro j
          simp only [Array.getD_eq_getD_getElem?, Array.getElem?_setIfInBounds]
          by_cases hji : j = i
          · subst hji; simp [hg.lsize, h1]
          · rw [if_neg (fun e => hji e.symm), if_neg hji]
        refine ⟨?_, ?_, hI, by simpa using hg.lsize, ?_, ?_, ?_, fun hpr => hstabG i w w' hR (fun e => ?_) (hg.pre fun c hc => ?_), fun c hc hl => ?_⟩
        · cases h : (ops[i]?).bind (·.dst) <;> simpa [Act.put] using hg.size
        · cases h : (ops[i]?).bind (·.dst) <;> simpa [Act.put] using hg.defers
        · intro x y hx hd
          rw [hset] at hx ⊢
          by_cases hyi : y = i
          · rw [if_pos hyi]
          · rw [if_neg hyi]
            by_cases hxi : x = i
            · subst hxi; exact hdeps y hd
            · rw [if_neg hxi] at hx; exact hg.closed x y hx hd
        · intro x d hd hx hkx
          rw [hset] at hx
          by_cases hxi : x = i
          · subst hxi
            have hd' : (ops[x]?).bind (·.dst) = some d := hd
            rw [hd', eval_put, if_pos ⟨rfl, by rw [hg.size]; exact (okRegion_dst hok hd).1⟩]
            exact hT
          · rw [if_neg hxi] at hx
            have hv : (a.put ((ops[i]?).bind (·.dst)) v).eval (.tmp d) = a.eval (.tmp d) := by
              cases h : (ops[i]?).bind (·.dst) with
              | none => rfl
              | some d' =>
                rw [eval_put, if_neg]
                rintro ⟨rfl, _⟩
                exact hxi (okRegion_uniq hok hd h)
            rw [hv]
            refine hstab _ _ _ _ _ hR (fun e => ?_) hxi ?_ (fun c hc => ?_) (fun m hm => ?_) (hg.done x d hd hx (fun c hc => ?_))
            · have := hkx i e
              rw [hset, if_pos rfl] at this
              cases this
            · cases hh : depB ops x i with
              | false => rfl
              | true =>
                have := hg.closed x i hx hh
                rw [hli] at this
                cases this
            · cases hh : depB ops i c with
              | false => rfl
              | true =>
                have hl1 := hdeps c hh
                have hl2 := hkx c hc
                rw [hset] at hl2
                by_cases hci : c = i
                · subst hci; exact Bool.noConfusion (hl1.symm.trans hli)
                · rw [if_neg hci, hl1] at hl2; cases hl2
            · cases hh : depB ops m i with
              | false => rfl
              | true =>
                have := hg.closed m i (hg.closed x m hx hm) hh
                rw [hli] at this
                cases this
            · have := hkx c hc
              rw [hset] at this
              by_cases hci : c = i
              · subst hci; exact hli
              · rwa [if_neg hci] at this
        · intro s hs
          have hsi : dstOf ops i ≠ some s := fun e => by
            have := hs i e
            rw [hset, if_pos rfl] at this
            cases this
          have hv : (a.put ((ops[i]?).bind (·.dst)) v).eval (.tmp s) = a.eval (.tmp s) := by
            cases h : (ops[i]?).bind (·.dst) with
            | none => rfl
            | some d' =>
              rw [eval_put, if_neg]
              rintro ⟨rfl, _⟩
              exact hsi h
          rw [hv]
          refine hg.todo s (fun j hj => ?_)
          have := hs j hj
          rw [hset] at this
          by_cases hji : j = i
          · subst hji; exact hli
          · rwa [if_neg hji] at this
        · have := hpr i e
          rw [hset, if_pos rfl] at this
          cases this
        · have := hpr c hc
          rw [hset] at this
          by_cases hji : c = i
          · subst hji; exact hli
          · rwa [if_neg hji] at this
        · rw [hset] at hl
          by_cases hci : c = i
          · subst hci; exact hH hc
          · rw [if_neg hci] at hl
            refine hstabH i w w' hR (fun e => hci (by rw [hc] at e; cases e; rfl)) (fun c' hc' => ?_) (hg.post c hc hl)
            rw [hc] at hc'
            cases hc'
            cases hh : depB ops c i with
            | false => rfl
            | true =>
              have := hg.closed c i hl hh
              rw [hli] at this
              cases this
      have hunl : unl ops.size (fun j => !(listed.setIfInBounds i true).getD j true) = fuel := by
        have := unl_set (p := fun j => !listed.getD j true) (p' := fun j => !(listed.setIfInBounds i true).getD j true) (i := i) (by simp [h2]) (by
          simp [Array.getD_eq_getD_getElem?, Array.getElem?_setIfInBounds, hg.lsize, h1]) (fun j hj => by
          simp only [Array.getD_eq_getD_getElem?, Array.getElem?_setIfInBounds]
          rw [if_neg (fun e => hj e.symm)]) ops.size
        rw [if_pos h1] at this
        omega
      have h := hone i ops[i] (Array.getElem?_eq_getElem h1) a k w (wpAny P .any ops Q fuel (listed.setIfInBounds i true)) Q (by omega) hg.inv hpre (fun v w' hT hR hI hH => by
        have := hgood v w' hT hR hI hH
        rw [Array.getElem?_eq_getElem h1] at this
        exact ih (k + 1) _ _ _ (by omega) hunl this)
      unfold wpOp
      rw [Array.getElem?_eq_getElem h1]
      simp only
      split
      · rename_i hw; rw [if_pos hw] at h; exact .inl h
      · rename_i hw; rw [if_neg hw] at h; exact h

/-- The obligations, an operation at a time. -/
def RAllH (P : Program) (ops : Array Oper) (a0 : Act) (T : Nat → World → Value → Prop) (Inv : Nat → World → Prop) (Rel : Nat → World → World → Prop) (gc : Option Nat) (G H : World → Prop) : List Oper → Nat → Prop
  | [], _ => True
  | o :: l, i => ROneH P ops a0 T Inv Rel gc G H i o ∧ RAllH P ops a0 T Inv Rel gc G H l (i + 1)
theorem RAllH.at {l : List Oper} {i : Nat} (h : RAllH P ops a0 T Inv Rel gc G H l i) : ∀ (j : Nat) (o : Oper), l[j]? = some o → ROneH P ops a0 T Inv Rel gc G H (i + j) o := by
  induction l generalizing i with
  | nil => intro j o hj; simp at hj
  | cons o' l ih =>
    intro j o hj
    cases j with
    | zero => obtain rfl : o' = o := by simpa using hj
              exact h.1
    | succ j =>
      have := ih h.2 j o (by simpa using hj)
      rwa [show i + 1 + j = i + (j + 1) by omega] at this

theorem wp_region_draws2H (gc : Option Nat) (G H : World → Prop) (T : Nat → World → Value → Prop) (Inv : Nat → World → Prop) (Rel : Nat → World → World → Prop) (kill : Nat → Option Nat) {id : Nat} {Q : Exit → Act → World → Prop} {w : World} {l : List Oper} (hm : P.follows .mixedOrders = true)
    (hok : okRegion l.toArray a0.tmps.size = true) (hkill : okKill l.toArray kill = true) (hstab : ∀ i j w w' v, Rel i w w' → kill j ≠ some i → j ≠ i → depB l.toArray j i = false → (∀ c, kill j = some c → depB l.toArray i c = false) → (∀ m, depB l.toArray j m = true → depB l.toArray m i = false) → T j w v → T j w' v) (hstabG : ∀ i w w', Rel i w w' → gc ≠ some i → G w → G w') (hstabH : ∀ i w w', Rel i w w' → gc ≠ some i → (∀ c, gc = some c → depB l.toArray c i = false) → H w → H w') (hI : Inv 0 w.drew) (hG : G w.drew) (hone : RAllH P l.toArray a0 T Inv Rel gc G H l 0)
    (hQ : ∀ (f : Nat → Value) (w' : World), (∀ i, i < l.length → (dstOf l.toArray i).isSome = true → (kill i).isNone = true → T i w' (f i)) → Inv l.length w' → (∀ c, gc = some c → c < l.length → H w') → Q .normal (putAll f l 0 a0) w') : (Code.region id l.toArray true).wp P Q a0 w := by
  refine wp_region_any hm (region_any_stepH (a0 := a0) (T := T) (Inv := Inv) (Rel := Rel) (kill := kill) (gc := gc) (G := G) (H := H) hok hkill hstab hstabG hstabH (fun i o ho => by
    have := RAllH.at hone i o (by simpa using ho)
    simpa using this) ?_ _ 0 _ a0 _ (by simp) ?_ ?_)
  · intro listed a w' hall hg
    have hlist : ∀ i, i < l.length → listed.getD i false = true := fun i hi => by
      have := hall i (by simpa using hi)
      rw [Array.getD_eq_getD_getElem?, Array.getElem?_eq_getElem (by rw [hg.lsize]; simpa using hi)] at this ⊢
      exact this
    have hlt : ∀ i d, dstOf l.toArray i = some d → i < l.length := fun i d hd => by
      unfold dstOf at hd
      cases ho : l.toArray[i]? with
      | none => simp [ho] at hd
      | some o => simpa using (Array.getElem?_eq_some_iff.1 ho).1
    have he : a = putAll (fun i => a.eval (.tmp ((dstOf l.toArray i).getD 0))) l 0 a0 := by
      have hp := putAll_defers (fun i => a.eval (.tmp ((dstOf l.toArray i).getD 0))) l 0 a0
      refine act_ext (hg.size.trans hp.2.symm) (hg.defers.trans hp.1.symm) (fun s hs => ?_)
      by_cases h : ∃ i, dstOf l.toArray i = some s
      · obtain ⟨i, hi⟩ := h
        have hi' := hi
        unfold dstOf at hi'
        cases ho : l.toArray[i]? with
        | none => simp [ho] at hi'
        | some o =>
          simp only [ho, Option.bind_some] at hi'
          rw [putAll_some _ l 0 a0 s i o (by simpa using ho) hi' (fun j o' ho' hd' => okRegion_uniq hok (d := s) (by simp [dstOf, ho', hd']) hi) (by rw [← hg.size]; exact hs)]
          simp [hi]
      · rw [putAll_none _ l 0 a0 s (fun j o ho hd => h ⟨j, by simp [dstOf, ho, hd]⟩)]
        exact hg.todo s (fun i hi => absurd ⟨i, hi⟩ h)
    rw [he]
    refine hQ _ _ (fun i hi hs hk => ?_) (by simpa using hg.inv) (fun c hc hl => hg.post c hc (hlist c hl))
    obtain ⟨d, hd⟩ := Option.isSome_iff_exists.1 hs
    simp only [hd, Option.getD_some]
    exact hg.done i d hd (hlist i hi) (fun c hc => by rw [hc] at hk; cases hk)
  · have : ∀ N, unl N (fun i => !(Array.replicate N false).getD i true) = N := by
      intro N
      unfold unl
      rw [List.filter_eq_self.2]
      · simp
      · intro i hi
        simp [Array.getD_eq_getD_getElem?, List.mem_range.1 hi]
    exact this _
  · refine ⟨rfl, rfl, hI, by simp, ?_, ?_, fun _ _ => rfl, fun _ => hG, fun c _ h => ?_⟩
    · intro i j h
      simp [Array.getD_eq_getD_getElem?, Array.getElem?_replicate] at h
      split at h <;> simp at h
    · intro i d _ h _
      simp [Array.getD_eq_getD_getElem?, Array.getElem?_replicate] at h
      split at h <;> simp at h
    · simp [Array.getD_eq_getD_getElem?, Array.getElem?_replicate] at h
      split at h <;> simp at h

end
section
variable {P : Program} {ops : Array Oper} {a0 : Act} {T : Nat → World → Value → Prop} {Inv : Nat → World → Prop} {Rel : Nat → World → World → Prop} {gc : Option Nat} {G H : World → Prop}
theorem RAllH.none_ {i : Nat} : RAllH P ops a0 T Inv Rel gc G H [] i := trivial
theorem RAllH.cons {o : Oper} {l : List Oper} {i : Nat} (hg : o.guard = Option.none) (h : ∀ (a : Act) (k : Nat) (w : World) (K : Act → World → Prop) (Q : Exit → Act → World → Prop), k < ops.size → Inv k w → RPre ops a0 T gc G i a w →
    (∀ v w', T i w' v → Rel i w w' → Inv (k + 1) w' → (gc = some i → H w') → K (a.put o.dst v) w') → o.wp P a w K Q) (hl : RAllH P ops a0 T Inv Rel gc G H l (i + 1)) : RAllH P ops a0 T Inv Rel gc G H (o :: l) i :=
  ⟨fun a k w K Q h1 h2 h3 h4 => by
    have : Region.wanted o (yielded ops a.tmps) = true := by simp [Region.wanted, hg]
    rw [if_pos this]
    exact h a k w K Q h1 h2 h3 h4, hl⟩
end
end Go.Proofs.Ytodjokdaofefdaa

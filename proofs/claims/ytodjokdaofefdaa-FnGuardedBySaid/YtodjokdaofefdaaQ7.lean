/- Guarded, by the program and by the reference; the exact law, walked. -/
import Derived.Test.YtodjokdaofefdaaQ5
import Derived.Test.YtodjokdaofefdaaQ6
import Derived.Test.YtodjokdaofefdaaQ2
import Derived.Test.YtodjokdaofefdaaQ1
import Derived.Test.YtodjokdaofefdaaQ4
namespace Go.Proofs.Ytodjokdaofefdaa
set_option linter.unusedSimpArgs false
set_option linter.unusedVariables false
open Go.RowKit

theorem ok_parts {d : Nat} {r : Ex} (hin : inD (d + 1) r) (h : exOk r = true) : gdR (d + 1) r = true ∧ 1 + cntR (d + 1) r ≤ 40 := by
  rw [exOk_eq hin] at h
  simp only [Bool.and_eq_true, decide_eq_true_eq] at h
  exact ⟨h.1, h.2.1⟩
noncomputable def guOk (d : Nat) (r : Ex) : Bool := exOk r && guI (d + 1) r []
theorem gu_same {d : Nat} {r : Ex} (hg : gdR (d + 1) r = true) : guS (d + 1) r [] = guI (d + 1) r [] := gu_eq (d + 1) r [] [] hg (fun _ _ => rfl)
set_option maxRecDepth 100000 in
set_option maxHeartbeats 2000000 in
theorem specGuarded {d : Nat} {A : Option Addr} {r : Ex} {c : Nat} {w : World} (hU : exW d w A r.ps) (hs : r.s.size ≤ 9223372036854775807) (hcnt : cntS d r.ps ≤ 2097152) :
    Calls Try.prog 21 #[.agg #[.int .i64 r.k, .int .i64 r.n, .string r.s, .slice A r.ps.length c]] w fun e w' => e = .returned (.bool (guOk d r)) ∧ Below w.heap.size w w' := by
  have hlen := exS.len hU
  obtain ⟨W, hW⟩ : ∃ W, W = w.alloc (.cells #[.int .i64 r.k, .int .i64 r.n, .string r.s, .slice A r.ps.length c] 28) := ⟨_, rfl⟩
  obtain ⟨gx, hgx⟩ : ∃ g, g = w.heap.size := ⟨_, rfl⟩
  have hB : Below w.heap.size w W := by rw [hW]; (repeat (first | exact Below.refl _ _ | refine ext_alloc ?_ _ | refine Below.setCell ?_ (by simp) _))
  have b0 : W.cell? ⟨gx, 0, none⟩ = some (.int .i64 r.k) := by rw [hW, hgx]; exact box_cell w _ _ 0 _ rfl
  have b1 : W.cell? ⟨gx, 1, none⟩ = some (.int .i64 r.n) := by rw [hW, hgx]; exact box_cell w _ _ 1 _ rfl
  have b2 : W.cell? ⟨gx, 2, none⟩ = some (.string r.s) := by rw [hW, hgx]; exact box_cell w _ _ 2 _ rfl
  have b3 : W.cell? ⟨gx, 3, none⟩ = some (.slice A r.ps.length c) := by rw [hW, hgx]; exact box_cell w _ _ 3 _ rfl
  have hUW := hU.below hB
  have hin := exS_in hU
  have HW := Lib.hid hW
  have HGX := Lib.hid hgx
  clear hW hgx hU
  cases hok : exOk r
  · have HR : Hid (guOk d r = false) := Lib.hid (by rw [guOk, hok]; rfl)
    go_enter Try.func21, Try.ntmps21
    go_wp2_with fail
    rw [← HW.out, ← HGX.out]
    refine (specExprValid hUW hs hcnt).mono ?_
    rintro e w1 ⟨rfl, hb⟩
    rw [hok, HGX.out]
    replace hB := ext_trans hB hb
    go_wp2
    go_ret
    exact ⟨by rw [HR.out]; rfl, hB⟩
  · obtain ⟨hg, hc40⟩ := ok_parts hin hok
    obtain ⟨y, hy⟩ : ∃ y, guI (d + 1) r [] = y := ⟨_, rfl⟩
    have HR : Hid (guOk d r = y) := Lib.hid (by rw [guOk, hok, hy]; rfl)
    have HS : Hid (guS (d + 1) r [] = y) := Lib.hid (by rw [gu_same hg]; exact hy)
    have HG := Lib.hid hg
    have HC := Lib.hid (show ([] : ExL).length + 1 + cntR (d + 1) r ≤ 1048576 by simp; omega)
    clear hg hc40 hy
    go_enter Try.func21, Try.ntmps21
    go_wp2_with fail
    rw [← HW.out, ← HGX.out]
    refine (specExprValid hUW hs hcnt).mono ?_
    rintro e w1 ⟨rfl, hb⟩
    rw [hok]
    replace hB := ext_trans hB hb
    replace b0 := below_cell hb b0
    replace b1 := below_cell hb b1
    replace b2 := below_cell hb b2
    replace b3 := below_cell hb b3
    replace hUW := hUW.below hb
    clear hb
    go_wp2_with fail
    refine (gsQ_all (d + 1) d _ _ r [] c _ _ (hUW.below (below_alloc _ _)) hs exS.nil (Nat.le_refl _) HG.out HC.out).mono ?_
    rintro e w2 ⟨rfl, hb⟩
    rw [HS.out, HGX.out]
    replace hB := ext_trans hB (ext_trans (below_alloc _ _) hb)
    go_wp2
    go_ret
    exact ⟨by rw [HR.out]; rfl, hB⟩
set_option maxRecDepth 100000 in
set_option maxHeartbeats 2000000 in
theorem implGuarded {d : Nat} {A : Option Addr} {r : Ex} {c : Nat} {w : World} (hU : exW d w A r.ps) (hs : r.s.size ≤ 9223372036854775807) :
    Calls Try.prog 17 #[.agg #[.int .i64 r.k, .int .i64 r.n, .string r.s, .slice A r.ps.length c]] w fun e w' => e = .returned (.bool (guOk d r)) ∧ Below w.heap.size w w' := by
  have hlen := exS.len hU
  obtain ⟨W, hW⟩ : ∃ W, W = w.alloc (.cells #[.int .i64 r.k, .int .i64 r.n, .string r.s, .slice A r.ps.length c] 28) := ⟨_, rfl⟩
  obtain ⟨gx, hgx⟩ : ∃ g, g = w.heap.size := ⟨_, rfl⟩
  have hB : Below w.heap.size w W := by rw [hW]; (repeat (first | exact Below.refl _ _ | refine ext_alloc ?_ _ | refine Below.setCell ?_ (by simp) _))
  have b0 : W.cell? ⟨gx, 0, none⟩ = some (.int .i64 r.k) := by rw [hW, hgx]; exact box_cell w _ _ 0 _ rfl
  have b1 : W.cell? ⟨gx, 1, none⟩ = some (.int .i64 r.n) := by rw [hW, hgx]; exact box_cell w _ _ 1 _ rfl
  have b2 : W.cell? ⟨gx, 2, none⟩ = some (.string r.s) := by rw [hW, hgx]; exact box_cell w _ _ 2 _ rfl
  have b3 : W.cell? ⟨gx, 3, none⟩ = some (.slice A r.ps.length c) := by rw [hW, hgx]; exact box_cell w _ _ 3 _ rfl
  have hUW := hU.below hB
  have hin := exS_in hU
  have HW := Lib.hid hW
  have HGX := Lib.hid hgx
  clear hW hgx hU
  cases hok : exOk r
  · have HR : Hid (guOk d r = false) := Lib.hid (by rw [guOk, hok]; rfl)
    go_enter Try.func17, Try.ntmps17
    go_wp2_with fail
    rw [← HW.out, ← HGX.out]
    refine (implExprValid hUW hs).mono ?_
    rintro e w1 ⟨rfl, hb⟩
    rw [hok, HGX.out]
    replace hB := ext_trans hB hb
    go_wp2
    go_ret
    exact ⟨by rw [HR.out]; rfl, hB⟩
  · obtain ⟨hg, hc40⟩ := ok_parts hin hok
    obtain ⟨y, hy⟩ : ∃ y, guI (d + 1) r [] = y := ⟨_, rfl⟩
    have HR : Hid (guOk d r = y) := Lib.hid (by rw [guOk, hok, hy]; rfl)
    have HS := Lib.hid hy
    have HG := Lib.hid hg
    have HC := Lib.hid (show ([] : ExL).length + 1 + cntR (d + 1) r ≤ 1048576 by simp; omega)
    clear hg hc40 hy
    go_enter Try.func17, Try.ntmps17
    go_wp2_with fail
    rw [← HW.out, ← HGX.out]
    refine (implExprValid hUW hs).mono ?_
    rintro e w1 ⟨rfl, hb⟩
    rw [hok]
    replace hB := ext_trans hB hb
    replace b0 := below_cell hb b0
    replace b1 := below_cell hb b1
    replace b2 := below_cell hb b2
    replace b3 := below_cell hb b3
    replace hUW := hUW.below hb
    clear hb
    go_wp2_with fail
    refine (giQ_all (d + 1) d _ _ r [] c _ _ hUW hs exS.nil (Nat.le_refl _) HG.out HC.out).mono ?_
    rintro e w2 ⟨rfl, hb⟩
    rw [HS.out, HGX.out]
    replace hB := ext_trans hB hb
    go_wp2
    go_ret
    exact ⟨by rw [HR.out]; rfl, hB⟩
/-- An expression that reads. -/
def ExV (d : Nat) (r : Ex) (w : World) (v : Value) : Prop := ∃ A c, v = .agg #[.int .i64 r.k, .int .i64 r.n, .string r.s, .slice A r.ps.length c] ∧ exW d w A r.ps
theorem ExV.below {d : Nat} {r : Ex} {w w' : World} {v : Value} (h : ExV d r w v) (hb : Below w.heap.size w w') : ExV d r w' v := let ⟨A, c, e, h⟩ := h; ⟨A, c, e, h.below hb⟩
set_option maxRecDepth 100000 in
set_option maxHeartbeats 4000000 in
theorem lawExactGuarded {d : Nat} {A : Option Addr} {r : Ex} {c : Nat} {w : World} (hU : exW d w A r.ps) (hs : r.s.size ≤ 9223372036854775807) :
    Calls Try.prog 4 #[.agg #[.int .i64 r.k, .int .i64 r.n, .string r.s, .slice A r.ps.length c]] w fun e w' => e = .returned (.bool true) ∧ Below w.heap.size w w' := by
  have hlen := exS.len hU
  obtain ⟨W, hW⟩ : ∃ W, W = w.alloc (.cells #[.int .i64 r.k, .int .i64 r.n, .string r.s, .slice A r.ps.length c] 48) := ⟨_, rfl⟩
  obtain ⟨g, hg⟩ : ∃ g, g = w.heap.size := ⟨_, rfl⟩
  have hB : Below w.heap.size w W := by rw [hW]; (repeat (first | exact Below.refl _ _ | refine ext_alloc ?_ _ | refine Below.setCell ?_ (by simp) _))
  have q0 : W.cell? ⟨g, 0, none⟩ = some (.int .i64 r.k) := by rw [hW, hg]; exact box_cell w _ _ 0 _ rfl
  have q1 : W.cell? ⟨g, 1, none⟩ = some (.int .i64 r.n) := by rw [hW, hg]; exact box_cell w _ _ 1 _ rfl
  have q2 : W.cell? ⟨g, 2, none⟩ = some (.string r.s) := by rw [hW, hg]; exact box_cell w _ _ 2 _ rfl
  have q3 : W.cell? ⟨g, 3, none⟩ = some (.slice A r.ps.length c) := by rw [hW, hg]; exact box_cell w _ _ 3 _ rfl
  replace hU := hU.below hB
  have HW := Lib.hid hW
  have HG := Lib.hid hg
  clear hW hg
  go_enter Try.func4, Try.ntmps4
  go_wp2_with fail
  rw [← HW.out, ← HG.out]
  refine (szExpr_any hU hs (by omega) (by omega)).mono ?_
  rintro e w1 ⟨y, rfl, hy, hBc⟩
  replace hB := ext_trans hB hBc
  replace hU := hU.below hBc
  replace q0 := below_cell hBc q0
  replace q1 := below_cell hBc q1
  replace q2 := below_cell hBc q2
  replace q3 := below_cell hBc q3
  clear hBc
  rcases hy with rfl | ⟨y0, y1, hf⟩
  · go_wp2
    go_ret
    exact ⟨rfl, hB⟩
  · have HF := Lib.hid hf
    have HCN := Lib.hid (show cntS d r.ps ≤ 2097152 by omega)
    clear hf
    go_wp2_with fail
    refine (toExpr_any hU HF.out).mono ?_
    rintro e w2 ⟨A1, c1, rfl, hV, hBc⟩
    replace hB := ext_trans hB hBc
    replace hU := hU.below hBc
    replace q0 := below_cell hBc q0
    replace q1 := below_cell hBc q1
    replace q2 := below_cell hBc q2
    replace q3 := below_cell hBc q3
    have hV' : exW d w2 A1 r.ps := hV.wide (Nat.zero_le _) (Nat.le_refl _)
    clear hBc hV
    go_wp2_with fail
    refine (specGuarded hV' hs HCN.out).mono ?_
    rintro e w3 ⟨rfl, hBc⟩
    replace hB := ext_trans hB hBc
    replace hU := hU.below hBc
    replace q0 := below_cell hBc q0
    replace q1 := below_cell hBc q1
    replace q2 := below_cell hBc q2
    replace q3 := below_cell hBc q3
    obtain ⟨z, hz⟩ : ∃ z, guOk d r = z := ⟨_, rfl⟩
    have HZ := Lib.hid hz
    rw [hz]
    clear hBc hV' hz
    go_wp2_with fail
    refine (toExpr_any hU HF.out).mono ?_
    rintro e w4 ⟨A2, c2, rfl, hV, hBc⟩
    replace hB := ext_trans hB hBc
    replace hU := hU.below hBc
    replace q0 := below_cell hBc q0
    replace q1 := below_cell hBc q1
    replace q2 := below_cell hBc q2
    replace q3 := below_cell hBc q3
    have hV' : exW d w4 A2 r.ps := hV.wide (Nat.zero_le _) (Nat.le_refl _)
    clear hBc hV
    obtain ⟨X, hX⟩ : ∃ X, X = w4.alloc (.cells #[.int .i64 r.k, .int .i64 r.n, .string r.s, .slice A2 r.ps.length c2] 28) := ⟨_, rfl⟩
    obtain ⟨gx, hgx⟩ : ∃ g, g = w4.heap.size := ⟨_, rfl⟩
    have x0 : X.cell? ⟨gx, 0, none⟩ = some (.int .i64 r.k) := by rw [hX, hgx]; exact box_cell _ _ _ 0 _ rfl
    have x1 : X.cell? ⟨gx, 1, none⟩ = some (.int .i64 r.n) := by rw [hX, hgx]; exact box_cell _ _ _ 1 _ rfl
    have x2 : X.cell? ⟨gx, 2, none⟩ = some (.string r.s) := by rw [hX, hgx]; exact box_cell _ _ _ 2 _ rfl
    have x3 : X.cell? ⟨gx, 3, none⟩ = some (.slice A2 r.ps.length c2) := by rw [hX, hgx]; exact box_cell _ _ _ 3 _ rfl
    have hb4 : Below w4.heap.size w4 X := by rw [hX]; exact below_alloc _ _
    replace hB := ext_trans hB hb4
    replace hU := hU.below hb4
    replace hV' := hV'.below hb4
    replace q0 := below_cell hb4 q0
    replace q1 := below_cell hb4 q1
    replace q2 := below_cell hb4 q2
    replace q3 := below_cell hb4 q3
    have HX := Lib.hid hX
    have HGX := Lib.hid hgx
    clear hX hgx hb4
    go_wp2_with fail
    rw [← HX.out, ← HGX.out]
    refine (implGuarded hV' hs).mono ?_
    rintro e w5 ⟨rfl, hBc⟩
    rw [HZ.out]
    replace hB := ext_trans hB hBc
    replace hU := hU.below hBc
    replace hV' := hV'.below hBc
    replace q0 := below_cell hBc q0
    replace q1 := below_cell hBc q1
    replace q2 := below_cell hBc q2
    replace q3 := below_cell hBc q3
    replace x0 := below_cell hBc x0
    replace x1 := below_cell hBc x1
    replace x2 := below_cell hBc x2
    replace x3 := below_cell hBc x3
    clear hBc
    go_wp2_with fail
    refine wp_region_kinds2 (fun i wz vz => match i with | 0 => vz = .agg #[.int .i64 r.k, .int .i64 r.n, .string r.s, .slice A2 r.ps.length c2] | 1 => vz = .agg #[.int .i64 r.k, .int .i64 r.n, .string r.s, .slice A r.ps.length c] | 2 => ExV d r wz vz | 3 => vz = .bool true | 4 => vz = .bool false | _ => True) (fun _ wz => Below w5.heap.size w5 wz) (fun i w w' => Below w.heap.size w w') (fun _ => Option.none) (by kernel_rfl) (by kernel_rfl) (by kernel_rfl) ?stab10 (ext_drew (Below.refl _ _)) ?all10 ?fin10
    case stab10 =>
      intro i j wa wb v hR hk hne hd _ h2 hT
      match j, hk, hne, hd, h2, hT with
      | 0, hk, hne, hd, h2, hT => exact hT
      | 1, hk, hne, hd, h2, hT => exact hT
      | 2, hk, hne, hd, h2, hT => exact ExV.below hT hR
      | 3, hk, hne, hd, h2, hT => exact hT
      | 4, hk, hne, hd, h2, hT => exact hT
      | n + 5, _, _, _, _, _ => trivial
    case all10 =>
      refine RAll.cons rfl ?_ (RAll.cons rfl ?_ (RAll.cons rfl ?_ (RAll.cons rfl ?_ (RAll.cons rfl ?_ (RAll.none_)))))
      · intro a k wa K Q _ hI hp hK
        have e5 := tmp_of (show a.eval (.tmp 5) = .pointer (some ⟨gx, 0, none⟩) from hp.keep 5 (by kernel_rfl))
        have x0_ := below_cell hI x0
        have x1_ := below_cell hI x1
        have x2_ := below_cell hI x2
        have x3_ := below_cell hI x3
        go_simp
        exact hK _ _ rfl (Below.refl _ _) hI
      · intro a k wa K Q _ hI hp hK
        have e1 := tmp_of (show a.eval (.tmp 1) = .pointer (some ⟨g, 0, none⟩) from hp.keep 1 (by kernel_rfl))
        have q0_ := below_cell hI q0
        have q1_ := below_cell hI q1
        have q2_ := below_cell hI q2
        have q3_ := below_cell hI q3
        go_simp
        exact hK _ _ rfl (Below.refl _ _) hI
      · intro a k wa K Q _ hI hp hK
        have e23 := tmp_of (show a.eval (.tmp 23) = .agg #[.int .i64 r.k, .int .i64 r.n, .string r.s, .slice A r.ps.length c] from hp.dep 1 23 (by kernel_rfl))
        go_simp
        refine (toExpr_any (hU.below hI) HF.out).mono ?_
        rintro e wb ⟨A8, c8, rfl, h8, hb⟩
        exact hK _ _ ⟨A8, c8, rfl, h8.wide (Nat.zero_le _) (Nat.le_refl _)⟩ hb (ext_trans hI hb)
      · intro a k wa K Q _ hI hp hK
        have e22 := tmp_of (show a.eval (.tmp 22) = .agg #[.int .i64 r.k, .int .i64 r.n, .string r.s, .slice A2 r.ps.length c2] from hp.dep 0 22 (by kernel_rfl))
        have t24 : ExV d r wa (a.eval (.tmp 24)) := hp.dep 2 24 (by kernel_rfl)
        obtain ⟨A8, c8, e24, h8⟩ := t24
        replace e24 := tmp_of e24
        go_simp
        refine (eqExpr_any (r := r) (r' := r) (hV'.below hI) h8).mono ?_
        rintro e wb ⟨rfl, hb⟩
        rw [sameX_self]
        exact hK _ _ rfl hb (ext_trans hI hb)
      · intro a k wa K Q _ hI hp hK
        have e25 := tmp_of (show a.eval (.tmp 25) = .bool true from hp.dep 3 25 (by kernel_rfl))
        go_simp
        exact hK _ _ (rfl) (Below.refl _ _) hI
    case fin10 =>
      intro f w9 hT hI0
      have hI : Below w5.heap.size w5 w9 := hI0
      have hr4 : (f 4) = .bool false := hT 4 (by decide) rfl rfl
      clear hT hI0
      simp only [putAll, hr4]
      go_simp
      go_wp2
      go_ret
      exact ⟨rfl, ext_trans hB hI⟩
end Go.Proofs.Ytodjokdaofefdaa
/- A region that draws its order and whose one store is known to be behind what it needs: what holds ahead of the store, what holds behind it. -/
namespace Go.Proofs.Ytodjokdaofefdaa
set_option linter.unusedSimpArgs false
set_option linter.unusedVariables false
open Go.RowKit

structure RGoodH (ops : Array Oper) (a0 : Act) (T : Nat → World → Value → Prop) (Inv : Nat → World → Prop) (kill : Nat → Option Nat) (gc : Option Nat) (G H : World → Prop) (k : Nat) (listed : Array Bool) (a : Act) (w : World) : Prop where
  size : a.tmps.size = a0.tmps.size
  defers : a.defers = a0.defers
  inv : Inv k w
  lsize : listed.size = ops.size
  closed : ∀ i j, listed.getD i false = true → depB ops i j = true → listed.getD j false = true
  done : ∀ i d, dstOf ops i = some d → listed.getD i false = true → (∀ c, kill i = some c → listed.getD c false = false) → T i w (a.eval (.tmp d))
  todo : ∀ s, (∀ i, dstOf ops i = some s → listed.getD i false = false) → a.eval (.tmp s) = a0.eval (.tmp s)
  pre : (∀ c, gc = some c → listed.getD c false = false) → G w
  post : ∀ c, gc = some c → listed.getD c false = true → H w

def ROneH (P : Program) (ops : Array Oper) (a0 : Act) (T : Nat → World → Value → Prop) (Inv : Nat → World → Prop) (Rel : Nat → World → World → Prop) (gc : Option Nat) (G H : World → Prop) (i : Nat) (o : Oper) : Prop :=
  ∀ (a : Act) (k : Nat) (w : World) (K : Act → World → Prop) (Q : Exit → Act → World → Prop), k < ops.size → Inv k w → RPre ops a0 T gc G i a w →
    (∀ v w', T i w' v → Rel i w w' → Inv (k + 1) w' → (gc = some i → H w') → K (a.put o.dst v) w') → if Region.wanted o (yielded ops a.tmps) = true then o.wp P a w K Q else K (a.put o.dst undef) w

section
variable {P : Program} {ops : Array Oper} {n : Nat} {a0 : Act} {T : Nat → World → Value → Prop} {Inv : Nat → World → Prop} {Rel : Nat → World → World → Prop} {kill : Nat → Option Nat} {gc : Option Nat} {G H : World → Prop}
theorem region_any_stepH (hok : okRegion ops a0.tmps.size = true) (hkill : okKill ops kill = true) (hstab : ∀ i j w w' v, Rel i w w' → kill j ≠ some i → j ≠ i → depB ops j i = false → (∀ c, kill j = some c → depB ops i c = false) → (∀ m, depB ops j m = true → depB ops m i = false) → T j w v → T j w' v)
    (hstabG : ∀ i w w', Rel i w w' → gc ≠ some i → G w → G w') (hstabH : ∀ i w w', Rel i w w' → gc ≠ some i → (∀ c, gc = some c → depB ops c i = false) → H w → H w') (hone : ∀ i o, ops[i]? = some o → ROneH P ops a0 T Inv Rel gc G H i o) {Q : Exit → Act → World → Prop}
    (hQ : ∀ listed a w, (∀ i, i < ops.size → listed.getD i true = true) → RGoodH ops a0 T Inv kill gc G H ops.size listed a w → Q .normal a w) :
    ∀ (fuel k : Nat) (listed : Array Bool) (a : Act) (w : World), k + fuel = ops.size → unl ops.size (fun i => !listed.getD i true) = fuel → RGoodH ops a0 T Inv kill gc G H k listed a w → wpAny P .any ops Q fuel listed a w := by
  intro fuel
  induction fuel with
  | zero =>
    intro k listed a w hk hu hg
    have hall := unl_zero hu
    have hr : Region.ready .any ops listed = [] := by
      apply List.eq_nil_iff_forall_not_mem.2
      intro i hi
      obtain ⟨h1, h2, _⟩ := mem_ready_iff.1 hi
      have := hall i h1
      simp [h2] at this
    obtain rfl : k = ops.size := by omega
    exact ⟨hr, hQ listed a w (fun i hi => by simpa using hall i hi) hg⟩
  | succ fuel ih =>
    intro k listed a w hk hu hg
    refine ⟨fun hr => ?_, fun i hi => ?_⟩
    · exfalso
      have hex : ∃ i, i < ops.size ∧ listed.getD i true = false := by
        by_cases h : ∃ i, i < ops.size ∧ listed.getD i true = false
        · exact h
        · exfalso
          have : unl ops.size (fun i => !listed.getD i true) = 0 := by
            unfold unl
            rw [List.filter_eq_nil_iff.2]
            · rfl
            · intro j hj
              simp only [Bool.not_eq_true', Bool.not_eq_false]
              cases hh : listed.getD j true with
              | true => rfl
              | false => exact absurd ⟨j, List.mem_range.1 hj, hh⟩ h
          omega
      have hmin : ∀ m, (∃ i, i < m ∧ i < ops.size ∧ listed.getD i true = false) → ∃ i, i < ops.size ∧ listed.getD i true = false ∧ ∀ j, j < i → listed.getD j true = true := by
        intro m
        induction m with
        | zero => rintro ⟨i, h, _⟩; omega
        | succ m ihm =>
          rintro ⟨i, h1, h2, h3⟩
          by_cases h : ∃ i, i < m ∧ i < ops.size ∧ listed.getD i true = false
          · exact ihm h
          · refine ⟨i, h2, h3, fun j hj => ?_⟩
            cases hh : listed.getD j true with
            | true => rfl
            | false => exact absurd ⟨j, by omega, by omega, hh⟩ h
      obtain ⟨i, h1, h2⟩ := hex
      obtain ⟨i, h1, h2, h3⟩ := hmin (i + 1) ⟨i, by omega, h1, h2⟩
      have := ready_first hok hg.lsize h1 h2 h3
      rw [hr] at this
      cases this
    · obtain ⟨h1, h2, h3⟩ := mem_ready_iff.1 hi
      have hli : listed.getD i false = false := by
        rw [Array.getD_eq_getD_getElem?, Array.getElem?_eq_getElem (by rw [hg.lsize]; exact h1)] at h2 ⊢
        exact h2
      have hdeps : ∀ j, depB ops i j = true → listed.getD j false = true := by
        intro j hd
        simp only [depB, Array.getElem?_eq_getElem h1, Option.map_some, Option.getD_some] at hd
        obtain ⟨e, he, hd⟩ := Array.any_eq_true.1 hd
        rw [Array.getElem?_eq_getElem h1] at h3
        simp only [Option.map_some, Option.getD_some] at h3
        have := Array.all_eq_true.1 h3 e he
        simp only [Bool.and_eq_true, beq_iff_eq] at hd
        rw [hd.1, hd.2] at this
        simpa using this
      have hpre : RPre ops a0 T gc G i a w := by
        refine ⟨fun j s hd => ?_, fun s hs => ?_, fun hpr => hg.pre fun c hc => ?_⟩
        · simp only [depSlot, Bool.and_eq_true, beq_iff_eq] at hd
          have hd1 := readB_dep hd.1
          refine hg.done j s hd.2 (hdeps j hd1) (fun c hc => ?_)
          have hji := okRegion_dep hok hd1
          have := List.all_eq_true.1 (List.all_eq_true.1 hkill i (List.mem_range.2 hji.2)) j (List.mem_range.2 (by omega))
          simp only [hd.1, hc, Bool.not_true, Bool.false_or, Bool.or_eq_true, beq_iff_eq] at this
          rcases this with rfl | hci
          · exact hli
          · cases hh : listed.getD c false with
            | false => rfl
            | true =>
              have := hg.closed c i hh hci
              rw [hli] at this
              cases this
        · refine hg.todo s (fun j hj => ?_)
          have hjs : j < ops.size := by
            unfold dstOf at hj
            cases ho : ops[j]? with
            | none => simp [ho] at hj
            | some o => exact (Array.getElem?_eq_some_iff.1 ho).1
          have := List.all_eq_true.1 hs j (List.mem_range.2 hjs)
          simp only [hj, bne_self_eq_false, Bool.false_or] at this
          cases hh : listed.getD j false with
          | false => rfl
          | true =>
            have := hg.closed j i hh this
            rw [hli] at this
            cases this
        · have := hpr c hc
          simp only [Bool.or_eq_true, beq_iff_eq] at this
          rcases this with rfl | hci
          · exact hli
          · cases hh : listed.getD c false with
            | false => rfl
            | true =>
              have := hg.closed c i hh hci
              rw [hli] at this
              cases this
      have hgood : ∀ v w', T i w' v → Rel i w w' → Inv (k + 1) w' → (gc = some i → H w') → RGoodH ops a0 T Inv kill gc G H (k + 1) (listed.setIfInBounds i true) (a.put ((ops[i]?).bind (·.dst)) v) w' := by
        intro v w' hT hR hI hH
        have hset : ∀ j, (listed.setIfInBounds i true).getD j false = if j = i then true else listed.getD j false := by
          intro j
          simp only [Array.getD_eq_getD_getElem?, Array.getElem?_setIfInBounds]
          by_cases hji : j = i
          · subst hji; simp [hg.lsize, h1]
          · rw [if_neg (fun e => hji e.symm), if_neg hji]
        refine ⟨?_, ?_, hI, by simpa using hg.lsize, ?_, ?_, ?_, fun hpr => hstabG i w w' hR (fun e => ?_) (hg.pre fun c hc => ?_), fun c hc hl => ?_⟩
        · cases h : (ops[i]?).bind (·.dst) <;> simpa [Act.put] using hg.size
        · cases h : (ops[i]?).bind (·.dst) <;> simpa [Act.put] using hg.defers
        · intro x y hx hd
          rw [hset] at hx ⊢
          by_cases hyi : y = i
          · rw [if_pos hyi]
          · rw [if_neg hyi]
            by_cases hxi : x = i
            · subst hxi; exact hdeps y hd
            · rw [if_neg hxi] at hx; exact hg.closed x y hx hd
        · intro x d hd hx hkx
          rw [hset] at hx
          by_cases hxi : x = i
          · subst hxi
            have hd' : (ops[x]?).bind (·.dst) = some d := hd
            rw [hd', eval_put, if_pos ⟨rfl, by rw [hg.size]; exact (okRegion_dst hok hd).1⟩]
            exact hT
          · rw [if_neg hxi] at hx
            have hv : (a.put ((ops[i]?).bind (·.dst)) v).eval (.tmp d) = a.eval (.tmp d) := by
              cases h : (ops[i]?).bind (·.dst) with
              | none => rfl
              | some d' =>
                rw [eval_put, if_neg]
                rintro ⟨rfl, _⟩
                exact hxi (okRegion_uniq hok hd h)
            rw [hv]
            refine hstab _ _ _ _ _ hR (fun e => ?_) hxi ?_ (fun c hc => ?_) (fun m hm => ?_) (hg.done x d hd hx (fun c hc => ?_))
            · have := hkx i e
              rw [hset, if_pos rfl] at this
              cases this
            · cases hh : depB ops x i with
              | false => rfl
              | true =>
                have := hg.closed x i hx hh
                rw [hli] at this
                cases this
            · cases hh : depB ops i c with
              | false => rfl
              | true =>
                have hl1 := hdeps c hh
                have hl2 := hkx c hc
                rw [hset] at hl2
                by_cases hci : c = i
                · subst hci; exact Bool.noConfusion (hl1.symm.trans hli)
                · rw [if_neg hci, hl1] at hl2; cases hl2
            · cases hh : depB ops m i with
              | false => rfl
              | true =>
                have := hg.closed m i (hg.closed x m hx hm) hh
                rw [hli] at this
                cases this
            · have := hkx c hc
              rw [hset] at this
              by_cases hci : c = i
              · subst hci; exact hli
              · rwa [if_neg hci] at this
        · intro s hs
          have hsi : dstOf ops i ≠ some s := fun e => by
            have := hs i e
            rw [hset, if_pos rfl] at this
            cases this
          have hv : (a.put ((ops[i]?).bind (·.dst)) v).eval (.tmp s) = a.eval (.tmp s) := by
            cases h : (ops[i]?).bind (·.dst) with
            | none => rfl
            | some d' =>
              rw [eval_put, if_neg]
              rintro ⟨rfl, _⟩
              exact hsi h
          rw [hv]
          refine hg.todo s (fun j hj => ?_)
          have := hs j hj
          rw [hset] at this
          by_cases hji : j = i
          · subst hji; exact hli
          · rwa [if_neg hji] at this
        · have := hpr i e
          rw [hset, if_pos rfl] at this
          cases this
        · have := hpr c hc
          rw [hset] at this
          by_cases hji : c = i
          · subst hji; exact hli
          · rwa [if_neg hji] at this
        · rw [hset] at hl
          by_cases hci : c = i
          · subst hci; exact hH hc
          · rw [if_neg hci] at hl
            refine hstabH i w w' hR (fun e => hci (by rw [hc] at e; cases e; rfl)) (fun c' hc' => ?_) (hg.post c hc hl)
            rw [hc] at hc'
            cases hc'
            cases hh : depB ops c i with
            | false => rfl
            | true =>
              have := hg.closed c i hl hh
              rw [hli] at this
              cases this
      have hunl : unl ops.size (fun j => !(listed.setIfInBounds i true).getD j true) = fuel := by
        have := unl_set (p := fun j => !listed.getD j true) (p' := fun j => !(listed.setIfInBounds i true).getD j true) (i := i) (by simp [h2]) (by
          simp [Array.getD_eq_getD_getElem?, Array.getElem?_setIfInBounds, hg.lsize, h1]) (fun j hj => by
          simp only [Array.getD_eq_getD_getElem?, Array.getElem?_setIfInBounds]
          rw [if_neg (fun e => hj e.symm)]) ops.size
        rw [if_pos h1] at this
        omega
      have h := hone i ops[i] (Array.getElem?_eq_getElem h1) a k w (wpAny P .any ops Q fuel (listed.setIfInBounds i true)) Q (by omega) hg.inv hpre (fun v w' hT hR hI hH => by
        have := hgood v w' hT hR hI hH
        rw [Array.getElem?_eq_getElem h1] at this
        exact ih (k + 1) _ _ _ (by omega) hunl this)
      unfold wpOp
      rw [Array.getElem?_eq_getElem h1]
      simp only
      split
      · rename_i hw; rw [if_pos hw] at h; exact .inl h
      · rename_i hw; rw [if_neg hw] at h; exact h

/-- The obligations, an operation at a time. -/
def RAllH (P : Program) (ops : Array Oper) (a0 : Act) (T : Nat → World → Value → Prop) (Inv : Nat → World → Prop) (Rel : Nat → World → World → Prop) (gc : Option Nat) (G H : World → Prop) : List Oper → Nat → Prop
  | [], _ => True
  | o :: l, i => ROneH P ops a0 T Inv Rel gc G H i o ∧ RAllH P ops a0 T Inv Rel gc G H l (i + 1)
theorem RAllH.at {l : List Oper} {i : Nat} (h : RAllH P ops a0 T Inv Rel gc G H l i) : ∀ (j : Nat) (o : Oper), l[j]? = some o → ROneH P ops a0 T Inv Rel gc G H (i + j) o := by
  induction l generalizing i with
  | nil => intro j o hj; simp at hj
  | cons o' l ih =>
    intro j o hj
    cases j with
    | zero => obtain rfl : o' = o := by simpa using hj
              exact h.1
    | succ j =>
      have := ih h.2 j o (by simpa using hj)
      rwa [show i + 1 + j = i + (j + 1) by omega] at this

theorem wp_region_draws2H (gc : Option Nat) (G H : World → Prop) (T : Nat → World → Value → Prop) (Inv : Nat → World → Prop) (Rel : Nat → World → World → Prop) (kill : Nat → Option Nat) {id : Nat} {Q : Exit → Act → World → Prop} {w : World} {l : List Oper} (hm : P.follows .mixedOrders = true)
    (hok : okRegion l.toArray a0.tmps.size = true) (hkill : okKill l.toArray kill = true) (hstab : ∀ i j w w' v, Rel i w w' → kill j ≠ some i → j ≠ i → depB l.toArray j i = false → (∀ c, kill j = some c → depB l.toArray i c = false) → (∀ m, depB l.toArray j m = true → depB l.toArray m i = false) → T j w v → T j w' v) (hstabG : ∀ i w w', Rel i w w' → gc ≠ some i → G w → G w') (hstabH : ∀ i w w', Rel i w w' → gc ≠ some i → (∀ c, gc = some c → depB l.toArray c i = false) → H w → H w') (hI : Inv 0 w.drew) (hG : G w.drew) (hone : RAllH P l.toArray a0 T Inv Rel gc G H l 0)
    (hQ : ∀ (f : Nat → Value) (w' : World), (∀ i, i < l.length → (dstOf l.toArray i).isSome = true → (kill i).isNone = true → T i w' (f i)) → Inv l.length w' → (∀ c, gc = some c → c < l.length → H w') → Q .normal (putAll f l 0 a0) w') : (Code.region id l.toArray true).wp P Q a0 w := by
  refine wp_region_any hm (region_any_stepH (a0 := a0) (T := T) (Inv := Inv) (Rel := Rel) (kill := kill) (gc := gc) (G := G) (H := H) hok hkill hstab hstabG hstabH (fun i o ho => by
    have := RAllH.at hone i o (by simpa using ho)
    simpa using this) ?_ _ 0 _ a0 _ (by simp) ?_ ?_)
  · intro listed a w' hall hg
    have hlist : ∀ i, i < l.length → listed.getD i false = true := fun i hi => by
      have := hall i (by simpa using hi)
      rw [Array.getD_eq_getD_getElem?, Array.getElem?_eq_getElem (by rw [hg.lsize]; simpa using hi)] at this ⊢
      exact this
    have hlt : ∀ i d, dstOf l.toArray i = some d → i < l.length := fun i d hd => by
      unfold dstOf at hd
      cases ho : l.toArray[i]? with
      | none => simp [ho] at hd
      | some o => simpa using (Array.getElem?_eq_some_iff.1 ho).1
    have he : a = putAll (fun i => a.eval (.tmp ((dstOf l.toArray i).getD 0))) l 0 a0 := by
      have hp := putAll_defers (fun i => a.eval (.tmp ((dstOf l.toArray i).getD 0))) l 0 a0
      refine act_ext (hg.size.trans hp.2.symm) (hg.defers.trans hp.1.symm) (fun s hs => ?_)
      by_cases h : ∃ i, dstOf l.toArray i = some s
      · obtain ⟨i, hi⟩ := h
        have hi' := hi
        unfold dstOf at hi'
        cases ho : l.toArray[i]? with
        | none => simp [ho] at hi'
        | some o =>
          simp only [ho, Option.bind_some] at hi'
          rw [putAll_some _ l 0 a0 s i o (by simpa using ho) hi' (fun j o' ho' hd' => okRegion_uniq hok (d := s) (by simp [dstOf, ho', hd']) hi) (by rw [← hg.size]; exact hs)]
          simp [hi]
      · rw [putAll_none _ l 0 a0 s (fun j o ho hd => h ⟨j, by simp [dstOf, ho, hd]⟩)]
        exact hg.todo s (fun i hi => absurd ⟨i, hi⟩ h)
    rw [he]
    refine hQ _ _ (fun i hi hs hk => ?_) (by simpa using hg.inv) (fun c hc hl => hg.post c hc (hlist c hl))
    obtain ⟨d, hd⟩ := Option.isSome_iff_exists.1 hs
    simp only [hd, Option.getD_some]
    exact hg.done i d hd (hlist i hi) (fun c hc => by rw [hc] at hk; cases hk)
  · have : ∀ N, unl N (fun i => !(Array.replicate N false).getD i true) = N := by
      intro N
      unfold unl
      rw [List.filter_eq_self.2]
      · simp
      · intro i hi
        simp [Array.getD_eq_getD_getElem?, List.mem_range.1 hi]
    exact this _
  · refine ⟨rfl, rfl, hI, by simp, ?_, ?_, fun _ _ => rfl, fun _ => hG, fun c _ h => ?_⟩
    · intro i j h
      simp [Array.getD_eq_getD_getElem?, Array.getElem?_replicate] at h
      split at h <;> simp at h
    · intro i d _ h _
      simp [Array.getD_eq_getD_getElem?, Array.getElem?_replicate] at h
      split at h <;> simp at h
    · simp [Array.getD_eq_getD_getElem?, Array.getElem?_replicate] at h
      split at h <;> simp at h

end
section
variable {P : Program} {ops : Array Oper} {a0 : Act} {T : Nat → World → Value → Prop} {Inv : Nat → World → Prop} {Rel : Nat → World → World → Prop} {gc : Option Nat} {G H : World → Prop}
theorem RAllH.none_ {i : Nat} : RAllH P ops a0 T Inv Rel gc G H [] i := trivial
theorem RAllH.cons {o : Oper} {l : List Oper} {i : Nat} (hg : o.guard = Option.none) (h : ∀ (a : Act) (k : Nat) (w : World) (K : Act → World → Prop) (Q : Exit → Act → World → Prop), k < ops.size → Inv k w → RPre ops a0 T gc G i a w →
    (∀ v w', T i w' v → Rel i w w' → Inv (k + 1) w' → (gc = some i → H w') → K (a.put o.dst v) w') → o.wp P a w K Q) (hl : RAllH P ops a0 T Inv Rel gc G H l (i + 1)) : RAllH P ops a0 T Inv Rel gc G H (o :: l) i :=
  ⟨fun a k w K Q h1 h2 h3 h4 => by
    have : Region.wanted o (yielded ops a.tmps) = true := by simp [Region.wanted, hg]
    rw [if_pos this]
    exact h a k w K Q h1 h2 h3 h4, hl⟩
end
end Go.Proofs.Ytodjokdaofefdaa
/- Guards that are added, by the reference: the whole. -/
namespace Go.Proofs.Ytodjokdaofefdaa
set_option linter.unusedSimpArgs false
set_option linter.unusedVariables false
open Go.RowKit

/-- An expression whose parts stand in blocks of which P holds. -/
def exP (P : Nat → Prop) : Nat → World → Ex → List Value → Prop
  | 0, _, _, _ => False
  | d + 1, w, t, cs => ∃ A c, cs = exHead t (.slice A t.ps.length c) ∧ RdL (exP P d) 4 w A t.ps ∧ (0 < t.ps.length → ∀ a, A = some a → P a.block) ∧ t.s.size ≤ 9223372036854775807
def exQ (P : Nat → Prop) (d : Nat) (w : World) (A : Option Addr) (l : ExL) : Prop := RdL (exP P d) 4 w A l ∧ (0 < l.length → ∀ a, A = some a → P a.block)
section
variable {P P' : Nat → Prop} {w w' : World} {A : Option Addr} {l : ExL}
theorem exP.keep (hk : ∀ k, P k → P' k ∧ w'.heap[k]? = w.heap[k]?) : ∀ {d d' : Nat} {t : Ex} {cs : List Value}, d ≤ d' → exP P d w t cs → exP P' d' w' t cs
  | 0, _, _, _, _, h => h.elim
  | d + 1, 0, _, _, hd, _ => by omega
  | d + 1, d' + 1, t, cs, hd, ⟨A, c, e, h3, h4, h5⟩ => ⟨A, c, e, RdL.keep h3 (fun _ _ h => exP.keep hk (by omega) h) (fun hn a ha => (hk _ (h4 hn a ha)).2), fun hn a ha => (hk _ (h4 hn a ha)).1, h5⟩
theorem exQ.keep {d d' : Nat} (h : exQ P d w A l) (hd : d ≤ d') (hk : ∀ k, P k → P' k ∧ w'.heap[k]? = w.heap[k]?) : exQ P' d' w' A l :=
  ⟨RdL.keep h.1 (fun _ _ h => exP.keep hk hd h) (fun hn a ha => (hk _ (h.2 hn a ha)).2), fun hn a ha => (hk _ (h.2 hn a ha)).1⟩
theorem exR.p {lo hi : Nat} : ∀ {d : Nat} {t : Ex} {cs : List Value}, (∀ k, lo ≤ k → k < hi → P k) → exR d lo hi w t cs → exP P d w t cs
  | 0, _, _, _, h => h.elim
  | d + 1, t, cs, hP, ⟨A, c, e, h3, h4, h5⟩ => ⟨A, c, e, RdL.keep h3 (fun _ _ h => exR.p hP h) (fun _ _ _ => rfl), fun hn a ha => hP _ (h4 hn a ha).1 (h4 hn a ha).2, h5⟩
theorem exS.q {d lo hi : Nat} (h : exS d lo hi w A l) (hP : ∀ k, lo ≤ k → k < hi → P k) : exQ P d w A l :=
  ⟨RdL.keep h.1 (fun _ _ h => exR.p hP h) (fun _ _ _ => rfl), fun hn a ha => hP _ (h.2 hn a ha).1 (h.2 hn a ha).2⟩
theorem exP.r {lo hi : Nat} : ∀ {d : Nat} {t : Ex} {cs : List Value}, (∀ k, P k → lo ≤ k ∧ k < hi) → exP P d w t cs → exR d lo hi w t cs
  | 0, _, _, _, h => h.elim
  | d + 1, t, cs, hP, ⟨A, c, e, h3, h4, h5⟩ => ⟨A, c, e, RdL.keep h3 (fun _ _ h => exP.r hP h) (fun _ _ _ => rfl), fun hn a ha => hP _ (h4 hn a ha), h5⟩
theorem exQ.s {d lo hi : Nat} (h : exQ P d w A l) (hP : ∀ k, P k → lo ≤ k ∧ k < hi) : exS d lo hi w A l :=
  ⟨RdL.keep h.1 (fun _ _ h => exP.r hP h) (fun _ _ _ => rfl), fun hn a ha => hP _ (h.2 hn a ha)⟩
end
/-- As it reads from block lo on without block g. -/
def exG (lo g d : Nat) (w : World) (A : Option Addr) (l : ExL) : Prop := exQ (fun k => lo ≤ k ∧ k ≠ g ∧ k < w.heap.size) d w A l
section
variable {lo g d d' : Nat} {w w' : World} {A : Option Addr} {l : ExL}
theorem exG.toW (h : exG lo g d w A l) : exW d w A l := h.s (fun k hk => ⟨Nat.zero_le _, hk.2.2⟩)
theorem exG.below (h : exG lo g d w A l) (hb : Below w.heap.size w w') : exG lo g d w' A l := exQ.keep h (Nat.le_refl _) (fun k hk => ⟨⟨hk.1, hk.2.1, Nat.lt_of_lt_of_le hk.2.2 hb.size⟩, hb.block k hk.2.2⟩)
theorem exG.grown (h : exG lo g d w A l) (hg : w.grownBy w' (some g)) : exG lo g d w' A l := exQ.keep h (Nat.le_refl _) (fun k hk => ⟨⟨hk.1, hk.2.1, Nat.lt_of_lt_of_le hk.2.2 hg.size⟩, hg.block k hk.2.2 (fun e => hk.2.1 (by cases e; rfl))⟩)
theorem exG.low {row : Option Nat} (h : exG lo g d w A l) (hg : w.grownBy w' row) (hr : ∀ k, row = some k → k < lo) : exG lo g d w' A l := exQ.keep h (Nat.le_refl _) (fun k hk => ⟨⟨hk.1, hk.2.1, Nat.lt_of_lt_of_le hk.2.2 hg.size⟩, hg.block k hk.2.2 (fun e => by have := hr k e.symm; omega)⟩)
theorem exG.deeper (h : exG lo g d w A l) (hd : d ≤ d') : exG lo g d' w A l := exQ.keep h hd (fun _ hk => ⟨hk, rfl⟩)
theorem exS.toG {a b : Nat} (h : exS d a b w A l) (h0 : lo ≤ a) (hg : g < a ∨ b ≤ g) (hh : b ≤ w.heap.size) : exG lo g d w A l := exS.q h (fun k h1 h2 => ⟨by omega, by omega, by omega⟩)
/-- A row of two, laid anew. -/
theorem exG.two {b c1 c2 : Nat} {A1 A2 : Option Addr} {t1 t2 : Ex} (hb : w.heap[b]? = some (.cells #[.int .i64 t1.k, .int .i64 t1.n, .string t1.s, .slice A1 t1.ps.length c1, .int .i64 t2.k, .int .i64 t2.n, .string t2.s, .slice A2 t2.ps.length c2] 28 (0, 0))) (h0 : lo ≤ b) (hg : b ≠ g)
    (h1 : exG lo g d w A1 t1.ps) (h2 : exG lo g d w A2 t2.ps) (s1 : t1.s.size ≤ 9223372036854775807) (s2 : t2.s.size ≤ 9223372036854775807) : exG lo g (d + 1) w (some ⟨b, 0, none⟩) [t1, t2] := by
  refine ⟨⟨by simp, fun _ => ⟨b, 0, rfl, fun k hk => ?_⟩⟩, fun _ a ha => ?_⟩
  · match k, hk with
    | 0, _ => exact ⟨_, rfl, ⟨A1, c1, rfl, h1.1, h1.2, s1⟩, fun j v hv => by
        rw [cell_of_row w b _ _ _ (0, 0) hb]
        match j, hv with
        | 0, hv => exact hv
        | 1, hv => exact hv
        | 2, hv => exact hv
        | 3, hv => exact hv
        | n + 4, hv => simp [exHead] at hv⟩
    | 1, _ => exact ⟨_, rfl, ⟨A2, c2, rfl, h2.1, h2.2, s2⟩, fun j v hv => by
        rw [cell_of_row w b _ _ _ (0, 0) hb]
        match j, hv with
        | 0, hv => exact hv
        | 1, hv => exact hv
        | 2, hv => exact hv
        | 3, hv => exact hv
        | n + 4, hv => simp [exHead] at hv⟩
    | n + 2, hk => exact absurd hk (by simp)
  · cases ha
    exact ⟨h0, hg, (Array.getElem?_eq_some_iff.1 hb).1⟩
end
theorem cells4 {w : World} {g : Nat} {T : TypeId} {a b c d : Value} (h : w.heap[g]? = some (.cells #[a, b, c, d] T (0, 0))) : w.cell? ⟨g, 0, none⟩ = some a ∧ w.cell? ⟨g, 1, none⟩ = some b ∧ w.cell? ⟨g, 2, none⟩ = some c ∧ w.cell? ⟨g, 3, none⟩ = some d :=
  ⟨(cell_of_row w g 0 _ _ _ h).trans rfl, (cell_of_row w g 1 _ _ _ h).trans rfl, (cell_of_row w g 2 _ _ _ h).trans rfl, (cell_of_row w g 3 _ _ _ h).trans rfl⟩
theorem froz4 {w : World} {g : Nat} {T : TypeId} {cs : Array Value} (h : w.heap[g]? = some (.cells cs T (0, 0))) : w.frozen? ⟨g, 0, none⟩ = false ∧ w.frozen? ⟨g, 1, none⟩ = false ∧ w.frozen? ⟨g, 2, none⟩ = false ∧ w.frozen? ⟨g, 3, none⟩ = false :=
  ⟨frozen_of_row w g 0 _ _ h, frozen_of_row w g 1 _ _ h, frozen_of_row w g 2 _ _ h, frozen_of_row w g 3 _ _ h⟩
/-- A box with an expression. -/
def ExBx (g : Nat) (t : Ex) (w : World) (A : Option Addr) (c : Nat) : Prop := w.heap[g]? = some (.cells #[.int .i64 t.k, .int .i64 t.n, .string t.s, .slice A t.ps.length c] 28 (0, 0))
def GbH (lo g d : Nat) (t : Ex) (W w : World) : Prop := ∃ A c, ExBx g t w A c ∧ exG lo g d w A t.ps ∧ Below g W w
theorem GbH.below {lo g d : Nat} {t : Ex} {W w w' : World} (h : GbH lo g d t W w) (hb : Below w.heap.size w w') : GbH lo g d t W w' := by
  obtain ⟨A, c, h1, h2, h3⟩ := h
  have hg := (Array.getElem?_eq_some_iff.1 h1).1
  exact ⟨A, c, block_below h1 hb, h2.below hb, h3.trans (hb.mono (by omega))⟩
def ExG (lo g d : Nat) (r : Ex) (w : World) (v : Value) : Prop := ∃ A c, v = .agg #[.int .i64 r.k, .int .i64 r.n, .string r.s, .slice A r.ps.length c] ∧ exG lo g d w A r.ps
theorem ExG.below {lo g d : Nat} {r : Ex} {w w' : World} {v : Value} (h : ExG lo g d r w v) (hb : Below w.heap.size w w') : ExG lo g d r w' v := let ⟨A, c, e, h⟩ := h; ⟨A, c, e, h.below hb⟩
def TwG (lo g d : Nat) (t1 t2 : Ex) (w : World) (v : Value) : Prop := ∃ b, v = .slice (some ⟨b, 0, none⟩) 2 2 ∧ exG lo g d w (some ⟨b, 0, none⟩) [t1, t2]
theorem TwG.below {lo g d : Nat} {t1 t2 : Ex} {w w' : World} {v : Value} (h : TwG lo g d t1 t2 w v) (hb : Below w.heap.size w w') : TwG lo g d t1 t2 w' v := let ⟨b, e, h⟩ := h; ⟨b, e, h.below hb⟩
theorem join_s {t : Ex} (hs : t.s.size ≤ 9223372036854775807) : ∀ l : ExL, (joinE l t).s.size ≤ 9223372036854775807
  | [] => hs
  | _ :: _ => by show ByteArray.empty.size ≤ _; simp
/-- What GuardedBy leaves. -/
def GbPost (d : Nat) (r : Ex) (w : World) (e : Ending) (w' : World) : Prop := ∃ A c, e = .returned (.tuple #[.agg #[.int .i64 (gbE d r).k, .int .i64 (gbE d r).n, .string (gbE d r).s, .slice A (gbE d r).ps.length c], .bool (gbB d r)]) ∧ exW (d + (gbL d r).length) w' A (gbE d r).ps ∧ Below w.heap.size w w'
theorem gb_no {d : Nat} {r : Ex} (h : gbB d r = false) : gbE d r = exD := by rw [gbE, h]; rfl
theorem gb_yes {d : Nat} {r : Ex} (h : gbB d r = true) : gbE d r = gbO d r := by rw [gbE, if_pos h]
theorem GbPost.no {d : Nat} {r : Ex} {w w' : World} (h : gbB d r = false) (hb : Below w.heap.size w w') : GbPost d r w (.returned (.tuple #[.agg #[.int .i64 0, .int .i64 0, .string ⟨#[]⟩, .slice Option.none 0 0], .bool false])) w' := by
  refine ⟨Option.none, 0, ?_, ?_, hb⟩
  · rw [h, gb_no h]; rfl
  · rw [gb_no h]; exact exS.nil
theorem in_cnt {d : Nat} {t : Ex} (h : inD d t) {C : Nat} (hc : cntR d t ≤ C) : ∀ m, cntR m t ≤ C := fun m => Nat.le_trans (cnt_max d t m h) hc
set_option maxRecDepth 100000 in
set_option maxHeartbeats 16000000 in
theorem specGuardedBy {d : Nat} {A : Option Addr} {r : Ex} {c : Nat} {w : World} (hU : exW d w A r.ps) (hs : r.s.size ≤ 9223372036854775807) (hcnt : cntS d r.ps ≤ 2097152) :
    Calls Try.prog 24 #[.agg #[.int .i64 r.k, .int .i64 r.n, .string r.s, .slice A r.ps.length c]] w (GbPost d r w) := by
  have hlen := exS.len hU
  obtain ⟨gx, hgx⟩ : ∃ g, g = w.heap.size := ⟨_, rfl⟩
  obtain ⟨W, hW⟩ : ∃ W, W = (w.alloc (.cells #[.int .i64 r.k, .int .i64 r.n, .string r.s, .slice A r.ps.length c] 28)).alloc (.cells #[.int .i64 0, .int .i64 0, .string ⟨#[]⟩, .slice Option.none 0 0] 28) := ⟨_, rfl⟩
  have hBW : Below w.heap.size w W := by rw [hW]; (repeat (first | exact Below.refl _ _ | refine ext_alloc ?_ _ | refine Below.setCell ?_ (by simp) _))
  have hWs : W.heap.size = w.heap.size + 2 := by rw [hW]; simp
  have hbx : W.heap[gx]? = some (.cells #[.int .i64 r.k, .int .i64 r.n, .string r.s, .slice A r.ps.length c] 28 (0, 0)) := by rw [hW, hgx]; exact block_below (heap_alloc_at rfl) (below_alloc _ _)
  have hb2 : W.heap[gx + 1]? = some (.cells #[.int .i64 0, .int .i64 0, .string ⟨#[]⟩, .slice Option.none 0 0] 28 (0, 0)) := by rw [hW, hgx]; exact heap_alloc_at (by simp)
  have b0 : W.cell? ⟨gx, 0, none⟩ = some _ := (cell_of_row W gx 0 _ _ _ hbx).trans rfl
  have b1 : W.cell? ⟨gx, 1, none⟩ = some _ := (cell_of_row W gx 1 _ _ _ hbx).trans rfl
  have b2 : W.cell? ⟨gx, 2, none⟩ = some _ := (cell_of_row W gx 2 _ _ _ hbx).trans rfl
  have b3 : W.cell? ⟨gx, 3, none⟩ = some _ := (cell_of_row W gx 3 _ _ _ hbx).trans rfl
  have hUW := hU.below hBW
  have hin := exS_in hU
  have HW := Lib.hid hW
  have HGX := Lib.hid hgx
  have HU0 := Lib.hid hU
  have HBX := Lib.hid hbx
  have HB2 := Lib.hid hb2
  have hgW : gx + 2 = W.heap.size := by omega
  have HGW := Lib.hid hgW
  have hB := hBW
  have HBW0 := Lib.hid hBW
  clear hW hgx hU hbx hb2 hBW hWs hgW
  cases hok : exOk r
  · have HR : Hid (gbB d r = false) := Lib.hid (by rw [gbB, hok]; rfl)
    go_enter Try.func24, Try.ntmps24
    go_wp2_with fail
    rw [← HW.out, ← HGX.out]
    refine (specExprValid hUW hs hcnt).mono ?_
    rintro e w1 ⟨rfl, hb⟩
    rw [hok]
    have hr2 := block_below HB2.out hb
    replace hB := ext_trans hB hb
    clear b0 b1 b2 b3 hok hUW hb
    have y0 : w1.cell? ⟨gx + 1, 0, none⟩ = some _ := (cell_of_row w1 (gx + 1) 0 _ _ _ hr2).trans rfl
    have y1 : w1.cell? ⟨gx + 1, 1, none⟩ = some _ := (cell_of_row w1 (gx + 1) 1 _ _ _ hr2).trans rfl
    have y2 : w1.cell? ⟨gx + 1, 2, none⟩ = some _ := (cell_of_row w1 (gx + 1) 2 _ _ _ hr2).trans rfl
    have y3 : w1.cell? ⟨gx + 1, 3, none⟩ = some _ := (cell_of_row w1 (gx + 1) 3 _ _ _ hr2).trans rfl
    have z0 := frozen_of_row w1 (gx + 1) 0 _ _ hr2
    have z1 := frozen_of_row w1 (gx + 1) 1 _ _ hr2
    have z2 := frozen_of_row w1 (gx + 1) 2 _ _ hr2
    have z3 := frozen_of_row w1 (gx + 1) 3 _ _ hr2
    clear hr2
    go_wp2
    refine bodyPost_ret (v := .tuple #[.agg #[.int .i64 0, .int .i64 0, .string ⟨#[]⟩, .slice Option.none 0 0], .bool false]) (by simp [results, go_sem, y0, y1, y2, y3]) rfl (GbPost.no HR.out ?_)
    exact setCells_below (by have := HGX.out; omega) [.int .i64 0, .int .i64 0, .string ⟨#[]⟩, .slice Option.none 0 0] 0 hB
  obtain ⟨hgd, hc40⟩ := ok_parts hin hok
  have hcn : ∀ m, cntR m r ≤ 1048576 := in_cnt hin (show cntR (d + 1) r ≤ 1048576 by omega)
  cases has : asB (d + 1) r
  · obtain ⟨L, hL⟩ : ∃ L, L = gbL d r := ⟨_, rfl⟩
    have hLl : L.length ≤ 40 := by
      have := fi_len (d + 1) r []
      rw [hL, gbL]
      simp only [List.length_nil] at this
      omega
    have hLm : ∀ x ∈ L, ∀ m, cntR m x ≤ 39 := by rw [hL]; exact fi_mem (d + 1) r [] (in_cnt hin (by omega)) (by simp)
    have hc0 := join_cnt (t := r) L hLm (in_cnt hin (show cntR (d + 1) r ≤ 39 by omega))
    have HO : Hid (gbO d r = joinE L r) := Lib.hid (by rw [hL]; rfl)
    have HD : Hid (d + (gbL d r).length = d + L.length) := Lib.hid (by rw [hL])
    have HL : Hid (fiS (d + 1) r [] = L) := Lib.hid hL.symm
    have HCN := Lib.hid hcn
    have HLM : Hid (∀ x ∈ L, ∀ m, cntR m x ≤ 1048576) := Lib.hid (fun x hx m => Nat.le_trans (hLm x hx m) (by omega))
    have HC0 : Hid (∀ m, cntR m (joinE L r) ≤ 2097152) := Lib.hid (fun m => by
      have h1 := hc0 m
      have h2 : L.length * (39 + 2) ≤ 40 * (39 + 2) := Nat.mul_le_mul_right _ hLl
      omega)
    have HC1 : Hid (([] : ExL).length + 1 + cntR (d + 1) r ≤ 1048576) := Lib.hid (by simp; omega)
    have HBB : Hid (gbB d r = exOk (joinE L r)) := Lib.hid (by rw [gbB, hok, has, HO.out]; rfl)
    have HAS := Lib.hid has
    clear hc0 hLm hcn has hL hgd hc40
    go_enter Try.func24, Try.ntmps24
    go_wp2_with fail
    rw [← HW.out, ← HGX.out]
    refine (specExprValid hUW hs hcnt).mono ?_
    rintro e w1 ⟨rfl, hb⟩
    rw [hok]
    have hX := hb
    replace hB := ext_trans hB hb
    obtain ⟨b0', b1', b2', b3'⟩ := cells4 (block_below HBX.out hX)
    clear b0 b1 b2 b3 hok hb
    go_wp2_with fail
    refine (asQ_all d _ _ _ _ (hUW.below hX)).mono ?_
    rintro e w2 ⟨rfl, hb⟩
    rw [HAS.out]
    replace hX := ext_trans hX hb
    obtain ⟨b0, b1, b2, b3⟩ := cells4 (block_below HBX.out hX)
    clear b0' b1' b2' b3' hb
    go_wp2_with fail
    refine (fiQ_all (d + 1) d _ _ r [] c _ _ ((hUW.below hX).below (below_alloc _ _)) hs exS.nil (Nat.le_refl _) HC1.out).mono ?_
    rw [HL.out]
    rintro e w3 ⟨A6, c6, rfl, hk6, hb⟩
    replace hX := ext_trans hX (ext_trans (below_alloc _ _) hb)
    obtain ⟨b0', b1', b2', b3'⟩ := cells4 (block_below HBX.out hX)
    have HK6 := Lib.hid hk6
    have hw3 := hX.size
    have hll := exS.len hk6
    clear b0 b1 b2 b3 hb hk6
    go_wp2_with fail
    refine (cpQ_all d _ _ _ _ (hUW.below hX) hs HCN.out).mono ?_
    rintro e w4 ⟨A7, c7, rfl, h7, hb⟩
    have h34 := hb.size
    replace hX := ext_trans hX hb
    obtain ⟨X, hXX⟩ : ∃ X, X = w4.alloc (.cells #[.int .i64 r.k, .int .i64 r.n, .string r.s, .slice A7 r.ps.length c7] 28) := ⟨_, rfl⟩
    obtain ⟨g5, hg5⟩ : ∃ g, g = w4.heap.size := ⟨_, rfl⟩
    have hbX : Below w4.heap.size w4 X := by rw [hXX]; exact below_alloc _ _
    have hX5 : ExBx g5 r X A7 c7 := by rw [ExBx, hXX, hg5]; exact heap_alloc_new _ _
    have hwX := hX.size
    have h3X := (ext_trans (show Below W.heap.size W W from Below.refl _ _) (hX.trans (hbX.mono hX.size)))
    obtain ⟨A7', c7', e7, hr7⟩ := h7.rd
    cases e7
    have hG5 : exG W.heap.size g5 d X A7 r.ps := (exS.toG (hr7.keep (fun q _ hq => hbX.block q hq) (Nat.le_refl _) (Nat.le_refl _)) hw3 (.inr (by omega)) hbX.size)
    have hs5 : g5 + 1 = X.heap.size := by rw [hXX, hg5]; simp
    have H35 : Hid (w3.heap.size ≤ g5) := Lib.hid (by rw [hg5]; exact h34)
    have HW3 : Hid (W.heap.size ≤ g5) := Lib.hid (by rw [hg5]; omega)
    have HG5 := Lib.hid hg5
    have HXX := Lib.hid hXX
    have HS5 := Lib.hid hs5
    have H3X : Hid (Below w3.heap.size w3 X) := Lib.hid (ext_trans hb hbX)
    have HWX := Lib.hid h3X
    have HGB : Hid (GbH W.heap.size g5 d r X X) := Lib.hid ⟨A7, c7, hX5, hG5, Below.refl _ _⟩
    clear hXX hg5 hbX hX5 hr7 h7 hG5 h3X hs5 b0' b1' b2' b3' hb hX
    have HJ : Hid (joinE (L.drop L.length) r = r) := Lib.hid (by rw [List.drop_length]; rfl)
    have HS := Lib.hid hs
    clear hw3 h34 hwX
    go_wp2_with fail
    rw [← HXX.out, ← HG5.out]
    go_loopw [6] (fun iv wr => ∃ q : Nat, q ≤ L.length ∧ iv = .int .i64 ((q : Int) - 1) ∧ GbH W.heap.size g5 (d + (L.length - q)) (joinE (L.drop q) r) X wr) (fun iv _ => (intOf iv + 1).toNat)
    case atStart => exact ⟨L.length, Nat.le_refl _, rfl, by rw [HJ.out, Nat.sub_self]; exact HGB.out⟩
    case round =>
      obtain ⟨q, hq, rfl, A9, c9, hbx, hG, hBX⟩ := hrel
      have hgw := (Array.getElem?_eq_some_iff.1 hbx).1
      have h3 := H3X.out.trans (hBX.mono H35.out)
      cases q with
      | zero =>
        obtain ⟨x0, x1, x2, x3⟩ := cells4 hbx
        have hgO : joinE (L.drop 0) r = joinE L r := rfl
        obtain ⟨o, ho⟩ : ∃ o, o = joinE L r := ⟨_, rfl⟩
        obtain ⟨D, hD⟩ : ∃ D, D = d + L.length := ⟨_, rfl⟩
        have hos := join_s HS.out L
        have hco := HC0.out (D + 1)
        rw [hgO, ← ho] at hG x0 x1 x2 x3
        rw [Nat.sub_zero, ← hD] at hG
        rw [← ho] at hos hco
        have HOO : Hid (gbO d r = o) := Lib.hid (by rw [HO.out, ho])
        have HDD : Hid (d + (gbL d r).length = D) := Lib.hid (by rw [HD.out, hD])
        have HYB : Hid (gbB d r = exOk o) := Lib.hid (by rw [HBB.out, ho])
        have hB9 : Below w.heap.size w wr := (HBW0.out.trans (HWX.out.mono HBW0.out.size)).trans (hBX.mono (Nat.le_trans HBW0.out.size HW3.out))
        have HGG := Lib.hid hG
        have HBR : Hid (∀ q, q < g5 → wr.heap[q]? = X.heap[q]?) := Lib.hid (fun q hq => hBX.block q hq)
        clear ho hD hbx hG hBX h3 hgO
        have e1 : ((0 : Nat) : Int) - 1 = -1 := by omega
        rw [e1]
        have hcq : cntS D o.ps ≤ 2097152 := hco
        have hr2 : wr.heap[gx + 1]? = some (.cells #[.int .i64 0, .int .i64 0, .string ⟨#[]⟩, .slice Option.none 0 0] 28 (0, 0)) := (HBR.out _ (by have := HGW.out; have := HW3.out; omega)).trans (block_below HB2.out HWX.out)
        go_wp2_with fail
        refine (specExprValid HGG.out.toW hos hcq).mono ?_
        rintro e w5 ⟨rfl, hb⟩
        replace hr2 := block_below hr2 hb
        replace hB9 := ext_trans hB9 hb
        have hG5 := HGG.out.below hb
        obtain ⟨y0, y1, y2, y3⟩ := cells4 hr2
        obtain ⟨z0, z1, z2, z3⟩ := froz4 hr2
        replace x0 := below_cell hb x0
        replace x1 := below_cell hb x1
        replace x2 := below_cell hb x2
        replace x3 := below_cell hb x3
        have HG6 := Lib.hid hG5
        have hgx2 : w.heap.size ≤ gx + 1 := by have := HGX.out; omega
        obtain ⟨y, hy⟩ : ∃ y, exOk o = y := ⟨_, rfl⟩
        have HYY : Hid (gbB d r = y) := Lib.hid (by rw [HYB.out, hy])
        rw [hy]
        clear hr2 hb hG5 hy hco hcq
        cases y
        · go_wp2
          refine bodyPost_ret (v := .tuple #[.agg #[.int .i64 0, .int .i64 0, .string ⟨#[]⟩, .slice Option.none 0 0], .bool false]) (by simp [results, go_sem, y0, y1, y2, y3]) rfl (GbPost.no HYY.out ?_)
          exact setCells_below hgx2 [.int .i64 0, .int .i64 0, .string ⟨#[]⟩, .slice Option.none 0 0] 0 hB9
        · go_wp2
          refine bodyPost_ret (v := .tuple #[.agg #[.int .i64 o.k, .int .i64 o.n, .string o.s, .slice A9 o.ps.length c9], .bool true]) (by simp [results, go_sem, y0, y1, y2, y3]) rfl ⟨A9, c9, ?_, ?_, ?_⟩
          · rw [gb_yes HYY.out, HYY.out, HOO.out]
          · rw [gb_yes HYY.out, HDD.out, HOO.out]
            exact (HG6.out.low (setCells_grown (gx + 1) [.int .i64 o.k, .int .i64 o.n, .string o.s, .slice A9 o.ps.length c9] w5 0) (fun q e => by cases e; have := HGW.out; omega)).toW
          · exact setCells_below hgx2 [.int .i64 o.k, .int .i64 o.n, .string o.s, .slice A9 o.ps.length c9] 0 hB9
      | succ p =>
        have hp : p < L.length := by omega
        have hk6 := HK6.out.below h3
        obtain ⟨b, off, rfl, hc⟩ := hk6.cells (by omega)
        obtain ⟨A1, c1, hfd, hs1, p0, p1, p2, p3⟩ := hc p hp
        obtain ⟨x0, x1, x2, x3⟩ := cells4 hbx
        have HCP : Hid (∀ m, cntR m (exAt L p) ≤ 1048576) := Lib.hid (by rw [exAt_eq hp]; exact HLM.out _ (List.getElem_mem hp))
        have HJD : Hid (joinE (L.drop p) r = .nd 14 0 ByteArray.empty [exAt L p, joinE (L.drop (p + 1)) r]) := Lib.hid (join_drop hp)
        have hdd : d + (L.length - p) = d + (L.length - (p + 1)) + 1 := by omega
        have HDD := Lib.hid hdd
        obtain ⟨D, hD⟩ : ∃ D, D = d + (L.length - (p + 1)) := ⟨_, rfl⟩
        have hdD : d ≤ D := by omega
        rw [← hD] at hG HDD
        have hos := join_s HS.out (L.drop (p + 1))
        obtain ⟨o, ho⟩ : ∃ o, o = joinE (L.drop (p + 1)) r := ⟨_, rfl⟩
        rw [← ho] at hG hos x0 x1 x2 x3 HJD hbx
        have HBXX := Lib.hid hbx
        have HS1 := Lib.hid hs1
        have HOS := Lib.hid hos
        have HFD := Lib.hid hfd
        have HGO := Lib.hid hG
        have HBW := Lib.hid hBX
        have hwx := hBX.size
        have HWXS := Lib.hid HWX.out.size
        clear hc hdd hD hos ho hbx hs1 hfd hG hBX h3 hk6
        have e1 : ((p + 1 : Nat) : Int) - 1 = (p : Int) := by omega
        rw [e1]
        go_wp2_with fail
        refine wp_region_draws2H (some 8) (fun wz => Below wr.heap.size wr wz) (fun wz => GbH W.heap.size g5 (D + 1) (.nd 14 0 ByteArray.empty [exAt L p, o]) X wz) (fun i wz vz => match i with | 0 => vz = .slice (some ⟨b, off, none⟩) L.length c6 | 1 => vz = .int .i64 p | 2 => vz = .pointer (some ⟨b, off + p * 4, Option.none⟩) | 3 => vz = .agg #[.int .i64 (exAt L p).k, .int .i64 (exAt L p).n, .string (exAt L p).s, .slice A1 (exAt L p).ps.length c1] | 4 => ExG W.heap.size g5 d (exAt L p) wz vz | 5 => vz = .agg #[.int .i64 o.k, .int .i64 o.n, .string o.s, .slice A9 o.ps.length c9] | 6 => TwG W.heap.size g5 (D + 1) (exAt L p) o wz vz | 7 => ExG W.heap.size g5 (D + 1) (.nd 14 0 ByteArray.empty [exAt L p, o]) wz vz | _ => True) (fun _ _ => True) (fun i w w' => i = 8 ∨ Below w.heap.size w w') (fun j => match j with | 4 => some 8 | 6 => some 8 | 7 => some 8 | _ => Option.none) (by kernel_rfl) (by kernel_rfl) (by kernel_rfl) ?stab8 ?stabG8 ?stabH8 trivial (ext_drew (Below.refl _ _)) ?all8 ?fin8
        case stab8 =>
          intro i j wa wb v hR hk hne hd _ h2 hT
          match j, hk, hne, hd, h2, hT with
          | 0, hk, hne, hd, h2, hT => exact (hT)
          | 1, hk, hne, hd, h2, hT => exact (hT)
          | 2, hk, hne, hd, h2, hT => exact (hT)
          | 3, hk, hne, hd, h2, hT => exact (hT)
          | 4, hk, hne, hd, h2, hT => exact (ExG.below hT (hR.resolve_left (fun e => hk (by subst e; rfl))))
          | 5, hk, hne, hd, h2, hT => exact (hT)
          | 6, hk, hne, hd, h2, hT => exact (TwG.below hT (hR.resolve_left (fun e => hk (by subst e; rfl))))
          | 7, hk, hne, hd, h2, hT => exact (ExG.below hT (hR.resolve_left (fun e => hk (by subst e; rfl))))
          | n + 8, _, _, _, _, _ => trivial
        case stabG8 => exact fun i wa wb hR hne hG => ext_trans hG (hR.resolve_left (fun e => hne (by rw [e])))
        case stabH8 => exact fun i wa wb hR hne _ h => (by have hb := hR.resolve_left (fun e => hne (by rw [e])); exact GbH.below h hb)
        case all8 =>
          refine RAllH.cons rfl ?_ (RAllH.cons rfl ?_ (RAllH.cons rfl ?_ (RAllH.cons rfl ?_ (RAllH.cons rfl ?_ (RAllH.cons rfl ?_ (RAllH.cons rfl ?_ (RAllH.cons rfl ?_ (RAllH.cons rfl ?_ (RAllH.none_)))))))))
          · intro a kq_ wa K Q _ _ hp hK0
            have hI : Below wr.heap.size wr wa := hp.pre (fun c hc => by cases hc; kernel_rfl)
            have hK := fun v w' h1 h2 (_ : Below wr.heap.size wr w') => hK0 v w' h1 (.inr h2) trivial (fun e => by cases e)
            exact op_move _ (.inl rfl) (hK _ _ (hp.keep 4 (by kernel_rfl)) (Below.refl _ _) hI)
          · intro a kq_ wa K Q _ _ hp hK0
            have hI : Below wr.heap.size wr wa := hp.pre (fun c hc => by cases hc; kernel_rfl)
            have hK := fun v w' h1 h2 (_ : Below wr.heap.size wr w') => hK0 v w' h1 (.inr h2) trivial (fun e => by cases e)
            exact op_move _ (.inl rfl) (hK _ _ (hp.keep 6 (by kernel_rfl)) (Below.refl _ _) hI)
          · intro a kq_ wa K Q _ _ hp hK0
            have hI : Below wr.heap.size wr wa := hp.pre (fun c hc => by cases hc; kernel_rfl)
            have hK := fun v w' h1 h2 (_ : Below wr.heap.size wr w') => hK0 v w' h1 (.inr h2) trivial (fun e => by cases e)
            have e27 := tmp_of (show a.eval (.tmp 27) = .slice (some ⟨b, off, none⟩) L.length c6 from hp.dep 0 27 (by kernel_rfl))
            have e28 := tmp_of (show a.eval (.tmp 28) = .int .i64 p from hp.dep 1 28 (by kernel_rfl))
            go_simp
            exact hK _ _ rfl (Below.refl _ _) hI
          · intro a kq_ wa K Q _ _ hp hK0
            have hI : Below wr.heap.size wr wa := hp.pre (fun c hc => by cases hc; kernel_rfl)
            have hK := fun v w' h1 h2 (_ : Below wr.heap.size wr w') => hK0 v w' h1 (.inr h2) trivial (fun e => by cases e)
            have e29 := tmp_of (show a.eval (.tmp 29) = .pointer (some ⟨b, off + p * 4, Option.none⟩) from hp.dep 2 29 (by kernel_rfl))
            have p0_ := below_cell hI p0
            have p1_ := below_cell hI p1
            have p2_ := below_cell hI p2
            have p3_ := below_cell hI p3
            go_simp
            exact hK _ _ rfl (Below.refl _ _) hI
          · intro a kq_ wa K Q _ _ hp hK0
            have hI : Below wr.heap.size wr wa := hp.pre (fun c hc => by cases hc; kernel_rfl)
            have hK := fun v w' h1 h2 (_ : Below wr.heap.size wr w') => hK0 v w' h1 (.inr h2) trivial (fun e => by cases e)
            have e30 := tmp_of (show a.eval (.tmp 30) = .agg #[.int .i64 (exAt L p).k, .int .i64 (exAt L p).n, .string (exAt L p).s, .slice A1 (exAt L p).ps.length c1] from hp.dep 3 30 (by kernel_rfl))
            go_simp
            refine (cpQ_all d _ _ _ _ (HFD.out.below hI) HS1.out HCP.out).mono ?_
            rintro e wb ⟨A8, c8, rfl, h8, hb⟩
            obtain ⟨A8', c8', e8, hr8⟩ := h8.rd
            cases e8
            exact hK _ _ ⟨A8, c8, rfl, hr8.toG (by have := hI.size; have := HWXS.out; omega) (.inl (by have := hI.size; omega)) (Nat.le_refl _)⟩ hb (ext_trans hI hb)
          · intro a kq_ wa K Q _ _ hp hK0
            have hI : Below wr.heap.size wr wa := hp.pre (fun c hc => by cases hc; kernel_rfl)
            have hK := fun v w' h1 h2 (_ : Below wr.heap.size wr w') => hK0 v w' h1 (.inr h2) trivial (fun e => by cases e)
            have e5 := tmp_of (show a.eval (.tmp 5) = .pointer (some ⟨g5, 0, none⟩) from hp.keep 5 (by kernel_rfl))
            have x0_ := below_cell hI x0
            have x1_ := below_cell hI x1
            have x2_ := below_cell hI x2
            have x3_ := below_cell hI x3
            go_simp
            exact hK _ _ rfl (Below.refl _ _) hI
          · intro a kq_ wa K Q _ _ hp hK0
            have hI : Below wr.heap.size wr wa := hp.pre (fun c hc => by cases hc; kernel_rfl)
            have hK := fun v w' h1 h2 (_ : Below wr.heap.size wr w') => hK0 v w' h1 (.inr h2) trivial (fun e => by cases e)
            have t31 : ExG W.heap.size g5 d (exAt L p) wa (a.eval (.tmp 31)) := hp.dep 4 31 (by kernel_rfl)
            have e32 := tmp_of (show a.eval (.tmp 32) = .agg #[.int .i64 o.k, .int .i64 o.n, .string o.s, .slice A9 o.ps.length c9] from hp.dep 5 32 (by kernel_rfl))
            obtain ⟨A8, c8, e31, h8⟩ := t31
            replace e31 := tmp_of e31
            go_simp
            exact hK _ _ ⟨_, rfl, exG.two (heap_alloc_new _ _) (by have := hI.size; have := HWXS.out; omega) (by have := hI.size; omega) ((h8.deeper hdD).below (below_alloc _ _)) ((HGO.out.below hI).below (below_alloc _ _)) HS1.out HOS.out⟩ (below_alloc _ _) (ext_alloc hI _)
          · intro a kq_ wa K Q _ _ hp hK0
            have hI : Below wr.heap.size wr wa := hp.pre (fun c hc => by cases hc; kernel_rfl)
            have hK := fun v w' h1 h2 (_ : Below wr.heap.size wr w') => hK0 v w' h1 (.inr h2) trivial (fun e => by cases e)
            have t33 : TwG W.heap.size g5 (D + 1) (exAt L p) o wa (a.eval (.tmp 33)) := hp.dep 6 33 (by kernel_rfl)
            obtain ⟨b9, e33, h9⟩ := t33
            replace e33 := tmp_of e33
            go_simp
            exact hK _ _ ⟨_, _, rfl, h9⟩ (Below.refl _ _) hI
          · intro a kq_ wa K Q _ _ hp hK0
            have hI : Below wr.heap.size wr wa := hp.pre (fun c hc => by cases hc; kernel_rfl)
            have hS := fun v w' h => hK0 v w' trivial (.inl rfl) trivial (fun _ => h)
            have e5 := tmp_of (show a.eval (.tmp 5) = .pointer (some ⟨g5, 0, none⟩) from hp.keep 5 (by kernel_rfl))
            have t34 : ExG W.heap.size g5 (D + 1) (.nd 14 0 ByteArray.empty [exAt L p, o]) wa (a.eval (.tmp 34)) := hp.dep 7 34 (by kernel_rfl)
            obtain ⟨A5, c5, e34, h5⟩ := t34
            replace e34 := tmp_of e34
            have hbw := block_below HBXX.out hI
            obtain ⟨cw0, cw1, cw2, cw3⟩ := cells4 hbw
            obtain ⟨zw0, zw1, zw2, zw3⟩ := froz4 hbw
            go_simp
            exact hS (.tuple #[]) _ ⟨A5, c5, setCells_atG [.int .i64 14, .int .i64 0, .string ByteArray.empty, .slice A5 2 c5] 0 hbw (by simp), h5.grown (setCells_grown g5 [.int .i64 14, .int .i64 0, .string ByteArray.empty, .slice A5 2 c5] wa 0), setCells_below (Nat.le_refl _) [.int .i64 14, .int .i64 0, .string ByteArray.empty, .slice A5 2 c5] 0 (HBW.out.trans (hI.mono (by omega)))⟩
        case fin8 =>
          intro f w9 hT _ hH
          have hH := hH 8 rfl (by decide)
          have hr6 : (f 2) = .pointer (some ⟨b, off + p * 4, Option.none⟩) := hT 2 (by decide) rfl rfl
          clear hT
          clear hr6
          simp only [putAll]
          go_simp
          go_wp2
          go_roundw
          case rel => exact ⟨p, by omega, by first | rfl | go_num, by rw [HDD.out, HJD.out]; exact hH⟩
          case measure => first | (simp [intOf]; done) | (simp [intOf]; omega)
  · have HR : Hid (gbB d r = false) := Lib.hid (by rw [gbB, has, hok]; rfl)
    have HAS := Lib.hid has
    clear has hgd hc40 hcn
    go_enter Try.func24, Try.ntmps24
    go_wp2_with fail
    rw [← HW.out, ← HGX.out]
    refine (specExprValid hUW hs hcnt).mono ?_
    rintro e w1 ⟨rfl, hb⟩
    rw [hok]
    have hX := hb
    replace hB := ext_trans hB hb
    obtain ⟨b0', b1', b2', b3'⟩ := cells4 (block_below HBX.out hX)
    clear b0 b1 b2 b3 hok hb
    go_wp2_with fail
    refine (asQ_all d _ _ _ _ (hUW.below hX)).mono ?_
    rintro e w2 ⟨rfl, hb⟩
    rw [HAS.out]
    replace hB := ext_trans hB hb
    have hr2 := block_below HB2.out (ext_trans hX hb)
    obtain ⟨y0, y1, y2, y3⟩ := cells4 hr2
    obtain ⟨z0, z1, z2, z3⟩ := froz4 hr2
    clear b0' b1' b2' b3' hX hb hUW hr2
    go_wp2
    refine bodyPost_ret (v := .tuple #[.agg #[.int .i64 0, .int .i64 0, .string ⟨#[]⟩, .slice Option.none 0 0], .bool false]) (by simp [results, go_sem, y0, y1, y2, y3]) rfl (GbPost.no HR.out ?_)
    exact setCells_below (by have := HGX.out; omega) [.int .i64 0, .int .i64 0, .string ⟨#[]⟩, .slice Option.none 0 0] 0 hB
end Go.Proofs.Ytodjokdaofefdaa
/- Guards that are added guard, and make nothing smaller: plain. -/
namespace Go.Proofs.Ytodjokdaofefdaa
set_option linter.unusedSimpArgs false
set_option linter.unusedVariables false
open Go.RowKit

theorem guI_mono : ∀ (m : Nat) (t : Ex) (l l' : ExL), (∀ e : Ex, e.k = 9 → hasB l e = true → hasB l' e = true) → guI m t l = true → guI m t l' = true
  | 0, _, _, _, _, _ => rfl
  | m + 1, t, l, l', hl, h => by
    rw [guI] at h ⊢
    by_cases h7 : t.k = 7
    · rw [if_pos h7] at h; cases h
    · rw [if_neg h7] at h ⊢
      by_cases h8 : t.k = 8 ∧ hasB l (asHas t) = false
      · rw [if_pos h8] at h; cases h
      · rw [if_neg h8] at h
        rw [if_neg (fun hh => h8 ⟨hh.1, by
          cases hb : hasB l (asHas t)
          · rfl
          · have := hl (asHas t) rfl hb; rw [hh.2] at this; cases this⟩)]
        by_cases h14 : t.k = 14
        · rw [if_pos h14] at h ⊢
          simp only [Bool.and_eq_true] at h ⊢
          refine ⟨guI_mono m _ _ _ hl h.1, guI_mono m _ _ _ (fun e he hh => ?_) h.2⟩
          rw [hasB_append, Bool.or_eq_true] at hh ⊢
          exact hh.imp (hl e he) id
        · rw [if_neg h14] at h ⊢
          exact List.all_eq_true.2 (fun p hp => guI_mono m p _ _ hl (List.all_eq_true.1 h p hp))
theorem fi_ext : ∀ (d : Nat) (t : Ex) (l : ExL) (x : Ex), hasB l x = true → hasB (fiS d t l) x = true
  | 0, _, _, _, h => h
  | d + 1, t, l, x, h => by
    have hf : ∀ (q : ExL) (l : ExL), hasB l x = true → hasB (q.foldl (fun l p => fiS d p l) l) x = true := by
      intro q
      induction q with
      | nil => intro l h; exact h
      | cons a q ih => intro l h; exact ih _ (fi_ext d a l x h)
    rw [fiS]
    unfold addS
    split
    · rw [hasB_append, hf t.ps l h]; rfl
    · exact hf t.ps l h
theorem fiF_ext {d : Nat} {ps l : ExL} {x : Ex} {k : Nat} : ∀ n, k + n ≤ ps.length → hasB (fiF d ps l k) x = true → hasB (fiF d ps l (k + n)) x = true
  | 0, _, h => h
  | n + 1, hn, h => by
    have := fiF_ext n (by omega) h
    rw [show k + (n + 1) = k + n + 1 by omega, fiF_succ (by omega)]
    exact fi_ext _ _ _ _ this
theorem addS_ext {t : Ex} {l : ExL} {x : Ex} (h : hasB l x = true) : hasB (addS t l) x = true := by
  unfold addS
  split
  · rw [hasB_append, h]; rfl
  · exact h
theorem fi_succ (d : Nat) (t : Ex) (l : ExL) : fiS (d + 1) t l = addS t (fiF d t.ps l t.ps.length) := by rw [fiS, fiF_all]
theorem asB_parts {d : Nat} {t : Ex} (h : asB (d + 1) t = false) : t.k ≠ 7 ∧ ∀ k, k < t.ps.length → asB d (exAt t.ps k) = false := by
  rw [asB, Bool.or_eq_false_iff] at h
  refine ⟨by simpa using h.2, fun k hk => ?_⟩
  have := List.any_eq_false.1 h.1 _ (List.getElem_mem hk)
  rw [exAt_eq hk]; simpa using this
/-- Where all is known that must be there, an expression is guarded. -/
theorem gu_of : ∀ (d : Nat) (t : Ex) (l known : ExL), gdR d t = true → asB d t = false → (∀ x, hasB (fiS d t l) x = true → hasB known x = true) → ∀ m, guI m t known = true
  | 0, _, _, _, h, _, _, _ => by cases h
  | d + 1, t, l, known, hg, ha, hk, m => by
    obtain ⟨h7, hp7⟩ := asB_parts ha
    have hpart : ∀ (k : Nat) (known' : ExL), k < t.ps.length → (∀ x, hasB known x = true → hasB known' x = true) → ∀ m, guI m (exAt t.ps k) known' = true := fun k known' hkl hkn m =>
      gu_of d (exAt t.ps k) (fiF d t.ps l k) known' (gd_part hg hkl) (hp7 k hkl) (fun x hx => hkn x (hk x (by
        rw [fi_succ]
        rw [← fiF_succ hkl] at hx
        have := fiF_ext (t.ps.length - (k + 1)) (by omega) hx
        rw [show k + 1 + (t.ps.length - (k + 1)) = t.ps.length by omega] at this
        exact addS_ext this))) m
    cases m with
    | zero => rfl
    | succ m =>
      rw [guI, if_neg h7]
      have h8 : ¬ (t.k = 8 ∧ hasB known (asHas t) = false) := fun hh => by
        obtain ⟨hn, _⟩ := head_8 (gd_head hg) hh.1
        have e : asHas t = asHas0 t := by unfold asHas0 asHas; rw [hn]
        have : hasB (fiS (d + 1) t l) (asHas0 t) = true := by
          rw [fi_succ]
          unfold addS
          split
          · rw [hasB_append]
            simp [hasB, sameX_self]
          · rename_i hc
            cases hb : hasB (fiF d t.ps l t.ps.length) (asHas0 t)
            · exact absurd ⟨hh.1, hb⟩ hc
            · rfl
        have := hk _ this
        rw [← e, hh.2] at this
        cases this
      rw [if_neg h8]
      by_cases h14 : t.k = 14
      · rw [if_pos h14]
        have hl := head_14 (gd_head hg) h14
        rw [hpart 0 known (by omega) (fun _ h => h) m, hpart 1 _ (by omega) (fun x hx => by rw [hasB_append, hx]; rfl) m]
        rfl
      · rw [if_neg h14, all_at]
        exact fun k hkl => hpart k known hkl (fun _ h => h) m
/-- Each is a question that is guarded by those before it. -/
def WgL (L : ExL) : Prop := ∀ i, i < L.length → (exAt L i).k = 9 ∧ ∀ m, guI m (exAt L i) (L.take i) = true
theorem exAt_append {l r : ExL} {i : Nat} (h : i < l.length) : exAt (l ++ r) i = exAt l i := by
  rw [exAt_eq h, exAt_eq (by simp; omega), List.getElem_append_left h]
theorem fi_W : ∀ (d : Nat) (t : Ex) (l : ExL), gdR d t = true → asB d t = false → WgL l → WgL (fiS d t l)
  | 0, _, _, h, _, _ => by cases h
  | d + 1, t, l, hg, ha, hw => by
    obtain ⟨h7, hp7⟩ := asB_parts ha
    have hF : ∀ k, k ≤ t.ps.length → WgL (fiF d t.ps l k) := by
      intro k
      induction k with
      | zero => intro _; simpa [fiF] using hw
      | succ k ih => intro hk; rw [fiF_succ (by omega)]; exact fi_W d _ _ (gd_part hg (by omega)) (hp7 k (by omega)) (ih (by omega))
    rw [fi_succ]
    have hf := hF _ (Nat.le_refl _)
    have hpart : ∀ k, k < t.ps.length → ∀ m, guI m (exAt t.ps k) (fiF d t.ps l t.ps.length) = true := fun k hkl m =>
      gu_of d (exAt t.ps k) (fiF d t.ps l k) _ (gd_part hg hkl) (hp7 k hkl) (fun x hx => by
        rw [← fiF_succ hkl] at hx
        have := fiF_ext (t.ps.length - (k + 1)) (by omega) hx
        rwa [show k + 1 + (t.ps.length - (k + 1)) = t.ps.length by omega] at this) m
    generalize fiF d t.ps l t.ps.length = l' at hf hpart
    unfold addS
    split
    · intro i hi
      rw [List.length_append, List.length_singleton] at hi
      by_cases hlt : i < l'.length
      · rw [exAt_append hlt, List.take_append_of_le_length (by omega)]
        exact hf i hlt
      · obtain rfl : i = l'.length := by omega
        have e : exAt (l' ++ [asHas0 t]) l'.length = asHas0 t := by
          rw [exAt_eq (by simp)]; simp
        rw [e, List.take_append_of_le_length (Nat.le_refl _), List.take_length]
        refine ⟨rfl, fun m => ?_⟩
        cases m with
        | zero => rfl
        | succ m =>
          have k9 : (asHas0 t).k = 9 := rfl
          rw [guI, if_neg (by rw [k9]; omega), if_neg (by rw [k9]; omega), if_neg (by rw [k9]; omega), all_at]
          exact fun k hkl => hpart k hkl m
    · exact hf
theorem join_gu {L : ExL} {r : Ex} (hw : WgL L) (hr : ∀ (known : ExL), (∀ x, hasB L x = true → hasB known x = true) → ∀ m, guI m r known = true) :
    ∀ (n j : Nat) (known : ExL), j + n = L.length → (∀ x, hasB (L.take j) x = true → hasB known x = true) → ∀ m, guI m (joinE (L.drop j) r) known = true
  | 0, j, known, hj, hk, m => by
    obtain rfl : j = L.length := by omega
    rw [List.drop_length]
    rw [List.take_length] at hk
    exact hr known hk m
  | n + 1, j, known, hj, hk, m => by
    cases m with
    | zero => rfl
    | succ m =>
      have hlt : j < L.length := by omega
      rw [join_drop hlt]
      have e14 : (Ex.nd 14 0 ByteArray.empty [exAt L j, joinE (L.drop (j + 1)) r]).k = 14 := rfl
      rw [guI, if_neg (by rw [e14]; omega), if_neg (by rw [e14]; omega), if_pos e14]
      obtain ⟨h9, hg⟩ := hw j hlt
      have h1 : guI m (exAt L j) known = true := guI_mono m _ _ _ (fun e _ h => hk e h) (hg m)
      show (guI m (exAt L j) known && guI m (joinE (L.drop (j + 1)) r) (known ++ cjI m (exAt L j))) = true
      rw [h1, Bool.true_and]
      cases m with
      | zero => rfl
      | succ m =>
        refine join_gu hw hr n (j + 1) _ (by omega) (fun x hx => ?_) (m + 1)
        rw [cjI, if_neg (by rw [h9]; omega), hasB_append, Bool.or_eq_true]
        rw [List.take_succ_eq_append_getElem hlt, hasB_append, Bool.or_eq_true, ← exAt_eq hlt] at hx
        exact hx.imp (hk x) id
theorem gb_parts {d : Nat} {r : Ex} (h : gbB d r = true) : exOk r = true ∧ asB (d + 1) r = false ∧ exOk (gbO d r) = true := by
  rw [gbB] at h
  simp only [Bool.and_eq_true, Bool.not_eq_true'] at h
  exact h
theorem gb_guarded {d D : Nat} {r : Ex} (hin : inD (d + 1) r) (h : gbB d r = true) : guOk D (gbO d r) = true := by
  obtain ⟨h1, h2, h3⟩ := gb_parts h
  obtain ⟨hgd, _⟩ := ok_parts hin h1
  rw [guOk, h3, Bool.true_and]
  have hw : WgL (gbL d r) := fi_W (d + 1) r [] hgd h2 (fun i hi => by simp at hi)
  have := join_gu (L := gbL d r) (r := r) hw (fun known hk m => gu_of (d + 1) r [] known hgd h2 hk m) (gbL d r).length 0 [] (by omega) (fun x hx => hx) (D + 1)
  simpa [gbO] using this
theorem join_cnt_ge {d : Nat} {r : Ex} : ∀ L : ExL, cntR (d + 1) r ≤ cntR (d + 1 + L.length) (joinE L r)
  | [] => Nat.le_refl _
  | a :: L => by
    have ih := join_cnt_ge (d := d) (r := r) L
    rw [joinE_cons, List.length_cons, show d + 1 + (L.length + 1) = d + 1 + L.length + 1 by omega]
    have e : cntR (d + 1 + L.length + 1) (.nd 14 0 ByteArray.empty [a, joinE L r]) = 2 + (cntR (d + 1 + L.length) a + cntR (d + 1 + L.length) (joinE L r)) := by
      show [a, joinE L r].length + ([a, joinE L r].map (cntR (d + 1 + L.length))).sum = _
      simp
    rw [e]
    omega
/-- How many expressions are in a valid one, 0 for others. -/
def szQ (t : Ex) : Int := if exOk t = true then (szE 7 t : Int) else 0
theorem szQ_ok {d : Nat} {t : Ex} (hin : inD d t) (h : exOk t = true) : szQ t = 1 + (cntR d t : Nat) := by
  rw [szQ, if_pos h]
  obtain ⟨_, h2⟩ := szE_iff 7 d t hin
  have h3 : szE 7 t ≠ 0 := by simp only [exOk, inB_true] at h; omega
  rw [h2 h3]; omega
theorem gb_size {d D : Nat} {r : Ex} (hin : inD (d + 1) r) (hin2 : inD (D + 1) (gbO d r)) (hD : D = d + (gbL d r).length) (h : gbB d r = true) : szQ r ≤ szQ (gbO d r) := by
  obtain ⟨h1, h2, h3⟩ := gb_parts h
  rw [szQ_ok hin h1, szQ_ok hin2 h3, hD]
  have := join_cnt_ge (d := d) (r := r) (gbL d r)
  rw [show d + 1 + (gbL d r).length = d + (gbL d r).length + 1 by omega] at this
  rw [gbO]
  omega
theorem gu_not {d : Nat} {t : Ex} (h : guOk d t = true) (h2 : exOk (.nd 13 0 ByteArray.empty [t]) = true) : guOk (d + 1) (.nd 13 0 ByteArray.empty [t]) = true := by
  rw [guOk, Bool.and_eq_true] at h
  rw [guOk, h2, Bool.true_and]
  have e : (Ex.nd 13 0 ByteArray.empty [t]).k = 13 := rfl
  rw [guI, if_neg (by rw [e]; omega), if_neg (by rw [e]; omega), if_neg (by rw [e]; omega)]
  show ([t].all fun p => guI (d + 1) p []) = true
  simp [h.2]
theorem gu_request {s : ByteArray} : guOk 0 (.nd 7 0 s []) = false := by
  have e : guI 1 (.nd 7 0 s []) [] = false := by
    have e7 : (Ex.nd 7 0 s []).k = 7 := rfl
    rw [guI, if_pos e7]
  rw [guOk, e, Bool.and_false]
theorem gu_ok {d : Nat} {t : Ex} (h : guOk d t = true) : exOk t = true := by
  rw [guOk, Bool.and_eq_true] at h; exact h.1
end Go.Proofs.Ytodjokdaofefdaa
/- The reader of codes: pick and odd. -/
namespace Go.Proofs.Ytodjokdaofefdaa
set_option linter.unusedSimpArgs false
set_option linter.unusedVariables false
open Go.RowKit

/-- The reader at block br stands at p: its code reads as bytes. -/
def Rdr (w : World) (br cb : Nat) (p : Int) : Prop :=
  cb ≤ br ∧ ∃ A n c, w.heap[br]? = some (.cells #[.slice A n c, .int .i64 p] 127 (0, 0)) ∧ n ≤ 2000 ∧
    (0 < n → ∃ b off, A = some ⟨b, off, Option.none⟩ ∧ b < cb ∧ ∀ k, k < n → ∃ u : Int, (0 ≤ u ∧ u ≤ 255) ∧ w.cell? ⟨b, off + k, Option.none⟩ = some (.int .u8 u))
theorem Rdr.lt {w : World} {br cb : Nat} {p : Int} (h : Rdr w br cb p) : br < w.heap.size := by
  obtain ⟨_, A, n, c, hb, _⟩ := h
  exact (Array.getElem?_eq_some_iff.1 hb).1
theorem Rdr.cb {w : World} {br cb : Nat} {p : Int} (h : Rdr w br cb p) : cb ≤ br := h.1
theorem Rdr.below {w w' : World} {br cb : Nat} {p : Int} (h : Rdr w br cb p) (hb : Below w.heap.size w w') : Rdr w' br cb p := by
  have hlt := h.lt
  obtain ⟨h0, A, n, c, h1, h2, h3⟩ := h
  refine ⟨h0, A, n, c, (hb.block br hlt).trans h1, h2, fun hn => ?_⟩
  obtain ⟨b, off, e, hne, hc⟩ := h3 hn
  exact ⟨b, off, e, hne, fun k hk => let ⟨u, hu, hcu⟩ := hc k hk; ⟨u, hu, below_cell hb hcu⟩⟩
def PickPost (w : World) (br cb : Nat) (p n : Int) (e : Ending) (w' : World) : Prop :=
  ∃ x : Int, e = .returned (.int .i64 x) ∧ 0 ≤ x ∧ (1 ≤ n → x < n) ∧ (n < 1 → x = 0) ∧ Rdr w' br cb (p + 1) ∧ w.grownBy w' (some br)

theorem xor_nonneg (a b : Nat) (ha : a < 9223372036854775808) (hb : b < 9223372036854775808) : 0 ≤ bits .xor .i64 (a : Int) (b : Int) ∧ bits .xor .i64 (a : Int) (b : Int) ≤ 9223372036854775807 := by
  have hx : a ^^^ b < 2 ^ 63 := Nat.xor_lt_two_pow (by omega) (by omega)
  have e : bits .xor .i64 (a : Int) (b : Int) = ((a ^^^ b : Nat) : Int) := by
    show IntKind.i64.wrap ((BitVec.ofInt 64 (a : Int) ^^^ BitVec.ofInt 64 (b : Int)).toNat : Int) = _
    rw [BitVec.toNat_xor, BitVec.ofInt_natCast, BitVec.ofInt_natCast, BitVec.toNat_ofNat, BitVec.toNat_ofNat, Nat.mod_eq_of_lt (by omega), Nat.mod_eq_of_lt (by omega), IntKind.wrap_i64]
    omega
  rw [e]
  omega
theorem xor_pos {x : Int} (h0 : 0 ≤ x) (h1 : x ≤ 1000000000000000) : 0 ≤ bits .xor .i64 x (x / 64) ∧ bits .xor .i64 x (x / 64) ≤ 9223372036854775807 := by
  obtain ⟨n, rfl⟩ := Int.eq_ofNat_of_zero_le h0
  have := xor_nonneg n (n / 64) (by omega) (by omega)
  rwa [Int.natCast_ediv] at this

theorem rdr_set {w : World} {br cb : Nat} {p : Int} (h : Rdr w br cb p) : Rdr (w.setCell ⟨br, 1, Option.none⟩ (.int .i64 (p + 1))) br cb (p + 1) ∧ w.grownBy (w.setCell ⟨br, 1, Option.none⟩ (.int .i64 (p + 1))) (some br) := by
  obtain ⟨h0, A, n, c, h1, h2, h3⟩ := h
  have hg : w.grownBy (w.setCell ⟨br, 1, Option.none⟩ (.int .i64 (p + 1))) (some br) := ⟨rfl, rfl, rfl, by simp [World.setCell], fun k _ hk => Below.heap_setCell w ⟨br, 1, Option.none⟩ _ k (fun e => hk (by simp [e]))⟩
  refine ⟨⟨h0, A, n, c, ?_, h2, fun hn => ?_⟩, hg⟩
  · simp [World.setCell, Array.getElem?_modify, h1]
  · obtain ⟨b, off, e, hne, hc⟩ := h3 hn
    exact ⟨b, off, e, hne, fun k hk => let ⟨u, hu, hcu⟩ := hc k hk; ⟨u, hu, hg.cell hcu (by simp; omega)⟩⟩

set_option maxRecDepth 100000 in
set_option maxHeartbeats 4000000 in
theorem pick_any {br cb : Nat} {p n : Int} {w : World} (hR : Rdr w br cb p) (hp0 : 0 ≤ p) (hp1 : p ≤ 1000000000) (hn : n ≤ 1000000) :
    Calls Try.prog 51 #[.pointer (some ⟨br, 0, Option.none⟩), .int .i64 n] w (PickPost w br cb p n) := by
  obtain ⟨hR2, hG⟩ := rdr_set hR
  have hlt := hR.lt
  obtain ⟨h0, A, m, c, hb, hm, hcode⟩ := hR
  have c0 : w.cell? ⟨br, 0, Option.none⟩ = some (.slice A m c) := cell_of_row w br 0 _ _ (0, 0) hb
  have c1 : w.cell? ⟨br, 1, Option.none⟩ = some (.int .i64 p) := cell_of_row w br 1 _ _ (0, 0) hb
  have f1 : w.frozen? ⟨br, 1, Option.none⟩ = false := frozen_of_row w br 1 _ _ hb
  have d0 : (w.setCell ⟨br, 1, Option.none⟩ (.int .i64 (p + 1))).cell? ⟨br, 0, Option.none⟩ = some (.slice A m c) := by rw [World.cell?_setCell_other w _ _ _ (by simp)]; exact c0
  have d1 : (w.setCell ⟨br, 1, Option.none⟩ (.int .i64 (p + 1))).cell? ⟨br, 1, Option.none⟩ = some (.int .i64 (p + 1)) := by rw [cell_of_row _ br 1 _ _ (0, 0) (hR2.2.choose_spec.choose_spec.choose_spec.1)]; rfl
  by_cases h1 : n < 1
  · go_enter Try.func51, Try.ntmps51
    go_wp2
    go_ret
    exact ⟨0, rfl, by omega, by omega, fun _ => rfl, hR2, hG⟩
  · rcases Nat.eq_zero_or_pos m with hm0 | hm0
    · subst hm0
      go_enter Try.func51, Try.ntmps51
      go_wp2
      go_ret
      exact ⟨0, rfl, by omega, by omega, fun _ => rfl, hR2, hG⟩
    · have hm1 : ((m : Int) == 0) = false := by simp; omega
      obtain ⟨b, off, rfl, hne, hc⟩ := hcode hm0
      by_cases h2 : p < m
      · obtain ⟨k, rfl⟩ := Int.eq_ofNat_of_zero_le hp0
        obtain ⟨u, ⟨hu0, hu1⟩, hcu⟩ := hc k (by omega)
        have e1 := hG.cell hcu (by simp; omega)
        go_enter Try.func51, Try.ntmps51
        go_wp2
        go_ret
        exact ⟨_, rfl, Int.emod_nonneg _ (by omega), fun _ => Int.emod_lt_of_pos _ (by omega), fun h => by omega, hR2, hG⟩
      · have hmp : (0 : Int) < m := by omega
        have i0 := Int.emod_nonneg p (b := (m : Int)) (by omega)
        have i1 := Int.emod_lt_of_pos p (b := (m : Int)) (by omega)
        have j0 := Int.emod_nonneg (p * 7 + 3) (b := (m : Int)) (by omega)
        have j1 := Int.emod_lt_of_pos (p * 7 + 3) (b := (m : Int)) (by omega)
        obtain ⟨u1, ⟨u10, u11⟩, hu1⟩ := hc (p % m).toNat (by omega)
        obtain ⟨u2, ⟨u20, u21⟩, hu2⟩ := hc ((p * 7 + 3) % m).toNat (by omega)
        have v0 := Int.ediv_nonneg hp0 (Int.le_of_lt hmp)
        have v1 := Int.ediv_le_self (m : Int) hp0
        obtain ⟨x0, x1⟩ := xor_pos (x := u1 * 131 + u2 * 1117 + p * 29 + p / m * 53) (by omega) (by omega)
        have l1 := cell_regrown (hG.cell hu1 (by simp; omega))
        have l2 := cell_regrown (hG.cell hu2 (by simp; omega))
        have k0 := cell_regrown d0
        have k1 := cell_regrown d1
        go_enter Try.func51, Try.ntmps51
        go_wp2
        refine wp_region_quiet_below (by kernel_rfl) (by kernel_rfl) ?_
        repeat (go_big_quiet_step (fail))
        refine wpQuiet_nil ?_
        intro w2 hw2
        have hb2 := below_of_regrown hw2 (Nat.le_refl _)
        clear hw2
        go_wp2
        go_ret
        exact ⟨_, rfl, Int.emod_nonneg _ (by omega), fun _ => Int.emod_lt_of_pos _ (by omega), fun h => by omega, hR2.below hb2, grown_trans_ hG ⟨hb2.os, hb2.tape, hb2.output, hb2.size, fun k hk _ => hb2.block k hk⟩⟩
end Go.Proofs.Ytodjokdaofefdaa
/- The reader of codes: odd and open. -/
namespace Go.Proofs.Ytodjokdaofefdaa
set_option linter.unusedSimpArgs false
set_option linter.unusedVariables false
open Go.RowKit

def OddPost (w : World) (br cb : Nat) (p : Int) (e : Ending) (w' : World) : Prop :=
  ∃ (x : Bool) (p' : Int), e = .returned (.bool x) ∧ p ≤ p' ∧ p' ≤ p + 1 ∧ Rdr w' br cb p' ∧ w.grownBy w' (some br)

set_option maxHeartbeats 1000000 in
theorem odd_any {br cb : Nat} {p n : Int} {w : World} (hR : Rdr w br cb p) (hp0 : 0 ≤ p) (hp1 : p ≤ 1000000000) (hn0 : 0 ≤ n) (hn : n ≤ 1000000) :
    Calls Try.prog 52 #[.pointer (some ⟨br, 0, Option.none⟩), .int .i64 n] w (OddPost w br cb p) := by
  by_cases h : 0 < n
  · go_enter Try.func52, Try.ntmps52
    go_wp2_with fail
    refine (pick_any hR hp0 hp1 hn).mono ?_
    rintro e w1 ⟨x, rfl, hx0, hx1, _, hR1, hG1⟩
    go_wp2
    all_goals
      go_ret
      exact ⟨_, p + 1, rfl, by omega, by omega, hR1, hG1⟩
  · obtain rfl : n = 0 := by omega
    go_enter Try.func52, Try.ntmps52
    go_wp2
    go_ret
    exact ⟨_, p, rfl, by omega, by omega, hR, World.grownBy.refl _ _⟩

/-- A code that came in. -/
def CodeR (w : World) (cb : Nat) (A : Option Addr) (l : List Int) : Prop :=
  l.length ≤ 9223372036854775807 ∧ (0 < l.length → ∃ b off, A = some ⟨b, off, Option.none⟩ ∧ b < cb ∧ ∀ k, k < l.length → ∃ u : Int, (0 ≤ u ∧ u ≤ 255) ∧ w.cell? ⟨b, off + k, Option.none⟩ = some (.int .u8 u))
theorem CodeR.below {w w' : World} {cb : Nat} {A : Option Addr} {l : List Int} (h : CodeR w cb A l) (hb : Below w.heap.size w w') : CodeR w' cb A l :=
  ⟨h.1, fun hn => let ⟨b, off, e, hb0, hc⟩ := h.2 hn; ⟨b, off, e, hb0, fun k hk => let ⟨u, hu, hcu⟩ := hc k hk; ⟨u, hu, below_cell hb hcu⟩⟩⟩
theorem rdr_new {w : World} {cb : Nat} {A : Option Addr} {n c : Nat} {l : List Int} (hcb : cb ≤ w.heap.size) (h : CodeR w cb A l) (hn : n ≤ 2000) (hnl : n ≤ l.length) : Rdr (w.alloc (.cells #[.slice A n c, .int .i64 0] 127)) w.heap.size cb 0 := by
  refine ⟨hcb, A, n, c, heap_alloc_new w _, hn, fun h0 => ?_⟩
  obtain ⟨b, off, e, hb0, hc⟩ := h.2 (by omega)
  refine ⟨b, off, e, hb0, fun k hk => ?_⟩
  · obtain ⟨u, hu, hcu⟩ := hc k (by omega)
    exact ⟨u, hu, below_cell (below_alloc w _) hcu⟩

set_option maxHeartbeats 1000000 in
theorem l20Open_any {A : Option Addr} {l : List Int} {c cb : Nat} {w : World} (hcb : cb ≤ w.heap.size) (hC : CodeR w cb A l) (hc : l.length ≤ c) (hl : l.length ≤ 9223372036854775807) :
    Calls Try.prog 48 #[.slice A l.length c] w fun e w' => e = .returned (.pointer (some ⟨w.heap.size, 0, Option.none⟩)) ∧ Rdr w' w.heap.size cb 0 ∧ Below w.heap.size w w' := by
  by_cases h : 2000 < l.length
  · obtain ⟨b, off, rfl, _⟩ := hC.2 (by omega)
    go_enter Try.func48, Try.ntmps48
    go_wp2
    go_ret
    exact ⟨rfl, rdr_new hcb hC (by omega) (by omega), below_alloc _ _⟩
  · go_enter Try.func48, Try.ntmps48
    go_wp2
    go_ret
    exact ⟨rfl, rdr_new hcb hC (by omega) (by omega), below_alloc _ _⟩
end Go.Proofs.Ytodjokdaofefdaa

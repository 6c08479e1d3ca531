/- Guarded, by the program and by the reference; the exact law, walked. -/
import Derived.Test.YtodjokdaofefdaaGreatQ5
import Derived.Test.YtodjokdaofefdaaGreatQ7
import Derived.Test.YtodjokdaofefdaaGreatQ2
import Derived.Test.YtodjokdaofefdaaGreatQ1
import Derived.Maps.Views
import Derived.Maps.OwnOps
import Derived.OwnWalk
import Derived.Test.YtodjokdaofefdaaGreatQ6
import Derived.Test.YtodjokdaofefdaaGreatQ3
namespace Go.Proofs.YtodjokdaofefdaaGreat
set_option linter.unusedSimpArgs false
set_option linter.unusedVariables false
open Go.RowKit

theorem ok_parts {d : Nat} {r : Ex} (hin : inD (d + 1) r) (h : exOk r = true) : gdR (d + 1) r = true ∧ 1 + cntR (d + 1) r ≤ 40 := by
  rw [exOk_eq hin] at h
  simp only [Bool.and_eq_true, decide_eq_true_eq] at h
  exact ⟨h.1, h.2.1⟩
noncomputable def guOk (d : Nat) (r : Ex) : Bool := exOk r && guI (d + 1) r []
theorem gu_same {d : Nat} {r : Ex} (hg : gdR (d + 1) r = true) : guS (d + 1) r [] = guI (d + 1) r [] := gu_eq (d + 1) r [] [] hg (fun _ _ => rfl)
set_option maxRecDepth 100000 in
set_option maxHeartbeats 2000000 in
theorem specGuarded {d : Nat} {A : Option Addr} {r : Ex} {c : Nat} {w : World} (hU : exW d w A r.ps) (hs : r.s.size ≤ 9223372036854775807) (hcnt : cntS d r.ps ≤ 2097152) :
    Calls Tryz.prog 45 #[.agg #[.int .i64 r.k, .int .i64 r.n, .string r.s, .slice A r.ps.length c]] w fun e w' => e = .returned (.bool (guOk d r)) ∧ Below w.heap.size w w' := by
  have hlen := exS.len hU
  obtain ⟨W, hW⟩ : ∃ W, W = w.alloc (.cells #[.int .i64 r.k, .int .i64 r.n, .string r.s, .slice A r.ps.length c] 36) := ⟨_, rfl⟩
  obtain ⟨gx, hgx⟩ : ∃ g, g = w.heap.size := ⟨_, rfl⟩
  have hB : Below w.heap.size w W := by rw [hW]; (repeat (first | exact Below.refl _ _ | refine ext_alloc ?_ _ | refine Below.setCell ?_ (by simp) _))
  have b0 : W.cell? ⟨gx, 0, none⟩ = some (.int .i64 r.k) := by rw [hW, hgx]; exact box_cell w _ _ 0 _ rfl
  have b1 : W.cell? ⟨gx, 1, none⟩ = some (.int .i64 r.n) := by rw [hW, hgx]; exact box_cell w _ _ 1 _ rfl
  have b2 : W.cell? ⟨gx, 2, none⟩ = some (.string r.s) := by rw [hW, hgx]; exact box_cell w _ _ 2 _ rfl
  have b3 : W.cell? ⟨gx, 3, none⟩ = some (.slice A r.ps.length c) := by rw [hW, hgx]; exact box_cell w _ _ 3 _ rfl
  have hUW := hU.below hB
  have hin := exS_in hU
  have HW := Lib.hid hW
  have HGX := Lib.hid hgx
  clear hW hgx hU
  cases hok : exOk r
  · have HR : Hid (guOk d r = false) := Lib.hid (by rw [guOk, hok]; rfl)
    go_enter Tryz.func45, Tryz.ntmps45
    go_wp2_with fail
    rw [← HW.out, ← HGX.out]
    refine (specExprValid hUW hs hcnt).mono ?_
    rintro e w1 ⟨rfl, hb⟩
    rw [hok, HGX.out]
    replace hB := ext_trans hB hb
    go_wp2
    go_ret
    exact ⟨by rw [HR.out]; rfl, hB⟩
  · obtain ⟨hg, hc40⟩ := ok_parts hin hok
    obtain ⟨y, hy⟩ : ∃ y, guI (d + 1) r [] = y := ⟨_, rfl⟩
    have HR : Hid (guOk d r = y) := Lib.hid (by rw [guOk, hok, hy]; rfl)
    have HS : Hid (guS (d + 1) r [] = y) := Lib.hid (by rw [gu_same hg]; exact hy)
    have HG := Lib.hid hg
    have HC := Lib.hid (show ([] : ExL).length + 1 + cntR (d + 1) r ≤ 1048576 by simp; omega)
    clear hg hc40 hy
    go_enter Tryz.func45, Tryz.ntmps45
    go_wp2_with fail
    rw [← HW.out, ← HGX.out]
    refine (specExprValid hUW hs hcnt).mono ?_
    rintro e w1 ⟨rfl, hb⟩
    rw [hok]
    replace hB := ext_trans hB hb
    replace b0 := below_cell hb b0
    replace b1 := below_cell hb b1
    replace b2 := below_cell hb b2
    replace b3 := below_cell hb b3
    replace hUW := hUW.below hb
    clear hb
    go_wp2_with fail
    refine (gsQ_all (d + 1) d _ _ r [] c _ _ (hUW.below (below_alloc _ _)) hs exS.nil (Nat.le_refl _) HG.out HC.out).mono ?_
    rintro e w2 ⟨rfl, hb⟩
    rw [HS.out, HGX.out]
    replace hB := ext_trans hB (ext_trans (below_alloc _ _) hb)
    go_wp2
    go_ret
    exact ⟨by rw [HR.out]; rfl, hB⟩
set_option maxRecDepth 100000 in
set_option maxHeartbeats 2000000 in
theorem implGuarded {d : Nat} {A : Option Addr} {r : Ex} {c : Nat} {w : World} (hU : exW d w A r.ps) (hs : r.s.size ≤ 9223372036854775807) :
    Calls Tryz.prog 41 #[.agg #[.int .i64 r.k, .int .i64 r.n, .string r.s, .slice A r.ps.length c]] w fun e w' => e = .returned (.bool (guOk d r)) ∧ Below w.heap.size w w' := by
  have hlen := exS.len hU
  obtain ⟨W, hW⟩ : ∃ W, W = w.alloc (.cells #[.int .i64 r.k, .int .i64 r.n, .string r.s, .slice A r.ps.length c] 36) := ⟨_, rfl⟩
  obtain ⟨gx, hgx⟩ : ∃ g, g = w.heap.size := ⟨_, rfl⟩
  have hB : Below w.heap.size w W := by rw [hW]; (repeat (first | exact Below.refl _ _ | refine ext_alloc ?_ _ | refine Below.setCell ?_ (by simp) _))
  have b0 : W.cell? ⟨gx, 0, none⟩ = some (.int .i64 r.k) := by rw [hW, hgx]; exact box_cell w _ _ 0 _ rfl
  have b1 : W.cell? ⟨gx, 1, none⟩ = some (.int .i64 r.n) := by rw [hW, hgx]; exact box_cell w _ _ 1 _ rfl
  have b2 : W.cell? ⟨gx, 2, none⟩ = some (.string r.s) := by rw [hW, hgx]; exact box_cell w _ _ 2 _ rfl
  have b3 : W.cell? ⟨gx, 3, none⟩ = some (.slice A r.ps.length c) := by rw [hW, hgx]; exact box_cell w _ _ 3 _ rfl
  have hUW := hU.below hB
  have hin := exS_in hU
  have HW := Lib.hid hW
  have HGX := Lib.hid hgx
  clear hW hgx hU
  cases hok : exOk r
  · have HR : Hid (guOk d r = false) := Lib.hid (by rw [guOk, hok]; rfl)
    go_enter Tryz.func41, Tryz.ntmps41
    go_wp2_with fail
    rw [← HW.out, ← HGX.out]
    refine (implExprValid hUW hs).mono ?_
    rintro e w1 ⟨rfl, hb⟩
    rw [hok, HGX.out]
    replace hB := ext_trans hB hb
    go_wp2
    go_ret
    exact ⟨by rw [HR.out]; rfl, hB⟩
  · obtain ⟨hg, hc40⟩ := ok_parts hin hok
    obtain ⟨y, hy⟩ : ∃ y, guI (d + 1) r [] = y := ⟨_, rfl⟩
    have HR : Hid (guOk d r = y) := Lib.hid (by rw [guOk, hok, hy]; rfl)
    have HS := Lib.hid hy
    have HG := Lib.hid hg
    have HC := Lib.hid (show ([] : ExL).length + 1 + cntR (d + 1) r ≤ 1048576 by simp; omega)
    clear hg hc40 hy
    go_enter Tryz.func41, Tryz.ntmps41
    go_wp2_with fail
    rw [← HW.out, ← HGX.out]
    refine (implExprValid hUW hs).mono ?_
    rintro e w1 ⟨rfl, hb⟩
    rw [hok]
    replace hB := ext_trans hB hb
    replace b0 := below_cell hb b0
    replace b1 := below_cell hb b1
    replace b2 := below_cell hb b2
    replace b3 := below_cell hb b3
    replace hUW := hUW.below hb
    clear hb
    go_wp2_with fail
    refine (giQ_all (d + 1) d _ _ r [] c _ _ hUW hs exS.nil (Nat.le_refl _) HG.out HC.out).mono ?_
    rintro e w2 ⟨rfl, hb⟩
    rw [HS.out, HGX.out]
    replace hB := ext_trans hB hb
    go_wp2
    go_ret
    exact ⟨by rw [HR.out]; rfl, hB⟩
/-- An expression that reads. -/
def ExV (d : Nat) (r : Ex) (w : World) (v : Value) : Prop := ∃ A c, v = .agg #[.int .i64 r.k, .int .i64 r.n, .string r.s, .slice A r.ps.length c] ∧ exW d w A r.ps
theorem ExV.below {d : Nat} {r : Ex} {w w' : World} {v : Value} (h : ExV d r w v) (hb : Below w.heap.size w w') : ExV d r w' v := let ⟨A, c, e, h⟩ := h; ⟨A, c, e, h.below hb⟩
end Go.Proofs.YtodjokdaofefdaaGreat
/- Schemas, kinds, policies: what their checks say, plainly. -/
namespace Go.Proofs.YtodjokdaofefdaaGreat
set_option linter.unusedSimpArgs false
set_option linter.unusedVariables false
open Go.RowKit

noncomputable def cD (p : Prop) : Bool := @decide p (Classical.propDecidable _)
theorem cD_true {p : Prop} : cD p = true ↔ p := by simp [cD]
theorem cD_false {p : Prop} : cD p = false ↔ ¬ p := by simp [cD]
theorem cD_yes {p : Prop} (h : p) : cD p = true := cD_true.2 h
theorem cD_no {p : Prop} (h : ¬ p) : cD p = false := cD_false.2 h
/-- The kind of a name. -/
def kdIn : KdL → ByteArray → Int
  | [], _ => 0
  | x :: l, s => if x.1 = s then x.2 else kdIn l s
theorem kd1_succ (x : Kd2) (l : KdL) (k : Nat) : kd1 (x :: l) (k + 1) = kd1 l k := rfl
theorem kdIn_hit : ∀ {l : KdL} {s : ByteArray} {k : Nat}, k < l.length → (∀ j, j < k → kd0 l j ≠ s) → kd0 l k = s → kdIn l s = kd1 l k
  | [], _, _, hk, _, _ => by simp at hk
  | x :: l, s, 0, _, _, he => by rw [kdIn, if_pos (show x.1 = s from he)]; rfl
  | x :: l, s, k + 1, hk, h, he => by
    rw [kdIn, if_neg (show ¬ x.1 = s from h 0 (by omega)), kd1_succ]
    exact kdIn_hit (by simpa using hk) (fun j hj => h (j + 1) (by omega)) he
theorem kdIn_miss : ∀ {l : KdL} {s : ByteArray}, (∀ j, j < l.length → kd0 l j ≠ s) → kdIn l s = 0
  | [], _, _ => rfl
  | x :: l, s, h => by
    rw [kdIn, if_neg (show ¬ x.1 = s from h 0 (by simp))]
    exact kdIn_miss (fun j hj => h (j + 1) (by simpa using hj))
theorem kdIn_some {l : KdL} {s : ByteArray} {k : Nat} (hk : k < l.length) (he : kd0 l k = s) : ∃ j, j ≤ k ∧ kdIn l s = kd1 l j := by
  obtain ⟨j, hj⟩ : ∃ j, j < l.length ∧ kd0 l j = s := ⟨k, hk, he⟩
  induction k using Nat.strongRecOn with
  | ind k ih =>
    by_cases h : ∃ i, i < k ∧ kd0 l i = s
    · obtain ⟨i, hi, hs⟩ := h
      obtain ⟨j, h1, h2⟩ := ih i hi (by omega) hs
      exact ⟨j, by omega, h2⟩
    · exact ⟨k, Nat.le_refl _, kdIn_hit hk (fun j hj e => h ⟨j, hj, e⟩) he⟩
theorem kd0_take {l : KdL} {n k : Nat} (h : k < n) : kd0 (l.take n) k = kd0 l k := by
  simp only [kd0, List.getD_eq_getElem?_getD, List.getElem?_take, if_pos h]
theorem kd1_take {l : KdL} {n k : Nat} (h : k < n) : kd1 (l.take n) k = kd1 l k := by
  simp only [kd1, List.getD_eq_getElem?_getD, List.getElem?_take, if_pos h]
/-- One name of many: it is a name, it has a kind, and none before it is alike. -/
def NmP (l : KdL) (k : Nat) : Prop := nmOk (kd0 l k) = true ∧ inB (kd1 l k) 1 3 = true ∧ ∀ j, j < k → kd0 l j ≠ kd0 l k
theorem seen_iff {l : KdL} {k : Nat} (hk : k < l.length) (h : ∀ j, j < k → NmP l j) : (kdIn (l.take k) (kd0 l k) ≠ 0) ↔ ∃ j, j < k ∧ kd0 l j = kd0 l k := by
  have hl : (l.take k).length = k := by rw [List.length_take]; omega
  constructor
  · intro h0
    apply Classical.byContradiction
    intro hn
    exact h0 (kdIn_miss (fun j hj e => hn ⟨j, by omega, by rwa [kd0_take (by omega)] at e⟩))
  · rintro ⟨j, hj, e⟩
    obtain ⟨i, hi, e2⟩ := kdIn_some (l := l.take k) (k := j) (s := kd0 l k) (by omega) (by rw [kd0_take hj]; exact e)
    rw [e2, kd1_take (by omega)]
    have := inB_true.1 (h i (by omega)).2.1
    omega
def NmsP (l : KdL) : Prop := (∀ k, k < l.length → NmP l k) ∧ l.length ≤ 6
noncomputable def nmsOk (l : KdL) : Bool := cD (NmsP l)
noncomputable def scOk (s : Sc) : Bool := nmsOk s.1 && nmsOk s.2
/-- The kind of an expression with parts of the kinds ks. -/
def allK (ks : List Int) (x : Int) : Bool := ks.all (fun k => decide (k = x))
def kdFin (s : Sc) (t : Ex) (ks : List Int) : Int :=
  if t.k = 2 ∨ t.k = 6 then 2
  else if t.k = 3 ∨ t.k = 4 ∨ t.k = 5 then 3
  else if t.k = 7 then kdIn s.2 t.s
  else if t.k = 8 then (if allK ks 3 = true then kdIn s.1 t.s else 0)
  else if t.k = 9 ∨ t.k = 12 then (if allK ks 3 = true then 1 else 0)
  else if t.k = 10 then (if il0 ks 0 = il0 ks 1 then 1 else 0)
  else if t.k = 11 then (if allK ks 2 = true then 1 else 0)
  else if t.k = 13 ∨ t.k = 14 ∨ t.k = 15 then (if allK ks 1 = true then 1 else 0)
  else 1
def kiR : Nat → Sc → Ex → Int
  | 0, _, _ => 0
  | d + 1, s, t => if (t.ps.map (kiR d s)).any (fun k => decide (k = 0)) = true then 0 else kdFin s t (t.ps.map (kiR d s))
theorem kiR_stop {d : Nat} {s : Sc} {t : Ex} {k : Nat} (hk : k < t.ps.length) (h : kiR d s (exAt t.ps k) = 0) : kiR (d + 1) s t = 0 := by
  rw [kiR, if_pos]
  rw [List.any_eq_true]
  exact ⟨_, List.mem_map.2 ⟨exAt t.ps k, by rw [exAt_eq hk]; exact List.getElem_mem hk, rfl⟩, by simpa using h⟩
theorem kiR_go {d : Nat} {s : Sc} {t : Ex} (h : ∀ k, k < t.ps.length → kiR d s (exAt t.ps k) ≠ 0) : kiR (d + 1) s t = kdFin s t (t.ps.map (kiR d s)) := by
  rw [kiR, if_neg]
  rw [List.any_eq_true]
  rintro ⟨x, hx, h0⟩
  obtain ⟨p, hp, rfl⟩ := List.mem_map.1 hx
  obtain ⟨k, hk, rfl⟩ := List.getElem_of_mem hp
  have := h k hk
  rw [exAt_eq hk] at this
  exact this (by simpa using h0)
/-- The greatest thing. -/
def mxI (x : Int) (l : List Int) : Int := l.foldl max x
def thR : Nat → Ex → Int
  | 0, _ => -1
  | d + 1, t => mxI (if t.k = 3 then t.n else -1) (t.ps.map (thR d))
theorem mxI_snoc (x : Int) (l : List Int) (y : Int) : mxI x (l ++ [y]) = max (mxI x l) y := by simp [mxI]
theorem mxI_ge : ∀ (l : List Int) (x : Int), x ≤ mxI x l
  | [], _ => Int.le_refl _
  | y :: l, x => Int.le_trans (Int.le_max_left x y) (mxI_ge l (max x y))
theorem mxI_max : ∀ (l : List Int) (x y : Int), mxI (max x y) l = max x (mxI y l)
  | [], _, _ => rfl
  | z :: l, x, y => by
    show mxI (max (max x y) z) l = max x (mxI (max y z) l)
    rw [← mxI_max l x (max y z), Int.max_assoc]
/-- A policy. -/
structure Po where
  nm : ByteArray
  al : Bool
  who : Int
  what : Int
  acts : Int
  wh : Ex
theorem Po.same {a b : Po} (h0 : a.nm = b.nm) (h1 : a.al = b.al) (h2 : a.who = b.who) (h3 : a.what = b.what) (h4 : a.acts = b.acts) (h5 : a.wh = b.wh) : a = b := by
  cases a; cases b; simp only at h0 h1 h2 h3 h4 h5; subst h0; subst h1; subst h2; subst h3; subst h4; subst h5; rfl
abbrev PoL := List Po
def poD : Po := ⟨ByteArray.empty, false, 0, 0, 0, exD⟩
def poAt (l : PoL) (k : Nat) : Po := l.getD k poD
theorem poAt_eq {l : PoL} {k : Nat} (hk : k < l.length) : poAt l k = l[k] := by simp [poAt, hk]
def poOk (p : Po) : Bool := nmOk p.nm && (inB p.who (-2) 6 && (inB p.what (-1) 6 && (inB p.acts 1 15 && exOk p.wh)))
noncomputable def ckX (d : Nat) (s : Sc) (many : Int) (p : Po) : Int :=
  if (scOk s && (poOk p && inB many 0 7)) = false then -1
  else if kiR (d + 1) s p.wh ≠ 1 then 1
  else if many ≤ p.who ∨ many ≤ p.what ∨ many ≤ thR (d + 1) p.wh then 2
  else if guOk d p.wh = false then 3 else 0
def PoP (l : PoL) (k : Nat) : Prop := poOk (poAt l k) = true ∧ (poAt l k).who ≠ -2 ∧ ∀ j, j < k → (poAt l j).nm ≠ (poAt l k).nm
def PosP (l : PoL) : Prop := (∀ k, k < l.length → PoP l k) ∧ l.length ≤ 6
noncomputable def posOk (l : PoL) : Bool := cD (PosP l)
def SafP (d : Nat) (s : Sc) (many : Int) (l : PoL) : Prop := scOk s = true ∧ inB many 0 7 = true ∧ PosP l ∧ ∀ k, k < l.length → ckX d s many (poAt l k) = 0
noncomputable def safOk (d : Nat) (s : Sc) (many : Int) (l : PoL) : Bool := cD (SafP d s many l)
end Go.Proofs.YtodjokdaofefdaaGreat
/- Worlds, requests, values of expressions: plainly. -/
namespace Go.Proofs.YtodjokdaofefdaaGreat
set_option linter.unusedSimpArgs false
set_option linter.unusedVariables false
open Go.RowKit

/-- A valid value among so many things. -/
def vlB (k n : Int) (many : Nat) : Bool := if k = 1 then inB n 0 1 else if k = 2 then inB n 0 99 else if k = 3 then (decide (0 ≤ n) && decide (n < many)) else false
def FdP (many : Nat) (l : FdL) (k : Nat) : Prop := nmOk (fd0 l k) = true ∧ vlB (fd1 l k) (fd2 l k) many = true ∧ ∀ j, j < k → fd0 l j ≠ fd0 l k
def FdsP (many : Nat) (l : FdL) : Prop := (∀ k, k < l.length → FdP many l k) ∧ l.length ≤ 4
noncomputable def fdsOk (many : Nat) (l : FdL) : Bool := cD (FdsP many l)
def ThP (W : WL) (k : Nat) : Prop := ascB (thAt W k).gs (k - 1) = true ∧ FdsP W.length (thAt W k).fs
def WldP (W : WL) : Prop := (∀ k, k < W.length → ThP W k) ∧ W.length ≤ 7
noncomputable def wldOk (W : WL) : Bool := cD (WldP W)
def thgB (W : WL) (n : Int) : Bool := inB n 0 (W.length - 1)
noncomputable def rqOk (W : WL) (r : Rq) : Bool := wldOk W && (thgB W r.who && (thgB W r.what && (inB r.act 0 3 && fdsOk W.length r.fs)))
/-- The value of a field. -/
def fdOf : FdL → ByteArray → Option (Int × Int)
  | [], _ => none
  | x :: l, s => if x.1 = s then some x.2 else fdOf l s
theorem fdOf_hit : ∀ {l : FdL} {s : ByteArray} {k : Nat}, k < l.length → (∀ j, j < k → fd0 l j ≠ s) → fd0 l k = s → fdOf l s = some (fd1 l k, fd2 l k)
  | [], _, _, hk, _, _ => by simp at hk
  | x :: l, s, 0, _, _, he => by rw [fdOf, if_pos (show x.1 = s from he)]; rfl
  | x :: l, s, k + 1, hk, h, he => by
    rw [fdOf, if_neg (show ¬ x.1 = s from h 0 (by omega))]
    exact fdOf_hit (l := l) (k := k) (by simpa using hk) (fun j hj => h (j + 1) (by omega)) he
theorem fdOf_miss : ∀ {l : FdL} {s : ByteArray}, (∀ j, j < l.length → fd0 l j ≠ s) → fdOf l s = none
  | [], _, _ => rfl
  | x :: l, s, h => by
    rw [fdOf, if_neg (show ¬ x.1 = s from h 0 (by simp))]
    exact fdOf_miss (fun j hj => h (j + 1) (by simpa using hj))
theorem fdOf_some : ∀ {l : FdL} {s : ByteArray} {v : Int × Int}, fdOf l s = some v → ∃ k, k < l.length ∧ fd0 l k = s ∧ v = (fd1 l k, fd2 l k)
  | [], _, _, h => by simp [fdOf] at h
  | x :: l, s, v, h => by
    rw [fdOf] at h
    by_cases e : x.1 = s
    · rw [if_pos e] at h
      exact ⟨0, by simp, e, (Option.some.inj h).symm⟩
    · rw [if_neg e] at h
      obtain ⟨k, h1, h2, h3⟩ := fdOf_some h
      exact ⟨k + 1, by simpa using h1, h2, h3⟩
theorem fdOf_ok {many : Nat} {l : FdL} (hl : FdsP many l) {s : ByteArray} {v : Int × Int} (h : fdOf l s = some v) : vlB v.1 v.2 many = true := by
  obtain ⟨k, h1, _, rfl⟩ := fdOf_some h
  exact (hl.1 k h1).2.1
/-- Whether a thing is in another one. -/
def isF (W : WL) : Nat → Int → Int → Bool
  | 0, _, _ => false
  | n + 1, a, b => decide (a = b) || (thAt W a.toNat).gs.any (fun g => isF W n g b)
/-- Kind, number, fault. -/
abbrev Ev := Int × Int × Int
def evB (b : Bool) : Ev := (1, if b = true then 1 else 0, 0)
def evFault (f : Int) : Ev := (0, 0, f)
def evOf (o : Option (Int × Int)) : Ev := match o with
  | some v => (v.1, v.2, 0)
  | none => (0, 0, 2)
/-- A value that must be of a kind. -/
def evK (v : Ev) (k : Int) : Ev := if v.2.2 = 0 ∧ v.1 ≠ k then (0, 0, 1) else v
def evEither (a b : Ev) (stop : Int) : Ev := if (evK a 1).2.2 ≠ 0 then evFault (evK a 1).2.2 else if a.2.1 = stop then a else evK b 1
def evPair (W : WL) (t : Int) (a b : Ev) : Ev :=
  if a.2.2 ≠ 0 then evFault a.2.2 else if b.2.2 ≠ 0 then evFault b.2.2
  else if t = 10 ∧ a.1 = b.1 then evB (decide (a.2.1 = b.2.1))
  else if t = 11 ∧ a.1 = 2 ∧ b.1 = 2 then evB (decide (a.2.1 < b.2.1))
  else if t = 12 ∧ a.1 = 3 ∧ b.1 = 3 then evB (isF W 7 a.2.1 b.2.1)
  else evFault 1
def ev : Nat → WL → Rq → Ex → Ev
  | 0, _, _, _ => evFault 1
  | d + 1, W, r, t =>
    if t.k = 1 then (1, t.n, 0)
    else if t.k = 2 then (2, t.n, 0)
    else if t.k = 3 then (if thgB W t.n = true then (3, t.n, 0) else evFault 3)
    else if t.k = 4 then (3, r.who, 0)
    else if t.k = 5 then (3, r.what, 0)
    else if t.k = 6 then (2, r.act, 0)
    else if t.k = 7 then evOf (fdOf r.fs t.s)
    else if t.k = 8 then (if (evK (ev d W r (exAt t.ps 0)) 3).2.2 ≠ 0 then evFault (evK (ev d W r (exAt t.ps 0)) 3).2.2 else evOf (fdOf (thAt W (ev d W r (exAt t.ps 0)).2.1.toNat).fs t.s))
    else if t.k = 9 then (if (evK (ev d W r (exAt t.ps 0)) 3).2.2 ≠ 0 then evFault (evK (ev d W r (exAt t.ps 0)) 3).2.2 else evB (fdOf (thAt W (ev d W r (exAt t.ps 0)).2.1.toNat).fs t.s).isSome)
    else if t.k = 13 then (if (evK (ev d W r (exAt t.ps 0)) 1).2.2 ≠ 0 then evFault (evK (ev d W r (exAt t.ps 0)) 1).2.2 else evB (decide ((ev d W r (exAt t.ps 0)).2.1 = 0)))
    else if t.k = 14 then evEither (ev d W r (exAt t.ps 0)) (ev d W r (exAt t.ps 1)) 0
    else if t.k = 15 then evEither (ev d W r (exAt t.ps 0)) (ev d W r (exAt t.ps 1)) 1
    else evPair W t.k (ev d W r (exAt t.ps 0)) (ev d W r (exAt t.ps 1))
/-- Zero with a fault. -/
def EvZ (v : Ev) : Prop := v.2.2 ≠ 0 → v.1 = 0 ∧ v.2.1 = 0
theorem evZ_fault (f : Int) : EvZ (evFault f) := fun _ => ⟨rfl, rfl⟩
theorem evZ_ok {a b : Int} : EvZ (a, b, 0) := fun h => absurd rfl h
theorem evZ_B (b : Bool) : EvZ (evB b) := fun h => absurd rfl h
theorem evZ_Of (o : Option (Int × Int)) : EvZ (evOf o) := by
  cases o with
  | none => exact fun _ => ⟨rfl, rfl⟩
  | some v => exact fun h => absurd rfl h
theorem evZ_K {v : Ev} (h : EvZ v) (k : Int) : EvZ (evK v k) := by
  unfold evK
  split
  · exact fun _ => ⟨rfl, rfl⟩
  · exact h
theorem evZ_Either {a b : Ev} (ha : EvZ a) (hb : EvZ b) (s : Int) : EvZ (evEither a b s) := by
  unfold evEither
  split
  · exact evZ_fault _
  · split
    · exact ha
    · exact evZ_K hb 1
theorem evZ_Pair {W : WL} {t : Int} {a b : Ev} : EvZ (evPair W t a b) := by
  unfold evPair
  repeat' split
  all_goals first | exact evZ_fault _ | exact evZ_B _
theorem evZ_ite {p : Prop} [Decidable p] {a b : Ev} (ha : EvZ a) (hb : EvZ b) : EvZ (if p then a else b) := by split <;> assumption
theorem ev_zero : ∀ (d : Nat) (W : WL) (r : Rq) (t : Ex), EvZ (ev d W r t)
  | 0, W, r, t => evZ_fault 1
  | d + 1, W, r, t => by
    rw [ev]
    repeat' first
      | exact evZ_ok
      | exact evZ_fault _
      | exact evZ_Of _
      | exact evZ_B _
      | exact evZ_Either (ev_zero d W r _) (ev_zero d W r _) _
      | exact evZ_Pair
      | apply evZ_ite
end Go.Proofs.YtodjokdaofefdaaGreat
/- Values of expressions: kinds, guards, things: plainly. -/
namespace Go.Proofs.YtodjokdaofefdaaGreat
set_option linter.unusedSimpArgs false
set_option linter.unusedVariables false
open Go.RowKit

section
variable {d : Nat} {W : WL} {r : Rq} {t : Ex}
theorem ev_k1 (h : t.k = 1) : ev (d + 1) W r t = (1, t.n, 0) := by simp [ev, h]
theorem ev_k2 (h : t.k = 2) : ev (d + 1) W r t = (2, t.n, 0) := by simp [ev, h]
theorem ev_k3 (h : t.k = 3) : ev (d + 1) W r t = if thgB W t.n = true then (3, t.n, 0) else evFault 3 := by simp [ev, h]
theorem ev_k4 (h : t.k = 4) : ev (d + 1) W r t = (3, r.who, 0) := by simp [ev, h]
theorem ev_k5 (h : t.k = 5) : ev (d + 1) W r t = (3, r.what, 0) := by simp [ev, h]
theorem ev_k6 (h : t.k = 6) : ev (d + 1) W r t = (2, r.act, 0) := by simp [ev, h]
theorem ev_k7 (h : t.k = 7) : ev (d + 1) W r t = evOf (fdOf r.fs t.s) := by simp [ev, h]
theorem ev_k8 (h : t.k = 8) : ev (d + 1) W r t = if (evK (ev d W r (exAt t.ps 0)) 3).2.2 ≠ 0 then evFault (evK (ev d W r (exAt t.ps 0)) 3).2.2 else evOf (fdOf (thAt W (ev d W r (exAt t.ps 0)).2.1.toNat).fs t.s) := by simp [ev, h]
theorem ev_k9 (h : t.k = 9) : ev (d + 1) W r t = if (evK (ev d W r (exAt t.ps 0)) 3).2.2 ≠ 0 then evFault (evK (ev d W r (exAt t.ps 0)) 3).2.2 else evB (fdOf (thAt W (ev d W r (exAt t.ps 0)).2.1.toNat).fs t.s).isSome := by simp [ev, h]
theorem ev_k13 (h : t.k = 13) : ev (d + 1) W r t = if (evK (ev d W r (exAt t.ps 0)) 1).2.2 ≠ 0 then evFault (evK (ev d W r (exAt t.ps 0)) 1).2.2 else evB (decide ((ev d W r (exAt t.ps 0)).2.1 = 0)) := by simp [ev, h]
theorem ev_k14 (h : t.k = 14) : ev (d + 1) W r t = evEither (ev d W r (exAt t.ps 0)) (ev d W r (exAt t.ps 1)) 0 := by simp [ev, h]
theorem ev_k15 (h : t.k = 15) : ev (d + 1) W r t = evEither (ev d W r (exAt t.ps 0)) (ev d W r (exAt t.ps 1)) 1 := by simp [ev, h]
theorem ev_kp (h : t.k = 10 ∨ t.k = 11 ∨ t.k = 12) : ev (d + 1) W r t = evPair W t.k (ev d W r (exAt t.ps 0)) (ev d W r (exAt t.ps 1)) := by
  rcases h with h | h | h <;> simp [ev, h]
end
theorem gd_k {d : Nat} {t : Ex} (h : gdR (d + 1) t = true) : t.k = 1 ∨ t.k = 2 ∨ t.k = 3 ∨ t.k = 4 ∨ t.k = 5 ∨ t.k = 6 ∨ t.k = 7 ∨ t.k = 8 ∨ t.k = 9 ∨ (t.k = 10 ∨ t.k = 11 ∨ t.k = 12) ∨ t.k = 13 ∨ t.k = 14 ∨ t.k = 15 := by
  have := inB_true.1 (show inB t.k 1 15 = true from (Bool.and_eq_true_iff.1 (gd_head h)).1)
  omega
theorem gd_n {d : Nat} {t : Ex} (h : gdR (d + 1) t = true) : 0 ≤ t.n ∧ t.n ≤ mostK t.k := inB_true.1 (head_num (gd_head h))
theorem gd_len {d : Nat} {t : Ex} (h : gdR (d + 1) t = true) : t.ps.length = arK t.k := head_len (gd_head h)
theorem evK_ok {v : Ev} {k : Int} (h : (evK v k).2.2 = 0) : evK v k = v ∧ v.2.2 = 0 ∧ v.1 = k := by
  unfold evK at h ⊢
  by_cases e : v.2.2 = 0 ∧ v.1 ≠ k
  · rw [if_pos e] at h; cases h
  · rw [if_neg e] at h ⊢
    exact ⟨rfl, h, Classical.byContradiction (fun hh => e ⟨h, hh⟩)⟩
/-- A world and a request that are valid. -/
structure OkW (W : WL) (r : Rq) : Prop where
  wld : WldP W
  who : thgB W r.who = true
  what : thgB W r.what = true
  act : inB r.act 0 3 = true
  fs : FdsP W.length r.fs
theorem rq_ok {W : WL} {r : Rq} (h : rqOk W r = true) : OkW W r := by
  simp only [rqOk, wldOk, fdsOk, Bool.and_eq_true, cD_true] at h
  exact ⟨h.1, h.2.1, h.2.2.1, h.2.2.2.1, h.2.2.2.2⟩
theorem vl_thing {W : WL} {n : Int} (h : thgB W n = true) : vlB 3 n W.length = true := by
  have := inB_true.1 h
  simp [vlB]; omega
theorem vl_3 {n : Int} {many : Nat} (h : vlB 3 n many = true) : 0 ≤ n ∧ n < many := by simpa [vlB] using h
theorem vl_1 {n : Int} {many : Nat} (h : vlB 1 n many = true) : n = 0 ∨ n = 1 := by
  simp [vlB] at h
  have := inB_true.1 h
  omega
/-- What a value is like: valid without a fault. -/
def EvV (many : Nat) (v : Ev) : Prop := v.2.2 = 0 → vlB v.1 v.2.1 many = true
theorem evV_fault {many : Nat} {f : Int} (h : f ≠ 0) : EvV many (evFault f) := fun e => absurd e h
theorem evV_B (many : Nat) (b : Bool) : EvV many (evB b) := fun _ => by cases b <;> simp [evB, vlB, inB]
theorem evV_K {many : Nat} {v : Ev} (h : EvV many v) (k : Int) : EvV many (evK v k) := fun e => by
  obtain ⟨e1, e2, _⟩ := evK_ok e
  rw [e1]; exact h e2
theorem evV_Of {many : Nat} {l : FdL} (hl : FdsP many l) (s : ByteArray) : EvV many (evOf (fdOf l s)) := by
  cases h : fdOf l s with
  | none => exact fun e => by cases e
  | some v => exact fun _ => fdOf_ok hl h
theorem evV_Either {many : Nat} {a b : Ev} (ha : EvV many a) (hb : EvV many b) (s : Int) : EvV many (evEither a b s) := by
  unfold evEither
  by_cases h : (evK a 1).2.2 ≠ 0
  · rw [if_pos h]; exact evV_fault h
  · rw [if_neg h]
    split
    · exact ha
    · exact evV_K hb 1
theorem evV_Pair {many : Nat} {W : WL} {t : Int} {a b : Ev} : EvV many (evPair W t a b) := by
  unfold evPair
  by_cases h : a.2.2 ≠ 0
  · rw [if_pos h]; exact evV_fault h
  · rw [if_neg h]
    by_cases h2 : b.2.2 ≠ 0
    · rw [if_pos h2]; exact evV_fault h2
    · rw [if_neg h2]
      repeat' split
      all_goals first | exact evV_B _ _ | exact evV_fault (by decide)
theorem ev_val {W : WL} {r : Rq} (hW : OkW W r) : ∀ (d : Nat) (t : Ex), gdR d t = true → EvV W.length (ev d W r t)
  | 0, t, h => by simp [gdR] at h
  | d + 1, t, h => by
    have hn := gd_n h
    have hl := gd_len h
    rcases gd_k h with k | k | k | k | k | k | k | k | k | k | k | k | k
    · rw [ev_k1 k]; rw [k] at hn; intro _; simp only [vlB, if_true]; exact inB_true.2 ⟨hn.1, hn.2⟩
    · rw [ev_k2 k]; rw [k] at hn; intro _; show vlB 2 t.n _ = true; simp only [vlB]; exact inB_true.2 ⟨hn.1, hn.2⟩
    · rw [ev_k3 k]
      split
      · rename_i hh; exact fun _ => vl_thing hh
      · exact evV_fault (by decide)
    · rw [ev_k4 k]; exact fun _ => vl_thing hW.who
    · rw [ev_k5 k]; exact fun _ => vl_thing hW.what
    · rw [ev_k6 k]; intro _; show vlB 2 r.act _ = true; have := inB_true.1 hW.act; simp only [vlB]; exact inB_true.2 ⟨by omega, by omega⟩
    · rw [ev_k7 k]; exact evV_Of hW.fs _
    · rw [ev_k8 k]
      rw [k] at hl
      by_cases e : (evK (ev d W r (exAt t.ps 0)) 3).2.2 ≠ 0
      · rw [if_pos e]; exact evV_fault e
      · rw [if_neg e]
        obtain ⟨_, e2, e3⟩ := evK_ok (Classical.not_not.1 e)
        have hv := ev_val hW d _ (gd_part h (k := 0) (by rw [hl]; decide)) e2
        rw [e3] at hv
        have hb := vl_3 hv
        exact evV_Of (hW.wld.1 _ (by omega)).2 _
    · rw [ev_k9 k]
      by_cases e : (evK (ev d W r (exAt t.ps 0)) 3).2.2 ≠ 0
      · rw [if_pos e]; exact evV_fault e
      · rw [if_neg e]; exact evV_B _ _
    · rw [ev_kp k]; exact evV_Pair
    · rw [ev_k13 k]
      by_cases e : (evK (ev d W r (exAt t.ps 0)) 1).2.2 ≠ 0
      · rw [if_pos e]; exact evV_fault e
      · rw [if_neg e]; exact evV_B _ _
    · rw [ev_k14 k]; rw [k] at hl
      exact evV_Either (ev_val hW d _ (gd_part h (k := 0) (by rw [hl]; decide))) (ev_val hW d _ (gd_part h (k := 1) (by rw [hl]; decide))) 0
    · rw [ev_k15 k]; rw [k] at hl
      exact evV_Either (ev_val hW d _ (gd_part h (k := 0) (by rw [hl]; decide))) (ev_val hW d _ (gd_part h (k := 1) (by rw [hl]; decide))) 1
end Go.Proofs.YtodjokdaofefdaaGreat
/- A map from texts to truths, made by the call. -/
namespace Go.Proofs.YtodjokdaofefdaaGreat
set_option linter.unusedSimpArgs false
set_option linter.unusedVariables false
open Go.RowKit Go.Maps

theorem str_key : Keyed Tryz.prog 9 := string_keyed Tryz.underlying9
theorem zeroBoolS (w : World) : (zeroValue 4).run Tryz.prog w = .ok (.bool false) w := by kernel_rfl
/-- Block b is a map of at most n entries that reads as the function f. -/
def MapS (w : World) (b n : Nat) (f : ByteArray → Bool) : Prop :=
  ∃ D : DataW Unit, w.ownsMap Tryz.prog 9 (plainElem Tryz.prog 4) b n D ∧ IsMap D ∧ ∀ x : ByteArray, x.size ≤ maxLen → D.atKey (.string x.data.toList) (.lit (.bool false)) = .lit (.bool (f x))
theorem MapS.made (w : World) : MapS (w.alloc (.map #[] 0)) w.heap.size 0 (fun _ => false) := ⟨_, World.ownsMap_made w _ _ _, isMap_empty, fun _ _ => rfl⟩
section
variable {w w' : World} {b n : Nat} {f : ByteArray → Bool}
theorem MapS.below (h : MapS w b n f) (hb : Below w.heap.size w w') : MapS w' b n f :=
  let ⟨D, h1, h2⟩ := h; ⟨D, h1.kept (row := Option.none) ⟨hb.os, hb.tape, hb.output, hb.size, fun k hk _ => hb.block k hk⟩ (by simp), h2⟩
theorem MapS.ext {g : ByteArray → Bool} (h : MapS w b n f) (he : ∀ x, f x = g x) : MapS w b n g := by
  obtain rfl : f = g := funext he
  exact h
theorem plainElemS_bool_inv {H : Type} {P : Program} {e : TypeId} (he : P.underlying e = some .bool) {v : Value} {z : DataW H × List MemPlace} (h : plainElem P e v = some z) : ∃ x, v = .bool x ∧ z = (.lit (.bool x), []) := by
  unfold plainElem at h
  rw [he] at h
  cases v <;> simp at h
  exact ⟨_, rfl, h.symm⟩
theorem keyS {x : ByteArray} (hx : x.size ≤ maxLen) : keyOf Tryz.prog 9 (.string x) = some (.string x.data.toList) := WideMaps.keyOf_string_mk Tryz.underlying9 hx
theorem MapS.look (h : MapS w b n f) {x : ByteArray} (hx : x.size ≤ maxLen) : (Instr.lookup 67 (.map (some b)) (.string x) false).run Tryz.prog w = .ok (.bool (f x)) w := by
  obtain ⟨D, h1, _, h3⟩ := h
  obtain ⟨v, ps, hrun, hv⟩ := h1.lookup str_key Tryz.underlying67 (zeroBoolS w) (plainElem_bool Tryz.underlying4 false) (keyS hx)
  obtain ⟨y, rfl, hy⟩ := plainElemS_bool_inv Tryz.underlying4 hv
  rw [h3 x hx] at hy
  simp only [Prod.mk.injEq, DataW.lit.injEq, Lit.bool.injEq] at hy
  rw [hrun, hy.1]
theorem wpList_put_mapS {ops : Array Oper} {rest : List Oper} {o : Oper} {a : Act} {Q : Exit → Act → World → Prop} (hg : o.guard = Option.none) (m x v : Operand) (hop : o.op = Op.mapUpdate 67 m x v)
    (h : MapS w b n f) (hm : a.eval m = .map (some b)) {k : ByteArray} (hx : a.eval x = .string k) {y : Bool} (hv : a.eval v = .bool y) (hk : k.size ≤ maxLen) (hn : n < 9223372036854775807)
    (hK : ∀ w', MapS w' b (n + 1) (fun z => if z = k then y else f z) → w.grownBy w' (some b) → wpList Tryz.prog ops Q rest (a.put o.dst undef) w') : wpList Tryz.prog ops Q (o :: rest) a w := by
  obtain ⟨D, h1, h2, h3⟩ := h
  have hkey := keyS hk
  refine wpList_mapUpdate_own w hg m x v 67 hop 9 4 str_key Tryz.underlying67 _ b n D hm h1 (by unfold maxLen; omega) _ _ _ hx hv hkey _ [] (plainElem_bool Tryz.underlying4 y) ?_
  intro w' hown hg'
  refine hK w' ⟨_, hown, h2.put _ _, fun z hz => ?_⟩ hg'
  show _ = DataW.lit (Lit.bool (if z = k then y else f z))
  by_cases e : z = k
  · subst e
    rw [if_pos rfl, atKey_put_same h2 (str_key.key hkey)]
  · rw [if_neg e, atKey_put_other (by
      simp only [ne_eq, Lit.string.injEq]
      intro hh
      exact e (ByteArray.ext (Array.toList_inj.1 hh))), h3 z hz]
end
end Go.Proofs.YtodjokdaofefdaaGreat
/- Schemas: names and their kinds, by the reference. -/
namespace Go.Proofs.YtodjokdaofefdaaGreat
set_option linter.unusedSimpArgs false
set_option linter.unusedVariables false
open Go.RowKit

theorem strB_no {a b : ByteArray} (h : a ≠ b) : (a.toList == b.toList) = false := by
  rw [beq_eq_false_iff_ne]; intro e; exact h (str_eq.1 e)
theorem strB_yes {a b : ByteArray} (h : a = b) : (a.toList == b.toList) = true := by subst h; simp
theorem nms_no {l : KdL} {k : Nat} (hk : k < l.length) (h : ¬ NmP l k) : nmsOk l = false := cD_no (fun hh => h (hh.1 k hk))
set_option maxRecDepth 100000 in
set_option maxHeartbeats 2000000 in
theorem l7Kind_any {A : Option Addr} {l : KdL} {c : Nat} {s : ByteArray} {w : World} (hU : kdR w A l) :
    Calls Tryz.prog 87 #[.slice A l.length c, .string s] w fun e w' => e = .returned (.int .i64 (kdIn l s)) ∧ Below w.heap.size w w' := by
  have hlen := hU.len
  go_enter Tryz.func87, Tryz.ntmps87
  go_wp2
  go_loopw [5] (fun i wr => ∃ k : Nat, k ≤ l.length ∧ i = .int .i64 k ∧ Hid (∀ j, j < k → kd0 l j ≠ s) ∧ Below w.heap.size w wr) (fun i _ => l.length - (intOf i).toNat)
  case atStart => exact ⟨0, Nat.zero_le _, rfl, Lib.hid (fun j h => by omega), Below.refl _ _⟩
  case round =>
    obtain ⟨k, hk, rfl, HG, hB⟩ := hrel
    by_cases hlt : k < l.length
    · obtain ⟨b, off, rfl, hc⟩ := hU.cells (by omega)
      obtain ⟨c0, c1⟩ := hc k hlt
      replace c0 := below_cell hB c0
      replace c1 := below_cell hB c1
      clear hc
      by_cases g : kd0 l k = s
      · have gb := strB_yes g
        have HE := Lib.hid (kdIn_hit hlt HG.out g)
        clear g
        go_wp2
        go_ret
        exact ⟨by rw [HE.out]; rfl, hB⟩
      · have gb := strB_no g
        have HG2 := Lib.hid (all_succ (p := fun j => kd0 l j ≠ s) HG.out g)
        clear g
        go_wp2
        go_roundw
        case rel => exact ⟨k + 1, by omega, by go_num, HG2, hB⟩
        case measure => simp [intOf]; omega
    · obtain rfl : k = l.length := by omega
      have HE := Lib.hid (kdIn_miss HG.out)
      go_wp2
      go_ret
      exact ⟨by rw [HE.out]; rfl, hB⟩
set_option maxRecDepth 100000 in
set_option maxHeartbeats 4000000 in
theorem l7Names_any {A : Option Addr} {l : KdL} {c : Nat} {w : World} (hU : kdR w A l) (hw : WfKd l) :
    Calls Tryz.prog 46 #[.slice A l.length c] w fun e w' => e = .returned (.bool (nmsOk l)) ∧ Below w.heap.size w w' := by
  have hlen := hU.len
  have HW := Lib.hid hw
  clear hw
  go_enter Tryz.func46, Tryz.ntmps46
  go_wp2
  go_loopw [3] (fun i wr => ∃ k : Nat, k ≤ l.length ∧ i = .int .i64 k ∧ Hid (∀ j, j < k → NmP l j) ∧ Below w.heap.size w wr) (fun i _ => l.length - (intOf i).toNat)
  case atStart => exact ⟨0, Nat.zero_le _, rfl, Lib.hid (fun j h => by omega), Below.refl _ _⟩
  case round =>
    obtain ⟨k, hk, rfl, HG, hB⟩ := hrel
    by_cases hlt : k < l.length
    · obtain ⟨b, off, rfl, hc⟩ := hU.cells (by omega)
      obtain ⟨c0, c1⟩ := hc k hlt
      have m0 := below_cell hB c0
      have m1 := below_cell hB c1
      have HC := Lib.hid hc
      have HS := Lib.hid (HW.out.at hlt)
      clear c0 c1 hc
      cases g1 : nmOk (kd0 l k)
      · have HE : Hid (nmsOk l = false) := Lib.hid (nms_no hlt (fun h => by rw [h.1] at g1; cases g1))
        go_wp2_with fail
        refine (specNameValid _ HS.out _).mono ?_
        rintro e w1 ⟨rfl, hb⟩
        rw [g1]
        replace hB := ext_trans hB hb
        clear hb m0 m1
        go_wp2
        go_ret
        exact ⟨by rw [HE.out]; rfl, hB⟩
      · cases g2 : inB (kd1 l k) 1 3
        · have HE : Hid (nmsOk l = false) := Lib.hid (nms_no hlt (fun h => by rw [h.2.1] at g2; cases g2))
          go_wp2_with fail
          refine (specNameValid _ HS.out _).mono ?_
          rintro e w1 ⟨rfl, hb⟩
          rw [g1]
          replace hB := ext_trans hB hb
          replace m1 := below_cell hb m1
          clear hb m0
          go_wp2_with fail
          refine (l1In_any _ _ _ _).mono ?_
          rintro e w2 ⟨rfl, hb⟩
          rw [g2]
          replace hB := ext_trans hB hb
          clear hb m1
          go_wp2
          go_ret
          exact ⟨by rw [HE.out]; rfl, hB⟩
        · go_wp2_with fail
          refine (specNameValid _ HS.out _).mono ?_
          rintro e w1 ⟨rfl, hb⟩
          rw [g1]
          replace hB := ext_trans hB hb
          replace m1 := below_cell hb m1
          clear hb m0
          go_wp2_with fail
          refine (l1In_any _ _ _ _).mono ?_
          rintro e w2 ⟨rfl, hb⟩
          rw [g2]
          replace hB := ext_trans hB hb
          clear hb m1
          have H1 := Lib.hid g1
          have H2 := Lib.hid g2
          clear g1 g2
          go_wp2
          go_loopw [4] (fun i w3 => ∃ j : Nat, j ≤ k ∧ i = .int .i64 j ∧ Hid (∀ i, i < j → kd0 l i ≠ kd0 l k) ∧ Below w2.heap.size w2 w3) (fun i _ => k - (intOf i).toNat)
          case atStart => exact ⟨0, Nat.zero_le _, rfl, Lib.hid (fun j h => by omega), Below.refl _ _⟩
          case round =>
            rename_i w3
            obtain ⟨j, hj, rfl, HN, hD⟩ := hrel
            by_cases hjk : j < k
            · obtain ⟨d0, _⟩ := HC.out j (by omega)
              obtain ⟨e0, _⟩ := HC.out k hlt
              have m0 := cell_regrown (below_cell hD (below_cell hB d0))
              have z0 := cell_regrown (below_cell hD (below_cell hB e0))
              clear d0 e0
              by_cases g : kd0 l j = kd0 l k
              · have gb := strB_yes g
                have HE : Hid (nmsOk l = false) := Lib.hid (nms_no hlt (fun h => h.2.2 j hjk g))
                clear g
                go_wp2
                refine wp_region_quiet_below (by kernel_rfl) (by kernel_rfl) ?_
                repeat (go_big_quiet_step (fail))
                refine wpQuiet_nil ?_
                intro w4 hw'regrown
                replace hD := ext_trans hD (below_of_regrown hw'regrown (Nat.le_refl _))
                clear hw'regrown
                go_wp2
                go_ret
                exact ⟨by rw [HE.out]; rfl, ext_trans hB hD⟩
              · have gb := strB_no g
                have HN2 := Lib.hid (all_succ (p := fun i => kd0 l i ≠ kd0 l k) HN.out g)
                clear g
                go_wp2
                refine wp_region_quiet_below (by kernel_rfl) (by kernel_rfl) ?_
                repeat (go_big_quiet_step (fail))
                refine wpQuiet_nil ?_
                intro w4 hw'regrown
                replace hD := ext_trans hD (below_of_regrown hw'regrown (Nat.le_refl _))
                clear hw'regrown
                go_wp2
                go_roundw
                case rel => exact ⟨j + 1, by omega, by go_num, HN2, hD⟩
                case measure => simp [intOf]; omega
            · obtain rfl : j = k := by omega
              go_wp2
              go_roundw
              case rel => exact ⟨j + 1, by omega, by go_num, Lib.hid (all_succ (p := NmP l) HG.out ⟨H1.out, H2.out, HN.out⟩), ext_trans hB hD⟩
              case measure => simp [intOf]; omega
    · obtain rfl : k = l.length := by omega
      by_cases g : l.length ≤ 6
      · have HE : Hid (nmsOk l = true) := Lib.hid (cD_yes ⟨HG.out, g⟩)
        go_wp2
        go_ret
        exact ⟨ret_bool (by rw [HE.out]; simp; omega), hB⟩
      · have HE : Hid (nmsOk l = false) := Lib.hid (cD_no (fun h => g h.2))
        go_wp2
        go_ret
        exact ⟨ret_bool (by rw [HE.out]; simp; omega), hB⟩
set_option maxRecDepth 100000 in
set_option maxHeartbeats 2000000 in
theorem specSchemaValid {A0 A1 : Option Addr} {s : Sc} {c0 c1 : Nat} {w : World} (hU : scR w A0 A1 s) (h0 : WfKd s.1) (h1 : WfKd s.2) :
    Calls Tryz.prog 22 #[scV s A0 c0 A1 c1] w fun e w' => e = .returned (.bool (scOk s)) ∧ Below w.heap.size w w' := by
  unfold scV
  obtain ⟨W, hW⟩ : ∃ W, W = w.alloc (.cells #[.slice A0 s.1.length c0, .slice A1 s.2.length c1] 25) := ⟨_, rfl⟩
  obtain ⟨g, hg⟩ : ∃ g, g = w.heap.size := ⟨_, rfl⟩
  have hB : Below w.heap.size w W := by rw [hW]; exact below_alloc _ _
  have hq : W.heap[g]? = some (.cells #[.slice A0 s.1.length c0, .slice A1 s.2.length c1] 25 (0, 0)) := by rw [hW, hg]; exact heap_alloc_new _ _
  replace hU := hU.below hB
  have HQ := Lib.hid hq
  have HW := Lib.hid hW
  have HG := Lib.hid hg
  have H0 := Lib.hid h0
  have H1 := Lib.hid h1
  obtain ⟨q0, q1⟩ := cells2 hq
  clear hW hg hq h0 h1
  go_enter Tryz.func22, Tryz.ntmps22
  cases g1 : nmsOk s.1
  · have HE : Hid (scOk s = false) := Lib.hid (by rw [scOk, g1]; rfl)
    go_wp2_with fail
    rw [← HW.out, ← HG.out]
    refine (l7Names_any hU.1 H0.out).mono ?_
    rintro e w1 ⟨rfl, hb⟩
    rw [g1]
    replace hB := ext_trans hB hb
    clear hb q0 q1
    go_wp2
    go_ret
    exact ⟨by rw [HE.out]; rfl, hB⟩
  · have HE : Hid (scOk s = nmsOk s.2) := Lib.hid (by rw [scOk, g1]; rfl)
    go_wp2_with fail
    rw [← HW.out, ← HG.out]
    refine (l7Names_any hU.1 H0.out).mono ?_
    rintro e w1 ⟨rfl, hb⟩
    rw [g1]
    replace hB := ext_trans hB hb
    replace q1 := below_cell hb q1
    replace hU := hU.below hb
    clear hb q0
    go_wp2_with fail
    refine (l7Names_any hU.2 H1.out).mono ?_
    rintro e w2 ⟨rfl, hb⟩
    replace hB := ext_trans hB hb
    clear hb q1
    cases g2 : nmsOk s.2
    all_goals
      rw [g2] at HE
      go_wp2
      go_ret
      exact ⟨by rw [HE.out]; rfl, hB⟩
end Go.Proofs.YtodjokdaofefdaaGreat
/- Expressions whose parts stand apart: trees of rows of one's own. -/
namespace Go.Proofs.YtodjokdaofefdaaGreat
set_option linter.unusedSimpArgs false
set_option linter.unusedVariables false
open Go.RowKit

theorem setCells_atG {g : Nat} {T : TypeId} {fr : Nat × Nat} (vs : List Value) : ∀ {w : World} {cs : List Value} (o : Nat), w.heap[g]? = some (.cells cs.toArray T fr) → o + vs.length ≤ cs.length → (setCells w g o vs).heap[g]? = some (.cells (cs.take o ++ vs ++ cs.drop (o + vs.length)).toArray T fr) := by
  induction vs with
  | nil => intro w cs o h _; simpa [setCells] using h
  | cons v vs ih =>
    intro w cs o h ho
    simp only [List.length_cons] at ho
    have h1 : (w.setCell ⟨g, o, Option.none⟩ v).heap[g]? = some (.cells (cs.set o v).toArray T fr) := by
      simp [World.setCell, Array.getElem?_modify, h]
    have h2 := ih (o + 1) h1 (by simp; omega)
    rw [setCells, h2]
    congr 3
    rw [List.drop_set_of_lt (by omega), List.take_succ_eq_append_getElem (by rw [List.length_set]; omega)]
    simp only [List.getElem_set_self, List.length_cons]
    rw [List.take_set_of_le (Nat.le_refl _), show o + 1 + vs.length = o + (vs.length + 1) by omega]
    simp
/-- A part with the blocks, from lo on and below hi, in which all that is in it stands. -/
abbrev ExX := Ex × Nat × Nat
def AscX (lo hi : Nat) (l : List ExX) : Prop := (∀ a ∈ l, lo ≤ a.2.1 ∧ a.2.1 ≤ a.2.2 ∧ a.2.2 ≤ hi) ∧ l.Pairwise fun a b => a.2.2 ≤ b.2.1
def AvX (v : Value) (l : List ExX) : Prop := ∀ a ∈ l, ∀ k, v.ownBlock = some k → k < a.2.1 ∨ a.2.2 ≤ k
def exT : Nat → Nat → Nat → World → Value → ExL → Prop
  | 0, _, _, _, v, l => l = [] ∧ ∃ A c, v = .slice A 0 c
  | d + 1, lo, hi, w, v, l => ∃ l' : List ExX, l'.map Prod.fst = l ∧ AscX lo hi l' ∧ AvX v l' ∧ (∀ k, v.ownBlock = some k → k < hi) ∧
      OwnG (fun w (a : ExX) cs => ∃ v', cs = exHead a.1 v' ∧ exT d a.2.1 a.2.2 w v' a.1.ps ∧ a.1.s.size ≤ 9223372036854775807) lo 36 4 w v l'
/-- An element of such a row. -/
def ExN (d : Nat) (w : World) (a : ExX) (cs : List Value) : Prop := ∃ v', cs = exHead a.1 v' ∧ exT d a.2.1 a.2.2 w v' a.1.ps ∧ a.1.s.size ≤ 9223372036854775807
section
variable {α : Type} {R R' : α → List Value → Prop} {sz : Nat}
theorem Chunks.mono_mem {l : List α} {xs : List Value} (hR : ∀ a ∈ l, ∀ cs, R a cs → R' a cs) (h : Chunks R sz l xs) : Chunks R' sz l xs := by
  induction l generalizing xs with
  | nil => exact h
  | cons a l ih => obtain ⟨c, r, rfl, h1, h2, h3⟩ := h; exact ⟨c, r, rfl, h1, hR a (by simp) _ h2, ih (fun b hb => hR b (by simp [hb])) h3⟩
theorem Chunks.join {p q : List α} {a : α} {xp c xq : List Value} (hp : Chunks R sz p xp) (hc : c.length = sz) (ha : R a c) (hq : Chunks R sz q xq) : Chunks R sz (p ++ a :: q) (xp ++ c ++ xq) := by
  rw [List.append_assoc]
  exact hp.append ⟨c, xq, rfl, hc, ha, hq⟩
end
theorem own_keep {B sz n lo hi : Nat} {e : TypeId} {w w' : World} {v : Value} {xs : List Value} (h : w.ownsRow B e sz v n xs) (hk : ∀ k, lo ≤ k → k < hi → w'.heap[k]? = w.heap[k]?) (hne : ∀ k, v.ownBlock = some k → lo ≤ k ∧ k < hi) : w'.ownsRow B e sz v n xs := by
  rcases h with ⟨h1, h2 | ⟨g, cap, cur, hv, hg, hc, hrest⟩⟩
  · exact ⟨h1, .inl h2⟩
  · have hb := hne g (by rw [hv]; rfl)
    exact ⟨h1, .inr ⟨g, cap, cur, hv, hg, (hk g hb.1 hb.2).trans hc, hrest⟩⟩
section
variable {lo hi lo' hi' : Nat} {w w' : World}
theorem AscX.wide {l : List ExX} (h : AscX lo hi l) (h1 : lo' ≤ lo) (h2 : hi ≤ hi') : AscX lo' hi' l := ⟨fun a ha => by have := h.1 a ha; omega, h.2⟩
theorem AscX.nil : AscX lo hi [] := ⟨by simp, List.Pairwise.nil⟩
theorem AscX.snoc {l : List ExX} {t : Ex} {a b : Nat} (h : AscX lo hi l) (h1 : hi ≤ a) (h2 : a ≤ b) (h3 : lo ≤ a) (h4 : b ≤ hi') : AscX lo hi' (l ++ [(t, a, b)]) := by
  refine ⟨fun c hc => ?_, List.pairwise_append.2 ⟨h.2, List.pairwise_singleton _ _, fun c hc d hd => ?_⟩⟩
  · rcases List.mem_append.1 hc with hc | hc
    · have := h.1 c hc; omega
    · rw [List.mem_singleton.1 hc]; exact ⟨h3, h2, h4⟩
  · rw [List.mem_singleton.1 hd]
    have := (h.1 c hc).2.2
    show c.2.2 ≤ a
    omega
theorem exT.keep : ∀ {d lo hi : Nat} {v : Value} {l : ExL}, (∀ k, lo ≤ k → k < hi → w'.heap[k]? = w.heap[k]?) → exT d lo hi w v l → exT d lo hi w' v l
  | 0, _, _, _, _, _, h => h
  | d + 1, lo, hi, v, l, hk, ⟨l', h1, h2, h3, h4, h5⟩ => by
    refine ⟨l', h1, h2, h3, h4, ?_⟩
    have hge := h5.ge
    obtain ⟨A, c, xs, e, ho, hc⟩ := h5
    refine ⟨A, c, xs, e, own_keep ho hk (fun k hv => ?_), hc.mono_mem (fun a ha cs hcs => ?_)⟩
    · rw [← e] at hv; exact ⟨(hge k hv).1, h4 k hv⟩
    · obtain ⟨v', g1, g2, g3⟩ := hcs
      have hb := h2.1 a ha
      exact ⟨v', g1, exT.keep (fun k k1 k2 => hk k (by omega) (by omega)) g2, g3⟩
theorem exT.wide : ∀ {d lo hi : Nat} {v : Value} {l : ExL}, lo' ≤ lo → hi ≤ hi' → exT d lo hi w v l → exT d lo' hi' w v l
  | 0, _, _, _, _, _, _, h => h
  | d + 1, lo, hi, v, l, k1, k2, ⟨l', h1, h2, h3, h4, h5⟩ => ⟨l', h1, h2.wide k1 k2, h3, fun k hk => by have := h4 k hk; omega, h5.lower k1 (fun _ _ h => h)⟩
theorem exT.below {d B : Nat} {v : Value} {l : ExL} (h : exT d lo hi w v l) (hB : hi ≤ B) (hb : Below B w w') : exT d lo hi w' v l := h.keep (fun k _ hk => hb.block k (by omega))
theorem exT.slice : ∀ {d lo hi : Nat} {v : Value} {l : ExL}, exT d lo hi w v l → ∃ A c, v = .slice A l.length c
  | 0, _, _, _, _, ⟨h, A, c, e⟩ => ⟨A, c, by rw [h]; exact e⟩
  | d + 1, _, _, _, _, ⟨l', h1, _, _, _, A, c, xs, e, _⟩ => ⟨A, c, by rw [e, ← h1, List.length_map]⟩
theorem RdL.map {α β : Type} {R : World → α → List Value → Prop} {R' : World → β → List Value → Prop} {sz : Nat} {A : Option Addr} {l : List α} (f : α → β) (h : RdL R sz w A l) (hR : ∀ a ∈ l, ∀ cs, R w a cs → R' w (f a) cs) : RdL R' sz w A (l.map f) := by
  refine ⟨by rw [List.length_map]; exact h.1, fun hn => ?_⟩
  rw [List.length_map] at hn
  obtain ⟨b, off, e, hc⟩ := h.2 hn
  refine ⟨b, off, e, fun k hk => ?_⟩
  have hk' : k < l.length := by rwa [List.length_map] at hk
  obtain ⟨cs, h1, h2, h3⟩ := hc k hk'
  refine ⟨cs, h1, ?_, h3⟩
  rw [List.getElem_map]
  exact hR _ (List.getElem_mem hk') _ h2
theorem own_small {B sz n : Nat} {e : TypeId} {v : Value} {xs : List Value} (h : w.ownsRow B e sz v n xs) : n ≤ 9223372036854775807 := by
  obtain ⟨A, c, rfl⟩ := own_slice_ h
  rcases own_split2 h with ⟨_, h2, _⟩ | ⟨_, _, h2, h3⟩ <;> omega
/-- As it reads. -/
theorem exT.rd : ∀ {d lo hi : Nat} {v : Value} {l : ExL}, exT d lo hi w v l → ∃ A c, v = .slice A l.length c ∧ exS d lo hi w A l
  | 0, _, _, _, _, ⟨h, A, c, e⟩ => ⟨A, c, by rw [h]; exact e, by rw [h]; exact exS.nil⟩
  | d + 1, lo, hi, v, l, ⟨l', h1, h2, h3, h4, h5⟩ => by
    have hge := h5.ge
    have hsm : l'.length ≤ 9223372036854775807 := by
      obtain ⟨A, c, xs, e, ho, _⟩ := h5
      exact own_small ho
    obtain ⟨A, c, e, hr⟩ := h5.rd hsm
    have hl : l'.length = l.length := by rw [← h1, List.length_map]
    refine ⟨A, c, by rw [e, hl], ?_, fun hn a ha => ?_⟩
    · rw [← h1]
      refine RdL.map Prod.fst hr (fun a ha cs hcs => ?_)
      obtain ⟨v', g1, g2, g3⟩ := hcs
      obtain ⟨A', c', e', hr'⟩ := exT.rd g2
      have hb := h2.1 a ha
      subst e'
      have hw := hr'.wide hb.1 hb.2.2
      exact ⟨A', c', g1, hw.1, hw.2, g3⟩
    · obtain ⟨b, off, e2, _⟩ := hr.2 (by omega)
      rw [ha] at e2
      cases e2
      have := hge b (by rw [e, ha]; rfl)
      exact ⟨this.1, h4 b (by rw [e, ha]; rfl)⟩
end
/-- What an append goes from and to: elements that avoid the row, in blocks below N. -/
def ExA (d : Nat) (v : Value) (N : Nat) (w : World) (a : ExX) (cs : List Value) : Prop := ExN d w a cs ∧ a.2.1 ≤ a.2.2 ∧ a.2.2 ≤ N ∧ ∀ k, v.ownBlock = some k → k < a.2.1 ∨ a.2.2 ≤ k
theorem ExN.one {d : Nat} {w : World} {a : ExX} {cs : List Value} (h : ExN d w a cs) : ∀ u ∈ cs, u.oneCell' = true := by
  obtain ⟨v', rfl, hT, _⟩ := h
  obtain ⟨A, c, rfl⟩ := hT.slice
  intro u hu
  simp [exHead] at hu
  rcases hu with rfl | rfl | rfl | rfl <;> rfl
theorem ExN.keep {d : Nat} {w w' : World} {a : ExX} {cs : List Value} (h : ExN d w a cs) (hk : ∀ k, a.2.1 ≤ k → k < a.2.2 → w'.heap[k]? = w.heap[k]?) : ExN d w' a cs := by
  obtain ⟨v', h1, h2, h3⟩ := h
  exact ⟨v', h1, h2.keep hk, h3⟩
theorem ExA.row {d N : Nat} {v : Value} {w w' : World} {a : ExX} {cs : List Value} (h : ExA d v N w a cs) (hN : N ≤ w.heap.size) (hg : w.grownBy w' v.ownBlock) : ExA d v N w' a cs := by
  obtain ⟨h1, h2, h3, h4⟩ := h
  refine ⟨h1.keep (fun k k1 k2 => hg.block k (by omega) (fun e => ?_)), h2, h3, h4⟩
  have := h4 k e.symm
  omega
theorem ExA.below {d N : Nat} {v : Value} {w w' : World} {a : ExX} {cs : List Value} (h : ExA d v N w a cs) (hN : N ≤ w.heap.size) (hb : Below w.heap.size w w') : ExA d v N w' a cs := by
  obtain ⟨h1, h2, h3, h4⟩ := h
  exact ⟨h1.keep (fun k k1 k2 => hb.block k (by omega)), h2, h3, h4⟩
/-- A row of one's own whose elements stand apart from it and from one another, from lo on, below N. -/
def ExO (d lo N : Nat) (w : World) (v : Value) (l' : List ExX) : Prop := AscX lo N l' ∧ N ≤ w.heap.size ∧ OwnG (ExA d v N) lo 36 4 w v l'
theorem ExO.below {d lo N : Nat} {w w' : World} {v : Value} {l' : List ExX} (h : ExO d lo N w v l') (hb : Below w.heap.size w w') : ExO d lo N w' v l' :=
  ⟨h.1, Nat.le_trans h.2.1 hb.size, h.2.2.below hb (fun _ _ g => g.below h.2.1 hb)⟩
theorem ExO.nil {d lo N : Nat} {w : World} (hN : N ≤ w.heap.size) : ExO d lo N w (.slice Option.none 0 0) [] := ⟨AscX.nil, hN, OwnG.nil⟩
theorem ExO.t {d lo N : Nat} {w : World} {v : Value} {l' : List ExX} (h : ExO d lo N w v l') : exT (d + 1) lo w.heap.size w v (l'.map Prod.fst) := by
  refine ⟨l', rfl, h.1.wide (Nat.le_refl _) h.2.1, ?_, fun k hk => (h.2.2.ge k hk).2, h.2.2.lower (Nat.le_refl _) (fun _ _ g => g.1)⟩
  obtain ⟨A, c, xs, e, ho, hc⟩ := h.2.2
  clear h ho e
  induction l' generalizing xs with
  | nil => intro a ha; simp at ha
  | cons b l' ih =>
    obtain ⟨cc, r, rfl, h1, h2, h3⟩ := hc
    intro a ha
    rcases List.mem_cons.1 ha with rfl | ha
    · exact h2.2.2.2
    · exact ih r h3 a ha
/-- Behind an append of one that is new. -/
theorem ExO.add {d lo N : Nat} {w w' : World} {v v' : Value} {l' : List ExX} {t : Ex} {a b : Nat} (hasc : AscX lo N l') (hN : N ≤ a) (hab : a ≤ b) (hlo : lo ≤ a) (hb : b ≤ w.heap.size) (hw : w.heap.size ≤ w'.heap.size)
    (ho : OwnG (ExA d v b) lo 36 4 w' v' (l' ++ [(t, a, b)])) (hv : v'.ownBlock = v.ownBlock ∨ v'.ownBlock = some w.heap.size) : ExO d lo b w' v' (l' ++ [(t, a, b)]) := by
  refine ⟨hasc.snoc hN hab hlo (Nat.le_refl _), by omega, ho.lower (Nat.le_refl _) (fun x cs g => ?_)⟩
  obtain ⟨g1, g2, g3, g4⟩ := g
  refine ⟨g1, g2, g3, fun k hk => ?_⟩
  rcases hv with e | e
  · rw [e] at hk; exact g4 k hk
  · rw [e] at hk; cases hk; exact .inr (by omega)
end Go.Proofs.YtodjokdaofefdaaGreat
/- Guards that are added: what both compute, and that they agree at valid expressions: plain. -/
namespace Go.Proofs.YtodjokdaofefdaaGreat
set_option linter.unusedSimpArgs false
set_option linter.unusedVariables false
open Go.RowKit

def asB : Nat → Ex → Bool
  | 0, _ => false
  | d + 1, t => t.ps.any (asB d) || decide (t.k = 7)
noncomputable def addS (t : Ex) (l : ExL) : ExL := if t.k = 8 ∧ hasB l (asHas0 t) = false then l ++ [asHas0 t] else l
/-- What must be there, by the reference. -/
noncomputable def fiS : Nat → Ex → ExL → ExL
  | 0, _, l => l
  | d + 1, t, l => addS t (t.ps.foldl (fun l p => fiS d p l) l)
noncomputable def fiF (d : Nat) (ps : ExL) (l : ExL) (k : Nat) : ExL := (ps.take k).foldl (fun l p => fiS d p l) l
theorem fiF_succ {d : Nat} {ps l : ExL} {k : Nat} (hk : k < ps.length) : fiF d ps l (k + 1) = fiS d (exAt ps k) (fiF d ps l k) := by
  rw [fiF, List.take_succ_eq_append_getElem hk, List.foldl_append, exAt_eq hk]; rfl
theorem fiF_all (d : Nat) (ps l : ExL) : fiF d ps l ps.length = ps.foldl (fun l p => fiS d p l) l := by rw [fiF, List.take_length]
theorem addS_len (t : Ex) (l : ExL) : (addS t l).length ≤ l.length + 1 := by
  unfold addS
  split <;> simp
theorem fi_len : ∀ (d : Nat) (t : Ex) (l : ExL), (fiS d t l).length ≤ l.length + 1 + cntR d t
  | 0, t, l => by simp [fiS]; omega
  | d + 1, t, l => by
    have h1 : ∀ k, k ≤ t.ps.length → (fiF d t.ps l k).length ≤ l.length + k + ((t.ps.take k).map (cntR d)).sum := by
      intro k
      induction k with
      | zero => intro _; simp [fiF]
      | succ k ih =>
        intro hk
        rw [fiF_succ hk, cnt_take hk]
        have := fi_len d (exAt t.ps k) (fiF d t.ps l k)
        have := ih (by omega)
        omega
    have h2 := h1 t.ps.length (Nat.le_refl _)
    rw [List.take_length, fiF_all] at h2
    rw [fiS, cntR]
    have := addS_len t (t.ps.foldl (fun l p => fiS d p l) l)
    omega
theorem fiF_len {d : Nat} {t : Ex} {l : ExL} {k : Nat} (hk : k < t.ps.length) : (fiF d t.ps l k).length + 1 + cntR d (exAt t.ps k) ≤ l.length + 1 + cntR (d + 1) t := by
  have h1 : ∀ k, k ≤ t.ps.length → (fiF d t.ps l k).length ≤ l.length + k + ((t.ps.take k).map (cntR d)).sum := by
    intro k
    induction k with
    | zero => intro _; simp [fiF]
    | succ k ih =>
      intro hk
      rw [fiF_succ hk, cnt_take hk]
      have := fi_len d (exAt t.ps k) (fiF d t.ps l k)
      have := ih (by omega)
      omega
  have h2 := h1 k (by omega)
  have h3 := cnt_take (d := d) hk
  have h4 : ((t.ps.take (k + 1)).map (cntR d)).sum ≤ (t.ps.map (cntR d)).sum := by
    conv => rhs; rw [← List.take_append_drop (k + 1) t.ps, List.map_append, List.sum_append]
    omega
  rw [cntR]
  omega
/-- All joined by ExprAnd, the first one outermost. -/
def joinE (l : ExL) (t : Ex) : Ex := l.foldr (fun g out => .nd 14 0 ByteArray.empty [g, out]) t
noncomputable def gbL (d : Nat) (r : Ex) : ExL := fiS (d + 1) r []
noncomputable def gbO (d : Nat) (r : Ex) : Ex := joinE (gbL d r) r
noncomputable def gbB (d : Nat) (r : Ex) : Bool := exOk r && (!asB (d + 1) r && exOk (gbO d r))
noncomputable def gbE (d : Nat) (r : Ex) : Ex := if gbB d r = true then gbO d r else exD
theorem cnt_max : ∀ (d : Nat) (t : Ex) (m : Nat), inD d t → cntR m t ≤ cntR d t
  | 0, _, _, h => h.elim
  | d + 1, t, 0, _ => Nat.zero_le _
  | d + 1, t, m + 1, h => by
    rw [cntR, cntR]
    have : ∀ l : ExL, (∀ p ∈ l, inD d p) → (l.map (cntR m)).sum ≤ (l.map (cntR d)).sum := by
      intro l
      induction l with
      | nil => intro _; simp
      | cons a l ih =>
        intro hl
        simp only [List.map_cons, List.sum_cons]
        have := cnt_max d a m (hl a (by simp))
        have := ih (fun p hp => hl p (by simp [hp]))
        omega
    have := this t.ps h
    omega
theorem cnt_mem {m : Nat} {t p : Ex} (hp : p ∈ t.ps) : cntR m p ≤ cntR (m + 1) t := by
  obtain ⟨k, hk, rfl⟩ := List.getElem_of_mem hp
  have := cnt_at (d := m) hk
  rw [exAt_eq hk] at this
  rw [cntR]; omega
theorem fi_mem {C : Nat} : ∀ (d : Nat) (t : Ex) (l : ExL), (∀ m, cntR m t ≤ C) → (∀ x ∈ l, ∀ m, cntR m x ≤ C) → ∀ x ∈ fiS d t l, ∀ m, cntR m x ≤ C
  | 0, t, l, _, hl => hl
  | d + 1, t, l, ht, hl => by
    have h1 : ∀ (q : ExL) (l : ExL), (∀ p ∈ q, ∀ m, cntR m p ≤ C) → (∀ x ∈ l, ∀ m, cntR m x ≤ C) → ∀ x ∈ q.foldl (fun l p => fiS d p l) l, ∀ m, cntR m x ≤ C := by
      intro q
      induction q with
      | nil => intro l _ hl; exact hl
      | cons a q ih =>
        intro l hq hl
        exact ih _ (fun p hp => hq p (by simp [hp])) (fi_mem d a l (hq a (by simp)) hl)
    have h2 := h1 t.ps l (fun p hp m => Nat.le_trans (cnt_mem hp) (ht (m + 1))) hl
    rw [fiS]
    unfold addS
    split
    · intro x hx m
      rcases List.mem_append.1 hx with hx | hx
      · exact h2 x hx m
      · rw [List.mem_singleton.1 hx]
        have e : cntR m (asHas0 t) = cntR m t := by cases m <;> rfl
        rw [e]; exact ht m
    · exact h2
theorem join_cnt {C : Nat} {t : Ex} : ∀ (l : ExL), (∀ x ∈ l, ∀ m, cntR m x ≤ C) → (∀ m, cntR m t ≤ C) → ∀ m, cntR m (joinE l t) ≤ l.length * (C + 2) + C
  | [], _, ht, m => by simpa [joinE] using ht m
  | a :: l, hl, ht, m => by
    cases m with
    | zero => simp [cntR]
    | succ m =>
      have h1 := hl a (by simp) m
      have h2 := join_cnt l (fun x hx => hl x (by simp [hx])) ht m
      have e : cntR (m + 1) (joinE (a :: l) t) = 2 + cntR m a + cntR m (joinE l t) := by
        show cntR (m + 1) (.nd 14 0 ByteArray.empty [a, joinE l t]) = _
        rw [cntR]; simp [Ex.ps]; omega
      rw [e, List.length_cons, Nat.add_mul]
      omega
theorem joinE_cons (a : Ex) (l : ExL) (t : Ex) : joinE (a :: l) t = .nd 14 0 ByteArray.empty [a, joinE l t] := rfl
theorem join_drop {l : ExL} {t : Ex} {j : Nat} (h : j < l.length) : joinE (l.drop j) t = .nd 14 0 ByteArray.empty [exAt l j, joinE (l.drop (j + 1)) t] := by
  rw [List.drop_eq_getElem_cons h, joinE_cons, exAt_eq h]
end Go.Proofs.YtodjokdaofefdaaGreat

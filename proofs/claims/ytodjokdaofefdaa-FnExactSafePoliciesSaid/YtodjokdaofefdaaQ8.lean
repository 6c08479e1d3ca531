/- Guards that are added, by the reference: the whole. -/
import Derived.Test.YtodjokdaofefdaaQ7
import Derived.Test.YtodjokdaofefdaaQ6
import Derived.Test.YtodjokdaofefdaaQ4
namespace Go.Proofs.Ytodjokdaofefdaa
set_option linter.unusedSimpArgs false
set_option linter.unusedVariables false
open Go.RowKit

/-- An expression whose parts stand in blocks of which P holds. -/
def exP (P : Nat → Prop) : Nat → World → Ex → List Value → Prop
  | 0, _, _, _ => False
  | d + 1, w, t, cs => ∃ A c, cs = exHead t (.slice A t.ps.length c) ∧ RdL (exP P d) 4 w A t.ps ∧ (0 < t.ps.length → ∀ a, A = some a → P a.block) ∧ t.s.size ≤ 9223372036854775807
def exQ (P : Nat → Prop) (d : Nat) (w : World) (A : Option Addr) (l : ExL) : Prop := RdL (exP P d) 4 w A l ∧ (0 < l.length → ∀ a, A = some a → P a.block)
section
variable {P P' : Nat → Prop} {w w' : World} {A : Option Addr} {l : ExL}
theorem exP.keep (hk : ∀ k, P k → P' k ∧ w'.heap[k]? = w.heap[k]?) : ∀ {d d' : Nat} {t : Ex} {cs : List Value}, d ≤ d' → exP P d w t cs → exP P' d' w' t cs
  | 0, _, _, _, _, h => h.elim
  | d + 1, 0, _, _, hd, _ => by omega
  | d + 1, d' + 1, t, cs, hd, ⟨A, c, e, h3, h4, h5⟩ => ⟨A, c, e, RdL.keep h3 (fun _ _ h => exP.keep hk (by omega) h) (fun hn a ha => (hk _ (h4 hn a ha)).2), fun hn a ha => (hk _ (h4 hn a ha)).1, h5⟩
theorem exQ.keep {d d' : Nat} (h : exQ P d w A l) (hd : d ≤ d') (hk : ∀ k, P k → P' k ∧ w'.heap[k]? = w.heap[k]?) : exQ P' d' w' A l :=
  ⟨RdL.keep h.1 (fun _ _ h => exP.keep hk hd h) (fun hn a ha => (hk _ (h.2 hn a ha)).2), fun hn a ha => (hk _ (h.2 hn a ha)).1⟩
theorem exR.p {lo hi : Nat} : ∀ {d : Nat} {t : Ex} {cs : List Value}, (∀ k, lo ≤ k → k < hi → P k) → exR d lo hi w t cs → exP P d w t cs
  | 0, _, _, _, h => h.elim
  | d + 1, t, cs, hP, ⟨A, c, e, h3, h4, h5⟩ => ⟨A, c, e, RdL.keep h3 (fun _ _ h => exR.p hP h) (fun _ _ _ => rfl), fun hn a ha => hP _ (h4 hn a ha).1 (h4 hn a ha).2, h5⟩
theorem exS.q {d lo hi : Nat} (h : exS d lo hi w A l) (hP : ∀ k, lo ≤ k → k < hi → P k) : exQ P d w A l :=
  ⟨RdL.keep h.1 (fun _ _ h => exR.p hP h) (fun _ _ _ => rfl), fun hn a ha => hP _ (h.2 hn a ha).1 (h.2 hn a ha).2⟩
theorem exP.r {lo hi : Nat} : ∀ {d : Nat} {t : Ex} {cs : List Value}, (∀ k, P k → lo ≤ k ∧ k < hi) → exP P d w t cs → exR d lo hi w t cs
  | 0, _, _, _, h => h.elim
  | d + 1, t, cs, hP, ⟨A, c, e, h3, h4, h5⟩ => ⟨A, c, e, RdL.keep h3 (fun _ _ h => exP.r hP h) (fun _ _ _ => rfl), fun hn a ha => hP _ (h4 hn a ha), h5⟩
theorem exQ.s {d lo hi : Nat} (h : exQ P d w A l) (hP : ∀ k, P k → lo ≤ k ∧ k < hi) : exS d lo hi w A l :=
  ⟨RdL.keep h.1 (fun _ _ h => exP.r hP h) (fun _ _ _ => rfl), fun hn a ha => hP _ (h.2 hn a ha)⟩
end
/-- As it reads from block lo on without block g. -/
def exG (lo g d : Nat) (w : World) (A : Option Addr) (l : ExL) : Prop := exQ (fun k => lo ≤ k ∧ k ≠ g ∧ k < w.heap.size) d w A l
section
variable {lo g d d' : Nat} {w w' : World} {A : Option Addr} {l : ExL}
theorem exG.toW (h : exG lo g d w A l) : exW d w A l := h.s (fun k hk => ⟨Nat.zero_le _, hk.2.2⟩)
theorem exG.below (h : exG lo g d w A l) (hb : Below w.heap.size w w') : exG lo g d w' A l := exQ.keep h (Nat.le_refl _) (fun k hk => ⟨⟨hk.1, hk.2.1, Nat.lt_of_lt_of_le hk.2.2 hb.size⟩, hb.block k hk.2.2⟩)
theorem exG.grown (h : exG lo g d w A l) (hg : w.grownBy w' (some g)) : exG lo g d w' A l := exQ.keep h (Nat.le_refl _) (fun k hk => ⟨⟨hk.1, hk.2.1, Nat.lt_of_lt_of_le hk.2.2 hg.size⟩, hg.block k hk.2.2 (fun e => hk.2.1 (by cases e; rfl))⟩)
theorem exG.low {row : Option Nat} (h : exG lo g d w A l) (hg : w.grownBy w' row) (hr : ∀ k, row = some k → k < lo) : exG lo g d w' A l := exQ.keep h (Nat.le_refl _) (fun k hk => ⟨⟨hk.1, hk.2.1, Nat.lt_of_lt_of_le hk.2.2 hg.size⟩, hg.block k hk.2.2 (fun e => by have := hr k e.symm; omega)⟩)
theorem exG.deeper (h : exG lo g d w A l) (hd : d ≤ d') : exG lo g d' w A l := exQ.keep h hd (fun _ hk => ⟨hk, rfl⟩)
theorem exS.toG {a b : Nat} (h : exS d a b w A l) (h0 : lo ≤ a) (hg : g < a ∨ b ≤ g) (hh : b ≤ w.heap.size) : exG lo g d w A l := exS.q h (fun k h1 h2 => ⟨by omega, by omega, by omega⟩)
/-- A row of two, laid anew. -/
theorem exG.two {b c1 c2 : Nat} {A1 A2 : Option Addr} {t1 t2 : Ex} (hb : w.heap[b]? = some (.cells #[.int .i64 t1.k, .int .i64 t1.n, .string t1.s, .slice A1 t1.ps.length c1, .int .i64 t2.k, .int .i64 t2.n, .string t2.s, .slice A2 t2.ps.length c2] 28 (0, 0))) (h0 : lo ≤ b) (hg : b ≠ g)
    (h1 : exG lo g d w A1 t1.ps) (h2 : exG lo g d w A2 t2.ps) (s1 : t1.s.size ≤ 9223372036854775807) (s2 : t2.s.size ≤ 9223372036854775807) : exG lo g (d + 1) w (some ⟨b, 0, none⟩) [t1, t2] := by
  refine ⟨⟨by simp, fun _ => ⟨b, 0, rfl, fun k hk => ?_⟩⟩, fun _ a ha => ?_⟩
  · match k, hk with
    | 0, _ => exact ⟨_, rfl, ⟨A1, c1, rfl, h1.1, h1.2, s1⟩, fun j v hv => by
        rw [cell_of_row w b _ _ _ (0, 0) hb]
        match j, hv with
        | 0, hv => exact hv
        | 1, hv => exact hv
        | 2, hv => exact hv
        | 3, hv => exact hv
        | n + 4, hv => simp [exHead] at hv⟩
    | 1, _ => exact ⟨_, rfl, ⟨A2, c2, rfl, h2.1, h2.2, s2⟩, fun j v hv => by
        rw [cell_of_row w b _ _ _ (0, 0) hb]
        match j, hv with
        | 0, hv => exact hv
        | 1, hv => exact hv
        | 2, hv => exact hv
        | 3, hv => exact hv
        | n + 4, hv => simp [exHead] at hv⟩
    | n + 2, hk => exact absurd hk (by simp)
  · cases ha
    exact ⟨h0, hg, (Array.getElem?_eq_some_iff.1 hb).1⟩
end
theorem cells4 {w : World} {g : Nat} {T : TypeId} {a b c d : Value} (h : w.heap[g]? = some (.cells #[a, b, c, d] T (0, 0))) : w.cell? ⟨g, 0, none⟩ = some a ∧ w.cell? ⟨g, 1, none⟩ = some b ∧ w.cell? ⟨g, 2, none⟩ = some c ∧ w.cell? ⟨g, 3, none⟩ = some d :=
  ⟨(cell_of_row w g 0 _ _ _ h).trans rfl, (cell_of_row w g 1 _ _ _ h).trans rfl, (cell_of_row w g 2 _ _ _ h).trans rfl, (cell_of_row w g 3 _ _ _ h).trans rfl⟩
theorem froz4 {w : World} {g : Nat} {T : TypeId} {cs : Array Value} (h : w.heap[g]? = some (.cells cs T (0, 0))) : w.frozen? ⟨g, 0, none⟩ = false ∧ w.frozen? ⟨g, 1, none⟩ = false ∧ w.frozen? ⟨g, 2, none⟩ = false ∧ w.frozen? ⟨g, 3, none⟩ = false :=
  ⟨frozen_of_row w g 0 _ _ h, frozen_of_row w g 1 _ _ h, frozen_of_row w g 2 _ _ h, frozen_of_row w g 3 _ _ h⟩
/-- A box with an expression. -/
def ExBx (g : Nat) (t : Ex) (w : World) (A : Option Addr) (c : Nat) : Prop := w.heap[g]? = some (.cells #[.int .i64 t.k, .int .i64 t.n, .string t.s, .slice A t.ps.length c] 28 (0, 0))
def GbH (lo g d : Nat) (t : Ex) (W w : World) : Prop := ∃ A c, ExBx g t w A c ∧ exG lo g d w A t.ps ∧ Below g W w
theorem GbH.below {lo g d : Nat} {t : Ex} {W w w' : World} (h : GbH lo g d t W w) (hb : Below w.heap.size w w') : GbH lo g d t W w' := by
  obtain ⟨A, c, h1, h2, h3⟩ := h
  have hg := (Array.getElem?_eq_some_iff.1 h1).1
  exact ⟨A, c, block_below h1 hb, h2.below hb, h3.trans (hb.mono (by omega))⟩
def ExG (lo g d : Nat) (r : Ex) (w : World) (v : Value) : Prop := ∃ A c, v = .agg #[.int .i64 r.k, .int .i64 r.n, .string r.s, .slice A r.ps.length c] ∧ exG lo g d w A r.ps
theorem ExG.below {lo g d : Nat} {r : Ex} {w w' : World} {v : Value} (h : ExG lo g d r w v) (hb : Below w.heap.size w w') : ExG lo g d r w' v := let ⟨A, c, e, h⟩ := h; ⟨A, c, e, h.below hb⟩
def TwG (lo g d : Nat) (t1 t2 : Ex) (w : World) (v : Value) : Prop := ∃ b, v = .slice (some ⟨b, 0, none⟩) 2 2 ∧ exG lo g d w (some ⟨b, 0, none⟩) [t1, t2]
theorem TwG.below {lo g d : Nat} {t1 t2 : Ex} {w w' : World} {v : Value} (h : TwG lo g d t1 t2 w v) (hb : Below w.heap.size w w') : TwG lo g d t1 t2 w' v := let ⟨b, e, h⟩ := h; ⟨b, e, h.below hb⟩
theorem join_s {t : Ex} (hs : t.s.size ≤ 9223372036854775807) : ∀ l : ExL, (joinE l t).s.size ≤ 9223372036854775807
  | [] => hs
  | _ :: _ => by show ByteArray.empty.size ≤ _; simp
/-- What GuardedBy leaves. -/
def GbPost (d : Nat) (r : Ex) (w : World) (e : Ending) (w' : World) : Prop := ∃ A c, e = .returned (.tuple #[.agg #[.int .i64 (gbE d r).k, .int .i64 (gbE d r).n, .string (gbE d r).s, .slice A (gbE d r).ps.length c], .bool (gbB d r)]) ∧ exW (d + (gbL d r).length) w' A (gbE d r).ps ∧ Below w.heap.size w w'
theorem gb_no {d : Nat} {r : Ex} (h : gbB d r = false) : gbE d r = exD := by rw [gbE, h]; rfl
theorem gb_yes {d : Nat} {r : Ex} (h : gbB d r = true) : gbE d r = gbO d r := by rw [gbE, if_pos h]
theorem GbPost.no {d : Nat} {r : Ex} {w w' : World} (h : gbB d r = false) (hb : Below w.heap.size w w') : GbPost d r w (.returned (.tuple #[.agg #[.int .i64 0, .int .i64 0, .string ⟨#[]⟩, .slice Option.none 0 0], .bool false])) w' := by
  refine ⟨Option.none, 0, ?_, ?_, hb⟩
  · rw [h, gb_no h]; rfl
  · rw [gb_no h]; exact exS.nil
theorem in_cnt {d : Nat} {t : Ex} (h : inD d t) {C : Nat} (hc : cntR d t ≤ C) : ∀ m, cntR m t ≤ C := fun m => Nat.le_trans (cnt_max d t m h) hc
set_option maxRecDepth 100000 in
set_option maxHeartbeats 16000000 in
theorem specGuardedBy {d : Nat} {A : Option Addr} {r : Ex} {c : Nat} {w : World} (hU : exW d w A r.ps) (hs : r.s.size ≤ 9223372036854775807) (hcnt : cntS d r.ps ≤ 2097152) :
    Calls Try.prog 24 #[.agg #[.int .i64 r.k, .int .i64 r.n, .string r.s, .slice A r.ps.length c]] w (GbPost d r w) := by
  have hlen := exS.len hU
  obtain ⟨gx, hgx⟩ : ∃ g, g = w.heap.size := ⟨_, rfl⟩
  obtain ⟨W, hW⟩ : ∃ W, W = (w.alloc (.cells #[.int .i64 r.k, .int .i64 r.n, .string r.s, .slice A r.ps.length c] 28)).alloc (.cells #[.int .i64 0, .int .i64 0, .string ⟨#[]⟩, .slice Option.none 0 0] 28) := ⟨_, rfl⟩
  have hBW : Below w.heap.size w W := by rw [hW]; (repeat (first | exact Below.refl _ _ | refine ext_alloc ?_ _ | refine Below.setCell ?_ (by simp) _))
  have hWs : W.heap.size = w.heap.size + 2 := by rw [hW]; simp
  have hbx : W.heap[gx]? = some (.cells #[.int .i64 r.k, .int .i64 r.n, .string r.s, .slice A r.ps.length c] 28 (0, 0)) := by rw [hW, hgx]; exact block_below (heap_alloc_at rfl) (below_alloc _ _)
  have hb2 : W.heap[gx + 1]? = some (.cells #[.int .i64 0, .int .i64 0, .string ⟨#[]⟩, .slice Option.none 0 0] 28 (0, 0)) := by rw [hW, hgx]; exact heap_alloc_at (by simp)
  have b0 : W.cell? ⟨gx, 0, none⟩ = some _ := (cell_of_row W gx 0 _ _ _ hbx).trans rfl
  have b1 : W.cell? ⟨gx, 1, none⟩ = some _ := (cell_of_row W gx 1 _ _ _ hbx).trans rfl
  have b2 : W.cell? ⟨gx, 2, none⟩ = some _ := (cell_of_row W gx 2 _ _ _ hbx).trans rfl
  have b3 : W.cell? ⟨gx, 3, none⟩ = some _ := (cell_of_row W gx 3 _ _ _ hbx).trans rfl
  have hUW := hU.below hBW
  have hin := exS_in hU
  have HW := Lib.hid hW
  have HGX := Lib.hid hgx
  have HU0 := Lib.hid hU
  have HBX := Lib.hid hbx
  have HB2 := Lib.hid hb2
  have hgW : gx + 2 = W.heap.size := by omega
  have HGW := Lib.hid hgW
  have hB := hBW
  have HBW0 := Lib.hid hBW
  clear hW hgx hU hbx hb2 hBW hWs hgW
  cases hok : exOk r
  · have HR : Hid (gbB d r = false) := Lib.hid (by rw [gbB, hok]; rfl)
    go_enter Try.func24, Try.ntmps24
    go_wp2_with fail
    rw [← HW.out, ← HGX.out]
    refine (specExprValid hUW hs hcnt).mono ?_
    rintro e w1 ⟨rfl, hb⟩
    rw [hok]
    have hr2 := block_below HB2.out hb
    replace hB := ext_trans hB hb
    clear b0 b1 b2 b3 hok hUW hb
    have y0 : w1.cell? ⟨gx + 1, 0, none⟩ = some _ := (cell_of_row w1 (gx + 1) 0 _ _ _ hr2).trans rfl
    have y1 : w1.cell? ⟨gx + 1, 1, none⟩ = some _ := (cell_of_row w1 (gx + 1) 1 _ _ _ hr2).trans rfl
    have y2 : w1.cell? ⟨gx + 1, 2, none⟩ = some _ := (cell_of_row w1 (gx + 1) 2 _ _ _ hr2).trans rfl
    have y3 : w1.cell? ⟨gx + 1, 3, none⟩ = some _ := (cell_of_row w1 (gx + 1) 3 _ _ _ hr2).trans rfl
    have z0 := frozen_of_row w1 (gx + 1) 0 _ _ hr2
    have z1 := frozen_of_row w1 (gx + 1) 1 _ _ hr2
    have z2 := frozen_of_row w1 (gx + 1) 2 _ _ hr2
    have z3 := frozen_of_row w1 (gx + 1) 3 _ _ hr2
    clear hr2
    go_wp2
    refine bodyPost_ret (v := .tuple #[.agg #[.int .i64 0, .int .i64 0, .string ⟨#[]⟩, .slice Option.none 0 0], .bool false]) (by simp [results, go_sem, y0, y1, y2, y3]) rfl (GbPost.no HR.out ?_)
    exact setCells_below (by have := HGX.out; omega) [.int .i64 0, .int .i64 0, .string ⟨#[]⟩, .slice Option.none 0 0] 0 hB
  obtain ⟨hgd, hc40⟩ := ok_parts hin hok
  have hcn : ∀ m, cntR m r ≤ 1048576 := in_cnt hin (show cntR (d + 1) r ≤ 1048576 by omega)
  cases has : asB (d + 1) r
  · obtain ⟨L, hL⟩ : ∃ L, L = gbL d r := ⟨_, rfl⟩
    have hLl : L.length ≤ 40 := by
      have := fi_len (d + 1) r []
      rw [hL, gbL]
      simp only [List.length_nil] at this
      omega
    have hLm : ∀ x ∈ L, ∀ m, cntR m x ≤ 39 := by rw [hL]; exact fi_mem (d + 1) r [] (in_cnt hin (by omega)) (by simp)
    have hc0 := join_cnt (t := r) L hLm (in_cnt hin (show cntR (d + 1) r ≤ 39 by omega))
    have HO : Hid (gbO d r = joinE L r) := Lib.hid (by rw [hL]; rfl)
    have HD : Hid (d + (gbL d r).length = d + L.length) := Lib.hid (by rw [hL])
    have HL : Hid (fiS (d + 1) r [] = L) := Lib.hid hL.symm
    have HCN := Lib.hid hcn
    have HLM : Hid (∀ x ∈ L, ∀ m, cntR m x ≤ 1048576) := Lib.hid (fun x hx m => Nat.le_trans (hLm x hx m) (by omega))
    have HC0 : Hid (∀ m, cntR m (joinE L r) ≤ 2097152) := Lib.hid (fun m => by
      have h1 := hc0 m
      have h2 : L.length * (39 + 2) ≤ 40 * (39 + 2) := Nat.mul_le_mul_right _ hLl
      omega)
    have HC1 : Hid (([] : ExL).length + 1 + cntR (d + 1) r ≤ 1048576) := Lib.hid (by simp; omega)
    have HBB : Hid (gbB d r = exOk (joinE L r)) := Lib.hid (by rw [gbB, hok, has, HO.out]; rfl)
    have HAS := Lib.hid has
    clear hc0 hLm hcn has hL hgd hc40
    go_enter Try.func24, Try.ntmps24
    go_wp2_with fail
    rw [← HW.out, ← HGX.out]
    refine (specExprValid hUW hs hcnt).mono ?_
    rintro e w1 ⟨rfl, hb⟩
    rw [hok]
    have hX := hb
    replace hB := ext_trans hB hb
    obtain ⟨b0', b1', b2', b3'⟩ := cells4 (block_below HBX.out hX)
    clear b0 b1 b2 b3 hok hb
    go_wp2_with fail
    refine (asQ_all d _ _ _ _ (hUW.below hX)).mono ?_
    rintro e w2 ⟨rfl, hb⟩
    rw [HAS.out]
    replace hX := ext_trans hX hb
    obtain ⟨b0, b1, b2, b3⟩ := cells4 (block_below HBX.out hX)
    clear b0' b1' b2' b3' hb
    go_wp2_with fail
    refine (fiQ_all (d + 1) d _ _ r [] c _ _ ((hUW.below hX).below (below_alloc _ _)) hs exS.nil (Nat.le_refl _) HC1.out).mono ?_
    rw [HL.out]
    rintro e w3 ⟨A6, c6, rfl, hk6, hb⟩
    replace hX := ext_trans hX (ext_trans (below_alloc _ _) hb)
    obtain ⟨b0', b1', b2', b3'⟩ := cells4 (block_below HBX.out hX)
    have HK6 := Lib.hid hk6
    have hw3 := hX.size
    have hll := exS.len hk6
    clear b0 b1 b2 b3 hb hk6
    go_wp2_with fail
    refine (cpQ_all d _ _ _ _ (hUW.below hX) hs HCN.out).mono ?_
    rintro e w4 ⟨A7, c7, rfl, h7, hb⟩
    have h34 := hb.size
    replace hX := ext_trans hX hb
    obtain ⟨X, hXX⟩ : ∃ X, X = w4.alloc (.cells #[.int .i64 r.k, .int .i64 r.n, .string r.s, .slice A7 r.ps.length c7] 28) := ⟨_, rfl⟩
    obtain ⟨g5, hg5⟩ : ∃ g, g = w4.heap.size := ⟨_, rfl⟩
    have hbX : Below w4.heap.size w4 X := by rw [hXX]; exact below_alloc _ _
    have hX5 : ExBx g5 r X A7 c7 := by rw [ExBx, hXX, hg5]; exact heap_alloc_new _ _
    have hwX := hX.size
    have h3X := (ext_trans (show Below W.heap.size W W from Below.refl _ _) (hX.trans (hbX.mono hX.size)))
    obtain ⟨A7', c7', e7, hr7⟩ := h7.rd
    cases e7
    have hG5 : exG W.heap.size g5 d X A7 r.ps := (exS.toG (hr7.keep (fun q _ hq => hbX.block q hq) (Nat.le_refl _) (Nat.le_refl _)) hw3 (.inr (by omega)) hbX.size)
    have hs5 : g5 + 1 = X.heap.size := by rw [hXX, hg5]; simp
    have H35 : Hid (w3.heap.size ≤ g5) := Lib.hid (by rw [hg5]; exact h34)
    have HW3 : Hid (W.heap.size ≤ g5) := Lib.hid (by rw [hg5]; omega)
    have HG5 := Lib.hid hg5
    have HXX := Lib.hid hXX
    have HS5 := Lib.hid hs5
    have H3X : Hid (Below w3.heap.size w3 X) := Lib.hid (ext_trans hb hbX)
    have HWX := Lib.hid h3X
    have HGB : Hid (GbH W.heap.size g5 d r X X) := Lib.hid ⟨A7, c7, hX5, hG5, Below.refl _ _⟩
    clear hXX hg5 hbX hX5 hr7 h7 hG5 h3X hs5 b0' b1' b2' b3' hb hX
    have HJ : Hid (joinE (L.drop L.length) r = r) := Lib.hid (by rw [List.drop_length]; rfl)
    have HS := Lib.hid hs
    clear hw3 h34 hwX
    go_wp2_with fail
    rw [← HXX.out, ← HG5.out]
    go_loopw [6] (fun iv wr => ∃ q : Nat, q ≤ L.length ∧ iv = .int .i64 ((q : Int) - 1) ∧ GbH W.heap.size g5 (d + (L.length - q)) (joinE (L.drop q) r) X wr) (fun iv _ => (intOf iv + 1).toNat)
    case atStart => exact ⟨L.length, Nat.le_refl _, rfl, by rw [HJ.out, Nat.sub_self]; exact HGB.out⟩
    case round =>
      obtain ⟨q, hq, rfl, A9, c9, hbx, hG, hBX⟩ := hrel
      have hgw := (Array.getElem?_eq_some_iff.1 hbx).1
      have h3 := H3X.out.trans (hBX.mono H35.out)
      cases q with
      | zero =>
        obtain ⟨x0, x1, x2, x3⟩ := cells4 hbx
        have hgO : joinE (L.drop 0) r = joinE L r := rfl
        obtain ⟨o, ho⟩ : ∃ o, o = joinE L r := ⟨_, rfl⟩
        obtain ⟨D, hD⟩ : ∃ D, D = d + L.length := ⟨_, rfl⟩
        have hos := join_s HS.out L
        have hco := HC0.out (D + 1)
        rw [hgO, ← ho] at hG x0 x1 x2 x3
        rw [Nat.sub_zero, ← hD] at hG
        rw [← ho] at hos hco
        have HOO : Hid (gbO d r = o) := Lib.hid (by rw [HO.out, ho])
        have HDD : Hid (d + (gbL d r).length = D) := Lib.hid (by rw [HD.out, hD])
        have HYB : Hid (gbB d r = exOk o) := Lib.hid (by rw [HBB.out, ho])
        have hB9 : Below w.heap.size w wr := (HBW0.out.trans (HWX.out.mono HBW0.out.size)).trans (hBX.mono (Nat.le_trans HBW0.out.size HW3.out))
        have HGG := Lib.hid hG
        have HBR : Hid (∀ q, q < g5 → wr.heap[q]? = X.heap[q]?) := Lib.hid (fun q hq => hBX.block q hq)
        clear ho hD hbx hG hBX h3 hgO
        have e1 : ((0 : Nat) : Int) - 1 = -1 := by omega
        rw [e1]
        have hcq : cntS D o.ps ≤ 2097152 := hco
        have hr2 : wr.heap[gx + 1]? = some (.cells #[.int .i64 0, .int .i64 0, .string ⟨#[]⟩, .slice Option.none 0 0] 28 (0, 0)) := (HBR.out _ (by have := HGW.out; have := HW3.out; omega)).trans (block_below HB2.out HWX.out)
        go_wp2_with fail
        refine (specExprValid HGG.out.toW hos hcq).mono ?_
        rintro e w5 ⟨rfl, hb⟩
        replace hr2 := block_below hr2 hb
        replace hB9 := ext_trans hB9 hb
        have hG5 := HGG.out.below hb
        obtain ⟨y0, y1, y2, y3⟩ := cells4 hr2
        obtain ⟨z0, z1, z2, z3⟩ := froz4 hr2
        replace x0 := below_cell hb x0
        replace x1 := below_cell hb x1
        replace x2 := below_cell hb x2
        replace x3 := below_cell hb x3
        have HG6 := Lib.hid hG5
        have hgx2 : w.heap.size ≤ gx + 1 := by have := HGX.out; omega
        obtain ⟨y, hy⟩ : ∃ y, exOk o = y := ⟨_, rfl⟩
        have HYY : Hid (gbB d r = y) := Lib.hid (by rw [HYB.out, hy])
        rw [hy]
        clear hr2 hb hG5 hy hco hcq
        cases y
        · go_wp2
          refine bodyPost_ret (v := .tuple #[.agg #[.int .i64 0, .int .i64 0, .string ⟨#[]⟩, .slice Option.none 0 0], .bool false]) (by simp [results, go_sem, y0, y1, y2, y3]) rfl (GbPost.no HYY.out ?_)
          exact setCells_below hgx2 [.int .i64 0, .int .i64 0, .string ⟨#[]⟩, .slice Option.none 0 0] 0 hB9
        · go_wp2
          refine bodyPost_ret (v := .tuple #[.agg #[.int .i64 o.k, .int .i64 o.n, .string o.s, .slice A9 o.ps.length c9], .bool true]) (by simp [results, go_sem, y0, y1, y2, y3]) rfl ⟨A9, c9, ?_, ?_, ?_⟩
          · rw [gb_yes HYY.out, HYY.out, HOO.out]
          · rw [gb_yes HYY.out, HDD.out, HOO.out]
            exact (HG6.out.low (setCells_grown (gx + 1) [.int .i64 o.k, .int .i64 o.n, .string o.s, .slice A9 o.ps.length c9] w5 0) (fun q e => by cases e; have := HGW.out; omega)).toW
          · exact setCells_below hgx2 [.int .i64 o.k, .int .i64 o.n, .string o.s, .slice A9 o.ps.length c9] 0 hB9
      | succ p =>
        have hp : p < L.length := by omega
        have hk6 := HK6.out.below h3
        obtain ⟨b, off, rfl, hc⟩ := hk6.cells (by omega)
        obtain ⟨A1, c1, hfd, hs1, p0, p1, p2, p3⟩ := hc p hp
        obtain ⟨x0, x1, x2, x3⟩ := cells4 hbx
        have HCP : Hid (∀ m, cntR m (exAt L p) ≤ 1048576) := Lib.hid (by rw [exAt_eq hp]; exact HLM.out _ (List.getElem_mem hp))
        have HJD : Hid (joinE (L.drop p) r = .nd 14 0 ByteArray.empty [exAt L p, joinE (L.drop (p + 1)) r]) := Lib.hid (join_drop hp)
        have hdd : d + (L.length - p) = d + (L.length - (p + 1)) + 1 := by omega
        have HDD := Lib.hid hdd
        obtain ⟨D, hD⟩ : ∃ D, D = d + (L.length - (p + 1)) := ⟨_, rfl⟩
        have hdD : d ≤ D := by omega
        rw [← hD] at hG HDD
        have hos := join_s HS.out (L.drop (p + 1))
        obtain ⟨o, ho⟩ : ∃ o, o = joinE (L.drop (p + 1)) r := ⟨_, rfl⟩
        rw [← ho] at hG hos x0 x1 x2 x3 HJD hbx
        have HBXX := Lib.hid hbx
        have HS1 := Lib.hid hs1
        have HOS := Lib.hid hos
        have HFD := Lib.hid hfd
        have HGO := Lib.hid hG
        have HBW := Lib.hid hBX
        have hwx := hBX.size
        have HWXS := Lib.hid HWX.out.size
        clear hc hdd hD hos ho hbx hs1 hfd hG hBX h3 hk6
        have e1 : ((p + 1 : Nat) : Int) - 1 = (p : Int) := by omega
        rw [e1]
        go_wp2_with fail
        refine wp_region_draws2H (some 8) (fun wz => Below wr.heap.size wr wz) (fun wz => GbH W.heap.size g5 (D + 1) (.nd 14 0 ByteArray.empty [exAt L p, o]) X wz) (fun i wz vz => match i with | 0 => vz = .slice (some ⟨b, off, none⟩) L.length c6 | 1 => vz = .int .i64 p | 2 => vz = .pointer (some ⟨b, off + p * 4, Option.none⟩) | 3 => vz = .agg #[.int .i64 (exAt L p).k, .int .i64 (exAt L p).n, .string (exAt L p).s, .slice A1 (exAt L p).ps.length c1] | 4 => ExG W.heap.size g5 d (exAt L p) wz vz | 5 => vz = .agg #[.int .i64 o.k, .int .i64 o.n, .string o.s, .slice A9 o.ps.length c9] | 6 => TwG W.heap.size g5 (D + 1) (exAt L p) o wz vz | 7 => ExG W.heap.size g5 (D + 1) (.nd 14 0 ByteArray.empty [exAt L p, o]) wz vz | _ => True) (fun _ _ => True) (fun i w w' => i = 8 ∨ Below w.heap.size w w') (fun j => match j with | 4 => some 8 | 6 => some 8 | 7 => some 8 | _ => Option.none) (by kernel_rfl) (by kernel_rfl) (by kernel_rfl) ?stab8 ?stabG8 ?stabH8 trivial (ext_drew (Below.refl _ _)) ?all8 ?fin8
        case stab8 =>
          intro i j wa wb v hR hk hne hd _ h2 hT
          match j, hk, hne, hd, h2, hT with
          | 0, hk, hne, hd, h2, hT => exact (hT)
          | 1, hk, hne, hd, h2, hT => exact (hT)
          | 2, hk, hne, hd, h2, hT => exact (hT)
          | 3, hk, hne, hd, h2, hT => exact (hT)
          | 4, hk, hne, hd, h2, hT => exact (ExG.below hT (hR.resolve_left (fun e => hk (by subst e; rfl))))
          | 5, hk, hne, hd, h2, hT => exact (hT)
          | 6, hk, hne, hd, h2, hT => exact (TwG.below hT (hR.resolve_left (fun e => hk (by subst e; rfl))))
          | 7, hk, hne, hd, h2, hT => exact (ExG.below hT (hR.resolve_left (fun e => hk (by subst e; rfl))))
          | n + 8, _, _, _, _, _ => trivial
        case stabG8 => exact fun i wa wb hR hne hG => ext_trans hG (hR.resolve_left (fun e => hne (by rw [e])))
        case stabH8 => exact fun i wa wb hR hne _ h => (by have hb := hR.resolve_left (fun e => hne (by rw [e])); exact GbH.below h hb)
        case all8 =>
          refine RAllH.cons rfl ?_ (RAllH.cons rfl ?_ (RAllH.cons rfl ?_ (RAllH.cons rfl ?_ (RAllH.cons rfl ?_ (RAllH.cons rfl ?_ (RAllH.cons rfl ?_ (RAllH.cons rfl ?_ (RAllH.cons rfl ?_ (RAllH.none_)))))))))
          · intro a kq_ wa K Q _ _ hp hK0
            have hI : Below wr.heap.size wr wa := hp.pre (fun c hc => by cases hc; kernel_rfl)
            have hK := fun v w' h1 h2 (_ : Below wr.heap.size wr w') => hK0 v w' h1 (.inr h2) trivial (fun e => by cases e)
            exact op_move _ (.inl rfl) (hK _ _ (hp.keep 4 (by kernel_rfl)) (Below.refl _ _) hI)
          · intro a kq_ wa K Q _ _ hp hK0
            have hI : Below wr.heap.size wr wa := hp.pre (fun c hc => by cases hc; kernel_rfl)
            have hK := fun v w' h1 h2 (_ : Below wr.heap.size wr w') => hK0 v w' h1 (.inr h2) trivial (fun e => by cases e)
            exact op_move _ (.inl rfl) (hK _ _ (hp.keep 6 (by kernel_rfl)) (Below.refl _ _) hI)
          · intro a kq_ wa K Q _ _ hp hK0
            have hI : Below wr.heap.size wr wa := hp.pre (fun c hc => by cases hc; kernel_rfl)
            have hK := fun v w' h1 h2 (_ : Below wr.heap.size wr w') => hK0 v w' h1 (.inr h2) trivial (fun e => by cases e)
            have e27 := tmp_of (show a.eval (.tmp 27) = .slice (some ⟨b, off, none⟩) L.length c6 from hp.dep 0 27 (by kernel_rfl))
            have e28 := tmp_of (show a.eval (.tmp 28) = .int .i64 p from hp.dep 1 28 (by kernel_rfl))
            go_simp
            exact hK _ _ rfl (Below.refl _ _) hI
          · intro a kq_ wa K Q _ _ hp hK0
            have hI : Below wr.heap.size wr wa := hp.pre (fun c hc => by cases hc; kernel_rfl)
            have hK := fun v w' h1 h2 (_ : Below wr.heap.size wr w') => hK0 v w' h1 (.inr h2) trivial (fun e => by cases e)
            have e29 := tmp_of (show a.eval (.tmp 29) = .pointer (some ⟨b, off + p * 4, Option.none⟩) from hp.dep 2 29 (by kernel_rfl))
            have p0_ := below_cell hI p0
            have p1_ := below_cell hI p1
            have p2_ := below_cell hI p2
            have p3_ := below_cell hI p3
            go_simp
            exact hK _ _ rfl (Below.refl _ _) hI
          · intro a kq_ wa K Q _ _ hp hK0
            have hI : Below wr.heap.size wr wa := hp.pre (fun c hc => by cases hc; kernel_rfl)
            have hK := fun v w' h1 h2 (_ : Below wr.heap.size wr w') => hK0 v w' h1 (.inr h2) trivial (fun e => by cases e)
            have e30 := tmp_of (show a.eval (.tmp 30) = .agg #[.int .i64 (exAt L p).k, .int .i64 (exAt L p).n, .string (exAt L p).s, .slice A1 (exAt L p).ps.length c1] from hp.dep 3 30 (by kernel_rfl))
            go_simp
            refine (cpQ_all d _ _ _ _ (HFD.out.below hI) HS1.out HCP.out).mono ?_
            rintro e wb ⟨A8, c8, rfl, h8, hb⟩
            obtain ⟨A8', c8', e8, hr8⟩ := h8.rd
            cases e8
            exact hK _ _ ⟨A8, c8, rfl, hr8.toG (by have := hI.size; have := HWXS.out; omega) (.inl (by have := hI.size; omega)) (Nat.le_refl _)⟩ hb (ext_trans hI hb)
          · intro a kq_ wa K Q _ _ hp hK0
            have hI : Below wr.heap.size wr wa := hp.pre (fun c hc => by cases hc; kernel_rfl)
            have hK := fun v w' h1 h2 (_ : Below wr.heap.size wr w') => hK0 v w' h1 (.inr h2) trivial (fun e => by cases e)
            have e5 := tmp_of (show a.eval (.tmp 5) = .pointer (some ⟨g5, 0, none⟩) from hp.keep 5 (by kernel_rfl))
            have x0_ := below_cell hI x0
            have x1_ := below_cell hI x1
            have x2_ := below_cell hI x2
            have x3_ := below_cell hI x3
            go_simp
            exact hK _ _ rfl (Below.refl _ _) hI
          · intro a kq_ wa K Q _ _ hp hK0
            have hI : Below wr.heap.size wr wa := hp.pre (fun c hc => by cases hc; kernel_rfl)
            have hK := fun v w' h1 h2 (_ : Below wr.heap.size wr w') => hK0 v w' h1 (.inr h2) trivial (fun e => by cases e)
            have t31 : ExG W.heap.size g5 d (exAt L p) wa (a.eval (.tmp 31)) := hp.dep 4 31 (by kernel_rfl)
            have e32 := tmp_of (show a.eval (.tmp 32) = .agg #[.int .i64 o.k, .int .i64 o.n, .string o.s, .slice A9 o.ps.length c9] from hp.dep 5 32 (by kernel_rfl))
            obtain ⟨A8, c8, e31, h8⟩ := t31
            replace e31 := tmp_of e31
            go_simp
            exact hK _ _ ⟨_, rfl, exG.two (heap_alloc_new _ _) (by have := hI.size; have := HWXS.out; omega) (by have := hI.size; omega) ((h8.deeper hdD).below (below_alloc _ _)) ((HGO.out.below hI).below (below_alloc _ _)) HS1.out HOS.out⟩ (below_alloc _ _) (ext_alloc hI _)
          · intro a kq_ wa K Q _ _ hp hK0
            have hI : Below wr.heap.size wr wa := hp.pre (fun c hc => by cases hc; kernel_rfl)
            have hK := fun v w' h1 h2 (_ : Below wr.heap.size wr w') => hK0 v w' h1 (.inr h2) trivial (fun e => by cases e)
            have t33 : TwG W.heap.size g5 (D + 1) (exAt L p) o wa (a.eval (.tmp 33)) := hp.dep 6 33 (by kernel_rfl)
            obtain ⟨b9, e33, h9⟩ := t33
            replace e33 := tmp_of e33
            go_simp
            exact hK _ _ ⟨_, _, rfl, h9⟩ (Below.refl _ _) hI
          · intro a kq_ wa K Q _ _ hp hK0
            have hI : Below wr.heap.size wr wa := hp.pre (fun c hc => by cases hc; kernel_rfl)
            have hS := fun v w' h => hK0 v w' trivial (.inl rfl) trivial (fun _ => h)
            have e5 := tmp_of (show a.eval (.tmp 5) = .pointer (some ⟨g5, 0, none⟩) from hp.keep 5 (by kernel_rfl))
            have t34 : ExG W.heap.size g5 (D + 1) (.nd 14 0 ByteArray.empty [exAt L p, o]) wa (a.eval (.tmp 34)) := hp.dep 7 34 (by kernel_rfl)
            obtain ⟨A5, c5, e34, h5⟩ := t34
            replace e34 := tmp_of e34
            have hbw := block_below HBXX.out hI
            obtain ⟨cw0, cw1, cw2, cw3⟩ := cells4 hbw
            obtain ⟨zw0, zw1, zw2, zw3⟩ := froz4 hbw
            go_simp
            exact hS (.tuple #[]) _ ⟨A5, c5, setCells_atG [.int .i64 14, .int .i64 0, .string ByteArray.empty, .slice A5 2 c5] 0 hbw (by simp), h5.grown (setCells_grown g5 [.int .i64 14, .int .i64 0, .string ByteArray.empty, .slice A5 2 c5] wa 0), setCells_below (Nat.le_refl _) [.int .i64 14, .int .i64 0, .string ByteArray.empty, .slice A5 2 c5] 0 (HBW.out.trans (hI.mono (by omega)))⟩
        case fin8 =>
          intro f w9 hT _ hH
          have hH := hH 8 rfl (by decide)
          have hr6 : (f 2) = .pointer (some ⟨b, off + p * 4, Option.none⟩) := hT 2 (by decide) rfl rfl
          clear hT
          clear hr6
          simp only [putAll]
          go_simp
          go_wp2
          go_roundw
          case rel => exact ⟨p, by omega, by first | rfl | go_num, by rw [HDD.out, HJD.out]; exact hH⟩
          case measure => first | (simp [intOf]; done) | (simp [intOf]; omega)
  · have HR : Hid (gbB d r = false) := Lib.hid (by rw [gbB, has, hok]; rfl)
    have HAS := Lib.hid has
    clear has hgd hc40 hcn
    go_enter Try.func24, Try.ntmps24
    go_wp2_with fail
    rw [← HW.out, ← HGX.out]
    refine (specExprValid hUW hs hcnt).mono ?_
    rintro e w1 ⟨rfl, hb⟩
    rw [hok]
    have hX := hb
    replace hB := ext_trans hB hb
    obtain ⟨b0', b1', b2', b3'⟩ := cells4 (block_below HBX.out hX)
    clear b0 b1 b2 b3 hok hb
    go_wp2_with fail
    refine (asQ_all d _ _ _ _ (hUW.below hX)).mono ?_
    rintro e w2 ⟨rfl, hb⟩
    rw [HAS.out]
    replace hB := ext_trans hB hb
    have hr2 := block_below HB2.out (ext_trans hX hb)
    obtain ⟨y0, y1, y2, y3⟩ := cells4 hr2
    obtain ⟨z0, z1, z2, z3⟩ := froz4 hr2
    clear b0' b1' b2' b3' hX hb hUW hr2
    go_wp2
    refine bodyPost_ret (v := .tuple #[.agg #[.int .i64 0, .int .i64 0, .string ⟨#[]⟩, .slice Option.none 0 0], .bool false]) (by simp [results, go_sem, y0, y1, y2, y3]) rfl (GbPost.no HR.out ?_)
    exact setCells_below (by have := HGX.out; omega) [.int .i64 0, .int .i64 0, .string ⟨#[]⟩, .slice Option.none 0 0] 0 hB
end Go.Proofs.Ytodjokdaofefdaa
/- Kinds of expressions, by the reference. -/
namespace Go.Proofs.Ytodjokdaofefdaa
set_option linter.unusedSimpArgs false
set_option linter.unusedVariables false
open Go.RowKit

theorem allK_one {ks : List Int} (h : ks.length = 1) (x : Int) : allK ks x = (il0 ks 0 == x) := by
  match ks, h with
  | [a], _ => rw [Bool.eq_iff_iff]; simp [allK, il0]
theorem allK_two {ks : List Int} (h : ks.length = 2) (x : Int) : allK ks x = ((il0 ks 0 == x) && (il0 ks 1 == x)) := by
  match ks, h with
  | [a, b], _ => rw [Bool.eq_iff_iff]; simp [allK, il0]
theorem fin_1 {s : Sc} {t : Ex} {ks : List Int} (h : t.k = 1) : kdFin s t ks = 1 := by simp [kdFin, h]
theorem fin_2 {s : Sc} {t : Ex} {ks : List Int} (h : t.k = 2 ∨ t.k = 6) : kdFin s t ks = 2 := by rw [kdFin, if_pos h]
theorem fin_3 {s : Sc} {t : Ex} {ks : List Int} (h : t.k = 3 ∨ t.k = 4 ∨ t.k = 5) : kdFin s t ks = 3 := by rw [kdFin, if_neg (by omega), if_pos h]
theorem fin_7 {s : Sc} {t : Ex} {ks : List Int} (h : t.k = 7) : kdFin s t ks = kdIn s.2 t.s := by simp [kdFin, h]
theorem fin_8 {s : Sc} {t : Ex} {ks : List Int} (h : t.k = 8) : kdFin s t ks = if allK ks 3 = true then kdIn s.1 t.s else 0 := by simp [kdFin, h]
theorem fin_9 {s : Sc} {t : Ex} {ks : List Int} (h : t.k = 9 ∨ t.k = 12) : kdFin s t ks = if allK ks 3 = true then 1 else 0 := by
  rw [kdFin, if_neg (by omega), if_neg (by omega), if_neg (by omega), if_neg (by omega), if_pos h]
theorem fin_10 {s : Sc} {t : Ex} {ks : List Int} (h : t.k = 10) : kdFin s t ks = if il0 ks 0 = il0 ks 1 then 1 else 0 := by simp [kdFin, h]
theorem fin_11 {s : Sc} {t : Ex} {ks : List Int} (h : t.k = 11) : kdFin s t ks = if allK ks 2 = true then 1 else 0 := by simp [kdFin, h]
theorem fin_13 {s : Sc} {t : Ex} {ks : List Int} (h : t.k = 13 ∨ t.k = 14 ∨ t.k = 15) : kdFin s t ks = if allK ks 1 = true then 1 else 0 := by
  rw [kdFin, if_neg (by omega), if_neg (by omega), if_neg (by omega), if_neg (by omega), if_neg (by omega), if_neg (by omega), if_neg (by omega), if_pos h]
/-- A grown row of numbers of one's own. -/
def CkA (B : Nat) (W : World) (l : List Int) (w : World) (v : Value) : Prop := OwnA B 3 1 ilEnc w v l ∧ Below B W w ∧ B ≤ w.heap.size
theorem CkA.below {B : Nat} {W : World} {l : List Int} {w w' : World} {v : Value} (h : CkA B W l w v) (hb : Below w.heap.size w w') : CkA B W l w' v :=
  ⟨h.1.below hb, h.2.1.trans (hb.mono h.2.2), Nat.le_trans h.2.2 hb.size⟩
/-- What a call for the kind gives, at parts at most d deep. -/
def KsQ (d : Nat) : Prop := ∀ (s : Sc) (A0 A1 : Option Addr) (c0 c1 : Nat) (A : Option Addr) (r : Ex) (c : Nat) (w : World), scR w A0 A1 s → exW d w A r.ps → gdR (d + 1) r = true →
  Calls Try.prog 102 #[.agg #[.slice A0 s.1.length c0, .slice A1 s.2.length c1], .agg #[.int .i64 r.k, .int .i64 r.n, .string r.s, .slice A r.ps.length c]] w fun e w' => e = .returned (.int .i64 (kiR (d + 1) s r)) ∧ Below w.heap.size w w'
set_option maxRecDepth 100000 in
set_option maxHeartbeats 8000000 in
theorem ksQ_of {d : Nat} (hQ : ∀ m, d = m + 1 → KsQ m) : KsQ d := by
  intro s A0 A1 c0 c1 A r c w hS hU hg
  have HQ := Lib.hid hQ
  have hhd := gd_head hg
  have hl2 := headB_len hhd
  have har := head_len hhd
  have HP : Hid (∀ k, k < r.ps.length → gdR d (exAt r.ps k) = true) := Lib.hid (fun k hk => gd_part hg hk)
  obtain ⟨W0, hW0⟩ : ∃ W, W = (w.alloc (.cells #[.slice A0 s.1.length c0, .slice A1 s.2.length c1] 25)).alloc (.cells #[.int .i64 r.k, .int .i64 r.n, .string r.s, .slice A r.ps.length c] 28) := ⟨_, rfl⟩
  obtain ⟨g, hgg⟩ : ∃ g, g = w.heap.size := ⟨_, rfl⟩
  have hB0 : Below w.heap.size w W0 := by rw [hW0]; (repeat (first | exact Below.refl _ _ | refine ext_alloc ?_ _ | refine Below.setCell ?_ (by simp) _))
  have hq1 : W0.heap[g]? = some (.cells #[.slice A0 s.1.length c0, .slice A1 s.2.length c1] 25 (0, 0)) := by rw [hW0, hgg]; exact block_in (heap_alloc_new _ _) (below_alloc _ _)
  have hq2 : W0.heap[g + 1]? = some (.cells #[.int .i64 r.k, .int .i64 r.n, .string r.s, .slice A r.ps.length c] 28 (0, 0)) := by rw [hW0, hgg]; exact heap_alloc_at (by simp)
  have hsz : W0.heap.size = g + 1 + 1 := by rw [hW0, hgg]; simp
  obtain ⟨ov0, hov0⟩ : ∃ v, v = Value.slice (some ⟨g + 1 + 1, 0, none⟩) 0 0 := ⟨_, rfl⟩
  have hO : OwnA W0.heap.size 3 1 ilEnc (W0.alloc (.cells #[] 3)) ov0 [] := by rw [hov0, ← hsz]; exact OwnA.empty (Nat.le_refl _)
  obtain ⟨W, hW⟩ : ∃ W, W = W0.alloc (.cells #[] 3) := ⟨_, rfl⟩
  have hB1 : Below W0.heap.size W0 W := by rw [hW]; exact below_alloc _ _
  rw [← hW] at hO
  replace hS := hS.below hB0
  replace hU := hU.below hB0
  have HQ1 := Lib.hid hq1
  have HQ2 := Lib.hid hq2
  have HW0 := Lib.hid hW0
  have HW := Lib.hid hW
  have HV := Lib.hid hov0
  have HGG := Lib.hid hgg
  have HAR := Lib.hid har
  have HHD := Lib.hid hhd
  have hB := hB1
  clear hW0 hW hsz hov0 hB1 hq1 hq2 hgg har hg hQ hhd
  go_enter Try.func102, Try.ntmps102
  go_wp2_with fail
  rw [← HW0.out, ← HGG.out, ← HV.out, ← HW.out]
  go_loopw [5, 6] (fun ov i wr => ∃ k : Nat, k ≤ r.ps.length ∧ i = .int .i64 k ∧ OwnA W0.heap.size 3 1 ilEnc wr ov ((r.ps.take k).map (kiR d s)) ∧ Hid (∀ j, j < k → kiR d s (exAt r.ps j) ≠ 0) ∧ Below W0.heap.size W0 wr) (fun _ i _ => r.ps.length - (intOf i).toNat)
  case atStart => exact ⟨0, Nat.zero_le _, rfl, hO, Lib.hid (fun j h => by omega), hB⟩
  case round =>
    clear hB hO
    obtain ⟨k, hk, rfl, hO, HN, hB⟩ := hrel
    obtain ⟨q0, q1⟩ := cells2 (block_in HQ1.out hB)
    obtain ⟨p0, p1, p2, p3⟩ := cells4 (block_in HQ2.out hB)
    by_cases hlt : k < r.ps.length
    · have hd : ∃ m, d = m + 1 := by
        cases d with
        | zero => have := exS.zero hU; rw [this] at hlt; simp at hlt
        | succ m => exact ⟨m, rfl⟩
      obtain ⟨m, hm⟩ := hd
      subst hm
      have HI := Lib.hid (HQ.out m rfl)
      obtain ⟨b, off, rfl, hcl⟩ := hU.cells (by omega)
      obtain ⟨A', c', hfd, hs, e0, e1, e2, e3⟩ := hcl k hlt
      replace e0 := below_cell hB e0
      replace e1 := below_cell hB e1
      replace e2 := below_cell hB e2
      replace e3 := below_cell hB e3
      replace hfd := hfd.below hB
      have hSw := hS.below hB
      have hGk := HP.out k hlt
      have HGK := Lib.hid hGk
      have hlk : ((r.ps.take k).map (kiR (m + 1) s)).length = k := by rw [List.length_map, List.length_take]; omega
      have hap : (r.ps.take (k + 1)).map (kiR (m + 1) s) = (r.ps.take k).map (kiR (m + 1) s) ++ [kiR (m + 1) s (exAt r.ps k)] := by
        rw [List.take_succ_eq_append_getElem hlt, List.map_append, exAt_eq hlt]; rfl
      have HAP := Lib.hid hap
      obtain ⟨ks, hks⟩ : ∃ l, l = (r.ps.take k).map (kiR (m + 1) s) := ⟨_, rfl⟩
      rw [← hks] at hO hlk HAP
      clear hcl hGk hap hks
      have HST : Hid (kiR (m + 1) s (exAt r.ps k) = 0 → kiR (m + 1 + 1) s r = 0) := Lib.hid (kiR_stop hlt)
      obtain ⟨x, hx⟩ : ∃ x, kiR (m + 1) s (exAt r.ps k) = x := ⟨_, rfl⟩
      rw [hx] at HAP HST
      have HX := Lib.hid hx
      have HLK := Lib.hid hlk
      have hbz : W0.heap.size ≤ wr.heap.size := hB.size
      clear hx hlk
      go_wp2_with fail
      refine wp_region_draws2K (some 9) (some 10) (fun wz => Below wr.heap.size wr wz) (fun wz => True) (fun i wz vz => match i with | 0 => vz = u5 | 1 => vz = .agg #[.slice A0 s.1.length c0, .slice A1 s.2.length c1] | 2 => vz = .pointer (some ⟨g + 1, 3, Option.none⟩) | 3 => vz = .slice (some ⟨b, off, none⟩) r.ps.length c | 4 => vz = .int .i64 k | 5 => vz = .pointer (some ⟨b, off + k * 4, Option.none⟩) | 6 => vz = .agg #[.int .i64 (exAt r.ps k).k, .int .i64 (exAt r.ps k).n, .string (exAt r.ps k).s, .slice A' (exAt r.ps k).ps.length c'] | 7 => vz = .int .i64 x | 8 => FrB wr.heap.size 3 1 #[.int .i64 x] wz vz | 9 => CkA W0.heap.size W0 (ks ++ [x]) wz vz | 10 => CkA W0.heap.size W0 (ks ++ [x]) wz vz | _ => True) (fun _ _ => True) (fun i w w' => (i = 9 ∨ i = 10) ∨ Below w.heap.size w w') (fun j => match j with | 8 => some 9 | 9 => some 10 | _ => Option.none) (by kernel_rfl) (by kernel_rfl) (by kernel_rfl) ?stab5 ?stabG5 ?stabH5 trivial (ext_drew (Below.refl _ _)) ?all5 ?fin5
      case stab5 =>
        intro i j wa wb v hR hk hne hd h3 h2 hT
        match j, hk, hne, hd, h3, h2, hT with
        | 0, hk, hne, hd, h3, h2, hT => exact (hT)
        | 1, hk, hne, hd, h3, h2, hT => exact (hT)
        | 2, hk, hne, hd, h3, h2, hT => exact (hT)
        | 3, hk, hne, hd, h3, h2, hT => exact (hT)
        | 4, hk, hne, hd, h3, h2, hT => exact (hT)
        | 5, hk, hne, hd, h3, h2, hT => exact (hT)
        | 6, hk, hne, hd, h3, h2, hT => exact (hT)
        | 7, hk, hne, hd, h3, h2, hT => exact (hT)
        | 8, hk, hne, hd, h3, h2, hT => exact (FrB.below hT (hR.resolve_left (fun e => e.elim (fun e => hk (by subst e; rfl)) (fun e => by subst e; exact Bool.noConfusion ((h3 9 rfl).symm.trans (show depB _ 10 9 = true from by kernel_rfl))))))
        | 9, hk, hne, hd, h3, h2, hT => exact (CkA.below hT (hR.resolve_left (fun e => e.elim (fun e => hne (by rw [e])) (fun e => hk (by subst e; rfl)))))
        | 10, hk, hne, hd, h3, h2, hT => exact (CkA.below hT (hR.resolve_left (fun e => e.elim (fun e => by subst e; exact Bool.noConfusion ((show depB _ 10 9 = true from by kernel_rfl).symm.trans hd)) (fun e => hne (by rw [e])))))
        | n + 11, _, _, _, _, _, _ => trivial
      case stabG5 => exact fun i wa wb hR hne hd hG => ext_trans hG (hR.resolve_left (fun e => e.elim (fun e => hne (by rw [e])) (fun e => by subst e; exact Bool.noConfusion ((hd 9 rfl).symm.trans (show depB _ 10 9 = true from by kernel_rfl)))))
      case stabH5 => exact fun i wa wb hR hne hd h => (by have hb := hR.resolve_left (fun e => e.elim (fun e => by subst e; exact Bool.noConfusion ((hd 10 rfl).symm.trans (show depB _ 10 9 = true from by kernel_rfl))) (fun e => hne (by rw [e]))); exact trivial)
      case all5 =>
        refine RAllK.cons rfl ?_ (RAllK.cons rfl ?_ (RAllK.cons rfl ?_ (RAllK.cons rfl ?_ (RAllK.cons rfl ?_ (RAllK.cons rfl ?_ (RAllK.cons rfl ?_ (RAllK.cons rfl ?_ (RAllK.cons rfl ?_ (RAllK.cons rfl ?_ (RAllK.cons rfl ?_ (RAllK.none_)))))))))))
        · intro a kq_ wa K Q _ _ hp hK0
          have hI : Below wr.heap.size wr wa := hp.pre 9 (fun c hc => by cases hc; kernel_rfl)
          have hK := fun v w' h1 h2 (_ : Below wr.heap.size wr w') => hK0 v w' h1 (.inr h2) trivial (fun e => by cases e)
          exact op_move _ (.inl rfl) (hK _ _ (hp.keep 5 (by kernel_rfl)) (Below.refl _ _) hI)
        · intro a kq_ wa K Q _ _ hp hK0
          have hI : Below wr.heap.size wr wa := hp.pre 9 (fun c hc => by cases hc; kernel_rfl)
          have hK := fun v w' h1 h2 (_ : Below wr.heap.size wr w') => hK0 v w' h1 (.inr h2) trivial (fun e => by cases e)
          have e2 := tmp_of (show a.eval (.tmp 2) = .pointer (some ⟨g, 0, none⟩) from hp.keep 2 (by kernel_rfl))
          have q0_ := below_cell hI q0
          have q1_ := below_cell hI q1
          go_simp
          exact hK _ _ rfl (Below.refl _ _) hI
        · intro a kq_ wa K Q _ _ hp hK0
          have hI : Below wr.heap.size wr wa := hp.pre 9 (fun c hc => by cases hc; kernel_rfl)
          have hK := fun v w' h1 h2 (_ : Below wr.heap.size wr w') => hK0 v w' h1 (.inr h2) trivial (fun e => by cases e)
          have e3 := tmp_of (show a.eval (.tmp 3) = .pointer (some ⟨g + 1, 0, none⟩) from hp.keep 3 (by kernel_rfl))
          go_simp
          exact hK _ _ rfl (Below.refl _ _) hI
        · intro a kq_ wa K Q _ _ hp hK0
          have hI : Below wr.heap.size wr wa := hp.pre 9 (fun c hc => by cases hc; kernel_rfl)
          have hK := fun v w' h1 h2 (_ : Below wr.heap.size wr w') => hK0 v w' h1 (.inr h2) trivial (fun e => by cases e)
          have e19 := tmp_of (show a.eval (.tmp 19) = .pointer (some ⟨g + 1, 3, Option.none⟩) from hp.dep 2 19 (by kernel_rfl))
          have p3_ := below_cell hI p3
          go_simp
          exact hK _ _ rfl (Below.refl _ _) hI
        · intro a kq_ wa K Q _ _ hp hK0
          have hI : Below wr.heap.size wr wa := hp.pre 9 (fun c hc => by cases hc; kernel_rfl)
          have hK := fun v w' h1 h2 (_ : Below wr.heap.size wr w') => hK0 v w' h1 (.inr h2) trivial (fun e => by cases e)
          exact op_move _ (.inl rfl) (hK _ _ (hp.keep 6 (by kernel_rfl)) (Below.refl _ _) hI)
        · intro a kq_ wa K Q _ _ hp hK0
          have hI : Below wr.heap.size wr wa := hp.pre 9 (fun c hc => by cases hc; kernel_rfl)
          have hK := fun v w' h1 h2 (_ : Below wr.heap.size wr w') => hK0 v w' h1 (.inr h2) trivial (fun e => by cases e)
          have e20 := tmp_of (show a.eval (.tmp 20) = .slice (some ⟨b, off, none⟩) r.ps.length c from hp.dep 3 20 (by kernel_rfl))
          have e21 := tmp_of (show a.eval (.tmp 21) = .int .i64 k from hp.dep 4 21 (by kernel_rfl))
          go_simp
          exact hK _ _ rfl (Below.refl _ _) hI
        · intro a kq_ wa K Q _ _ hp hK0
          have hI : Below wr.heap.size wr wa := hp.pre 9 (fun c hc => by cases hc; kernel_rfl)
          have hK := fun v w' h1 h2 (_ : Below wr.heap.size wr w') => hK0 v w' h1 (.inr h2) trivial (fun e => by cases e)
          have e22 := tmp_of (show a.eval (.tmp 22) = .pointer (some ⟨b, off + k * 4, Option.none⟩) from hp.dep 5 22 (by kernel_rfl))
          have e0_ := below_cell hI e0
          have e1_ := below_cell hI e1
          have e2_ := below_cell hI e2
          have e3_ := below_cell hI e3
          go_simp
          exact hK _ _ rfl (Below.refl _ _) hI
        · intro a kq_ wa K Q _ _ hp hK0
          have hI : Below wr.heap.size wr wa := hp.pre 9 (fun c hc => by cases hc; kernel_rfl)
          have hK := fun v w' h1 h2 (_ : Below wr.heap.size wr w') => hK0 v w' h1 (.inr h2) trivial (fun e => by cases e)
          have e18 := tmp_of (show a.eval (.tmp 18) = .agg #[.slice A0 s.1.length c0, .slice A1 s.2.length c1] from hp.dep 1 18 (by kernel_rfl))
          have e23 := tmp_of (show a.eval (.tmp 23) = .agg #[.int .i64 (exAt r.ps k).k, .int .i64 (exAt r.ps k).n, .string (exAt r.ps k).s, .slice A' (exAt r.ps k).ps.length c'] from hp.dep 6 23 (by kernel_rfl))
          go_simp
          refine (HI.out _ _ _ _ _ _ _ _ _ (hSw.below hI) (hfd.below hI) HGK.out).mono ?_
          rintro e wb ⟨rfl, hb⟩
          rw [HX.out]
          exact hK _ _ rfl hb (ext_trans hI hb)
        · intro a kq_ wa K Q _ _ hp hK0
          have hI : Below wr.heap.size wr wa := hp.pre 9 (fun c hc => by cases hc; kernel_rfl)
          have hK := fun v w' h1 h2 (_ : Below wr.heap.size wr w') => hK0 v w' h1 (.inr h2) trivial (fun e => by cases e)
          have e24 := tmp_of (show a.eval (.tmp 24) = .int .i64 x from hp.dep 7 24 (by kernel_rfl))
          go_simp
          exact hK _ _ ⟨_, rfl, hI.size, heap_alloc_new _ _⟩ (below_alloc _ _) (ext_alloc hI _)
        · intro a kq_ wa K Q _ _ hp hK0
          have hI : Below wr.heap.size wr wa := hp.pre 9 (fun c hc => by cases hc; kernel_rfl)
          have hA := fun v w' h => hK0 v w' h (.inl (.inl rfl)) trivial (fun e => by cases e)
          have e17 := tmp_of (show a.eval (.tmp 17) = u5 from hp.dep 0 17 (by kernel_rfl))
          have t25 : FrB wr.heap.size 3 1 #[.int .i64 x] wa (a.eval (.tmp 25)) := hp.dep 8 25 (by kernel_rfl)
          obtain ⟨g8, e25, hB8, hg8⟩ := t25
          obtain ⟨A9, c9, ev, ho9⟩ := hO.below hI
          refine op_append_rd (enc := ilEnc) (l := [x]) (.tmp 17) (.tmp 25) W0.heap.size 92 3 _ 1 8 rfl Try.underlying92 Try.infoInt rfl (by decide) (fun _ => rfl) ilEnc_one ((hp.dep 0 17 (by kernel_rfl)).trans ev) ho9 e25 (rd_block (fun _ => rfl) hg8 rfl) (by have := HLK.out; simp; omega) (by have := HLK.out; simp; omega) (Nat.le_trans hbz hI.size) ?_
          intro v' wb ho' hgr hv
          exact hA v' wb ⟨OwnA.of (show wb.ownsRow W0.heap.size 3 1 v' (ks ++ [x]).length ((ks ++ [x]).flatMap ilEnc) by simpa using ho'), (ext_trans hB hI).trans (grown_below hgr (Nat.le_trans hbz hI.size) (fun q hq => (ho9.lt q hq).1)), Nat.le_trans hbz (Nat.le_trans hI.size hgr.size)⟩
        · intro a kq_ wa K Q _ _ hp hK0
          have hS := fun v w' ht h => hK0 v w' ht (.inl (.inr rfl)) trivial (fun _ => h)
          have t26 : CkA W0.heap.size W0 (ks ++ [x]) wa (a.eval (.tmp 26)) := hp.dep 9 26 (by kernel_rfl)
          have t := t26
          rw [show a.eval (.tmp 26) = a.tmps[26]?.getD undef from by simp [Act.eval]] at t
          go_simp
          exact hS _ wa t trivial
      case fin5 =>
        intro f w9 hT _ hH
        have hH := hH 10 rfl (by decide)
        have hr6 : CkA W0.heap.size W0 (ks ++ [x]) w9 (f 10) := hT 10 (by decide) rfl rfl
        clear hT
        clear hH
        have hl5 : (ks ++ [x]).length = k + 1 := by rw [List.length_append, HLK.out]; rfl
        obtain ⟨A5, c5, hv5, hr5⟩ := OwnA.rd (enc := ilEnc) (sz := 1) (fun _ => rfl) (by rw [hl5]; omega) hr6.1
        have he5 : il0 (ks ++ [x]) k = x := by
          have := HLK.out
          subst this
          simp [il0]
        obtain ⟨b5, o5, rfl, hc5⟩ := ilR.cells hr5 (by simp)
        have y5 := hc5 k (by rw [hl5]; omega)
        rw [he5] at y5
        rw [hl5] at hv5
        have HO5 := Lib.hid hr6
        rw [hv5, ← HAP.out] at HO5
        simp only [putAll, hv5]
        clear hr6 hr5 hc5 hv5 he5 hl5 q0 q1 p0 p1 p2 p3 e0 e1 e2 e3 hO hB
        go_simp
        by_cases gx : x = 0
        · have gb : (x == 0) = true := by simpa using gx
          have HE := Lib.hid (HST.out gx)
          clear gx
          go_wp2
          go_ret
          exact ⟨by rw [HE.out]; rfl, hB0.trans (HO5.out.2.1.mono hB0.size)⟩
        · have gb : (x == 0) = false := by simpa using gx
          have HN2 : Hid (∀ j, j < k + 1 → kiR (m + 1) s (exAt r.ps j) ≠ 0) := Lib.hid (all_succ (p := fun j => kiR (m + 1) s (exAt r.ps j) ≠ 0) HN.out (by rw [HX.out]; exact gx))
          clear gx
          go_wp2
          go_roundw
          case rel => exact ⟨k + 1, by omega, by go_num, HO5.out.1, HN2, HO5.out.2.1⟩
          case measure => simp [intOf]; omega
    · obtain rfl : k = r.ps.length := by omega
      rw [List.take_length] at hO
      have hgo := kiR_go (d := d) (s := s) (t := r) HN.out
      obtain ⟨ks, hks⟩ : ∃ l, l = r.ps.map (kiR d s) := ⟨_, rfl⟩
      rw [← hks] at hO hgo
      have hkl : ks.length = r.ps.length := by rw [hks, List.length_map]
      have HGO := Lib.hid hgo
      have hSw := hS.below hB
      have HBB := Lib.hid (hB0.trans (hB.mono hB0.size))
      obtain ⟨A5, c5, rfl, hr5⟩ := OwnA.rd (enc := ilEnc) (sz := 1) (fun _ => rfl) (by rw [hkl]; omega) hO
      have hr5 : ilR wr A5 ks := hr5
      have hk15 := inB_true.1 (show inB r.k 1 15 = true from (Bool.and_eq_true_iff.1 HHD.out).1)
      have har := HAR.out
      clear hks hgo hO HN HAR HHD hB HQ HP hlt
      rcases (show r.k = 1 ∨ r.k = 2 ∨ r.k = 3 ∨ r.k = 4 ∨ r.k = 5 ∨ r.k = 6 ∨ r.k = 7 ∨ r.k = 8 ∨ r.k = 9 ∨ r.k = 10 ∨ r.k = 11 ∨ r.k = 12 ∨ r.k = 13 ∨ r.k = 14 ∨ r.k = 15 from by omega) with h | h | h | h | h | h | h | h | h | h | h | h | h | h | h
      · rw [h] at p0 har
        have hl : ks.length = 0 := by rw [hkl, har]; rfl
        clear har hkl
        have HE : Hid (kiR (d + 1) s r = 1) := Lib.hid (HGO.out.trans (fin_1 h))
        clear HGO h
        go_wp2
        go_ret
        exact ⟨by rw [HE.out]; rfl, HBB.out⟩
      · rw [h] at p0 har
        have hl : ks.length = 0 := by rw [hkl, har]; rfl
        clear har hkl
        have HE : Hid (kiR (d + 1) s r = 2) := Lib.hid (HGO.out.trans (fin_2 (.inl h)))
        clear HGO h
        go_wp2
        go_ret
        exact ⟨by rw [HE.out]; rfl, HBB.out⟩
      · rw [h] at p0 har
        have hl : ks.length = 0 := by rw [hkl, har]; rfl
        clear har hkl
        have HE : Hid (kiR (d + 1) s r = 3) := Lib.hid (HGO.out.trans (fin_3 (.inl h)))
        clear HGO h
        go_wp2
        go_ret
        exact ⟨by rw [HE.out]; rfl, HBB.out⟩
      · rw [h] at p0 har
        have hl : ks.length = 0 := by rw [hkl, har]; rfl
        clear har hkl
        have HE : Hid (kiR (d + 1) s r = 3) := Lib.hid (HGO.out.trans (fin_3 (.inr (.inl h))))
        clear HGO h
        go_wp2
        go_ret
        exact ⟨by rw [HE.out]; rfl, HBB.out⟩
      · rw [h] at p0 har
        have hl : ks.length = 0 := by rw [hkl, har]; rfl
        clear har hkl
        have HE : Hid (kiR (d + 1) s r = 3) := Lib.hid (HGO.out.trans (fin_3 (.inr (.inr h))))
        clear HGO h
        go_wp2
        go_ret
        exact ⟨by rw [HE.out]; rfl, HBB.out⟩
      · rw [h] at p0 har
        have hl : ks.length = 0 := by rw [hkl, har]; rfl
        clear har hkl
        have HE : Hid (kiR (d + 1) s r = 2) := Lib.hid (HGO.out.trans (fin_2 (.inr h)))
        clear HGO h
        go_wp2
        go_ret
        exact ⟨by rw [HE.out]; rfl, HBB.out⟩
      · rw [h] at p0 har
        have hl : ks.length = 0 := by rw [hkl, har]; rfl
        clear har hkl
        have HE : Hid (kiR (d + 1) s r = kdIn s.2 r.s) := Lib.hid (HGO.out.trans (fin_7 h))
        clear HGO h
        go_wp2_with fail
        refine (l7Kind_any hSw.2).mono ?_
        rintro e w1 ⟨rfl, hb⟩
        have HB1 := Lib.hid (ext_trans HBB.out hb)
        clear hb p0 p1 p2 p3 q0 q1
        go_wp2
        go_ret
        exact ⟨by rw [HE.out]; rfl, HB1.out⟩
      · rw [h] at p0 har
        have hl : ks.length = 1 := by rw [hkl, har]; rfl
        clear har hkl
        have hl1 : 0 < ks.length := by omega
        obtain ⟨b5, o5, rfl, hc5⟩ := ilR.cells hr5 hl1
        have y0 := hc5 0 (by omega)
        rw [Nat.add_zero] at y0
        obtain ⟨x, hx⟩ : ∃ x, il0 ks 0 = x := ⟨_, rfl⟩
        rw [hx] at y0
        have HF : Hid (kiR (d + 1) s r = if (x == 3) = true then kdIn s.1 r.s else 0) := Lib.hid (by rw [HGO.out, fin_8 h, allK_one hl, hx])
        clear HGO h hc5 hx hr5 hl
        go_wp2_with fail
        refine (l7Kind_any hSw.1).mono ?_
        rintro e w1 ⟨rfl, hb⟩
        have HB1 := Lib.hid (ext_trans HBB.out hb)
        replace y0 := below_cell hb y0
        replace p0 := below_cell hb p0
        clear hb p1 p2 p3 q0 q1
        obtain ⟨v, hv⟩ : ∃ v, kdIn s.1 r.s = v := ⟨_, rfl⟩
        rw [hv] at HF ⊢
        clear hv
        cases gb : (x == 3)
        all_goals
          rw [gb] at HF
          go_wp2
          go_ret
          exact ⟨by rw [HF.out]; rfl, HB1.out⟩
      · rw [h] at p0 har
        have hl : ks.length = 1 := by rw [hkl, har]; rfl
        clear har hkl
        have hl1 : 0 < ks.length := by omega
        obtain ⟨b5, o5, rfl, hc5⟩ := ilR.cells hr5 hl1
        have y0 := hc5 0 (by omega)
        rw [Nat.add_zero] at y0
        obtain ⟨x, hx⟩ : ∃ x, il0 ks 0 = x := ⟨_, rfl⟩
        rw [hx] at y0
        have HF : Hid (kiR (d + 1) s r = if (x == 3) = true then 1 else 0) := Lib.hid (by rw [HGO.out, fin_9 (.inl h), allK_one hl, hx])
        clear HGO h hc5 hx hr5 hl
        cases gb : (x == 3)
        all_goals
          rw [gb] at HF
          go_wp2
          go_ret
          exact ⟨by rw [HF.out]; rfl, HBB.out⟩
      · rw [h] at p0 har
        have hl : ks.length = 2 := by rw [hkl, har]; rfl
        clear har hkl
        have hl1 : 0 < ks.length := by omega
        obtain ⟨b5, o5, rfl, hc5⟩ := ilR.cells hr5 hl1
        have y0 := hc5 0 (by omega)
        rw [Nat.add_zero] at y0
        obtain ⟨x, hx⟩ : ∃ x, il0 ks 0 = x := ⟨_, rfl⟩
        rw [hx] at y0
        have hl2 : 1 < ks.length := by omega
        have y1 := hc5 1 hl2
        obtain ⟨z, hz⟩ : ∃ z, il0 ks 1 = z := ⟨_, rfl⟩
        rw [hz] at y1
        have HF : Hid (kiR (d + 1) s r = if x = z then 1 else 0) := Lib.hid (by rw [HGO.out, fin_10 h, hx, hz])
        clear HGO h hc5 hx hz hr5 hl
        have y2 := cell_regrown y0
        have y3 := cell_regrown y1
        clear y0 y1
        by_cases e : x = z
        · have gb : (x == z) = true := by simpa using e
          rw [if_pos e] at HF
          go_wp2
          refine wp_region_quiet_below (by kernel_rfl) (by kernel_rfl) ?_
          repeat (go_big_quiet_step (fail))
          refine wpQuiet_nil ?_
          intro w4 hw'regrown
          have HB1 := Lib.hid (ext_trans HBB.out (below_of_regrown hw'regrown (Nat.le_refl _)))
          clear hw'regrown
          go_wp2
          go_ret
          exact ⟨by rw [HF.out]; rfl, HB1.out⟩
        · have gb : (x == z) = false := by simpa using e
          rw [if_neg e] at HF
          go_wp2
          refine wp_region_quiet_below (by kernel_rfl) (by kernel_rfl) ?_
          repeat (go_big_quiet_step (fail))
          refine wpQuiet_nil ?_
          intro w4 hw'regrown
          have HB1 := Lib.hid (ext_trans HBB.out (below_of_regrown hw'regrown (Nat.le_refl _)))
          clear hw'regrown
          go_wp2
          go_ret
          exact ⟨by rw [HF.out]; rfl, HB1.out⟩
      · rw [h] at p0 har
        have hl : ks.length = 2 := by rw [hkl, har]; rfl
        clear har hkl
        have hl1 : 0 < ks.length := by omega
        obtain ⟨b5, o5, rfl, hc5⟩ := ilR.cells hr5 hl1
        have y0 := hc5 0 (by omega)
        rw [Nat.add_zero] at y0
        obtain ⟨x, hx⟩ : ∃ x, il0 ks 0 = x := ⟨_, rfl⟩
        rw [hx] at y0
        have hl2 : 1 < ks.length := by omega
        have y1 := hc5 1 hl2
        obtain ⟨z, hz⟩ : ∃ z, il0 ks 1 = z := ⟨_, rfl⟩
        rw [hz] at y1
        have HF : Hid (kiR (d + 1) s r = if ((x == 2) && (z == 2)) = true then 1 else 0) := Lib.hid (by rw [HGO.out, fin_11 h, allK_two hl, hx, hz])
        clear HGO h hc5 hx hz hr5 hl
        cases gb : (x == 2)
        · rw [gb] at HF
          go_wp2
          go_ret
          exact ⟨by rw [HF.out]; rfl, HBB.out⟩
        · cases gc : (z == 2)
          all_goals
            rw [gb, gc] at HF
            go_wp2
            go_ret
            exact ⟨by rw [HF.out]; rfl, HBB.out⟩
      · rw [h] at p0 har
        have hl : ks.length = 2 := by rw [hkl, har]; rfl
        clear har hkl
        have hl1 : 0 < ks.length := by omega
        obtain ⟨b5, o5, rfl, hc5⟩ := ilR.cells hr5 hl1
        have y0 := hc5 0 (by omega)
        rw [Nat.add_zero] at y0
        obtain ⟨x, hx⟩ : ∃ x, il0 ks 0 = x := ⟨_, rfl⟩
        rw [hx] at y0
        have hl2 : 1 < ks.length := by omega
        have y1 := hc5 1 hl2
        obtain ⟨z, hz⟩ : ∃ z, il0 ks 1 = z := ⟨_, rfl⟩
        rw [hz] at y1
        have HF : Hid (kiR (d + 1) s r = if ((x == 3) && (z == 3)) = true then 1 else 0) := Lib.hid (by rw [HGO.out, fin_9 (.inr h), allK_two hl, hx, hz])
        clear HGO h hc5 hx hz hr5 hl
        cases gb : (x == 3)
        · rw [gb] at HF
          go_wp2
          go_ret
          exact ⟨by rw [HF.out]; rfl, HBB.out⟩
        · cases gc : (z == 3)
          all_goals
            rw [gb, gc] at HF
            go_wp2
            go_ret
            exact ⟨by rw [HF.out]; rfl, HBB.out⟩
      · rw [h] at p0 har
        have hl : ks.length = 1 := by rw [hkl, har]; rfl
        clear har hkl
        have hl1 : 0 < ks.length := by omega
        obtain ⟨b5, o5, rfl, hc5⟩ := ilR.cells hr5 hl1
        have y0 := hc5 0 (by omega)
        rw [Nat.add_zero] at y0
        obtain ⟨x, hx⟩ : ∃ x, il0 ks 0 = x := ⟨_, rfl⟩
        rw [hx] at y0
        have HF : Hid (kiR (d + 1) s r = if (x == 1) = true then 1 else 0) := Lib.hid (by rw [HGO.out, fin_13 (.inl h), allK_one hl, hx])
        clear HGO h hc5 hx hr5 hl
        cases gb : (x == 1)
        all_goals
          rw [gb] at HF
          go_wp2
          go_ret
          exact ⟨by rw [HF.out]; rfl, HBB.out⟩
      · rw [h] at p0 har
        have hl : ks.length = 2 := by rw [hkl, har]; rfl
        clear har hkl
        have hl1 : 0 < ks.length := by omega
        obtain ⟨b5, o5, rfl, hc5⟩ := ilR.cells hr5 hl1
        have y0 := hc5 0 (by omega)
        rw [Nat.add_zero] at y0
        obtain ⟨x, hx⟩ : ∃ x, il0 ks 0 = x := ⟨_, rfl⟩
        rw [hx] at y0
        have hl2 : 1 < ks.length := by omega
        have y1 := hc5 1 hl2
        obtain ⟨z, hz⟩ : ∃ z, il0 ks 1 = z := ⟨_, rfl⟩
        rw [hz] at y1
        have HF : Hid (kiR (d + 1) s r = if ((x == 1) && (z == 1)) = true then 1 else 0) := Lib.hid (by rw [HGO.out, fin_13 (.inr (.inl h)), allK_two hl, hx, hz])
        clear HGO h hc5 hx hz hr5 hl
        cases gb : (x == 1)
        · rw [gb] at HF
          go_wp2
          go_ret
          exact ⟨by rw [HF.out]; rfl, HBB.out⟩
        · cases gc : (z == 1)
          all_goals
            rw [gb, gc] at HF
            go_wp2
            go_ret
            exact ⟨by rw [HF.out]; rfl, HBB.out⟩
      · rw [h] at p0 har
        have hl : ks.length = 2 := by rw [hkl, har]; rfl
        clear har hkl
        have hl1 : 0 < ks.length := by omega
        obtain ⟨b5, o5, rfl, hc5⟩ := ilR.cells hr5 hl1
        have y0 := hc5 0 (by omega)
        rw [Nat.add_zero] at y0
        obtain ⟨x, hx⟩ : ∃ x, il0 ks 0 = x := ⟨_, rfl⟩
        rw [hx] at y0
        have hl2 : 1 < ks.length := by omega
        have y1 := hc5 1 hl2
        obtain ⟨z, hz⟩ : ∃ z, il0 ks 1 = z := ⟨_, rfl⟩
        rw [hz] at y1
        have HF : Hid (kiR (d + 1) s r = if ((x == 1) && (z == 1)) = true then 1 else 0) := Lib.hid (by rw [HGO.out, fin_13 (.inr (.inr h)), allK_two hl, hx, hz])
        clear HGO h hc5 hx hz hr5 hl
        cases gb : (x == 1)
        · rw [gb] at HF
          go_wp2
          go_ret
          exact ⟨by rw [HF.out]; rfl, HBB.out⟩
        · cases gc : (z == 1)
          all_goals
            rw [gb, gc] at HF
            go_wp2
            go_ret
            exact ⟨by rw [HF.out]; rfl, HBB.out⟩
theorem ksQ_all : ∀ d, KsQ d
  | 0 => ksQ_of (fun m h => by omega)
  | d + 1 => ksQ_of (fun m h => by cases h; exact ksQ_all d)
end Go.Proofs.Ytodjokdaofefdaa
/- Kinds of expressions, by the program. -/
namespace Go.Proofs.Ytodjokdaofefdaa
set_option linter.unusedSimpArgs false
set_option linter.unusedVariables false
open Go.RowKit

theorem allK_iff {ks : List Int} {x : Int} : allK ks x = true ↔ ∀ j, j < ks.length → il0 ks j = x := by
  rw [allK, List.all_eq_true]
  constructor
  · intro h j hj
    rw [il_elem hj]
    simpa using h _ (List.getElem_mem hj)
  · intro h y hy
    obtain ⟨j, hj, rfl⟩ := List.getElem_of_mem hy
    have := h j hj
    rw [il_elem hj] at this
    simpa using this
theorem allK_no {ks : List Int} {x : Int} {j : Nat} (hj : j < ks.length) (h : il0 ks j ≠ x) : allK ks x = false := by
  rw [Bool.eq_false_iff]
  intro hh
  exact h (allK_iff.1 hh j hj)
set_option maxRecDepth 100000 in
set_option maxHeartbeats 4000000 in
theorem kindAll_any {b c : Nat} {A : Option Addr} {ks : List Int} {x : Int} {w : World} (hb : w.cell? ⟨b, 0, none⟩ = some (.slice A ks.length c)) (hr : ilR w A ks) :
    Calls Try.prog 116 #[.int .i64 x, .pointer (some ⟨b, 0, none⟩)] w fun e w' => e = .returned (.bool (allK ks x)) ∧ Below w.heap.size w w' := by
  have hlen := hr.len
  go_enter Try.func116, Try.ntmps116
  go_wp2
  go_loopw [8] (fun i wr => ∃ k : Nat, k ≤ ks.length ∧ i = .int .i64 k ∧ Hid (∀ j, j < k → il0 ks j = x) ∧ Below w.heap.size w wr) (fun i _ => ks.length - (intOf i).toNat)
  case atStart => exact ⟨0, Nat.zero_le _, rfl, Lib.hid (fun j h => by omega), Below.refl _ _⟩
  case round =>
    obtain ⟨k, hk, rfl, HG, hB⟩ := hrel
    by_cases hlt : k < ks.length
    · obtain ⟨b5, o5, rfl, hc⟩ := hr.cells (by omega)
      have c0 := below_cell hB (hc k hlt)
      clear hc
      obtain ⟨y, hy⟩ : ∃ y, il0 ks k = y := ⟨_, rfl⟩
      rw [hy] at c0
      have HY := Lib.hid hy
      clear hy
      by_cases g : y = x
      · have gb : (y != x) = false := by simpa using g
        have HG2 := Lib.hid (all_succ (p := fun j => il0 ks j = x) HG.out (HY.out.trans g))
        clear g
        go_wp2
        go_roundw
        case rel => exact ⟨k + 1, by omega, by go_num, HG2, hB⟩
        case measure => simp [intOf]; omega
      · have gb : (y != x) = true := by simpa using g
        have HE : Hid (allK ks x = false) := Lib.hid (allK_no hlt (by rw [HY.out]; exact g))
        clear g
        go_wp2
        go_ret
        exact ⟨by rw [HE.out]; rfl, hB⟩
    · obtain rfl : k = ks.length := by omega
      have HE : Hid (allK ks x = true) := Lib.hid (allK_iff.2 HG.out)
      go_wp2
      go_ret
      exact ⟨by rw [HE.out]; rfl, hB⟩
theorem enters_all1 : ∀ args w, (callFunc 116 args).run Try.prog w = .ok (.enter 116 args) w := enters_of Try.func116 (by kernel_rfl) rfl
def KiQ (d : Nat) : Prop := ∀ (s : Sc) (A0 A1 : Option Addr) (c0 c1 : Nat) (A : Option Addr) (r : Ex) (c : Nat) (w : World), scR w A0 A1 s → exW d w A r.ps → gdR (d + 1) r = true →
  Calls Try.prog 69 #[.agg #[.slice A0 s.1.length c0, .slice A1 s.2.length c1], .agg #[.int .i64 r.k, .int .i64 r.n, .string r.s, .slice A r.ps.length c]] w fun e w' => e = .returned (.int .i64 (kiR (d + 1) s r)) ∧ Below w.heap.size w w'
set_option maxRecDepth 100000 in
set_option maxHeartbeats 8000000 in
theorem kiQ_of {d : Nat} (hQ : ∀ m, d = m + 1 → KiQ m) : KiQ d := by
  intro s A0 A1 c0 c1 A r c w hS hU hg
  have eg := enters_all1
  have HQ := Lib.hid hQ
  have hhd := gd_head hg
  have hl2 := headB_len hhd
  have har := head_len hhd
  have HP : Hid (∀ k, k < r.ps.length → gdR d (exAt r.ps k) = true) := Lib.hid (fun k hk => gd_part hg hk)
  obtain ⟨W0, hW0⟩ : ∃ W, W = (w.alloc (.cells #[.slice A0 s.1.length c0, .slice A1 s.2.length c1] 25)).alloc (.cells #[.int .i64 r.k, .int .i64 r.n, .string r.s, .slice A r.ps.length c] 28) := ⟨_, rfl⟩
  obtain ⟨g, hgg⟩ : ∃ g, g = w.heap.size := ⟨_, rfl⟩
  have hB0 : Below w.heap.size w W0 := by rw [hW0]; (repeat (first | exact Below.refl _ _ | refine ext_alloc ?_ _ | refine Below.setCell ?_ (by simp) _))
  have hq1 : W0.heap[g]? = some (.cells #[.slice A0 s.1.length c0, .slice A1 s.2.length c1] 25 (0, 0)) := by rw [hW0, hgg]; exact block_in (heap_alloc_new _ _) (below_alloc _ _)
  have hq2 : W0.heap[g + 1]? = some (.cells #[.int .i64 r.k, .int .i64 r.n, .string r.s, .slice A r.ps.length c] 28 (0, 0)) := by rw [hW0, hgg]; exact heap_alloc_at (by simp)
  obtain ⟨gb, hgb⟩ : ∃ b, b = g + 1 + 1 := ⟨_, rfl⟩
  have hsz : gb = W0.heap.size := by rw [hgb, hW0, hgg]; simp
  obtain ⟨W, hW⟩ : ∃ W, W = W0.alloc (.cells #[.slice Option.none 0 0] 92) := ⟨_, rfl⟩
  have hB1 : Below W0.heap.size W0 W := by rw [hW]; exact below_alloc _ _
  have hbx : W.heap[gb]? = some (.cells #[.slice Option.none 0 0] 92 (0, 0)) := by rw [hW]; exact heap_alloc_at hsz
  replace hS := hS.below hB0
  replace hU := hU.below hB0
  have HQ1 := Lib.hid hq1
  have HQ2 := Lib.hid hq2
  have HW0 := Lib.hid hW0
  have HW := Lib.hid hW
  have HGG := Lib.hid hgg
  have HGB := Lib.hid hgb
  have HSZ := Lib.hid hsz
  have HAR := Lib.hid har
  have HHD := Lib.hid hhd
  have HBX := Lib.hid hbx
  have hB := hB1
  clear hW0 hW hsz hB1 hq1 hq2 hgg hgb har hg hQ hhd hbx
  go_enter Try.func69, Try.ntmps69
  go_wp2_with fail
  rw [← HW0.out, ← HGG.out, ← HGB.out, ← HW.out]
  go_loopw [14] (fun i wr => ∃ (k : Nat) (v : Value), k ≤ r.ps.length ∧ i = .int .i64 k ∧ Hid (wr.heap[gb]? = some (.cells #[v] 92 (0, 0))) ∧ OwnA (gb + 1) 3 1 ilEnc wr v ((r.ps.take k).map (kiR d s)) ∧ Hid (∀ j, j < k → kiR d s (exAt r.ps j) ≠ 0) ∧ Below W0.heap.size W0 wr) (fun i _ => r.ps.length - (intOf i).toNat)
  case atStart => exact ⟨0, _, Nat.zero_le _, rfl, HBX, OwnA.nil, Lib.hid (fun j h => by omega), hB⟩
  case round =>
    clear hB HBX
    obtain ⟨k, v, hk, rfl, HBX, hO, HN, hB⟩ := hrel
    obtain ⟨q0, q1⟩ := cells2 (block_in HQ1.out hB)
    obtain ⟨p0, p1, p2, p3⟩ := cells4 (block_in HQ2.out hB)
    by_cases hlt : k < r.ps.length
    · have hd : ∃ m, d = m + 1 := by
        cases d with
        | zero => have := exS.zero hU; rw [this] at hlt; simp at hlt
        | succ m => exact ⟨m, rfl⟩
      obtain ⟨m, hm⟩ := hd
      subst hm
      have HI := Lib.hid (HQ.out m rfl)
      obtain ⟨b, off, rfl, hcl⟩ := hU.cells (by omega)
      obtain ⟨A', c', hfd, hs, e0, e1, e2, e3⟩ := hcl k hlt
      replace e0 := below_cell hB e0
      replace e1 := below_cell hB e1
      replace e2 := below_cell hB e2
      replace e3 := below_cell hB e3
      have hB3 := ext_alloc hB (.cells #[.int .i64 (exAt r.ps k).k, .int .i64 (exAt r.ps k).n, .string (exAt r.ps k).s, .slice A' (exAt r.ps k).ps.length c'] 28)
      replace hfd := hfd.below hB3
      have hSw := hS.below hB3
      have HGK := Lib.hid (HP.out k hlt)
      have hlk : ((r.ps.take k).map (kiR (m + 1) s)).length = k := by rw [List.length_map, List.length_take]; omega
      have hap : (r.ps.take (k + 1)).map (kiR (m + 1) s) = (r.ps.take k).map (kiR (m + 1) s) ++ [kiR (m + 1) s (exAt r.ps k)] := by
        rw [List.take_succ_eq_append_getElem hlt, List.map_append, exAt_eq hlt]; rfl
      have HAP := Lib.hid hap
      obtain ⟨ks, hks⟩ : ∃ l, l = (r.ps.take k).map (kiR (m + 1) s) := ⟨_, rfl⟩
      rw [← hks] at hO hlk HAP
      have HST : Hid (kiR (m + 1) s (exAt r.ps k) = 0 → kiR (m + 1 + 1) s r = 0) := Lib.hid (kiR_stop hlt)
      obtain ⟨x, hx⟩ : ∃ x, kiR (m + 1) s (exAt r.ps k) = x := ⟨_, rfl⟩
      have HX := Lib.hid hx
      rw [hx] at HAP HST
      have HC : Hid (∀ W A c, scR W A0 A1 s → exW m W A (exAt r.ps k).ps → Calls Try.prog 69 #[.agg #[.slice A0 s.1.length c0, .slice A1 s.2.length c1], .agg #[.int .i64 (exAt r.ps k).k, .int .i64 (exAt r.ps k).n, .string (exAt r.ps k).s, .slice A (exAt r.ps k).ps.length c]] W fun e w' => e = .returned (.int .i64 x) ∧ Below W.heap.size W w') := Lib.hid (fun W A c h1 h2 => hx ▸ HI.out _ _ _ _ _ _ _ _ _ h1 h2 HGK.out)
      have HLK := Lib.hid hlk
      replace q0 := below_cell (below_alloc wr (.cells #[.int .i64 (exAt r.ps k).k, .int .i64 (exAt r.ps k).n, .string (exAt r.ps k).s, .slice A' (exAt r.ps k).ps.length c'] 28)) q0
      replace q1 := below_cell (below_alloc wr (.cells #[.int .i64 (exAt r.ps k).k, .int .i64 (exAt r.ps k).n, .string (exAt r.ps k).s, .slice A' (exAt r.ps k).ps.length c'] 28)) q1
      have y0 := box_cell wr #[.int .i64 (exAt r.ps k).k, .int .i64 (exAt r.ps k).n, .string (exAt r.ps k).s, .slice A' (exAt r.ps k).ps.length c'] 28 0 _ rfl
      have y1 := box_cell wr #[.int .i64 (exAt r.ps k).k, .int .i64 (exAt r.ps k).n, .string (exAt r.ps k).s, .slice A' (exAt r.ps k).ps.length c'] 28 1 _ rfl
      have y2 := box_cell wr #[.int .i64 (exAt r.ps k).k, .int .i64 (exAt r.ps k).n, .string (exAt r.ps k).s, .slice A' (exAt r.ps k).ps.length c'] 28 2 _ rfl
      have y3 := box_cell wr #[.int .i64 (exAt r.ps k).k, .int .i64 (exAt r.ps k).n, .string (exAt r.ps k).s, .slice A' (exAt r.ps k).ps.length c'] 28 3 _ rfl
      have HBA := Lib.hid (below_alloc wr (.cells #[.int .i64 (exAt r.ps k).k, .int .i64 (exAt r.ps k).n, .string (exAt r.ps k).s, .slice A' (exAt r.ps k).ps.length c'] 28))
      clear hcl hap hks hx hlk
      go_wp2_with fail
      refine (HC.out _ _ _ hSw hfd).mono ?_
      rintro e w1 ⟨rfl, hb⟩
      replace hO := (hO.below HBA.out).below hb
      have hbx := block_in (block_in HBX.out HBA.out) hb
      replace hB := ext_trans hB3 hb
      clear hb e0 e1 e2 e3 hfd hSw p0 p1 p2 p3 q0 q1 y0 y1 y2 y3 hB3 HBA HBX HC
      by_cases gx : x = 0
      · have gxb : (x == 0) = true := by simpa using gx
        have HE := Lib.hid (HST.out gx)
        clear gx
        go_wp2
        go_ret
        exact ⟨by rw [HE.out]; rfl, hB0.trans (hB.mono hB0.size)⟩
      · have gxb : (x == 0) = false := by simpa using gx
        have HN2 : Hid (∀ j, j < k + 1 → kiR (m + 1) s (exAt r.ps j) ≠ 0) := Lib.hid (all_succ (p := fun j => kiR (m + 1) s (exAt r.ps j) ≠ 0) HN.out (by rw [HX.out]; exact gx))
        have hb0 : w1.cell? ⟨gb, 0, none⟩ = some v := (cell_of_row w1 gb 0 _ _ _ hbx).trans rfl
        have hbz : gb + 1 ≤ w1.heap.size := (Array.getElem?_eq_some_iff.1 hbx).1
        have HBX := Lib.hid hbx
        have hks2 : ks.length ≤ 2 := by have := HLK.out; omega
        clear gx HST HX HN hbx
        go_wp2_with (at_builtin; go_must (refine wpList_push (enc := ilEnc) x rfl (.tmp 23) (.tmp 25) 92 3 _ 1 8 rfl Try.underlying92 Try.infoInt rfl (by decide) (fun _ => rfl) ilEnc_one (hO.below (by (repeat (first | exact Below.refl _ _ | refine ext_alloc ?_ _ | refine Below.setCell ?_ (by simp) _)))) rfl (heap_alloc_at (by simp)) (by rfl) (by omega) (by omega) (Nat.le_trans hbz (show Below _ _ _ by (repeat (first | exact Below.refl _ _ | refine ext_alloc ?_ _ | refine Below.setCell ?_ (by simp) _))).size) ?_); intro v_ wq ho_ hb_ hg_; obtain ⟨A5, c5, hv5, hr5⟩ := OwnA.rd (enc := ilEnc) (sz := 1) (fun _ => rfl) (by rw [List.length_append, HLK.out]; simp; omega) ho_; rw [show (ks ++ [x]).length = ks.length + 1 by simp] at hv5; subst hv5; have hbq := (hb_.block gb (by omega)).trans (block_in HBX.out (below_alloc _ _)); have hc0 : wq.cell? ⟨gb, 0, none⟩ = some v := (cell_of_row wq gb 0 _ _ _ hbq).trans rfl; have hf0 := frozen_of_row wq gb 0 _ _ hbq; have HBQ := Lib.hid hbq; clear hbq)
        have hst := setCells_grown gb [.slice A5 (ks.length + 1) c5] wq 0
        have HBX2 : Hid ((setCells wq gb 0 [.slice A5 (ks.length + 1) c5]).heap[gb]? = some (.cells #[.slice A5 (ks.length + 1) c5] 92 (0, 0))) := Lib.hid (setCells_atG [.slice A5 (ks.length + 1) c5] 0 HBQ.out (by simp))
        have HO2 := Lib.hid (ho_.apart hst (fun q hq e => by have := (ho_.ge q hq).1; cases e; omega))
        have hBq : Below W0.heap.size W0 wq := (ext_trans hB (below_alloc _ _)).trans (hb_.mono (by rw [HSZ.out]; omega))
        have HB2 := Lib.hid (setCells_below (Nat.le_of_eq HSZ.out.symm) [.slice A5 (ks.length + 1) c5] 0 hBq)
        clear ho_ hb_ hg_ hst hBq
        go_roundw
        case rel => exact ⟨k + 1, _, by omega, by go_num, HBX2, by rw [HAP.out]; exact HO2.out, HN2, HB2.out⟩
        case measure => simp [intOf]; omega
    · obtain rfl : k = r.ps.length := by omega
      rw [List.take_length] at hO
      have hgo := kiR_go (d := d) (s := s) (t := r) HN.out
      obtain ⟨ks, hks⟩ : ∃ l, l = r.ps.map (kiR d s) := ⟨_, rfl⟩
      rw [← hks] at hO hgo
      have hkl : ks.length = r.ps.length := by rw [hks, List.length_map]
      have HGO := Lib.hid hgo
      have hSw := hS.below hB
      have HBB := Lib.hid (hB0.trans (hB.mono hB0.size))
      obtain ⟨A5, c5, rfl, hr5⟩ := OwnA.rd (enc := ilEnc) (sz := 1) (fun _ => rfl) (by rw [hkl]; omega) hO
      have hr5 : ilR wr A5 ks := hr5
      have zb : wr.cell? ⟨gb, 0, none⟩ = some (.slice A5 ks.length c5) := (cell_of_row wr gb 0 _ _ _ HBX.out).trans rfl
      have hk15 := inB_true.1 (show inB r.k 1 15 = true from (Bool.and_eq_true_iff.1 HHD.out).1)
      have har := HAR.out
      clear hks hgo hO HN HAR HHD hB HQ HP hlt HBX
      rcases (show r.k = 1 ∨ r.k = 2 ∨ r.k = 3 ∨ r.k = 4 ∨ r.k = 5 ∨ r.k = 6 ∨ r.k = 7 ∨ r.k = 8 ∨ r.k = 9 ∨ r.k = 10 ∨ r.k = 11 ∨ r.k = 12 ∨ r.k = 13 ∨ r.k = 14 ∨ r.k = 15 from by omega) with h | h | h | h | h | h | h | h | h | h | h | h | h | h | h
      · rw [h] at p0 har
        have hl : ks.length = 0 := by rw [hkl, har]; rfl
        clear har hkl
        have HE : Hid (kiR (d + 1) s r = 1) := Lib.hid (HGO.out.trans (fin_1 h))
        clear HGO h
        go_wp2
        go_ret
        exact ⟨by rw [HE.out]; rfl, HBB.out⟩
      · rw [h] at p0 har
        have hl : ks.length = 0 := by rw [hkl, har]; rfl
        clear har hkl
        have HE : Hid (kiR (d + 1) s r = 2) := Lib.hid (HGO.out.trans (fin_2 (.inl h)))
        clear HGO h
        go_wp2
        go_ret
        exact ⟨by rw [HE.out]; rfl, HBB.out⟩
      · rw [h] at p0 har
        have hl : ks.length = 0 := by rw [hkl, har]; rfl
        clear har hkl
        have HE : Hid (kiR (d + 1) s r = 3) := Lib.hid (HGO.out.trans (fin_3 (.inl h)))
        clear HGO h
        go_wp2
        go_ret
        exact ⟨by rw [HE.out]; rfl, HBB.out⟩
      · rw [h] at p0 har
        have hl : ks.length = 0 := by rw [hkl, har]; rfl
        clear har hkl
        have HE : Hid (kiR (d + 1) s r = 3) := Lib.hid (HGO.out.trans (fin_3 (.inr (.inl h))))
        clear HGO h
        go_wp2
        go_ret
        exact ⟨by rw [HE.out]; rfl, HBB.out⟩
      · rw [h] at p0 har
        have hl : ks.length = 0 := by rw [hkl, har]; rfl
        clear har hkl
        have HE : Hid (kiR (d + 1) s r = 3) := Lib.hid (HGO.out.trans (fin_3 (.inr (.inr h))))
        clear HGO h
        go_wp2
        go_ret
        exact ⟨by rw [HE.out]; rfl, HBB.out⟩
      · rw [h] at p0 har
        have hl : ks.length = 0 := by rw [hkl, har]; rfl
        clear har hkl
        have HE : Hid (kiR (d + 1) s r = 2) := Lib.hid (HGO.out.trans (fin_2 (.inr h)))
        clear HGO h
        go_wp2
        go_ret
        exact ⟨by rw [HE.out]; rfl, HBB.out⟩
      · rw [h] at p0 har
        have hl : ks.length = 0 := by rw [hkl, har]; rfl
        clear har hkl
        have HE : Hid (kiR (d + 1) s r = kdIn s.2 r.s) := Lib.hid (HGO.out.trans (fin_7 h))
        clear HGO h
        go_wp2_with fail
        refine (kindIn_any rfl hSw.2).mono ?_
        rintro e w1 ⟨rfl, hb⟩
        have HB1 := Lib.hid (ext_trans HBB.out hb)
        clear hb p0 p1 p2 p3 q0 q1 zb
        go_wp2
        go_ret
        exact ⟨by rw [HE.out]; rfl, HB1.out⟩
      · rw [h] at p0 har
        have hl : ks.length = 1 := by rw [hkl, har]; rfl
        clear har hkl
        obtain ⟨q, hq⟩ : ∃ q, allK ks 3 = q := ⟨_, rfl⟩
        have HF : Hid (kiR (d + 1) s r = if q = true then kdIn s.1 r.s else 0) := Lib.hid (by rw [HGO.out, fin_8 h, hq])
        have HA := Lib.hid (kindAll_any (x := 3) zb hr5)
        rw [hq] at HA
        clear HGO h hq hr5 hl
        go_wp2_with fail
        refine HA.out.mono ?_
        rintro e w1 ⟨rfl, hb⟩
        have HB1 := Lib.hid (ext_trans HBB.out hb)
        replace q0 := below_cell hb q0
        replace p2 := below_cell hb p2
        replace hSw := hSw.below hb
        clear hb p0 p1 p3 q1 zb
        cases q
        · go_wp2
          go_ret
          exact ⟨by rw [HF.out]; rfl, HB1.out⟩
        · go_wp2_with fail
          refine (kindIn_any rfl hSw.1).mono ?_
          rintro e w2 ⟨rfl, hb⟩
          have HB2 := Lib.hid (ext_trans HB1.out hb)
          clear hb p2 q0
          go_wp2
          go_ret
          exact ⟨by rw [HF.out]; rfl, HB2.out⟩
      · rw [h] at p0 har
        have hl : ks.length = 1 := by rw [hkl, har]; rfl
        clear har hkl
        obtain ⟨q, hq⟩ : ∃ q, allK ks 3 = q := ⟨_, rfl⟩
        have HF : Hid (kiR (d + 1) s r = if q = true then 1 else 0) := Lib.hid (by rw [HGO.out, fin_9 (.inl h), hq])
        have HA := Lib.hid (kindAll_any (x := 3) zb hr5)
        rw [hq] at HA
        clear HGO h hq hr5 hl
        go_wp2_with fail
        refine HA.out.mono ?_
        rintro e w1 ⟨rfl, hb⟩
        have HB1 := Lib.hid (ext_trans HBB.out hb)
        clear hb p0 p1 p2 p3 q0 q1 zb
        cases q
        all_goals
          go_wp2
          go_ret
          exact ⟨by rw [HF.out]; rfl, HB1.out⟩
      · rw [h] at p0 har
        have hl : ks.length = 2 := by rw [hkl, har]; rfl
        clear har hkl
        have hl1 : 0 < ks.length := by omega
        have hl2 : 1 < ks.length := by omega
        obtain ⟨b5, o5, rfl, hc5⟩ := ilR.cells hr5 hl1
        have y0 := hc5 0 hl1
        have y1 := hc5 1 hl2
        rw [Nat.add_zero] at y0
        obtain ⟨x, hx⟩ : ∃ x, il0 ks 0 = x := ⟨_, rfl⟩
        obtain ⟨z, hz⟩ : ∃ z, il0 ks 1 = z := ⟨_, rfl⟩
        rw [hx] at y0
        rw [hz] at y1
        have HF : Hid (kiR (d + 1) s r = if x = z then 1 else 0) := Lib.hid (by rw [HGO.out, fin_10 h, hx, hz])
        clear HGO h hc5 hx hz hr5 hl
        have y2 := cell_regrown y0
        have y3 := cell_regrown y1
        have y4 := cell_regrown zb
        clear y0 y1
        by_cases e : x = z
        · have gb : (x == z) = true := by simpa using e
          rw [if_pos e] at HF
          go_wp2
          refine wp_region_quiet_below (by kernel_rfl) (by kernel_rfl) ?_
          repeat (go_big_quiet_step (fail))
          refine wpQuiet_nil ?_
          intro w4 hw'regrown
          have HB1 := Lib.hid (ext_trans HBB.out (below_of_regrown hw'regrown (Nat.le_refl _)))
          clear hw'regrown
          go_wp2
          go_ret
          exact ⟨by rw [HF.out]; rfl, HB1.out⟩
        · have gb : (x == z) = false := by simpa using e
          rw [if_neg e] at HF
          go_wp2
          refine wp_region_quiet_below (by kernel_rfl) (by kernel_rfl) ?_
          repeat (go_big_quiet_step (fail))
          refine wpQuiet_nil ?_
          intro w4 hw'regrown
          have HB1 := Lib.hid (ext_trans HBB.out (below_of_regrown hw'regrown (Nat.le_refl _)))
          clear hw'regrown
          go_wp2
          go_ret
          exact ⟨by rw [HF.out]; rfl, HB1.out⟩
      · rw [h] at p0 har
        have hl : ks.length = 2 := by rw [hkl, har]; rfl
        clear har hkl
        obtain ⟨q, hq⟩ : ∃ q, allK ks 2 = q := ⟨_, rfl⟩
        have HF : Hid (kiR (d + 1) s r = if q = true then 1 else 0) := Lib.hid (by rw [HGO.out, fin_11 h, hq])
        have HA := Lib.hid (kindAll_any (x := 2) zb hr5)
        rw [hq] at HA
        clear HGO h hq hr5 hl
        go_wp2_with fail
        refine HA.out.mono ?_
        rintro e w1 ⟨rfl, hb⟩
        have HB1 := Lib.hid (ext_trans HBB.out hb)
        clear hb p0 p1 p2 p3 q0 q1 zb
        cases q
        all_goals
          go_wp2
          go_ret
          exact ⟨by rw [HF.out]; rfl, HB1.out⟩
      · rw [h] at p0 har
        have hl : ks.length = 2 := by rw [hkl, har]; rfl
        clear har hkl
        obtain ⟨q, hq⟩ : ∃ q, allK ks 3 = q := ⟨_, rfl⟩
        have HF : Hid (kiR (d + 1) s r = if q = true then 1 else 0) := Lib.hid (by rw [HGO.out, fin_9 (.inr h), hq])
        have HA := Lib.hid (kindAll_any (x := 3) zb hr5)
        rw [hq] at HA
        clear HGO h hq hr5 hl
        go_wp2_with fail
        refine HA.out.mono ?_
        rintro e w1 ⟨rfl, hb⟩
        have HB1 := Lib.hid (ext_trans HBB.out hb)
        clear hb p0 p1 p2 p3 q0 q1 zb
        cases q
        all_goals
          go_wp2
          go_ret
          exact ⟨by rw [HF.out]; rfl, HB1.out⟩
      · rw [h] at p0 har
        have hl : ks.length = 1 := by rw [hkl, har]; rfl
        clear har hkl
        obtain ⟨q, hq⟩ : ∃ q, allK ks 1 = q := ⟨_, rfl⟩
        have HF : Hid (kiR (d + 1) s r = if q = true then 1 else 0) := Lib.hid (by rw [HGO.out, fin_13 (.inl h), hq])
        have HA := Lib.hid (kindAll_any (x := 1) zb hr5)
        rw [hq] at HA
        clear HGO h hq hr5 hl
        go_wp2_with fail
        refine HA.out.mono ?_
        rintro e w1 ⟨rfl, hb⟩
        have HB1 := Lib.hid (ext_trans HBB.out hb)
        clear hb p0 p1 p2 p3 q0 q1 zb
        cases q
        all_goals
          go_wp2
          go_ret
          exact ⟨by rw [HF.out]; rfl, HB1.out⟩
      · rw [h] at p0 har
        have hl : ks.length = 2 := by rw [hkl, har]; rfl
        clear har hkl
        obtain ⟨q, hq⟩ : ∃ q, allK ks 1 = q := ⟨_, rfl⟩
        have HF : Hid (kiR (d + 1) s r = if q = true then 1 else 0) := Lib.hid (by rw [HGO.out, fin_13 (.inr (.inl h)), hq])
        have HA := Lib.hid (kindAll_any (x := 1) zb hr5)
        rw [hq] at HA
        clear HGO h hq hr5 hl
        go_wp2_with fail
        refine HA.out.mono ?_
        rintro e w1 ⟨rfl, hb⟩
        have HB1 := Lib.hid (ext_trans HBB.out hb)
        clear hb p0 p1 p2 p3 q0 q1 zb
        cases q
        all_goals
          go_wp2
          go_ret
          exact ⟨by rw [HF.out]; rfl, HB1.out⟩
      · rw [h] at p0 har
        have hl : ks.length = 2 := by rw [hkl, har]; rfl
        clear har hkl
        obtain ⟨q, hq⟩ : ∃ q, allK ks 1 = q := ⟨_, rfl⟩
        have HF : Hid (kiR (d + 1) s r = if q = true then 1 else 0) := Lib.hid (by rw [HGO.out, fin_13 (.inr (.inr h)), hq])
        have HA := Lib.hid (kindAll_any (x := 1) zb hr5)
        rw [hq] at HA
        clear HGO h hq hr5 hl
        go_wp2_with fail
        refine HA.out.mono ?_
        rintro e w1 ⟨rfl, hb⟩
        have HB1 := Lib.hid (ext_trans HBB.out hb)
        clear hb p0 p1 p2 p3 q0 q1 zb
        cases q
        all_goals
          go_wp2
          go_ret
          exact ⟨by rw [HF.out]; rfl, HB1.out⟩
theorem kiQ_all : ∀ d, KiQ d
  | 0 => kiQ_of (fun m h => by omega)
  | d + 1 => kiQ_of (fun m h => by cases h; exact kiQ_all d)
end Go.Proofs.Ytodjokdaofefdaa

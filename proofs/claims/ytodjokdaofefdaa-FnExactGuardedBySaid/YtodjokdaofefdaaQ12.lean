/- Guards that are added, by the reference: the whole. -/
import Derived.Test.YtodjokdaofefdaaQ7
import Derived.Test.YtodjokdaofefdaaQ11
import Derived.Test.YtodjokdaofefdaaQ8
namespace Go.Proofs.Ytodjokdaofefdaa
set_option linter.unusedSimpArgs false
set_option linter.unusedVariables false
open Go.RowKit

/-- An expression whose parts stand in blocks of which P holds. -/
def exP (P : Nat → Prop) : Nat → World → Ex → List Value → Prop
  | 0, _, _, _ => False
  | d + 1, w, t, cs => ∃ A c, cs = exHead t (.slice A t.ps.length c) ∧ RdL (exP P d) 4 w A t.ps ∧ (0 < t.ps.length → ∀ a, A = some a → P a.block) ∧ t.s.size ≤ 9223372036854775807
def exQ (P : Nat → Prop) (d : Nat) (w : World) (A : Option Addr) (l : ExL) : Prop := RdL (exP P d) 4 w A l ∧ (0 < l.length → ∀ a, A = some a → P a.block)
section
variable {P P' : Nat → Prop} {w w' : World} {A : Option Addr} {l : ExL}
theorem exP.keep (hk : ∀ k, P k → P' k ∧ w'.heap[k]? = w.heap[k]?) : ∀ {d d' : Nat} {t : Ex} {cs : List Value}, d ≤ d' → exP P d w t cs → exP P' d' w' t cs
  | 0, _, _, _, _, h => h.elim
  | d + 1, 0, _, _, hd, _ => by omega
  | d + 1, d' + 1, t, cs, hd, ⟨A, c, e, h3, h4, h5⟩ => ⟨A, c, e, RdL.keep h3 (fun _ _ h => exP.keep hk (by omega) h) (fun hn a ha => (hk _ (h4 hn a ha)).2), fun hn a ha => (hk _ (h4 hn a ha)).1, h5⟩
theorem exQ.keep {d d' : Nat} (h : exQ P d w A l) (hd : d ≤ d') (hk : ∀ k, P k → P' k ∧ w'.heap[k]? = w.heap[k]?) : exQ P' d' w' A l :=
  ⟨RdL.keep h.1 (fun _ _ h => exP.keep hk hd h) (fun hn a ha => (hk _ (h.2 hn a ha)).2), fun hn a ha => (hk _ (h.2 hn a ha)).1⟩
theorem exR.p {lo hi : Nat} : ∀ {d : Nat} {t : Ex} {cs : List Value}, (∀ k, lo ≤ k → k < hi → P k) → exR d lo hi w t cs → exP P d w t cs
  | 0, _, _, _, h => h.elim
  | d + 1, t, cs, hP, ⟨A, c, e, h3, h4, h5⟩ => ⟨A, c, e, RdL.keep h3 (fun _ _ h => exR.p hP h) (fun _ _ _ => rfl), fun hn a ha => hP _ (h4 hn a ha).1 (h4 hn a ha).2, h5⟩
theorem exS.q {d lo hi : Nat} (h : exS d lo hi w A l) (hP : ∀ k, lo ≤ k → k < hi → P k) : exQ P d w A l :=
  ⟨RdL.keep h.1 (fun _ _ h => exR.p hP h) (fun _ _ _ => rfl), fun hn a ha => hP _ (h.2 hn a ha).1 (h.2 hn a ha).2⟩
theorem exP.r {lo hi : Nat} : ∀ {d : Nat} {t : Ex} {cs : List Value}, (∀ k, P k → lo ≤ k ∧ k < hi) → exP P d w t cs → exR d lo hi w t cs
  | 0, _, _, _, h => h.elim
  | d + 1, t, cs, hP, ⟨A, c, e, h3, h4, h5⟩ => ⟨A, c, e, RdL.keep h3 (fun _ _ h => exP.r hP h) (fun _ _ _ => rfl), fun hn a ha => hP _ (h4 hn a ha), h5⟩
theorem exQ.s {d lo hi : Nat} (h : exQ P d w A l) (hP : ∀ k, P k → lo ≤ k ∧ k < hi) : exS d lo hi w A l :=
  ⟨RdL.keep h.1 (fun _ _ h => exP.r hP h) (fun _ _ _ => rfl), fun hn a ha => hP _ (h.2 hn a ha)⟩
end
/-- As it reads from block lo on without block g. -/
def exG (lo g d : Nat) (w : World) (A : Option Addr) (l : ExL) : Prop := exQ (fun k => lo ≤ k ∧ k ≠ g ∧ k < w.heap.size) d w A l
section
variable {lo g d d' : Nat} {w w' : World} {A : Option Addr} {l : ExL}
theorem exG.toW (h : exG lo g d w A l) : exW d w A l := h.s (fun k hk => ⟨Nat.zero_le _, hk.2.2⟩)
theorem exG.below (h : exG lo g d w A l) (hb : Below w.heap.size w w') : exG lo g d w' A l := exQ.keep h (Nat.le_refl _) (fun k hk => ⟨⟨hk.1, hk.2.1, Nat.lt_of_lt_of_le hk.2.2 hb.size⟩, hb.block k hk.2.2⟩)
theorem exG.grown (h : exG lo g d w A l) (hg : w.grownBy w' (some g)) : exG lo g d w' A l := exQ.keep h (Nat.le_refl _) (fun k hk => ⟨⟨hk.1, hk.2.1, Nat.lt_of_lt_of_le hk.2.2 hg.size⟩, hg.block k hk.2.2 (fun e => hk.2.1 (by cases e; rfl))⟩)
theorem exG.low {row : Option Nat} (h : exG lo g d w A l) (hg : w.grownBy w' row) (hr : ∀ k, row = some k → k < lo) : exG lo g d w' A l := exQ.keep h (Nat.le_refl _) (fun k hk => ⟨⟨hk.1, hk.2.1, Nat.lt_of_lt_of_le hk.2.2 hg.size⟩, hg.block k hk.2.2 (fun e => by have := hr k e.symm; omega)⟩)
theorem exG.deeper (h : exG lo g d w A l) (hd : d ≤ d') : exG lo g d' w A l := exQ.keep h hd (fun _ hk => ⟨hk, rfl⟩)
theorem exS.toG {a b : Nat} (h : exS d a b w A l) (h0 : lo ≤ a) (hg : g < a ∨ b ≤ g) (hh : b ≤ w.heap.size) : exG lo g d w A l := exS.q h (fun k h1 h2 => ⟨by omega, by omega, by omega⟩)
/-- A row of two, laid anew. -/
theorem exG.two {b c1 c2 : Nat} {A1 A2 : Option Addr} {t1 t2 : Ex} (hb : w.heap[b]? = some (.cells #[.int .i64 t1.k, .int .i64 t1.n, .string t1.s, .slice A1 t1.ps.length c1, .int .i64 t2.k, .int .i64 t2.n, .string t2.s, .slice A2 t2.ps.length c2] 28 (0, 0))) (h0 : lo ≤ b) (hg : b ≠ g)
    (h1 : exG lo g d w A1 t1.ps) (h2 : exG lo g d w A2 t2.ps) (s1 : t1.s.size ≤ 9223372036854775807) (s2 : t2.s.size ≤ 9223372036854775807) : exG lo g (d + 1) w (some ⟨b, 0, none⟩) [t1, t2] := by
  refine ⟨⟨by simp, fun _ => ⟨b, 0, rfl, fun k hk => ?_⟩⟩, fun _ a ha => ?_⟩
  · match k, hk with
    | 0, _ => exact ⟨_, rfl, ⟨A1, c1, rfl, h1.1, h1.2, s1⟩, fun j v hv => by
        rw [cell_of_row w b _ _ _ (0, 0) hb]
        match j, hv with
        | 0, hv => exact hv
        | 1, hv => exact hv
        | 2, hv => exact hv
        | 3, hv => exact hv
        | n + 4, hv => simp [exHead] at hv⟩
    | 1, _ => exact ⟨_, rfl, ⟨A2, c2, rfl, h2.1, h2.2, s2⟩, fun j v hv => by
        rw [cell_of_row w b _ _ _ (0, 0) hb]
        match j, hv with
        | 0, hv => exact hv
        | 1, hv => exact hv
        | 2, hv => exact hv
        | 3, hv => exact hv
        | n + 4, hv => simp [exHead] at hv⟩
    | n + 2, hk => exact absurd hk (by simp)
  · cases ha
    exact ⟨h0, hg, (Array.getElem?_eq_some_iff.1 hb).1⟩
end
theorem cells4 {w : World} {g : Nat} {T : TypeId} {a b c d : Value} (h : w.heap[g]? = some (.cells #[a, b, c, d] T (0, 0))) : w.cell? ⟨g, 0, none⟩ = some a ∧ w.cell? ⟨g, 1, none⟩ = some b ∧ w.cell? ⟨g, 2, none⟩ = some c ∧ w.cell? ⟨g, 3, none⟩ = some d :=
  ⟨(cell_of_row w g 0 _ _ _ h).trans rfl, (cell_of_row w g 1 _ _ _ h).trans rfl, (cell_of_row w g 2 _ _ _ h).trans rfl, (cell_of_row w g 3 _ _ _ h).trans rfl⟩
theorem froz4 {w : World} {g : Nat} {T : TypeId} {cs : Array Value} (h : w.heap[g]? = some (.cells cs T (0, 0))) : w.frozen? ⟨g, 0, none⟩ = false ∧ w.frozen? ⟨g, 1, none⟩ = false ∧ w.frozen? ⟨g, 2, none⟩ = false ∧ w.frozen? ⟨g, 3, none⟩ = false :=
  ⟨frozen_of_row w g 0 _ _ h, frozen_of_row w g 1 _ _ h, frozen_of_row w g 2 _ _ h, frozen_of_row w g 3 _ _ h⟩
/-- A box with an expression. -/
def ExBx (g : Nat) (t : Ex) (w : World) (A : Option Addr) (c : Nat) : Prop := w.heap[g]? = some (.cells #[.int .i64 t.k, .int .i64 t.n, .string t.s, .slice A t.ps.length c] 28 (0, 0))
def GbH (lo g d : Nat) (t : Ex) (W w : World) : Prop := ∃ A c, ExBx g t w A c ∧ exG lo g d w A t.ps ∧ Below g W w
theorem GbH.below {lo g d : Nat} {t : Ex} {W w w' : World} (h : GbH lo g d t W w) (hb : Below w.heap.size w w') : GbH lo g d t W w' := by
  obtain ⟨A, c, h1, h2, h3⟩ := h
  have hg := (Array.getElem?_eq_some_iff.1 h1).1
  exact ⟨A, c, block_below h1 hb, h2.below hb, h3.trans (hb.mono (by omega))⟩
def ExG (lo g d : Nat) (r : Ex) (w : World) (v : Value) : Prop := ∃ A c, v = .agg #[.int .i64 r.k, .int .i64 r.n, .string r.s, .slice A r.ps.length c] ∧ exG lo g d w A r.ps
theorem ExG.below {lo g d : Nat} {r : Ex} {w w' : World} {v : Value} (h : ExG lo g d r w v) (hb : Below w.heap.size w w') : ExG lo g d r w' v := let ⟨A, c, e, h⟩ := h; ⟨A, c, e, h.below hb⟩
def TwG (lo g d : Nat) (t1 t2 : Ex) (w : World) (v : Value) : Prop := ∃ b, v = .slice (some ⟨b, 0, none⟩) 2 2 ∧ exG lo g d w (some ⟨b, 0, none⟩) [t1, t2]
theorem TwG.below {lo g d : Nat} {t1 t2 : Ex} {w w' : World} {v : Value} (h : TwG lo g d t1 t2 w v) (hb : Below w.heap.size w w') : TwG lo g d t1 t2 w' v := let ⟨b, e, h⟩ := h; ⟨b, e, h.below hb⟩
theorem join_s {t : Ex} (hs : t.s.size ≤ 9223372036854775807) : ∀ l : ExL, (joinE l t).s.size ≤ 9223372036854775807
  | [] => hs
  | _ :: _ => by show ByteArray.empty.size ≤ _; simp
/-- What GuardedBy leaves. -/
def GbPost (d : Nat) (r : Ex) (w : World) (e : Ending) (w' : World) : Prop := ∃ A c, e = .returned (.tuple #[.agg #[.int .i64 (gbE d r).k, .int .i64 (gbE d r).n, .string (gbE d r).s, .slice A (gbE d r).ps.length c], .bool (gbB d r)]) ∧ exW (d + (gbL d r).length) w' A (gbE d r).ps ∧ Below w.heap.size w w'
theorem gb_no {d : Nat} {r : Ex} (h : gbB d r = false) : gbE d r = exD := by rw [gbE, h]; rfl
theorem gb_yes {d : Nat} {r : Ex} (h : gbB d r = true) : gbE d r = gbO d r := by rw [gbE, if_pos h]
theorem GbPost.no {d : Nat} {r : Ex} {w w' : World} (h : gbB d r = false) (hb : Below w.heap.size w w') : GbPost d r w (.returned (.tuple #[.agg #[.int .i64 0, .int .i64 0, .string ⟨#[]⟩, .slice Option.none 0 0], .bool false])) w' := by
  refine ⟨Option.none, 0, ?_, ?_, hb⟩
  · rw [h, gb_no h]; rfl
  · rw [gb_no h]; exact exS.nil
theorem in_cnt {d : Nat} {t : Ex} (h : inD d t) {C : Nat} (hc : cntR d t ≤ C) : ∀ m, cntR m t ≤ C := fun m => Nat.le_trans (cnt_max d t m h) hc
set_option maxRecDepth 100000 in
set_option maxHeartbeats 16000000 in
theorem specGuardedBy {d : Nat} {A : Option Addr} {r : Ex} {c : Nat} {w : World} (hU : exW d w A r.ps) (hs : r.s.size ≤ 9223372036854775807) (hcnt : cntS d r.ps ≤ 2097152) :
    Calls Try.prog 24 #[.agg #[.int .i64 r.k, .int .i64 r.n, .string r.s, .slice A r.ps.length c]] w (GbPost d r w) := by
  have hlen := exS.len hU
  obtain ⟨gx, hgx⟩ : ∃ g, g = w.heap.size := ⟨_, rfl⟩
  obtain ⟨W, hW⟩ : ∃ W, W = (w.alloc (.cells #[.int .i64 r.k, .int .i64 r.n, .string r.s, .slice A r.ps.length c] 28)).alloc (.cells #[.int .i64 0, .int .i64 0, .string ⟨#[]⟩, .slice Option.none 0 0] 28) := ⟨_, rfl⟩
  have hBW : Below w.heap.size w W := by rw [hW]; (repeat (first | exact Below.refl _ _ | refine ext_alloc ?_ _ | refine Below.setCell ?_ (by simp) _))
  have hWs : W.heap.size = w.heap.size + 2 := by rw [hW]; simp
  have hbx : W.heap[gx]? = some (.cells #[.int .i64 r.k, .int .i64 r.n, .string r.s, .slice A r.ps.length c] 28 (0, 0)) := by rw [hW, hgx]; exact block_below (heap_alloc_at rfl) (below_alloc _ _)
  have hb2 : W.heap[gx + 1]? = some (.cells #[.int .i64 0, .int .i64 0, .string ⟨#[]⟩, .slice Option.none 0 0] 28 (0, 0)) := by rw [hW, hgx]; exact heap_alloc_at (by simp)
  have b0 : W.cell? ⟨gx, 0, none⟩ = some _ := (cell_of_row W gx 0 _ _ _ hbx).trans rfl
  have b1 : W.cell? ⟨gx, 1, none⟩ = some _ := (cell_of_row W gx 1 _ _ _ hbx).trans rfl
  have b2 : W.cell? ⟨gx, 2, none⟩ = some _ := (cell_of_row W gx 2 _ _ _ hbx).trans rfl
  have b3 : W.cell? ⟨gx, 3, none⟩ = some _ := (cell_of_row W gx 3 _ _ _ hbx).trans rfl
  have hUW := hU.below hBW
  have hin := exS_in hU
  have HW := Lib.hid hW
  have HGX := Lib.hid hgx
  have HU0 := Lib.hid hU
  have HBX := Lib.hid hbx
  have HB2 := Lib.hid hb2
  have hgW : gx + 2 = W.heap.size := by omega
  have HGW := Lib.hid hgW
  have hB := hBW
  have HBW0 := Lib.hid hBW
  clear hW hgx hU hbx hb2 hBW hWs hgW
  cases hok : exOk r
  · have HR : Hid (gbB d r = false) := Lib.hid (by rw [gbB, hok]; rfl)
    go_enter Try.func24, Try.ntmps24
    go_wp2_with fail
    rw [← HW.out, ← HGX.out]
    refine (specExprValid hUW hs hcnt).mono ?_
    rintro e w1 ⟨rfl, hb⟩
    rw [hok]
    have hr2 := block_below HB2.out hb
    replace hB := ext_trans hB hb
    clear b0 b1 b2 b3 hok hUW hb
    have y0 : w1.cell? ⟨gx + 1, 0, none⟩ = some _ := (cell_of_row w1 (gx + 1) 0 _ _ _ hr2).trans rfl
    have y1 : w1.cell? ⟨gx + 1, 1, none⟩ = some _ := (cell_of_row w1 (gx + 1) 1 _ _ _ hr2).trans rfl
    have y2 : w1.cell? ⟨gx + 1, 2, none⟩ = some _ := (cell_of_row w1 (gx + 1) 2 _ _ _ hr2).trans rfl
    have y3 : w1.cell? ⟨gx + 1, 3, none⟩ = some _ := (cell_of_row w1 (gx + 1) 3 _ _ _ hr2).trans rfl
    have z0 := frozen_of_row w1 (gx + 1) 0 _ _ hr2
    have z1 := frozen_of_row w1 (gx + 1) 1 _ _ hr2
    have z2 := frozen_of_row w1 (gx + 1) 2 _ _ hr2
    have z3 := frozen_of_row w1 (gx + 1) 3 _ _ hr2
    clear hr2
    go_wp2
    refine bodyPost_ret (v := .tuple #[.agg #[.int .i64 0, .int .i64 0, .string ⟨#[]⟩, .slice Option.none 0 0], .bool false]) (by simp [results, go_sem, y0, y1, y2, y3]) rfl (GbPost.no HR.out ?_)
    exact setCells_below (by have := HGX.out; omega) [.int .i64 0, .int .i64 0, .string ⟨#[]⟩, .slice Option.none 0 0] 0 hB
  obtain ⟨hgd, hc40⟩ := ok_parts hin hok
  have hcn : ∀ m, cntR m r ≤ 1048576 := in_cnt hin (show cntR (d + 1) r ≤ 1048576 by omega)
  cases has : asB (d + 1) r
  · obtain ⟨L, hL⟩ : ∃ L, L = gbL d r := ⟨_, rfl⟩
    have hLl : L.length ≤ 40 := by
      have := fi_len (d + 1) r []
      rw [hL, gbL]
      simp only [List.length_nil] at this
      omega
    have hLm : ∀ x ∈ L, ∀ m, cntR m x ≤ 39 := by rw [hL]; exact fi_mem (d + 1) r [] (in_cnt hin (by omega)) (by simp)
    have hc0 := join_cnt (t := r) L hLm (in_cnt hin (show cntR (d + 1) r ≤ 39 by omega))
    have HO : Hid (gbO d r = joinE L r) := Lib.hid (by rw [hL]; rfl)
    have HD : Hid (d + (gbL d r).length = d + L.length) := Lib.hid (by rw [hL])
    have HL : Hid (fiS (d + 1) r [] = L) := Lib.hid hL.symm
    have HCN := Lib.hid hcn
    have HLM : Hid (∀ x ∈ L, ∀ m, cntR m x ≤ 1048576) := Lib.hid (fun x hx m => Nat.le_trans (hLm x hx m) (by omega))
    have HC0 : Hid (∀ m, cntR m (joinE L r) ≤ 2097152) := Lib.hid (fun m => by
      have h1 := hc0 m
      have h2 : L.length * (39 + 2) ≤ 40 * (39 + 2) := Nat.mul_le_mul_right _ hLl
      omega)
    have HC1 : Hid (([] : ExL).length + 1 + cntR (d + 1) r ≤ 1048576) := Lib.hid (by simp; omega)
    have HBB : Hid (gbB d r = exOk (joinE L r)) := Lib.hid (by rw [gbB, hok, has, HO.out]; rfl)
    have HAS := Lib.hid has
    clear hc0 hLm hcn has hL hgd hc40
    go_enter Try.func24, Try.ntmps24
    go_wp2_with fail
    rw [← HW.out, ← HGX.out]
    refine (specExprValid hUW hs hcnt).mono ?_
    rintro e w1 ⟨rfl, hb⟩
    rw [hok]
    have hX := hb
    replace hB := ext_trans hB hb
    obtain ⟨b0', b1', b2', b3'⟩ := cells4 (block_below HBX.out hX)
    clear b0 b1 b2 b3 hok hb
    go_wp2_with fail
    refine (asQ_all d _ _ _ _ (hUW.below hX)).mono ?_
    rintro e w2 ⟨rfl, hb⟩
    rw [HAS.out]
    replace hX := ext_trans hX hb
    obtain ⟨b0, b1, b2, b3⟩ := cells4 (block_below HBX.out hX)
    clear b0' b1' b2' b3' hb
    go_wp2_with fail
    refine (fiQ_all (d + 1) d _ _ r [] c _ _ ((hUW.below hX).below (below_alloc _ _)) hs exS.nil (Nat.le_refl _) HC1.out).mono ?_
    rw [HL.out]
    rintro e w3 ⟨A6, c6, rfl, hk6, hb⟩
    replace hX := ext_trans hX (ext_trans (below_alloc _ _) hb)
    obtain ⟨b0', b1', b2', b3'⟩ := cells4 (block_below HBX.out hX)
    have HK6 := Lib.hid hk6
    have hw3 := hX.size
    have hll := exS.len hk6
    clear b0 b1 b2 b3 hb hk6
    go_wp2_with fail
    refine (cpQ_all d _ _ _ _ (hUW.below hX) hs HCN.out).mono ?_
    rintro e w4 ⟨A7, c7, rfl, h7, hb⟩
    have h34 := hb.size
    replace hX := ext_trans hX hb
    obtain ⟨X, hXX⟩ : ∃ X, X = w4.alloc (.cells #[.int .i64 r.k, .int .i64 r.n, .string r.s, .slice A7 r.ps.length c7] 28) := ⟨_, rfl⟩
    obtain ⟨g5, hg5⟩ : ∃ g, g = w4.heap.size := ⟨_, rfl⟩
    have hbX : Below w4.heap.size w4 X := by rw [hXX]; exact below_alloc _ _
    have hX5 : ExBx g5 r X A7 c7 := by rw [ExBx, hXX, hg5]; exact heap_alloc_new _ _
    have hwX := hX.size
    have h3X := (ext_trans (show Below W.heap.size W W from Below.refl _ _) (hX.trans (hbX.mono hX.size)))
    obtain ⟨A7', c7', e7, hr7⟩ := h7.rd
    cases e7
    have hG5 : exG W.heap.size g5 d X A7 r.ps := (exS.toG (hr7.keep (fun q _ hq => hbX.block q hq) (Nat.le_refl _) (Nat.le_refl _)) hw3 (.inr (by omega)) hbX.size)
    have hs5 : g5 + 1 = X.heap.size := by rw [hXX, hg5]; simp
    have H35 : Hid (w3.heap.size ≤ g5) := Lib.hid (by rw [hg5]; exact h34)
    have HW3 : Hid (W.heap.size ≤ g5) := Lib.hid (by rw [hg5]; omega)
    have HG5 := Lib.hid hg5
    have HXX := Lib.hid hXX
    have HS5 := Lib.hid hs5
    have H3X : Hid (Below w3.heap.size w3 X) := Lib.hid (ext_trans hb hbX)
    have HWX := Lib.hid h3X
    have HGB : Hid (GbH W.heap.size g5 d r X X) := Lib.hid ⟨A7, c7, hX5, hG5, Below.refl _ _⟩
    clear hXX hg5 hbX hX5 hr7 h7 hG5 h3X hs5 b0' b1' b2' b3' hb hX
    have HJ : Hid (joinE (L.drop L.length) r = r) := Lib.hid (by rw [List.drop_length]; rfl)
    have HS := Lib.hid hs
    clear hw3 h34 hwX
    go_wp2_with fail
    rw [← HXX.out, ← HG5.out]
    go_loopw [6] (fun iv wr => ∃ q : Nat, q ≤ L.length ∧ iv = .int .i64 ((q : Int) - 1) ∧ GbH W.heap.size g5 (d + (L.length - q)) (joinE (L.drop q) r) X wr) (fun iv _ => (intOf iv + 1).toNat)
    case atStart => exact ⟨L.length, Nat.le_refl _, rfl, by rw [HJ.out, Nat.sub_self]; exact HGB.out⟩
    case round =>
      obtain ⟨q, hq, rfl, A9, c9, hbx, hG, hBX⟩ := hrel
      have hgw := (Array.getElem?_eq_some_iff.1 hbx).1
      have h3 := H3X.out.trans (hBX.mono H35.out)
      cases q with
      | zero =>
        obtain ⟨x0, x1, x2, x3⟩ := cells4 hbx
        have hgO : joinE (L.drop 0) r = joinE L r := rfl
        obtain ⟨o, ho⟩ : ∃ o, o = joinE L r := ⟨_, rfl⟩
        obtain ⟨D, hD⟩ : ∃ D, D = d + L.length := ⟨_, rfl⟩
        have hos := join_s HS.out L
        have hco := HC0.out (D + 1)
        rw [hgO, ← ho] at hG x0 x1 x2 x3
        rw [Nat.sub_zero, ← hD] at hG
        rw [← ho] at hos hco
        have HOO : Hid (gbO d r = o) := Lib.hid (by rw [HO.out, ho])
        have HDD : Hid (d + (gbL d r).length = D) := Lib.hid (by rw [HD.out, hD])
        have HYB : Hid (gbB d r = exOk o) := Lib.hid (by rw [HBB.out, ho])
        have hB9 : Below w.heap.size w wr := (HBW0.out.trans (HWX.out.mono HBW0.out.size)).trans (hBX.mono (Nat.le_trans HBW0.out.size HW3.out))
        have HGG := Lib.hid hG
        have HBR : Hid (∀ q, q < g5 → wr.heap[q]? = X.heap[q]?) := Lib.hid (fun q hq => hBX.block q hq)
        clear ho hD hbx hG hBX h3 hgO
        have e1 : ((0 : Nat) : Int) - 1 = -1 := by omega
        rw [e1]
        have hcq : cntS D o.ps ≤ 2097152 := hco
        have hr2 : wr.heap[gx + 1]? = some (.cells #[.int .i64 0, .int .i64 0, .string ⟨#[]⟩, .slice Option.none 0 0] 28 (0, 0)) := (HBR.out _ (by have := HGW.out; have := HW3.out; omega)).trans (block_below HB2.out HWX.out)
        go_wp2_with fail
        refine (specExprValid HGG.out.toW hos hcq).mono ?_
        rintro e w5 ⟨rfl, hb⟩
        replace hr2 := block_below hr2 hb
        replace hB9 := ext_trans hB9 hb
        have hG5 := HGG.out.below hb
        obtain ⟨y0, y1, y2, y3⟩ := cells4 hr2
        obtain ⟨z0, z1, z2, z3⟩ := froz4 hr2
        replace x0 := below_cell hb x0
        replace x1 := below_cell hb x1
        replace x2 := below_cell hb x2
        replace x3 := below_cell hb x3
        have HG6 := Lib.hid hG5
        have hgx2 : w.heap.size ≤ gx + 1 := by have := HGX.out; omega
        obtain ⟨y, hy⟩ : ∃ y, exOk o = y := ⟨_, rfl⟩
        have HYY : Hid (gbB d r = y) := Lib.hid (by rw [HYB.out, hy])
        rw [hy]
        clear hr2 hb hG5 hy hco hcq
        cases y
        · go_wp2
          refine bodyPost_ret (v := .tuple #[.agg #[.int .i64 0, .int .i64 0, .string ⟨#[]⟩, .slice Option.none 0 0], .bool false]) (by simp [results, go_sem, y0, y1, y2, y3]) rfl (GbPost.no HYY.out ?_)
          exact setCells_below hgx2 [.int .i64 0, .int .i64 0, .string ⟨#[]⟩, .slice Option.none 0 0] 0 hB9
        · go_wp2
          refine bodyPost_ret (v := .tuple #[.agg #[.int .i64 o.k, .int .i64 o.n, .string o.s, .slice A9 o.ps.length c9], .bool true]) (by simp [results, go_sem, y0, y1, y2, y3]) rfl ⟨A9, c9, ?_, ?_, ?_⟩
          · rw [gb_yes HYY.out, HYY.out, HOO.out]
          · rw [gb_yes HYY.out, HDD.out, HOO.out]
            exact (HG6.out.low (setCells_grown (gx + 1) [.int .i64 o.k, .int .i64 o.n, .string o.s, .slice A9 o.ps.length c9] w5 0) (fun q e => by cases e; have := HGW.out; omega)).toW
          · exact setCells_below hgx2 [.int .i64 o.k, .int .i64 o.n, .string o.s, .slice A9 o.ps.length c9] 0 hB9
      | succ p =>
        have hp : p < L.length := by omega
        have hk6 := HK6.out.below h3
        obtain ⟨b, off, rfl, hc⟩ := hk6.cells (by omega)
        obtain ⟨A1, c1, hfd, hs1, p0, p1, p2, p3⟩ := hc p hp
        obtain ⟨x0, x1, x2, x3⟩ := cells4 hbx
        have HCP : Hid (∀ m, cntR m (exAt L p) ≤ 1048576) := Lib.hid (by rw [exAt_eq hp]; exact HLM.out _ (List.getElem_mem hp))
        have HJD : Hid (joinE (L.drop p) r = .nd 14 0 ByteArray.empty [exAt L p, joinE (L.drop (p + 1)) r]) := Lib.hid (join_drop hp)
        have hdd : d + (L.length - p) = d + (L.length - (p + 1)) + 1 := by omega
        have HDD := Lib.hid hdd
        obtain ⟨D, hD⟩ : ∃ D, D = d + (L.length - (p + 1)) := ⟨_, rfl⟩
        have hdD : d ≤ D := by omega
        rw [← hD] at hG HDD
        have hos := join_s HS.out (L.drop (p + 1))
        obtain ⟨o, ho⟩ : ∃ o, o = joinE (L.drop (p + 1)) r := ⟨_, rfl⟩
        rw [← ho] at hG hos x0 x1 x2 x3 HJD hbx
        have HBXX := Lib.hid hbx
        have HS1 := Lib.hid hs1
        have HOS := Lib.hid hos
        have HFD := Lib.hid hfd
        have HGO := Lib.hid hG
        have HBW := Lib.hid hBX
        have hwx := hBX.size
        have HWXS := Lib.hid HWX.out.size
        clear hc hdd hD hos ho hbx hs1 hfd hG hBX h3 hk6
        have e1 : ((p + 1 : Nat) : Int) - 1 = (p : Int) := by omega
        rw [e1]
        go_wp2_with fail
        refine wp_region_draws2H (some 8) (fun wz => Below wr.heap.size wr wz) (fun wz => GbH W.heap.size g5 (D + 1) (.nd 14 0 ByteArray.empty [exAt L p, o]) X wz) (fun i wz vz => match i with | 0 => vz = .slice (some ⟨b, off, none⟩) L.length c6 | 1 => vz = .int .i64 p | 2 => vz = .pointer (some ⟨b, off + p * 4, Option.none⟩) | 3 => vz = .agg #[.int .i64 (exAt L p).k, .int .i64 (exAt L p).n, .string (exAt L p).s, .slice A1 (exAt L p).ps.length c1] | 4 => ExG W.heap.size g5 d (exAt L p) wz vz | 5 => vz = .agg #[.int .i64 o.k, .int .i64 o.n, .string o.s, .slice A9 o.ps.length c9] | 6 => TwG W.heap.size g5 (D + 1) (exAt L p) o wz vz | 7 => ExG W.heap.size g5 (D + 1) (.nd 14 0 ByteArray.empty [exAt L p, o]) wz vz | _ => True) (fun _ _ => True) (fun i w w' => i = 8 ∨ Below w.heap.size w w') (fun j => match j with | 4 => some 8 | 6 => some 8 | 7 => some 8 | _ => Option.none) (by kernel_rfl) (by kernel_rfl) (by kernel_rfl) ?stab8 ?stabG8 ?stabH8 trivial (ext_drew (Below.refl _ _)) ?all8 ?fin8
        case stab8 =>
          intro i j wa wb v hR hk hne hd _ h2 hT
          match j, hk, hne, hd, h2, hT with
          | 0, hk, hne, hd, h2, hT => exact (hT)
          | 1, hk, hne, hd, h2, hT => exact (hT)
          | 2, hk, hne, hd, h2, hT => exact (hT)
          | 3, hk, hne, hd, h2, hT => exact (hT)
          | 4, hk, hne, hd, h2, hT => exact (ExG.below hT (hR.resolve_left (fun e => hk (by subst e; rfl))))
          | 5, hk, hne, hd, h2, hT => exact (hT)
          | 6, hk, hne, hd, h2, hT => exact (TwG.below hT (hR.resolve_left (fun e => hk (by subst e; rfl))))
          | 7, hk, hne, hd, h2, hT => exact (ExG.below hT (hR.resolve_left (fun e => hk (by subst e; rfl))))
          | n + 8, _, _, _, _, _ => trivial
        case stabG8 => exact fun i wa wb hR hne hG => ext_trans hG (hR.resolve_left (fun e => hne (by rw [e])))
        case stabH8 => exact fun i wa wb hR hne _ h => (by have hb := hR.resolve_left (fun e => hne (by rw [e])); exact GbH.below h hb)
        case all8 =>
          refine RAllH.cons rfl ?_ (RAllH.cons rfl ?_ (RAllH.cons rfl ?_ (RAllH.cons rfl ?_ (RAllH.cons rfl ?_ (RAllH.cons rfl ?_ (RAllH.cons rfl ?_ (RAllH.cons rfl ?_ (RAllH.cons rfl ?_ (RAllH.none_)))))))))
          · intro a kq_ wa K Q _ _ hp hK0
            have hI : Below wr.heap.size wr wa := hp.pre (fun c hc => by cases hc; kernel_rfl)
            have hK := fun v w' h1 h2 (_ : Below wr.heap.size wr w') => hK0 v w' h1 (.inr h2) trivial (fun e => by cases e)
            exact op_move _ (.inl rfl) (hK _ _ (hp.keep 4 (by kernel_rfl)) (Below.refl _ _) hI)
          · intro a kq_ wa K Q _ _ hp hK0
            have hI : Below wr.heap.size wr wa := hp.pre (fun c hc => by cases hc; kernel_rfl)
            have hK := fun v w' h1 h2 (_ : Below wr.heap.size wr w') => hK0 v w' h1 (.inr h2) trivial (fun e => by cases e)
            exact op_move _ (.inl rfl) (hK _ _ (hp.keep 6 (by kernel_rfl)) (Below.refl _ _) hI)
          · intro a kq_ wa K Q _ _ hp hK0
            have hI : Below wr.heap.size wr wa := hp.pre (fun c hc => by cases hc; kernel_rfl)
            have hK := fun v w' h1 h2 (_ : Below wr.heap.size wr w') => hK0 v w' h1 (.inr h2) trivial (fun e => by cases e)
            have e27 := tmp_of (show a.eval (.tmp 27) = .slice (some ⟨b, off, none⟩) L.length c6 from hp.dep 0 27 (by kernel_rfl))
            have e28 := tmp_of (show a.eval (.tmp 28) = .int .i64 p from hp.dep 1 28 (by kernel_rfl))
            go_simp
            exact hK _ _ rfl (Below.refl _ _) hI
          · intro a kq_ wa K Q _ _ hp hK0
            have hI : Below wr.heap.size wr wa := hp.pre (fun c hc => by cases hc; kernel_rfl)
            have hK := fun v w' h1 h2 (_ : Below wr.heap.size wr w') => hK0 v w' h1 (.inr h2) trivial (fun e => by cases e)
            have e29 := tmp_of (show a.eval (.tmp 29) = .pointer (some ⟨b, off + p * 4, Option.none⟩) from hp.dep 2 29 (by kernel_rfl))
            have p0_ := below_cell hI p0
            have p1_ := below_cell hI p1
            have p2_ := below_cell hI p2
            have p3_ := below_cell hI p3
            go_simp
            exact hK _ _ rfl (Below.refl _ _) hI
          · intro a kq_ wa K Q _ _ hp hK0
            have hI : Below wr.heap.size wr wa := hp.pre (fun c hc => by cases hc; kernel_rfl)
            have hK := fun v w' h1 h2 (_ : Below wr.heap.size wr w') => hK0 v w' h1 (.inr h2) trivial (fun e => by cases e)
            have e30 := tmp_of (show a.eval (.tmp 30) = .agg #[.int .i64 (exAt L p).k, .int .i64 (exAt L p).n, .string (exAt L p).s, .slice A1 (exAt L p).ps.length c1] from hp.dep 3 30 (by kernel_rfl))
            go_simp
            refine (cpQ_all d _ _ _ _ (HFD.out.below hI) HS1.out HCP.out).mono ?_
            rintro e wb ⟨A8, c8, rfl, h8, hb⟩
            obtain ⟨A8', c8', e8, hr8⟩ := h8.rd
            cases e8
            exact hK _ _ ⟨A8, c8, rfl, hr8.toG (by have := hI.size; have := HWXS.out; omega) (.inl (by have := hI.size; omega)) (Nat.le_refl _)⟩ hb (ext_trans hI hb)
          · intro a kq_ wa K Q _ _ hp hK0
            have hI : Below wr.heap.size wr wa := hp.pre (fun c hc => by cases hc; kernel_rfl)
            have hK := fun v w' h1 h2 (_ : Below wr.heap.size wr w') => hK0 v w' h1 (.inr h2) trivial (fun e => by cases e)
            have e5 := tmp_of (show a.eval (.tmp 5) = .pointer (some ⟨g5, 0, none⟩) from hp.keep 5 (by kernel_rfl))
            have x0_ := below_cell hI x0
            have x1_ := below_cell hI x1
            have x2_ := below_cell hI x2
            have x3_ := below_cell hI x3
            go_simp
            exact hK _ _ rfl (Below.refl _ _) hI
          · intro a kq_ wa K Q _ _ hp hK0
            have hI : Below wr.heap.size wr wa := hp.pre (fun c hc => by cases hc; kernel_rfl)
            have hK := fun v w' h1 h2 (_ : Below wr.heap.size wr w') => hK0 v w' h1 (.inr h2) trivial (fun e => by cases e)
            have t31 : ExG W.heap.size g5 d (exAt L p) wa (a.eval (.tmp 31)) := hp.dep 4 31 (by kernel_rfl)
            have e32 := tmp_of (show a.eval (.tmp 32) = .agg #[.int .i64 o.k, .int .i64 o.n, .string o.s, .slice A9 o.ps.length c9] from hp.dep 5 32 (by kernel_rfl))
            obtain ⟨A8, c8, e31, h8⟩ := t31
            replace e31 := tmp_of e31
            go_simp
            exact hK _ _ ⟨_, rfl, exG.two (heap_alloc_new _ _) (by have := hI.size; have := HWXS.out; omega) (by have := hI.size; omega) ((h8.deeper hdD).below (below_alloc _ _)) ((HGO.out.below hI).below (below_alloc _ _)) HS1.out HOS.out⟩ (below_alloc _ _) (ext_alloc hI _)
          · intro a kq_ wa K Q _ _ hp hK0
            have hI : Below wr.heap.size wr wa := hp.pre (fun c hc => by cases hc; kernel_rfl)
            have hK := fun v w' h1 h2 (_ : Below wr.heap.size wr w') => hK0 v w' h1 (.inr h2) trivial (fun e => by cases e)
            have t33 : TwG W.heap.size g5 (D + 1) (exAt L p) o wa (a.eval (.tmp 33)) := hp.dep 6 33 (by kernel_rfl)
            obtain ⟨b9, e33, h9⟩ := t33
            replace e33 := tmp_of e33
            go_simp
            exact hK _ _ ⟨_, _, rfl, h9⟩ (Below.refl _ _) hI
          · intro a kq_ wa K Q _ _ hp hK0
            have hI : Below wr.heap.size wr wa := hp.pre (fun c hc => by cases hc; kernel_rfl)
            have hS := fun v w' h => hK0 v w' trivial (.inl rfl) trivial (fun _ => h)
            have e5 := tmp_of (show a.eval (.tmp 5) = .pointer (some ⟨g5, 0, none⟩) from hp.keep 5 (by kernel_rfl))
            have t34 : ExG W.heap.size g5 (D + 1) (.nd 14 0 ByteArray.empty [exAt L p, o]) wa (a.eval (.tmp 34)) := hp.dep 7 34 (by kernel_rfl)
            obtain ⟨A5, c5, e34, h5⟩ := t34
            replace e34 := tmp_of e34
            have hbw := block_below HBXX.out hI
            obtain ⟨cw0, cw1, cw2, cw3⟩ := cells4 hbw
            obtain ⟨zw0, zw1, zw2, zw3⟩ := froz4 hbw
            go_simp
            exact hS (.tuple #[]) _ ⟨A5, c5, setCells_at [.int .i64 14, .int .i64 0, .string ByteArray.empty, .slice A5 2 c5] 0 hbw (by simp), h5.grown (setCells_grown g5 [.int .i64 14, .int .i64 0, .string ByteArray.empty, .slice A5 2 c5] wa 0), setCells_below (Nat.le_refl _) [.int .i64 14, .int .i64 0, .string ByteArray.empty, .slice A5 2 c5] 0 (HBW.out.trans (hI.mono (by omega)))⟩
        case fin8 =>
          intro f w9 hT _ hH
          have hH := hH 8 rfl (by decide)
          have hr6 : (f 2) = .pointer (some ⟨b, off + p * 4, Option.none⟩) := hT 2 (by decide) rfl rfl
          clear hT
          clear hr6
          simp only [putAll]
          go_simp
          go_wp2
          go_roundw
          case rel => exact ⟨p, by omega, by first | rfl | go_num, by rw [HDD.out, HJD.out]; exact hH⟩
          case measure => first | (simp [intOf]; done) | (simp [intOf]; omega)
  · have HR : Hid (gbB d r = false) := Lib.hid (by rw [gbB, has, hok]; rfl)
    have HAS := Lib.hid has
    clear has hgd hc40 hcn
    go_enter Try.func24, Try.ntmps24
    go_wp2_with fail
    rw [← HW.out, ← HGX.out]
    refine (specExprValid hUW hs hcnt).mono ?_
    rintro e w1 ⟨rfl, hb⟩
    rw [hok]
    have hX := hb
    replace hB := ext_trans hB hb
    obtain ⟨b0', b1', b2', b3'⟩ := cells4 (block_below HBX.out hX)
    clear b0 b1 b2 b3 hok hb
    go_wp2_with fail
    refine (asQ_all d _ _ _ _ (hUW.below hX)).mono ?_
    rintro e w2 ⟨rfl, hb⟩
    rw [HAS.out]
    replace hB := ext_trans hB hb
    have hr2 := block_below HB2.out (ext_trans hX hb)
    obtain ⟨y0, y1, y2, y3⟩ := cells4 hr2
    obtain ⟨z0, z1, z2, z3⟩ := froz4 hr2
    clear b0' b1' b2' b3' hX hb hUW hr2
    go_wp2
    refine bodyPost_ret (v := .tuple #[.agg #[.int .i64 0, .int .i64 0, .string ⟨#[]⟩, .slice Option.none 0 0], .bool false]) (by simp [results, go_sem, y0, y1, y2, y3]) rfl (GbPost.no HR.out ?_)
    exact setCells_below (by have := HGX.out; omega) [.int .i64 0, .int .i64 0, .string ⟨#[]⟩, .slice Option.none 0 0] 0 hB
end Go.Proofs.Ytodjokdaofefdaa
/- Copies of expressions, by the program. -/
namespace Go.Proofs.Ytodjokdaofefdaa
set_option linter.unusedSimpArgs false
set_option linter.unusedVariables false
open Go.RowKit

theorem enters_clone1 : ∀ args w, (callFunc 125 args).run Try.prog w = .ok (.enter 125 args) w := enters_of Try.func125 (by kernel_rfl) rfl
set_option maxHeartbeats 1000000 in
theorem clone1_any {A : Option Addr} {r : Ex} {n c : Nat} {w : World} :
    Calls Try.prog 125 #[.agg #[.int .i64 r.k, .int .i64 r.n, .string r.s, .slice A n c]] w fun e w' => e = .returned (.agg #[.int .i64 r.k, .int .i64 r.n, .string r.s, .slice A n c]) ∧ Below w.heap.size w w' := by
  go_enter Try.func125, Try.ntmps125
  go_wp2
  refine bodyPost_ret (v := .agg #[.int .i64 r.k, .int .i64 r.n, .string r.s, .slice A n c]) (by simp [results, go_sem]) rfl ⟨rfl, ?_⟩
  repeat (first | exact Below.refl _ _ | refine ext_alloc ?_ _)
/-- What is appended as a whole to nothing. -/
def ExB (d N : Nat) (w : World) (a : ExX) (cs : List Value) : Prop := ExN d w a cs ∧ a.2.1 ≤ a.2.2 ∧ a.2.2 ≤ N
set_option maxRecDepth 100000 in
set_option maxHeartbeats 4000000 in
theorem with_any {d lo N : Nat} {A0 A : Option Addr} {r : Ex} {n0 c0 c : Nat} {l' : List ExX} {w : World} (hr : RdL (ExB d N) 4 w A l') (ha : AscX lo N l') (hlN : lo ≤ N) (hN : N ≤ w.heap.size) (hn : l'.length ≤ 1048576) :
    Calls Try.prog 149 #[.agg #[.int .i64 r.k, .int .i64 r.n, .string r.s, .slice A0 n0 c0], .slice A l'.length c] w fun e w' => ∃ A' c', e = .returned (.agg #[.int .i64 r.k, .int .i64 r.n, .string r.s, .slice A' l'.length c']) ∧ exT (d + 1) lo w'.heap.size w' (.slice A' l'.length c') (l'.map Prod.fst) ∧ Below w.heap.size w w' := by
  obtain ⟨gx, hgx⟩ : ∃ g, g = w.heap.size := ⟨_, rfl⟩
  obtain ⟨W, hW⟩ : ∃ W, W = (w.alloc (.cells #[.int .i64 r.k, .int .i64 r.n, .string r.s, .slice A0 n0 c0] 28)).alloc (.cells #[.int .i64 0, .int .i64 0, .string ⟨#[]⟩, .slice Option.none 0 0] 28) := ⟨_, rfl⟩
  have hBW : Below w.heap.size w W := by rw [hW]; (repeat (first | exact Below.refl _ _ | refine ext_alloc ?_ _ | refine Below.setCell ?_ (by simp) _))
  have hrW : RdL (ExB d N) 4 W A l' := RdL.mono hr hBW (fun a cs h => ⟨h.1.keep (fun k _ k2 => hBW.block k (by have := h.2.2; omega)), h.2⟩)
  have HR := Lib.hid hrW
  have HW := Lib.hid hW
  have HBW := Lib.hid hBW
  have HGX := Lib.hid hgx
  have hNW : N ≤ W.heap.size := Nat.le_trans hN hBW.size
  have HNW := Lib.hid hNW
  have hbx : W.heap[gx]? = some (.cells #[.int .i64 r.k, .int .i64 r.n, .string r.s, .slice A0 n0 c0] 28 (0, 0)) := by rw [hW, hgx]; exact block_below (heap_alloc_at rfl) (below_alloc _ _)
  have hb2 : W.heap[gx + 1]? = some (.cells #[.int .i64 0, .int .i64 0, .string ⟨#[]⟩, .slice Option.none 0 0] 28 (0, 0)) := by rw [hW, hgx]; exact heap_alloc_at (by simp)
  have HBX := Lib.hid hbx
  have HB2 := Lib.hid hb2
  have hgW : gx + 2 = W.heap.size := by rw [hW, hgx]; simp
  have HGW := Lib.hid hgW
  clear hW hBW hrW hr hNW hbx hb2 hgx hgW
  go_enter Try.func149, Try.ntmps149
  go_wp2_with (at_builtin; rw [← HW.out, ← HGX.out]; go_must (refine wpList_appendG (R := ExB d N) (B := N) (l := []) (l2 := l') rfl (.const (.slice Option.none 0 0)) (.tmp 5) 26 28 _ 4 56 rfl Try.underlying26 Try.infoExpr rfl (by decide) (fun a cs h => h.1.one) OwnG.nil rfl HR.out (fun w' hg a cs h => ⟨h.1.keep (fun k _ k2 => hg.block k (by have := h.2.2; have := HNW.out; omega) (fun e => by cases e)), h.2⟩) (by simp; omega) (by simp; omega) HNW.out ?_); intro v3 w3 hO3 hB3 hg3 hv3; obtain ⟨A3, c3, e3⟩ : ∃ A3 c3, v3 = .slice A3 l'.length c3 := (by obtain ⟨A7, c7, _, e7, _⟩ := hO3; exact ⟨A7, c7, by rw [e7]; simp⟩); subst e3; have hr2 := (hg3.block (gx + 1) (by have := HGW.out; omega) (fun e => by cases e)).trans HB2.out; have hbx := (hg3.block gx (by have := HGW.out; omega) (fun e => by cases e)).trans HBX.out; obtain ⟨b0, b1, b2, b3⟩ := cells4 hbx; obtain ⟨zb0, zb1, zb2, zb3⟩ := froz4 hbx; obtain ⟨y0, y1, y2, y3⟩ := cells4 hr2; obtain ⟨z0, z1, z2, z3⟩ := froz4 hr2; clear hbx hr2)
  have hblk : ∀ k, (Value.slice A3 l'.length c3).ownBlock = some k → k = gx + 2 := fun k hk => by
    rcases hv3 with e | e
    · rw [e] at hk; cases hk
    · rw [e] at hk; cases hk; exact HGW.out.symm
  have hNx : N ≤ gx := by rw [HGX.out]; exact hN
  have hg1 := setCells_grown gx [.slice A3 l'.length c3] w3 3
  have hg2 := setCells_grown (gx + 1) [.int .i64 r.k, .int .i64 r.n, .string r.s, .slice A3 l'.length c3] (setCells w3 gx 3 [.slice A3 l'.length c3]) 0
  have hk : ∀ {w w' : World} {row : Option Nat}, w.grownBy w' row → N ≤ w.heap.size → (∀ k, row = some k → N ≤ k) → ∀ a cs, ExB d N w a cs → ExB d N w' a cs := fun hg hs hr a cs h => ⟨h.1.keep (fun k _ k2 => hg.block k (by have := h.2.2; omega) (fun e => by have := h.2.2; have := hr k e.symm; omega)), h.2⟩
  have hN3 : N ≤ w3.heap.size := Nat.le_trans HNW.out hg3.size
  have hO4 := OwnG.kept hO3 hg1 (fun k hq e => by cases e; have := hblk _ hq; omega) (hk hg1 hN3 (fun k e => by cases e; exact hNx))
  have hO5 := OwnG.kept hO4 hg2 (fun k hq e => by cases e; have := hblk _ hq; omega) (hk hg2 (Nat.le_trans hN3 hg1.size) (fun k e => by cases e; omega))
  have hge := hO5.ge
  rw [List.nil_append] at hO5
  refine bodyPost_ret (v := .agg #[.int .i64 r.k, .int .i64 r.n, .string r.s, .slice A3 l'.length c3]) (by simp [results, go_sem, y0, y1, y2, y3]) rfl ⟨A3, c3, rfl, ?_, ?_⟩
  · exact ⟨l', rfl, ha.wide (Nat.le_refl _) (by show N ≤ (setCells (setCells w3 gx 3 [.slice A3 l'.length c3]) (gx + 1) 0 [.int .i64 r.k, .int .i64 r.n, .string r.s, .slice A3 l'.length c3]).heap.size; rw [setCells_size, setCells_size]; exact hN3), fun a ha2 k hq => .inr (by have := (ha.1 a ha2).2.2; have := hblk _ hq; omega), fun k hq => (hge k hq).2, hO5.lower hlN (fun _ _ h => h.1)⟩
  · exact setCells_below (by have := HGX.out; omega) [.int .i64 r.k, .int .i64 r.n, .string r.s, .slice A3 l'.length c3] 0 (setCells_below (by have := HGX.out; omega) [.slice A3 l'.length c3] 3 (HBW.out.trans (grown_below hg3 HBW.out.size (fun k e => by cases e))))
def MpQ (d : Nat) : Prop := ∀ (A : Option Addr) (r : Ex) (c : Nat) (w : World), exW d w A r.ps → r.s.size ≤ 9223372036854775807 → (∀ m, cntR m r ≤ 1048576) →
  Calls Try.prog 124 #[.agg #[.int .i64 r.k, .int .i64 r.n, .string r.s, .slice A r.ps.length c], .func (.func 125) #[] #[]] w fun e w' => ∃ A' c', e = .returned (.agg #[.int .i64 r.k, .int .i64 r.n, .string r.s, .slice A' r.ps.length c']) ∧ exT d w.heap.size w'.heap.size w' (.slice A' r.ps.length c') r.ps ∧ Below w.heap.size w w'
set_option maxRecDepth 100000 in
set_option maxHeartbeats 8000000 in
theorem mpQ_of {d : Nat} (hQ : ∀ m, d = m + 1 → MpQ m) : MpQ d := by
  intro A r c w hU hs hn
  have hlen : r.ps.length ≤ 1048576 := by have := hn 1; rw [cntR] at this; omega
  have eg := enters_clone1
  have HQ := Lib.hid hQ
  have HN := Lib.hid hn
  have HS := Lib.hid hs
  clear hQ hn hs
  obtain ⟨gx, hgx⟩ : ∃ g, g = w.heap.size := ⟨_, rfl⟩
  obtain ⟨W, hW⟩ : ∃ W, W = (w.alloc (.cells #[.int .i64 r.k, .int .i64 r.n, .string r.s, .slice A r.ps.length c] 28)).alloc (.cells #[.int .i64 0, .int .i64 0, .string ⟨#[]⟩, .slice Option.none 0 0] 28) := ⟨_, rfl⟩
  have hBW : Below w.heap.size w W := by rw [hW]; (repeat (first | exact Below.refl _ _ | refine ext_alloc ?_ _ | refine Below.setCell ?_ (by simp) _))
  have hbx : W.heap[gx]? = some (.cells #[.int .i64 r.k, .int .i64 r.n, .string r.s, .slice A r.ps.length c] 28 (0, 0)) := by rw [hW, hgx]; exact block_below (heap_alloc_at rfl) (below_alloc _ _)
  have hb2 : W.heap[gx + 1]? = some (.cells #[.int .i64 0, .int .i64 0, .string ⟨#[]⟩, .slice Option.none 0 0] 28 (0, 0)) := by rw [hW, hgx]; exact heap_alloc_at (by simp)
  obtain ⟨b0, b1, b2, b3⟩ := cells4 hbx
  have hUW := hU.below hBW
  have HU0 := Lib.hid hU
  have HW := Lib.hid hW
  have HBW := Lib.hid hBW
  have HGX := Lib.hid hgx
  have HBX := Lib.hid hbx
  have HB2 := Lib.hid hb2
  have hgW : gx + 2 = W.heap.size := by rw [hW, hgx]; simp
  have HGW := Lib.hid hgW
  clear hW hBW hbx hb2 hgx hgW hU
  go_enter Try.func124, Try.ntmps124
  go_wp2_with fail
  rw [← HW.out, ← HGX.out]
  clear b0 b1 b2 b3
  go_loopw [5, 11] (fun pv iv wr => ∃ (k : Nat) (Ak : Option Addr) (ck : Nat) (l' : List ExX) (N : Nat), k ≤ r.ps.length ∧ iv = .int .i64 k ∧ pv = .slice Ak k ck ∧ l'.map Prod.fst = r.ps.take k ∧ ExO (d - 1) W.heap.size N wr (.slice Ak k ck) l' ∧ W.heap.size ≤ N ∧ Below W.heap.size W wr) (fun _ iv _ => r.ps.length - (intOf iv).toNat)
  case atStart => exact ⟨0, Option.none, 0, [], W.heap.size, Nat.zero_le _, rfl, rfl, by simp, ExO.nil (Nat.le_refl _), Nat.le_refl _, Below.refl _ _⟩
  case round =>
    obtain ⟨k, Ak, ck, l', N, hk, rfl, rfl, hmap, hO, hLN, hB⟩ := hrel
    have hML : l'.length = k := by rw [← List.length_map (f := Prod.fst), hmap, List.length_take]; omega
    have HML := Lib.hid hML
    have HMAP := Lib.hid hmap
    have HO := Lib.hid hO
    have HB := Lib.hid hB
    have hBr : Below w.heap.size w wr := HBW.out.trans (hB.mono HBW.out.size)
    have hUr : exW d wr A r.ps := (exS.below HU0.out (Nat.le_refl _) hBr).wide (Nat.le_refl _) hBr.size
    have HBR := Lib.hid hBr
    clear hML hmap hO hBr
    by_cases hlt : k < r.ps.length
    · have hd : ∃ m, d = m + 1 := by
        cases d with
        | zero => have := exS.zero hUr; rw [this] at hlt; simp at hlt
        | succ m => exact ⟨m, rfl⟩
      obtain ⟨m, hm⟩ := hd
      subst hm
      have HQ1 := Lib.hid (HQ.out m rfl)
      obtain ⟨b, off, rfl, hc⟩ := hUr.cells (by omega)
      obtain ⟨A1, c1, hfd, hs1, p0, p1, p2, p3⟩ := hc k hlt
      have HCN : Hid (∀ q, cntR q (exAt r.ps k) ≤ 1048576) := Lib.hid (fun q => by rw [exAt_eq hlt]; exact Nat.le_trans (cnt_mem (List.getElem_mem hlt)) (HN.out (q + 1)))
      have HS1 := Lib.hid hs1
      have hb0 := below_alloc wr (.cells #[.int .i64 (exAt r.ps k).k, .int .i64 (exAt r.ps k).n, .string (exAt r.ps k).s, .slice A1 (exAt r.ps k).ps.length c1] 28)
      have HFD := Lib.hid (hfd.below hb0)
      have HO1 := Lib.hid (HO.out.below hb0)
      have HB1 := Lib.hid (HB.out.trans (hb0.mono hB.size))
      clear hc hs1 hfd hb0 hUr hB
      go_wp2_with fail
      refine (HQ1.out _ _ _ _ HFD.out HS1.out HCN.out).mono ?_
      rintro e w1 ⟨A8, c8, rfl, h8, hb⟩
      have hb1 := below_alloc w1 (.cells #[.int .i64 (exAt r.ps k).k, .int .i64 (exAt r.ps k).n, .string (exAt r.ps k).s, .slice A8 (exAt r.ps k).ps.length c8] 28)
      have hge := HO1.out.2.2.ge
      have hNa := HO1.out.2.1
      have hab := hb.size
      have hOY := ((HO1.out.below hb).below hb1)
      have hsY := hb1.size
      have hlo := (HB1.out.trans (hb.mono HB1.out.size)).size
      have HOY : Hid (OwnG (ExA m (.slice Ak k ck) w1.heap.size) W.heap.size 28 4 (w1.alloc (.cells #[.int .i64 (exAt r.ps k).k, .int .i64 (exAt r.ps k).n, .string (exAt r.ps k).s, .slice A8 (exAt r.ps k).ps.length c8] 28)) (.slice Ak k ck) l') := Lib.hid (hOY.2.2.lower (Nat.le_refl _) (fun x cs q => ⟨q.1, q.2.1, Nat.le_trans q.2.2.1 (Nat.le_trans hNa hab), q.2.2.2⟩))
      have HE : Hid (ExA m (.slice Ak k ck) w1.heap.size (w1.alloc (.cells #[.int .i64 (exAt r.ps k).k, .int .i64 (exAt r.ps k).n, .string (exAt r.ps k).s, .slice A8 (exAt r.ps k).ps.length c8] 28)) (exAt r.ps k, (wr.alloc (.cells #[.int .i64 (exAt r.ps k).k, .int .i64 (exAt r.ps k).n, .string (exAt r.ps k).s, .slice A1 (exAt r.ps k).ps.length c1] 28)).heap.size, w1.heap.size) (#[.int .i64 (exAt r.ps k).k, .int .i64 (exAt r.ps k).n, .string (exAt r.ps k).s, .slice A8 (exAt r.ps k).ps.length c8] : Array Value).toList) := Lib.hid ⟨⟨_, rfl, h8.below (Nat.le_refl _) hb1, HS1.out⟩, hab, Nat.le_refl _, fun q hq => .inl (hge q hq).2⟩
      have HNW := Lib.hid (heap_alloc_new w1 (.cells #[.int .i64 (exAt r.ps k).k, .int .i64 (exAt r.ps k).n, .string (exAt r.ps k).s, .slice A8 (exAt r.ps k).ps.length c8] 28))
      have HASC := Lib.hid HO1.out.1
      have HNA := Lib.hid hNa
      have HAB := Lib.hid hab
      have HSY := Lib.hid hsY
      have HLO := Lib.hid hlo
      have HB2 := Lib.hid ((HB1.out.trans (hb.mono HB1.out.size)).trans (hb1.mono hlo))
      have hlo1 := HB1.out.size
      have HLO1 := Lib.hid hlo1
      have hbl : W.heap.size ≤ (w1.alloc (.cells #[.int .i64 (exAt r.ps k).k, .int .i64 (exAt r.ps k).n, .string (exAt r.ps k).s, .slice A8 (exAt r.ps k).ps.length c8] 28)).heap.size := HB2.out.size
      have HBL := Lib.hid hbl
      clear h8 hb hb1 hge hNa hab hOY hsY hlo p0 p1 p2 p3 HFD HO HB hlo1 hbl HO1
      go_wp2_with (at_builtin; go_must (refine wpList_appendG (R := ExA m (.slice Ak k ck) w1.heap.size) (l := l') (l2 := [(exAt r.ps k, (wr.alloc (.cells #[.int .i64 (exAt r.ps k).k, .int .i64 (exAt r.ps k).n, .string (exAt r.ps k).s, .slice A1 (exAt r.ps k).ps.length c1] 28)).heap.size, w1.heap.size)]) rfl (.tmp 15) (.tmp 19) 26 28 _ 4 56 rfl Try.underlying26 Try.infoExpr rfl (by decide) (fun a cs h => h.1.one) HOY.out rfl (rd_blockG HNW.out rfl HE.out) (fun w' hg a cs h => h.row HSY.out hg) (by simp [HML.out]; omega) (by simp [HML.out]; omega) HBL.out ?_); intro v3 w3 hO3 hB3 hg3 hv3; obtain ⟨A3, c3, e3⟩ : ∃ A3 c3, v3 = .slice A3 (k + 1) c3 := (by obtain ⟨A7, c7, _, e7, _⟩ := hO3; exact ⟨A7, c7, by rw [e7]; simp [HML.out]⟩); subst e3)
      go_roundw
      case rel =>
        refine ⟨k + 1, A3, c3, l' ++ [(exAt r.ps k, (wr.alloc (.cells #[.int .i64 (exAt r.ps k).k, .int .i64 (exAt r.ps k).n, .string (exAt r.ps k).s, .slice A1 (exAt r.ps k).ps.length c1] 28)).heap.size, w1.heap.size)], w1.heap.size, by omega, by go_num, rfl, ?_, ?_, HLO.out, HB2.out.trans hB3⟩
        rotate_left
        · exact ExO.add HASC.out HNA.out HAB.out HLO1.out HSY.out hg3.size hO3 hv3
        · rw [List.map_append, HMAP.out, List.take_succ_eq_append_getElem hlt, ← exAt_eq hlt]; rfl
      case measure => simp [intOf]; omega
    · obtain rfl : k = r.ps.length := by omega
      have hrd : RdL (ExB (d - 1) N) 4 wr Ak l' := by
        obtain ⟨A7, c7, e7, h7⟩ := HO.out.2.2.rd (by rw [HML.out]; omega)
        simp only [Value.slice.injEq] at e7
        obtain ⟨rfl, _, rfl⟩ := e7
        exact RdL.keep h7 (fun a cs q => ⟨q.1, q.2.1, q.2.2.1⟩) (fun _ _ _ => rfl)
      have hWI := with_any (d := d - 1) (lo := W.heap.size) (A0 := A) (r := r) (n0 := r.ps.length) (c0 := c) (c := ck) hrd HO.out.1 hLN HO.out.2.1 (by rw [HML.out]; exact hlen)
      rw [HML.out] at hWI
      have HWI := Lib.hid hWI
      obtain ⟨b0, b1, b2, b3⟩ := cells4 (block_below HBX.out hB)
      clear hrd hWI hUr
      go_wp2_with fail
      refine HWI.out.mono ?_
      rintro e w1 ⟨A3, c3, rfl, h3, hb⟩
      replace hB := ext_trans hB hb
      have hr2 := block_below HB2.out hB
      obtain ⟨y0, y1, y2, y3⟩ := cells4 (block_below HB2.out hB)
      clear b0 b1 b2 b3
      go_wp2_with fail
      refine clone1_any.mono ?_
      rintro e w2 ⟨rfl, hb2⟩
      have H3 := Lib.hid (h3.below (Nat.le_refl _) hb2)
      have hs2 := hb2.size
      replace hB := ext_trans hB hb2
      replace hr2 := block_below HB2.out hB
      clear y0 y1 y2 y3
      obtain ⟨y0, y1, y2, y3⟩ := cells4 hr2
      obtain ⟨z0, z1, z2, z3⟩ := froz4 hr2
      have hgr := setCells_grown (gx + 1) [.int .i64 r.k, .int .i64 r.n, .string r.s, .slice A3 r.ps.length c3] w2 0
      have hm := HMAP.out
      rw [List.take_length] at hm
      have HU1 := HU0.out
      have HT : Hid (exT d w.heap.size (setCells w2 (gx + 1) 0 [.int .i64 r.k, .int .i64 r.n, .string r.s, .slice A3 r.ps.length c3]).heap.size (setCells w2 (gx + 1) 0 [.int .i64 r.k, .int .i64 r.n, .string r.s, .slice A3 r.ps.length c3]) (.slice A3 r.ps.length c3) r.ps) := Lib.hid (by
        cases d with
        | zero =>
          have h0 := exS.zero HU1
          exact ⟨h0, A3, c3, by rw [h0]; rfl⟩
        | succ m =>
          have h1 := H3.out
          rw [hm] at h1
          have h2 : exT (m + 1) W.heap.size w1.heap.size (setCells w2 (gx + 1) 0 [.int .i64 r.k, .int .i64 r.n, .string r.s, .slice A3 r.ps.length c3]) (.slice A3 r.ps.length c3) r.ps := h1.keep (fun q k1 k2 => hgr.block q (by omega) (fun e => by cases e; have := HGW.out; omega))
          exact h2.wide HBW.out.size (by rw [setCells_size]; exact hs2))
      have HBF : Hid (Below w.heap.size w (setCells w2 (gx + 1) 0 [.int .i64 r.k, .int .i64 r.n, .string r.s, .slice A3 r.ps.length c3])) := Lib.hid (setCells_below (by have := HGX.out; omega) _ 0 (HBW.out.trans (hB.mono HBW.out.size)))
      clear hgr hm HU1 hr2 hb2 hb h3
      go_wp2
      exact bodyPost_ret (v := .agg #[.int .i64 r.k, .int .i64 r.n, .string r.s, .slice A3 r.ps.length c3]) (by simp [results, go_sem, y0, y1, y2, y3]) rfl ⟨_, _, rfl, HT.out, HBF.out⟩
theorem mpQ_all : ∀ d, MpQ d
  | 0 => mpQ_of (fun m h => by cases h)
  | d + 1 => mpQ_of (fun m h => by cases h; exact mpQ_all d)
set_option maxHeartbeats 1000000 in
theorem exClone_any {d : Nat} {A : Option Addr} {r : Ex} {c : Nat} {w : World} (hU : exW d w A r.ps) (hs : r.s.size ≤ 9223372036854775807) (hn : ∀ m, cntR m r ≤ 1048576) :
    Calls Try.prog 84 #[.agg #[.int .i64 r.k, .int .i64 r.n, .string r.s, .slice A r.ps.length c]] w fun e w' => ∃ A' c', e = .returned (.agg #[.int .i64 r.k, .int .i64 r.n, .string r.s, .slice A' r.ps.length c']) ∧ exT d w.heap.size w'.heap.size w' (.slice A' r.ps.length c') r.ps ∧ Below w.heap.size w w' := by
  obtain ⟨gx, hgx⟩ : ∃ g, g = w.heap.size := ⟨_, rfl⟩
  obtain ⟨W, hW⟩ : ∃ W, W = (w.alloc (.cells #[.int .i64 r.k, .int .i64 r.n, .string r.s, .slice A r.ps.length c] 28)).alloc (.cells #[.int .i64 0, .int .i64 0, .string ⟨#[]⟩, .slice Option.none 0 0] 28) := ⟨_, rfl⟩
  have hBW : Below w.heap.size w W := by rw [hW]; (repeat (first | exact Below.refl _ _ | refine ext_alloc ?_ _ | refine Below.setCell ?_ (by simp) _))
  have hb2 : W.heap[gx + 1]? = some (.cells #[.int .i64 0, .int .i64 0, .string ⟨#[]⟩, .slice Option.none 0 0] 28 (0, 0)) := by rw [hW, hgx]; exact heap_alloc_at (by simp)
  have hgW : gx + 2 = W.heap.size := by rw [hW, hgx]; simp
  have HM := Lib.hid (mpQ_all d A r c W (hU.below hBW) hs hn)
  have HW := Lib.hid hW
  have HBW := Lib.hid hBW
  have HGX := Lib.hid hgx
  have HB2 := Lib.hid hb2
  have HGW := Lib.hid hgW
  clear hW hBW hb2 hgx hgW hU
  go_enter Try.func84, Try.ntmps84
  go_wp2_with fail
  rw [← HW.out, ← HGX.out]
  refine HM.out.mono ?_
  rintro e w1 ⟨A3, c3, rfl, h3, hb⟩
  have hr2 := block_below HB2.out hb
  obtain ⟨y0, y1, y2, y3⟩ := cells4 hr2
  obtain ⟨z0, z1, z2, z3⟩ := froz4 hr2
  have hgr := setCells_grown (gx + 1) [.int .i64 r.k, .int .i64 r.n, .string r.s, .slice A3 r.ps.length c3] w1 0
  have h2 : exT d W.heap.size w1.heap.size (setCells w1 (gx + 1) 0 [.int .i64 r.k, .int .i64 r.n, .string r.s, .slice A3 r.ps.length c3]) (.slice A3 r.ps.length c3) r.ps := h3.keep (fun q k1 k2 => hgr.block q (by omega) (fun e => by cases e; have := HGW.out; omega))
  have HT : Hid (exT d w.heap.size (setCells w1 (gx + 1) 0 [.int .i64 r.k, .int .i64 r.n, .string r.s, .slice A3 r.ps.length c3]).heap.size (setCells w1 (gx + 1) 0 [.int .i64 r.k, .int .i64 r.n, .string r.s, .slice A3 r.ps.length c3]) (.slice A3 r.ps.length c3) r.ps) := Lib.hid (h2.wide HBW.out.size (by rw [setCells_size]; exact Nat.le_refl _))
  have HBF : Hid (Below w.heap.size w (setCells w1 (gx + 1) 0 [.int .i64 r.k, .int .i64 r.n, .string r.s, .slice A3 r.ps.length c3])) := Lib.hid (setCells_below (by have := HGX.out; omega) _ 0 (HBW.out.trans (hb.mono HBW.out.size)))
  clear hgr hr2 hb h3 h2
  go_wp2
  exact bodyPost_ret (v := .agg #[.int .i64 r.k, .int .i64 r.n, .string r.s, .slice A3 r.ps.length c3]) (by simp [results, go_sem, y0, y1, y2, y3]) rfl ⟨_, _, rfl, HT.out, HBF.out⟩
end Go.Proofs.Ytodjokdaofefdaa

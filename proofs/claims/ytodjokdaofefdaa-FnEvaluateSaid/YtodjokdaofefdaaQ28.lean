/- Expressions whose parts stand apart, and are nil where there are none: what the reference's copies are. -/
import Derived.Test.YtodjokdaofefdaaQ9
import Derived.Test.YtodjokdaofefdaaQ7
namespace Go.Proofs.Ytodjokdaofefdaa
set_option linter.unusedSimpArgs false
set_option linter.unusedVariables false
open Go.RowKit

def exU : Nat → Nat → Nat → World → Value → ExL → Prop
  | 0, _, _, _, v, l => l = [] ∧ v = .slice Option.none 0 0
  | d + 1, lo, hi, w, v, l => ∃ l' : List ExX, l'.map Prod.fst = l ∧ AscX lo hi l' ∧ AvX v l' ∧ (∀ k, v.ownBlock = some k → k < hi) ∧
      OwnG (fun w (a : ExX) cs => ∃ v', cs = exHead a.1 v' ∧ exU d a.2.1 a.2.2 w v' a.1.ps ∧ a.1.s.size ≤ 9223372036854775807) lo 28 4 w v l' ∧ (l = [] → v = .slice Option.none 0 0)
def UxN (d : Nat) (w : World) (a : ExX) (cs : List Value) : Prop := ∃ v', cs = exHead a.1 v' ∧ exU d a.2.1 a.2.2 w v' a.1.ps ∧ a.1.s.size ≤ 9223372036854775807
section
variable {lo hi lo' hi' : Nat} {w w' : World}
theorem exU.keep : ∀ {d lo hi : Nat} {v : Value} {l : ExL}, (∀ k, lo ≤ k → k < hi → w'.heap[k]? = w.heap[k]?) → exU d lo hi w v l → exU d lo hi w' v l
  | 0, _, _, _, _, _, h => h
  | d + 1, lo, hi, v, l, hk, ⟨l', h1, h2, h3, h4, h5, h6⟩ => by
    refine ⟨l', h1, h2, h3, h4, ?_, h6⟩
    have hge := h5.ge
    obtain ⟨A, c, xs, e, ho, hc⟩ := h5
    refine ⟨A, c, xs, e, own_keep ho hk (fun k hv => ?_), hc.mono_mem (fun a ha cs hcs => ?_)⟩
    · rw [← e] at hv; exact ⟨(hge k hv).1, h4 k hv⟩
    · obtain ⟨v', g1, g2, g3⟩ := hcs
      have hb := h2.1 a ha
      exact ⟨v', g1, exU.keep (fun k k1 k2 => hk k (by omega) (by omega)) g2, g3⟩
theorem exU.wide : ∀ {d lo hi : Nat} {v : Value} {l : ExL}, lo' ≤ lo → hi ≤ hi' → exU d lo hi w v l → exU d lo' hi' w v l
  | 0, _, _, _, _, _, _, h => h
  | d + 1, lo, hi, v, l, k1, k2, ⟨l', h1, h2, h3, h4, h5, h6⟩ => ⟨l', h1, h2.wide k1 k2, h3, fun k hk => by have := h4 k hk; omega, h5.lower k1 (fun _ _ h => h), h6⟩
theorem exU.below {d B : Nat} {v : Value} {l : ExL} (h : exU d lo hi w v l) (hB : hi ≤ B) (hb : Below B w w') : exU d lo hi w' v l := h.keep (fun k _ hk => hb.block k (by omega))
theorem exU.slice : ∀ {d lo hi : Nat} {v : Value} {l : ExL}, exU d lo hi w v l → ∃ A c, v = .slice A l.length c
  | 0, _, _, _, _, ⟨h, e⟩ => ⟨Option.none, 0, by rw [h]; exact e⟩
  | d + 1, _, _, _, _, ⟨l', h1, _, _, _, ⟨A, c, xs, e, _⟩, _⟩ => ⟨A, c, by rw [e, ← h1, List.length_map]⟩
end
/-- What an append goes from and to: elements that avoid the row, in blocks below N. -/
def UxA (d : Nat) (v : Value) (N : Nat) (w : World) (a : ExX) (cs : List Value) : Prop := UxN d w a cs ∧ a.2.1 ≤ a.2.2 ∧ a.2.2 ≤ N ∧ ∀ k, v.ownBlock = some k → k < a.2.1 ∨ a.2.2 ≤ k
theorem UxN.one {d : Nat} {w : World} {a : ExX} {cs : List Value} (h : UxN d w a cs) : ∀ u ∈ cs, u.oneCell' = true := by
  obtain ⟨v', rfl, hT, _⟩ := h
  obtain ⟨A, c, rfl⟩ := hT.slice
  intro u hu
  simp [exHead] at hu
  rcases hu with rfl | rfl | rfl | rfl <;> rfl
theorem UxN.keep {d : Nat} {w w' : World} {a : ExX} {cs : List Value} (h : UxN d w a cs) (hk : ∀ k, a.2.1 ≤ k → k < a.2.2 → w'.heap[k]? = w.heap[k]?) : UxN d w' a cs := by
  obtain ⟨v', h1, h2, h3⟩ := h
  exact ⟨v', h1, h2.keep hk, h3⟩
theorem UxA.row {d N : Nat} {v : Value} {w w' : World} {a : ExX} {cs : List Value} (h : UxA d v N w a cs) (hN : N ≤ w.heap.size) (hg : w.grownBy w' v.ownBlock) : UxA d v N w' a cs := by
  obtain ⟨h1, h2, h3, h4⟩ := h
  refine ⟨h1.keep (fun k k1 k2 => hg.block k (by omega) (fun e => ?_)), h2, h3, h4⟩
  have := h4 k e.symm
  omega
theorem UxA.below {d N : Nat} {v : Value} {w w' : World} {a : ExX} {cs : List Value} (h : UxA d v N w a cs) (hN : N ≤ w.heap.size) (hb : Below w.heap.size w w') : UxA d v N w' a cs := by
  obtain ⟨h1, h2, h3, h4⟩ := h
  exact ⟨h1.keep (fun k k1 k2 => hb.block k (by omega)), h2, h3, h4⟩
/-- A row of one's own whose elements stand apart from it and from one another, from lo on, below N. -/
def UxO (d lo N : Nat) (w : World) (v : Value) (l' : List ExX) : Prop := AscX lo N l' ∧ N ≤ w.heap.size ∧ OwnG (UxA d v N) lo 28 4 w v l'
theorem UxO.below {d lo N : Nat} {w w' : World} {v : Value} {l' : List ExX} (h : UxO d lo N w v l') (hb : Below w.heap.size w w') : UxO d lo N w' v l' :=
  ⟨h.1, Nat.le_trans h.2.1 hb.size, h.2.2.below hb (fun _ _ g => g.below h.2.1 hb)⟩
theorem UxO.nil {d lo N : Nat} {w : World} (hN : N ≤ w.heap.size) : UxO d lo N w (.slice Option.none 0 0) [] := ⟨AscX.nil, hN, OwnG.nil⟩
theorem UxO.t {d lo N : Nat} {w : World} {v : Value} {l' : List ExX} (h : UxO d lo N w v l') (h0 : l' = [] → v = .slice Option.none 0 0) : exU (d + 1) lo w.heap.size w v (l'.map Prod.fst) := by
  refine ⟨l', rfl, h.1.wide (Nat.le_refl _) h.2.1, ?_, fun k hk => (h.2.2.ge k hk).2, h.2.2.lower (Nat.le_refl _) (fun _ _ g => g.1), fun e => h0 (List.map_eq_nil_iff.1 e)⟩
  obtain ⟨A, c, xs, e, ho, hc⟩ := h.2.2
  clear h ho e h0
  induction l' generalizing xs with
  | nil => intro a ha; simp at ha
  | cons b l' ih =>
    obtain ⟨cc, r, rfl, h1, h2, h3⟩ := hc
    intro a ha
    rcases List.mem_cons.1 ha with rfl | ha
    · exact h2.2.2.2
    · exact ih r h3 a ha
/-- Behind an append of one that is new. -/
theorem UxO.add {d lo N : Nat} {w w' : World} {v v' : Value} {l' : List ExX} {t : Ex} {a b : Nat} (hasc : AscX lo N l') (hN : N ≤ a) (hab : a ≤ b) (hlo : lo ≤ a) (hb : b ≤ w.heap.size) (hw : w.heap.size ≤ w'.heap.size)
    (ho : OwnG (UxA d v b) lo 28 4 w' v' (l' ++ [(t, a, b)])) (hv : v'.ownBlock = v.ownBlock ∨ v'.ownBlock = some w.heap.size) : UxO d lo b w' v' (l' ++ [(t, a, b)]) := by
  refine ⟨hasc.snoc hN hab hlo (Nat.le_refl _), by omega, ho.lower (Nat.le_refl _) (fun x cs g => ?_)⟩
  obtain ⟨g1, g2, g3, g4⟩ := g
  refine ⟨g1, g2, g3, fun k hk => ?_⟩
  rcases hv with e | e
  · rw [e] at hk; exact g4 k hk
  · rw [e] at hk; cases hk; exact .inr (by omega)
end Go.Proofs.Ytodjokdaofefdaa
/- Copies of expressions, by the reference: parts are nil where there are none. -/
namespace Go.Proofs.Ytodjokdaofefdaa
set_option linter.unusedSimpArgs false
set_option linter.unusedVariables false
open Go.RowKit

/-- The box of a copy that grows. -/
def CuB (g : Nat) (r : Ex) (w : World) (v : Value) : Prop := w.heap[g]? = some (.cells #[.int .i64 r.k, .int .i64 r.n, .string r.s, v] 28 (0, 0))
def CuH (d g : Nat) (r : Ex) (W : World) (k : Nat) (w : World) : Prop := ∃ A c l' N, CuB g r w (.slice A k c) ∧ l'.map Prod.fst = r.ps.take k ∧ UxO d (g + 1) N w (.slice A k c) l' ∧ Below g W w ∧ (k = 0 → A = Option.none ∧ c = 0)
def CuA (d g : Nat) (r : Ex) (W : World) (k : Nat) (w : World) (v : Value) : Prop := ∃ A c u l' N, v = .slice A k c ∧ CuB g r w u ∧ l'.map Prod.fst = r.ps.take k ∧ UxO d (g + 1) N w (.slice A k c) l' ∧ Below g W w
/-- A copy. -/
def CvV (d lo : Nat) (t : Ex) (w : World) (v : Value) : Prop := ∃ A c a b, v = .agg #[.int .i64 t.k, .int .i64 t.n, .string t.s, .slice A t.ps.length c] ∧ (lo ≤ a ∧ a ≤ b ∧ b ≤ w.heap.size) ∧ exU d a b w (.slice A t.ps.length c) t.ps
def CvR (d lo : Nat) (t : Ex) (w : World) (v : Value) : Prop := ∃ g A c a b, v = .slice (some ⟨g, 0, none⟩) 1 1 ∧ w.heap[g]? = some (.cells #[.int .i64 t.k, .int .i64 t.n, .string t.s, .slice A t.ps.length c] 28 (0, 0)) ∧ (lo ≤ a ∧ a ≤ b ∧ b ≤ w.heap.size) ∧ exU d a b w (.slice A t.ps.length c) t.ps
section
variable {d g k lo : Nat} {r t : Ex} {W w w' : World} {v : Value}
theorem CuH.below (h : CuH d g r W k w) (hb : Below w.heap.size w w') : CuH d g r W k w' := by
  obtain ⟨A, c, l', N, h1, h2, h3, h4, h5⟩ := h
  have hg := (Array.getElem?_eq_some_iff.1 h1).1
  exact ⟨A, c, l', N, block_below h1 hb, h2, h3.below hb, h4.trans (hb.mono (by omega)), h5⟩
theorem CuA.below (h : CuA d g r W k w v) (hb : Below w.heap.size w w') : CuA d g r W k w' v := by
  obtain ⟨A, c, u, l', N, h0, h1, h2, h3, h4⟩ := h
  have hg := (Array.getElem?_eq_some_iff.1 h1).1
  exact ⟨A, c, u, l', N, h0, block_below h1 hb, h2, h3.below hb, h4.trans (hb.mono (by omega))⟩
theorem CvV.below (h : CvV d lo t w v) (hb : Below w.heap.size w w') : CvV d lo t w' v := by
  obtain ⟨A, c, a, b, h0, h1, h2⟩ := h
  exact ⟨A, c, a, b, h0, ⟨h1.1, h1.2.1, Nat.le_trans h1.2.2 hb.size⟩, h2.below h1.2.2 hb⟩
theorem CvR.below (h : CvR d lo t w v) (hb : Below w.heap.size w w') : CvR d lo t w' v := by
  obtain ⟨g, A, c, a, b, h0, hg, h1, h2⟩ := h
  exact ⟨g, A, c, a, b, h0, block_below hg hb, ⟨h1.1, h1.2.1, Nat.le_trans h1.2.2 hb.size⟩, h2.below h1.2.2 hb⟩
theorem UxO.grown {N : Nat} {l' : List ExX} {row : Option Nat} (h : UxO d lo N w v l') (hg : w.grownBy w' row) (hr : ∀ k, row = some k → k < lo) : UxO d lo N w' v l' := by
  obtain ⟨h1, h2, h3⟩ := h
  have hge := h3.ge
  obtain ⟨A, c, xs, e, ho, hc⟩ := h3
  refine ⟨h1, Nat.le_trans h2 hg.size, A, c, xs, e, own_apart_ ho hg (fun k hk e2 => ?_), hc.mono_mem (fun a ha cs hcs => ?_)⟩
  · rw [← e] at hk
    have := (hge k hk).1
    have := hr k e2
    omega
  · obtain ⟨g1, g2, g3, g4⟩ := hcs
    have hb := h1.1 a ha
    exact ⟨g1.keep (fun k k1 k2 => hg.block k (by omega) (fun e2 => by have := hr k e2.symm; omega)), g2, g3, g4⟩
end
end Go.Proofs.Ytodjokdaofefdaa
/- Guards that are added, by the reference: the whole, and in what rows it stands. -/
namespace Go.Proofs.Ytodjokdaofefdaa
set_option linter.unusedSimpArgs false
set_option linter.unusedVariables false
open Go.RowKit

/-- Rows of expressions, as they are laid: nil where there are none. -/
def exY (P : Nat → Prop) : Nat → World → Value → ExL → Prop
  | 0, _, v, l => l = [] ∧ v = .slice Option.none 0 0
  | d + 1, w, v, l => (l = [] → v = .slice Option.none 0 0) ∧ (0 < l.length → ∃ (g q : Nat) (cs : Array Value), v = .slice (some ⟨g, 0, Option.none⟩) l.length q ∧ (l.length ≤ q ∧ q ≤ 9223372036854775807) ∧ P g ∧ w.heap[g]? = some (.cells cs 28 (0, 0)) ∧ q * 4 ≤ cs.size ∧
      ∀ k, k < l.length → ∃ v', (∀ (j : Nat) u, (exHead (exAt l k) v')[j]? = some u → cs[k * 4 + j]? = some u) ∧ (exAt l k).s.size ≤ 9223372036854775807 ∧ exY P d w v' (exAt l k).ps)
section
variable {P P' : Nat → Prop} {w w' : World}
theorem exY.keep (hk : ∀ k, P k → P' k ∧ w'.heap[k]? = w.heap[k]?) : ∀ {d d' : Nat} {v : Value} {l : ExL}, d ≤ d' → exY P d w v l → exY P' d' w' v l
  | 0, 0, _, _, _, h => h
  | 0, d' + 1, v, l, _, ⟨h1, h2⟩ => ⟨fun _ => h2, fun h => by rw [h1] at h; simp at h⟩
  | d + 1, 0, _, _, hd, _ => by omega
  | d + 1, d' + 1, v, l, hd, ⟨h1, h2⟩ => ⟨h1, fun hn => by
      obtain ⟨g, q, cs, e, hq, hP, hg, hs, hc⟩ := h2 hn
      refine ⟨g, q, cs, e, hq, (hk g hP).1, (hk g hP).2.trans hg, hs, fun k hkl => ?_⟩
      obtain ⟨v', g1, g2, g3⟩ := hc k hkl
      exact ⟨v', g1, g2, exY.keep hk (by omega) g3⟩⟩
theorem exY.slice : ∀ {d : Nat} {v : Value} {l : ExL}, exY P d w v l → ∃ A c, v = .slice A l.length c
  | 0, _, _, ⟨h1, h2⟩ => ⟨Option.none, 0, by rw [h1]; exact h2⟩
  | d + 1, v, l, ⟨h1, h2⟩ => by
    rcases Nat.eq_zero_or_pos l.length with h0 | h0
    · have := List.eq_nil_of_length_eq_zero h0
      exact ⟨Option.none, 0, by rw [h0]; exact h1 this⟩
    · obtain ⟨g, q, _, e, _⟩ := h2 h0
      exact ⟨_, _, e⟩
theorem exY.nil : ∀ {d : Nat}, exY P d w (.slice Option.none 0 0) []
  | 0 => ⟨rfl, rfl⟩
  | _ + 1 => ⟨fun _ => rfl, fun h => absurd h (by simp)⟩
/-- As they read. -/
theorem exY.q : ∀ {d : Nat} {v : Value} {l : ExL}, exY P d w v l → ∃ A c, v = .slice A l.length c ∧ exQ P d w A l
  | 0, _, _, ⟨h1, h2⟩ => ⟨Option.none, 0, by rw [h1]; exact h2, by rw [h1]; exact ⟨RdL.nil _, fun h => by simp at h⟩⟩
  | d + 1, v, l, ⟨h1, h2⟩ => by
    rcases Nat.eq_zero_or_pos l.length with h0 | h0
    · have hl := List.eq_nil_of_length_eq_zero h0
      refine ⟨Option.none, 0, by rw [h0]; exact h1 hl, ?_⟩
      rw [hl]
      exact ⟨RdL.nil _, fun h => by simp at h⟩
    · obtain ⟨g, q, cs, e, hq, hP, hg, hs, hc⟩ := h2 h0
      refine ⟨_, q, e, ⟨by omega, fun _ => ⟨g, 0, rfl, fun k hk => ?_⟩⟩, fun _ a ha => by cases ha; exact hP⟩
      obtain ⟨v', g1, g2, g3⟩ := hc k hk
      obtain ⟨A', c', e', hr⟩ := exY.q g3
      subst e'
      rw [exAt_eq hk] at g1 g2 hr
      exact ⟨_, rfl, ⟨A', c', rfl, hr.1, hr.2, g2⟩, fun j u hu => by rw [Nat.zero_add, cell_of_row _ _ _ _ _ _ hg]; exact g1 j u (by rw [← exAt_eq hk]; rw [exAt_eq hk]; exact hu)⟩
end
/-- In rows from block lo on, without block g. -/
def exZ (lo g d : Nat) (w : World) (v : Value) (l : ExL) : Prop := exY (fun k => lo ≤ k ∧ k ≠ g ∧ k < w.heap.size) d w v l
section
variable {lo g d d' : Nat} {w w' : World} {v : Value} {l : ExL}
theorem exZ.below (h : exZ lo g d w v l) (hb : Below w.heap.size w w') : exZ lo g d w' v l := exY.keep (fun k hk => ⟨⟨hk.1, hk.2.1, Nat.lt_of_lt_of_le hk.2.2 hb.size⟩, hb.block k hk.2.2⟩) (Nat.le_refl _) h
theorem exZ.grown (h : exZ lo g d w v l) (hg : w.grownBy w' (some g)) : exZ lo g d w' v l := exY.keep (fun k hk => ⟨⟨hk.1, hk.2.1, Nat.lt_of_lt_of_le hk.2.2 hg.size⟩, hg.block k hk.2.2 (fun e => hk.2.1 (by cases e; rfl))⟩) (Nat.le_refl _) h
theorem exZ.low {row : Option Nat} (h : exZ lo g d w v l) (hg : w.grownBy w' row) (hr : ∀ k, row = some k → k < lo) : exZ lo g d w' v l := exY.keep (fun k hk => ⟨⟨hk.1, hk.2.1, Nat.lt_of_lt_of_le hk.2.2 hg.size⟩, hg.block k hk.2.2 (fun e => by have := hr k e.symm; omega)⟩) (Nat.le_refl _) h
theorem exZ.deeper (h : exZ lo g d w v l) (hd : d ≤ d') : exZ lo g d' w v l := exY.keep (fun _ hk => ⟨hk, rfl⟩) hd h
theorem exU.y : ∀ {d a b : Nat} {v : Value} {l : ExL}, exU d a b w v l → exY (fun k => a ≤ k ∧ k < b) d w v l
  | 0, _, _, _, _, h => h
  | d + 1, a, b, v, l, ⟨l', h1, h2, h3, h4, h5, h6⟩ => ⟨h6, fun hn => by
      have hge := h5.ge
      obtain ⟨A, c, xs, e, ho, hc⟩ := h5
      have hl : l'.length = l.length := by rw [← h1, List.length_map]
      rw [hl] at e ho
      rcases ho.2 with ⟨_, h0⟩ | ⟨g, cap, cur, hv, hB, hx, k1, k2, k3, k4⟩
      · omega
      · rw [hv] at e
        simp only [maxLen] at k2
        refine ⟨g, cap, cur, e, ⟨k1, by omega⟩, ⟨hB, h4 g (by rw [e]; rfl)⟩, hx, by omega, fun k hk => ?_⟩
        obtain ⟨cc, c1, ⟨v', c2, c3, c4⟩, c5⟩ := hc.at k (by omega)
        have ha : l'[k]'(by omega) ∈ l' := List.getElem_mem _
        have hb := h2.1 _ ha
        have hx1 : (l'[k]'(by omega)).1 = exAt l k := by
          rw [exAt_eq hk]
          simp only [← h1, List.getElem_map]
        rw [hx1] at c2 c3 c4
        refine ⟨v', fun j u hu => ?_, c4, exY.keep (fun q hq => ⟨⟨by omega, by omega⟩, rfl⟩) (Nat.le_refl _) (exU.y c3)⟩
        rw [← c2] at hu
        have h7 := c5 j u hu
        rw [← k4] at h7
        have hlt := (List.getElem?_eq_some_iff.1 h7).1
        rw [List.getElem?_take_of_lt (by simp at hlt; omega)] at h7
        simpa using h7⟩
/-- A row of two, laid anew. -/
theorem exZ.two {b c1 c2 : Nat} {A1 A2 : Option Addr} {t1 t2 : Ex} (hb : w.heap[b]? = some (.cells #[.int .i64 t1.k, .int .i64 t1.n, .string t1.s, .slice A1 t1.ps.length c1, .int .i64 t2.k, .int .i64 t2.n, .string t2.s, .slice A2 t2.ps.length c2] 28 (0, 0))) (h0 : lo ≤ b) (hg : b ≠ g)
    (h1 : exZ lo g d w (.slice A1 t1.ps.length c1) t1.ps) (h2 : exZ lo g d w (.slice A2 t2.ps.length c2) t2.ps) (s1 : t1.s.size ≤ 9223372036854775807) (s2 : t2.s.size ≤ 9223372036854775807) : exZ lo g (d + 1) w (.slice (some ⟨b, 0, none⟩) 2 2) [t1, t2] := by
  refine ⟨fun h => by simp at h, fun _ => ⟨b, 2, _, rfl, ⟨Nat.le_refl _, by decide⟩, ⟨h0, hg, (Array.getElem?_eq_some_iff.1 hb).1⟩, hb, by simp, fun k hk => ?_⟩⟩
  match k, hk with
  | 0, _ => exact ⟨_, fun j u hu => by
      match j, hu with
      | 0, hu => exact hu
      | 1, hu => exact hu
      | 2, hu => exact hu
      | 3, hu => exact hu
      | n + 4, hu => simp [exHead] at hu, s1, h1⟩
  | 1, _ => exact ⟨_, fun j u hu => by
      match j, hu with
      | 0, hu => exact hu
      | 1, hu => exact hu
      | 2, hu => exact hu
      | 3, hu => exact hu
      | n + 4, hu => simp [exHead] at hu, s2, h2⟩
  | n + 2, hk => exact absurd hk (by simp)
end
def GbZ (lo g d : Nat) (t : Ex) (W w : World) : Prop := ∃ A c, ExBx g t w A c ∧ exZ lo g d w (.slice A t.ps.length c) t.ps ∧ Below g W w
theorem GbZ.below {lo g d : Nat} {t : Ex} {W w w' : World} (h : GbZ lo g d t W w) (hb : Below w.heap.size w w') : GbZ lo g d t W w' := by
  obtain ⟨A, c, h1, h2, h3⟩ := h
  have hg := (Array.getElem?_eq_some_iff.1 h1).1
  exact ⟨A, c, block_below h1 hb, h2.below hb, h3.trans (hb.mono (by omega))⟩
def ExZ (lo g d : Nat) (r : Ex) (w : World) (v : Value) : Prop := ∃ A c, v = .agg #[.int .i64 r.k, .int .i64 r.n, .string r.s, .slice A r.ps.length c] ∧ exZ lo g d w (.slice A r.ps.length c) r.ps
theorem ExZ.below {lo g d : Nat} {r : Ex} {w w' : World} {v : Value} (h : ExZ lo g d r w v) (hb : Below w.heap.size w w') : ExZ lo g d r w' v := let ⟨A, c, e, h⟩ := h; ⟨A, c, e, h.below hb⟩
def TwZ (lo g d : Nat) (t1 t2 : Ex) (w : World) (v : Value) : Prop := ∃ b, v = .slice (some ⟨b, 0, none⟩) 2 2 ∧ exZ lo g d w (.slice (some ⟨b, 0, none⟩) 2 2) [t1, t2]
theorem TwZ.below {lo g d : Nat} {t1 t2 : Ex} {w w' : World} {v : Value} (h : TwZ lo g d t1 t2 w v) (hb : Below w.heap.size w w') : TwZ lo g d t1 t2 w' v := let ⟨b, e, h⟩ := h; ⟨b, e, h.below hb⟩
/-- What GuardedBy leaves: rows that were not there. -/
def GuPost (d : Nat) (r : Ex) (w : World) (e : Ending) (w' : World) : Prop := ∃ A c, e = .returned (.tuple #[.agg #[.int .i64 (gbE d r).k, .int .i64 (gbE d r).n, .string (gbE d r).s, .slice A (gbE d r).ps.length c], .bool (gbB d r)]) ∧ exY (fun k => w.heap.size ≤ k ∧ k < w'.heap.size) (d + (gbL d r).length) w' (.slice A (gbE d r).ps.length c) (gbE d r).ps ∧ Below w.heap.size w w'
theorem GuPost.no {d : Nat} {r : Ex} {w w' : World} (h : gbB d r = false) (hb : Below w.heap.size w w') : GuPost d r w (.returned (.tuple #[.agg #[.int .i64 0, .int .i64 0, .string ⟨#[]⟩, .slice Option.none 0 0], .bool false])) w' := by
  refine ⟨Option.none, 0, ?_, ?_, hb⟩
  · rw [h, gb_no h]; rfl
  · rw [gb_no h]; exact exY.nil
end Go.Proofs.Ytodjokdaofefdaa

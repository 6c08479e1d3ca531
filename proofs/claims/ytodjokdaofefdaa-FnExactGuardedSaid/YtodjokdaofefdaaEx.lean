/- Expressions: trees; how they read, in which blocks they stand. -/
import Derived.Test.YtodjokdaofefdaaKit
namespace Go.Proofs.Ytodjokdaofefdaa
set_option linter.unusedSimpArgs false
set_option linter.unusedVariables false
open Go.RowKit

inductive Ex where
  | nd (k n : Int) (s : ByteArray) (ps : List Ex)
def Ex.k : Ex → Int | .nd k _ _ _ => k
def Ex.n : Ex → Int | .nd _ n _ _ => n
def Ex.s : Ex → ByteArray | .nd _ _ s _ => s
def Ex.ps : Ex → List Ex | .nd _ _ _ ps => ps
theorem Ex.ext {a b : Ex} (h1 : a.k = b.k) (h2 : a.n = b.n) (h3 : a.s = b.s) (h4 : a.ps = b.ps) : a = b := by
  cases a; cases b
  simp only [Ex.k, Ex.n, Ex.s, Ex.ps] at h1 h2 h3 h4
  subst h1; subst h2; subst h3; subst h4; rfl
abbrev ExL := List Ex
def exD : Ex := .nd 0 0 ByteArray.empty []
def exAt (l : ExL) (k : Nat) : Ex := l.getD k exD
theorem exAt_eq {l : ExL} {k : Nat} (hk : k < l.length) : exAt l k = l[k] := by simp [exAt, hk]
def exHead (t : Ex) (v : Value) : List Value := [.int .i64 t.k, .int .i64 t.n, .string t.s, v]
/-- An expression at most d deep; its parts stand in blocks from lo on, below hi. -/
def exR : Nat → Nat → Nat → World → Ex → List Value → Prop
  | 0, _, _, _, _, _ => False
  | d + 1, lo, hi, w, t, cs => ∃ A c, cs = exHead t (.slice A t.ps.length c) ∧ RdL (exR d lo hi) 4 w A t.ps ∧ (0 < t.ps.length → ∀ a, A = some a → lo ≤ a.block ∧ a.block < hi) ∧ t.s.size ≤ 9223372036854775807
def exS (d lo hi : Nat) (w : World) (A : Option Addr) (l : ExL) : Prop := RdL (exR d lo hi) 4 w A l ∧ (0 < l.length → ∀ a, A = some a → lo ≤ a.block ∧ a.block < hi)
section
variable {d d' lo hi lo' hi' B : Nat} {w w' : World} {A : Option Addr} {l : ExL} {t : Ex} {cs : List Value}
theorem RdL.keep {α : Type} {R R' : World → α → List Value → Prop} {sz : Nat} {l : List α} (h : RdL R sz w A l) (hR : ∀ a cs, R w a cs → R' w' a cs) (hA : 0 < l.length → ∀ a, A = some a → w'.heap[a.block]? = w.heap[a.block]?) : RdL R' sz w' A l := by
  refine ⟨h.1, fun hn => ?_⟩
  obtain ⟨b, off, e, hc⟩ := h.2 hn
  refine ⟨b, off, e, fun k hk => ?_⟩
  obtain ⟨cs, h1, h2, h3⟩ := hc k hk
  refine ⟨cs, h1, hR _ _ h2, fun j v hv => ?_⟩
  have hb := hA hn _ e
  rw [World.cell?_of_block (by exact hb)]
  exact h3 j v hv
theorem exR.keep (hk : ∀ k, lo ≤ k → k < hi → w'.heap[k]? = w.heap[k]?) (h1 : lo' ≤ lo) (h2 : hi ≤ hi') : ∀ {d : Nat} {t : Ex} {cs : List Value}, exR d lo hi w t cs → exR d lo' hi' w' t cs
  | 0, _, _, h => h
  | d + 1, t, cs, ⟨A, c, e, h3, h4, h5⟩ => ⟨A, c, e, RdL.keep h3 (fun _ _ h => exR.keep hk h1 h2 h) (fun hn a ha => hk _ (h4 hn a ha).1 (h4 hn a ha).2), fun hn a ha => ⟨by have := (h4 hn a ha).1; omega, by have := (h4 hn a ha).2; omega⟩, h5⟩
theorem exS.keep (h : exS d lo hi w A l) (hk : ∀ k, lo ≤ k → k < hi → w'.heap[k]? = w.heap[k]?) (h1 : lo' ≤ lo) (h2 : hi ≤ hi') : exS d lo' hi' w' A l :=
  ⟨RdL.keep h.1 (fun _ _ h => exR.keep hk h1 h2 h) (fun hn a ha => hk _ (h.2 hn a ha).1 (h.2 hn a ha).2), fun hn a ha => ⟨by have := (h.2 hn a ha).1; omega, by have := (h.2 hn a ha).2; omega⟩⟩
theorem exS.below (h : exS d lo hi w A l) (hB : hi ≤ B) (hb : Below B w w') : exS d lo hi w' A l := h.keep (fun k _ hk => hb.block k (by omega)) (Nat.le_refl _) (Nat.le_refl _)
theorem exR.below (h : exR d lo hi w t cs) (hB : hi ≤ B) (hb : Below B w w') : exR d lo hi w' t cs := h.keep (fun k _ hk => hb.block k (by omega)) (Nat.le_refl _) (Nat.le_refl _)
theorem exS.wide (h : exS d lo hi w A l) (h1 : lo' ≤ lo) (h2 : hi ≤ hi') : exS d lo' hi' w A l := h.keep (fun _ _ _ => rfl) h1 h2
theorem exR.deeper : ∀ {d d' : Nat} {t : Ex} {cs : List Value}, d ≤ d' → exR d lo hi w t cs → exR d' lo hi w t cs
  | 0, _, _, _, _, h => h.elim
  | d + 1, 0, _, _, hd, _ => by omega
  | d + 1, d' + 1, t, cs, hd, ⟨A, c, e, h3, h4⟩ => ⟨A, c, e, RdL.keep h3 (fun _ _ h => exR.deeper (by omega) h) (fun _ _ _ => rfl), h4⟩
theorem exS.deeper (h : exS d lo hi w A l) (hd : d ≤ d') : exS d' lo hi w A l := ⟨RdL.keep h.1 (fun _ _ h => exR.deeper hd h) (fun _ _ _ => rfl), h.2⟩
theorem exS.nil : exS d lo hi w A [] := ⟨RdL.nil A, fun h => by simp at h⟩
theorem exS.len (h : exS d lo hi w A l) : l.length ≤ 9223372036854775807 := h.1.1
theorem exS.zero (h : exS 0 lo hi w A l) : l = [] := by
  cases l with
  | nil => rfl
  | cons x l =>
    obtain ⟨_, _, _, hc⟩ := h.1.2 (by simp)
    obtain ⟨_, _, h2, _⟩ := hc 0 (by simp)
    exact h2.elim
theorem exS.cells (h : exS (d + 1) lo hi w A l) (hn : 0 < l.length) : ∃ b off, A = some ⟨b, off, none⟩ ∧ (lo ≤ b ∧ b < hi) ∧ ∀ k, k < l.length → ∃ A' c', exS d lo hi w A' (exAt l k).ps ∧ (exAt l k).s.size ≤ 9223372036854775807 ∧
    w.cell? ⟨b, off + k * 4, none⟩ = some (.int .i64 (exAt l k).k) ∧ w.cell? ⟨b, off + k * 4 + 1, none⟩ = some (.int .i64 (exAt l k).n) ∧ w.cell? ⟨b, off + k * 4 + 2, none⟩ = some (.string (exAt l k).s) ∧ w.cell? ⟨b, off + k * 4 + 3, none⟩ = some (.slice A' (exAt l k).ps.length c') := by
  obtain ⟨b, off, e, hc⟩ := h.1.2 hn
  refine ⟨b, off, e, h.2 hn _ e, fun k hk => ?_⟩
  obtain ⟨cs, _, ⟨A', c', rfl, h2, h4, h5⟩, hv⟩ := hc k hk
  have e : l[k] = exAt l k := (exAt_eq hk).symm
  rw [e] at h2 hv h4 h5
  exact ⟨A', c', ⟨h2, h4⟩, h5, hv 0 _ rfl, hv 1 _ rfl, hv 2 _ rfl, hv 3 _ rfl⟩
end
/-- Whether two are alike. -/
noncomputable def sameX {α : Type} (a b : α) : Bool := @decide (a = b) (Classical.propDecidable _)
theorem sameX_true {α : Type} {a b : α} : sameX a b = true ↔ a = b := by simp [sameX]
theorem sameX_false {α : Type} {a b : α} : sameX a b = false ↔ a ≠ b := by simp [sameX]
theorem sameX_self {α : Type} (a : α) : sameX a a = true := sameX_true.2 rfl
end Go.Proofs.Ytodjokdaofefdaa

/- Expressions: trees; how they read, in which blocks they stand. -/
import Derived.Test.YtodjokdaofefdaaQ1
namespace Go.Proofs.Ytodjokdaofefdaa
set_option linter.unusedSimpArgs false
set_option linter.unusedVariables false
open Go.RowKit

inductive Ex where
  | nd (k n : Int) (s : ByteArray) (ps : List Ex)
def Ex.k : Ex → Int | .nd k _ _ _ => k
def Ex.n : Ex → Int | .nd _ n _ _ => n
def Ex.s : Ex → ByteArray | .nd _ _ s _ => s
def Ex.ps : Ex → List Ex | .nd _ _ _ ps => ps
theorem Ex.ext {a b : Ex} (h1 : a.k = b.k) (h2 : a.n = b.n) (h3 : a.s = b.s) (h4 : a.ps = b.ps) : a = b := by
  cases a; cases b
  simp only [Ex.k, Ex.n, Ex.s, Ex.ps] at h1 h2 h3 h4
  subst h1; subst h2; subst h3; subst h4; rfl
abbrev ExL := List Ex
def exD : Ex := .nd 0 0 ByteArray.empty []
def exAt (l : ExL) (k : Nat) : Ex := l.getD k exD
theorem exAt_eq {l : ExL} {k : Nat} (hk : k < l.length) : exAt l k = l[k] := by simp [exAt, hk]
def exHead (t : Ex) (v : Value) : List Value := [.int .i64 t.k, .int .i64 t.n, .string t.s, v]
/-- An expression at most d deep; its parts stand in blocks from lo on, below hi. -/
def exR : Nat → Nat → Nat → World → Ex → List Value → Prop
  | 0, _, _, _, _, _ => False
  | d + 1, lo, hi, w, t, cs => ∃ A c, cs = exHead t (.slice A t.ps.length c) ∧ RdL (exR d lo hi) 4 w A t.ps ∧ (0 < t.ps.length → ∀ a, A = some a → lo ≤ a.block ∧ a.block < hi) ∧ t.s.size ≤ 9223372036854775807
def exS (d lo hi : Nat) (w : World) (A : Option Addr) (l : ExL) : Prop := RdL (exR d lo hi) 4 w A l ∧ (0 < l.length → ∀ a, A = some a → lo ≤ a.block ∧ a.block < hi)
section
variable {d d' lo hi lo' hi' B : Nat} {w w' : World} {A : Option Addr} {l : ExL} {t : Ex} {cs : List Value}
theorem RdL.keep {α : Type} {R R' : World → α → List Value → Prop} {sz : Nat} {l : List α} (h : RdL R sz w A l) (hR : ∀ a cs, R w a cs → R' w' a cs) (hA : 0 < l.length → ∀ a, A = some a → w'.heap[a.block]? = w.heap[a.block]?) : RdL R' sz w' A l := by
  refine ⟨h.1, fun hn => ?_⟩
  obtain ⟨b, off, e, hc⟩ := h.2 hn
  refine ⟨b, off, e, fun k hk => ?_⟩
  obtain ⟨cs, h1, h2, h3⟩ := hc k hk
  refine ⟨cs, h1, hR _ _ h2, fun j v hv => ?_⟩
  have hb := hA hn _ e
  rw [World.cell?_of_block (by exact hb)]
  exact h3 j v hv
theorem exR.keep (hk : ∀ k, lo ≤ k → k < hi → w'.heap[k]? = w.heap[k]?) (h1 : lo' ≤ lo) (h2 : hi ≤ hi') : ∀ {d : Nat} {t : Ex} {cs : List Value}, exR d lo hi w t cs → exR d lo' hi' w' t cs
  | 0, _, _, h => h
  | d + 1, t, cs, ⟨A, c, e, h3, h4, h5⟩ => ⟨A, c, e, RdL.keep h3 (fun _ _ h => exR.keep hk h1 h2 h) (fun hn a ha => hk _ (h4 hn a ha).1 (h4 hn a ha).2), fun hn a ha => ⟨by have := (h4 hn a ha).1; omega, by have := (h4 hn a ha).2; omega⟩, h5⟩
theorem exS.keep (h : exS d lo hi w A l) (hk : ∀ k, lo ≤ k → k < hi → w'.heap[k]? = w.heap[k]?) (h1 : lo' ≤ lo) (h2 : hi ≤ hi') : exS d lo' hi' w' A l :=
  ⟨RdL.keep h.1 (fun _ _ h => exR.keep hk h1 h2 h) (fun hn a ha => hk _ (h.2 hn a ha).1 (h.2 hn a ha).2), fun hn a ha => ⟨by have := (h.2 hn a ha).1; omega, by have := (h.2 hn a ha).2; omega⟩⟩
theorem exS.below (h : exS d lo hi w A l) (hB : hi ≤ B) (hb : Below B w w') : exS d lo hi w' A l := h.keep (fun k _ hk => hb.block k (by omega)) (Nat.le_refl _) (Nat.le_refl _)
theorem exR.below (h : exR d lo hi w t cs) (hB : hi ≤ B) (hb : Below B w w') : exR d lo hi w' t cs := h.keep (fun k _ hk => hb.block k (by omega)) (Nat.le_refl _) (Nat.le_refl _)
theorem exS.wide (h : exS d lo hi w A l) (h1 : lo' ≤ lo) (h2 : hi ≤ hi') : exS d lo' hi' w A l := h.keep (fun _ _ _ => rfl) h1 h2
theorem exR.deeper : ∀ {d d' : Nat} {t : Ex} {cs : List Value}, d ≤ d' → exR d lo hi w t cs → exR d' lo hi w t cs
  | 0, _, _, _, _, h => h.elim
  | d + 1, 0, _, _, hd, _ => by omega
  | d + 1, d' + 1, t, cs, hd, ⟨A, c, e, h3, h4⟩ => ⟨A, c, e, RdL.keep h3 (fun _ _ h => exR.deeper (by omega) h) (fun _ _ _ => rfl), h4⟩
theorem exS.deeper (h : exS d lo hi w A l) (hd : d ≤ d') : exS d' lo hi w A l := ⟨RdL.keep h.1 (fun _ _ h => exR.deeper hd h) (fun _ _ _ => rfl), h.2⟩
theorem exS.nil : exS d lo hi w A [] := ⟨RdL.nil A, fun h => by simp at h⟩
theorem exS.len (h : exS d lo hi w A l) : l.length ≤ 9223372036854775807 := h.1.1
theorem exS.zero (h : exS 0 lo hi w A l) : l = [] := by
  cases l with
  | nil => rfl
  | cons x l =>
    obtain ⟨_, _, _, hc⟩ := h.1.2 (by simp)
    obtain ⟨_, _, h2, _⟩ := hc 0 (by simp)
    exact h2.elim
theorem exS.cells (h : exS (d + 1) lo hi w A l) (hn : 0 < l.length) : ∃ b off, A = some ⟨b, off, none⟩ ∧ (lo ≤ b ∧ b < hi) ∧ ∀ k, k < l.length → ∃ A' c', exS d lo hi w A' (exAt l k).ps ∧ (exAt l k).s.size ≤ 9223372036854775807 ∧
    w.cell? ⟨b, off + k * 4, none⟩ = some (.int .i64 (exAt l k).k) ∧ w.cell? ⟨b, off + k * 4 + 1, none⟩ = some (.int .i64 (exAt l k).n) ∧ w.cell? ⟨b, off + k * 4 + 2, none⟩ = some (.string (exAt l k).s) ∧ w.cell? ⟨b, off + k * 4 + 3, none⟩ = some (.slice A' (exAt l k).ps.length c') := by
  obtain ⟨b, off, e, hc⟩ := h.1.2 hn
  refine ⟨b, off, e, h.2 hn _ e, fun k hk => ?_⟩
  obtain ⟨cs, _, ⟨A', c', rfl, h2, h4, h5⟩, hv⟩ := hc k hk
  have e : l[k] = exAt l k := (exAt_eq hk).symm
  rw [e] at h2 hv h4 h5
  exact ⟨A', c', ⟨h2, h4⟩, h5, hv 0 _ rfl, hv 1 _ rfl, hv 2 _ rfl, hv 3 _ rfl⟩
end
/-- Whether two are alike. -/
noncomputable def sameX {α : Type} (a b : α) : Bool := @decide (a = b) (Classical.propDecidable _)
theorem sameX_true {α : Type} {a b : α} : sameX a b = true ↔ a = b := by simp [sameX]
theorem sameX_false {α : Type} {a b : α} : sameX a b = false ↔ a ≠ b := by simp [sameX]
theorem sameX_self {α : Type} (a : α) : sameX a a = true := sameX_true.2 rfl
end Go.Proofs.Ytodjokdaofefdaa
/- Structs with one slice of flat elements: how slices of them read; rows of one's own. -/
namespace Go.Proofs.Ytodjokdaofefdaa
set_option linter.unusedSimpArgs false
set_option linter.unusedVariables false
open Go.RowKit

/-- A type of structs with one slice field: its cells (the slice's value apart), the slice's elements. -/
structure Nst (α β : Type) where
  cells : α → Value → List Value
  inner : α → List β
  enc : β → List Value
  isz : Nat
  iT : TypeId
structure Nst.Good {α β : Type} (N : Nst α β) (oT : TypeId) : Prop where
  one : ∀ r v, v.oneCell' = true → ∀ u ∈ N.cells r v, u.oneCell' = true
  encl : ∀ b, (N.enc b).length = N.isz
  ipos : 0 < N.isz
  ne : N.iT ≠ oT
section
variable {α β : Type} {N : Nst α β} {oT : TypeId} {osz B B' B0 B1 : Nat} {w w' : World} {A : Option Addr} {l : List α} {r : α} {cs : List Value}
theorem rdl_lt {enc : β → List Value} {sz : Nat} {l : List β} (hp : 0 < sz) (h : RdL (Flat enc) sz w A l) (hn : 0 < l.length) (a : Addr) (ha : A = some a) : a.block < w.heap.size := by
  obtain ⟨b, off, e, hc⟩ := h.2 hn
  subst ha
  simp only [Option.some.injEq] at e
  subst e
  obtain ⟨cs, h1, _, h3⟩ := hc 0 hn
  have h4 := h3 0 (cs[0]'(by omega)) (List.getElem?_eq_getElem _)
  have h5 := block_lt_of_cell h4
  simpa using h5
theorem rdl_belowB {enc : β → List Value} {sz : Nat} {l : List β} (h : RdL (Flat enc) sz w A l) (hlt : 0 < l.length → ∀ a, A = some a → a.block < B0) (hb : ∀ k, k < B0 → w'.heap[k]? = w.heap[k]?) : RdL (Flat enc) sz w' A l := by
  refine ⟨h.1, fun hn => ?_⟩
  obtain ⟨b, off, e, hc⟩ := h.2 hn
  refine ⟨b, off, e, fun k hk => ?_⟩
  obtain ⟨cs, h1, h2, h3⟩ := hc k hk
  refine ⟨cs, h1, h2, fun j v hv => ?_⟩
  have h4 := h3 j v hv
  have h5 := hlt hn _ e
  rw [← h4]
  exact World.cell?_of_block (hb _ h5)
def Nst.R (N : Nst α β) (B0 : Nat) (w : World) (r : α) (cs : List Value) : Prop := ∃ A c, cs = N.cells r (.slice A (N.inner r).length c) ∧ RdL (Flat N.enc) N.isz w A (N.inner r) ∧ (0 < (N.inner r).length → ∀ a, A = some a → a.block < B0)
def Nst.O (N : Nst α β) (B : Nat) (w : World) (r : α) (cs : List Value) : Prop := ∃ v, cs = N.cells r v ∧ OwnA B N.iT N.isz N.enc w v (N.inner r)
theorem Nst.R.belowB (h : N.R B0 w r cs) (hb : ∀ k, k < B0 → w'.heap[k]? = w.heap[k]?) : N.R B0 w' r cs := by
  obtain ⟨A, c, h1, h2, h3⟩ := h
  exact ⟨A, c, h1, rdl_belowB h2 h3 hb, h3⟩
theorem Nst.R.up (h : N.R B0 w r cs) (hB : B0 ≤ B1) : N.R B1 w r cs := by
  obtain ⟨A, c, h1, h2, h3⟩ := h
  exact ⟨A, c, h1, h2, fun hn a ha => Nat.lt_of_lt_of_le (h3 hn a ha) hB⟩
theorem Nst.R.mono (hB : B0 ≤ w.heap.size) (hb : Below w.heap.size w w') (h : N.R B0 w r cs) : N.R B0 w' r cs := h.belowB (fun k hk => hb.block k (by omega))
theorem Nst.O.one (hN : N.Good oT) (h : N.O B w r cs) : ∀ u ∈ cs, u.oneCell' = true := by
  obtain ⟨v, rfl, A, c, rfl, _⟩ := h
  exact hN.one r _ rfl
theorem Nst.R.one (hN : N.Good oT) (h : N.R B w r cs) : ∀ u ∈ cs, u.oneCell' = true := by
  obtain ⟨A, c, rfl, _⟩ := h
  exact hN.one r _ rfl
theorem Nst.O.rd (hN : N.Good oT) (h : N.O B w r cs) (hn : (N.inner r).length ≤ 9223372036854775807) : N.R w.heap.size w r cs := by
  obtain ⟨v, rfl, ho⟩ := h
  obtain ⟨A, c, rfl, hr⟩ := OwnA.rd hN.encl hn ho
  exact ⟨A, c, rfl, hr, fun h0 a ha => rdl_lt hN.ipos hr h0 a ha⟩
theorem Nst.O.below (hb : Below w.heap.size w w') (h : N.O B w r cs) : N.O B w' r cs := let ⟨v, h1, h2⟩ := h; ⟨v, h1, h2.below hb⟩
theorem Nst.O.lower (hB : B' ≤ B) (h : N.O B w r cs) : N.O B' w r cs := let ⟨v, h1, h2⟩ := h; ⟨v, h1, h2.lower hB⟩
/-- Only rows of the structs turn: what is in them stays. -/
theorem Nst.O.row (hN : N.Good oT) {row : Option Nat} (hg : w.grownBy w' row) (hrow : ∀ k, row = some k → ∃ cs fr, w.heap[k]? = some (.cells cs oT fr)) (h : N.O B w r cs) : N.O B w' r cs := by
  obtain ⟨v, h1, A, c, rfl, ho⟩ := h
  refine ⟨_, h1, A, c, rfl, own_apart_ ho hg (fun k hk e => ?_)⟩
  obtain ⟨cs, fr, hx⟩ := hrow k e
  rcases ho.2 with ⟨h1, _⟩ | ⟨g2, cap, cur, hv, _, hx2, _⟩
  · rw [h1] at hk; cases hk
  · rw [hv] at hk
    simp only [Value.ownBlock, Option.some.injEq] at hk
    subst hk
    rw [hx] at hx2
    simp only [Option.some.injEq, Obj.cells.injEq] at hx2
    exact absurd hx2.2.1 (fun h => hN.ne h.symm)
/-- The slice with the address A reads as l. -/
def Nst.rdl (N : Nst α β) (osz : Nat) (w : World) (A : Option Addr) (l : List α) : Prop := RdL (N.R w.heap.size) osz w A l
theorem RdL.mono {α : Type} {R R' : World → α → List Value → Prop} {sz : Nat} {w w' : World} {A : Option Addr} {l : List α} (h : RdL R sz w A l) (hb : Below w.heap.size w w') (hR : ∀ a cs, R w a cs → R' w' a cs) : RdL R' sz w' A l :=
  ⟨h.1, fun hn => let ⟨b, off, e, hc⟩ := h.2 hn; ⟨b, off, e, fun k hk => let ⟨cs, h1, h2, h3⟩ := hc k hk; ⟨cs, h1, hR _ _ h2, fun j v hv => below_cell hb (h3 j v hv)⟩⟩⟩
theorem chunks_mem {α : Type} {R : α → List Value → Prop} {p : α → Prop} {sz : Nat} {l : List α} {xs : List Value} (hp : ∀ a ∈ l, p a) (h : Chunks R sz l xs) : Chunks (fun a cs => R a cs ∧ p a) sz l xs := by
  induction l generalizing xs with
  | nil => exact h
  | cons a l ih =>
    obtain ⟨c, r, rfl, h1, h2, h3⟩ := h
    exact ⟨c, r, rfl, h1, ⟨h2, hp a (by simp)⟩, ih (fun b hb => hp b (by simp [hb])) h3⟩
theorem Nst.rdl.below (h : N.rdl osz w A l) (hb : Below w.heap.size w w') : N.rdl osz w' A l := RdL.mono h hb (fun a cs h => (Nst.R.mono (Nat.le_refl _) hb h).up hb.size)
theorem Nst.rdl.regrown (h : N.rdl osz w A l) (d : Nat) (os : Array Obj) : N.rdl osz (Sort.grow (redrawn w d) os) A l := h.below (below_regrown w d os)
theorem Nst.rdl.len (h : N.rdl osz w A l) : l.length ≤ 9223372036854775807 := h.1
theorem Nst.rdl.own (hN : N.Good oT) {c : Nat} (hl : l.length ≤ 9223372036854775807) (hf : ∀ r ∈ l, (N.inner r).length ≤ 9223372036854775807) (h : OwnG (N.O B) B oT osz w (.slice A l.length c) l) : N.rdl osz w A l := by
  obtain ⟨A', c', xs, e, ho, hc⟩ := h
  have h2 : OwnG (fun w r cs => N.O B w r cs ∧ (N.inner r).length ≤ 9223372036854775807) B oT osz w (.slice A l.length c) l := ⟨A', c', xs, e, ho, chunks_mem hf hc⟩
  obtain ⟨A1, c1, e1, hr⟩ := h2.rd hl
  simp only [Value.slice.injEq, true_and] at e1
  obtain ⟨rfl, rfl⟩ := e1
  exact ⟨hr.1, fun hn => let ⟨b, off, e, hc⟩ := hr.2 hn; ⟨b, off, e, fun k hk => let ⟨cs, g1, g2, g3⟩ := hc k hk; ⟨cs, g1, Nst.O.rd hN g2.1 g2.2, g3⟩⟩⟩
end
theorem own_setCell {w : World} {B sz n : Nat} {e : TypeId} {v : Value} {xs : List Value} {a : Addr} {x : Value} (h : w.ownsRow B e sz v n xs) (hne : ∀ k, v.ownBlock = some k → k ≠ a.block) : (w.setCell a x).ownsRow B e sz v n xs :=
  own_apart_ (row := some a.block) h ⟨rfl, rfl, rfl, by simp [World.setCell], fun k _ hk => Below.heap_setCell w a x k (fun e => hk (by simp [e]))⟩ (fun k hk e => hne k hk (by simpa using e.symm))
theorem chunks_elem {α : Type} {R : α → List Value → Prop} {sz B g n c k : Nat} {e : TypeId} {w : World} {xs : List Value} {l : List α} {q : α} (vs : List Value) (h : w.ownsRow B e sz (.slice (some ⟨g, 0, none⟩) n c) n xs) (hk : k < n) (hv : vs.length = sz) (hp : Chunks R sz l (xs.take (k * sz))) (hq : R q vs) :
    ∃ xs', (setCells w g (k * sz) vs).ownsRow B e sz (.slice (some ⟨g, 0, none⟩) n c) n xs' ∧ Chunks R sz (l ++ [q]) (xs'.take ((k + 1) * sz)) := by
  obtain ⟨xs', h1, h2⟩ := own_elem vs h hk hv rfl
  exact ⟨xs', h1, by rw [h2]; exact hp.append (Chunks.one hv hq)⟩
theorem str_eq {x y : ByteArray} : x.toList = y.toList ↔ x = y := by
  constructor
  · intro h
    rw [Go.ByteArray.toList_eq, Go.ByteArray.toList_eq] at h
    exact ByteArray.ext (Array.toList_inj.1 h)
  · rintro rfl; rfl
theorem str_beq (x y : ByteArray) : (x.toList == y.toList) = decide (x = y) := by
  rw [Bool.eq_iff_iff]
  simp [str_eq]
def SzPost (left : Int) (n : Nat) (w : World) (e : Ending) (w' : World) : Prop := ∃ x : Int, e = .returned (.int .i64 x) ∧ (x = -1 ∨ (0 ≤ x ∧ x + n ≤ left)) ∧ Below w.heap.size w w'
theorem bcell {W w1 : World} (hb : Below W.heap.size W w1) : (∀ b o, b < W.heap.size → w1.cell? ⟨b, o, none⟩ = W.cell? ⟨b, o, none⟩) ∧ (∀ b o, b < W.heap.size → w1.frozen? ⟨b, o, none⟩ = W.frozen? ⟨b, o, none⟩) :=
  ⟨fun b o h => hb.cell (p := ⟨b, o, none⟩) h, fun b o h => hb.frozen (p := ⟨b, o, none⟩) h⟩
end Go.Proofs.Ytodjokdaofefdaa
/- Expressions: comparison by the laws. -/
namespace Go.Proofs.Ytodjokdaofefdaa
set_option linter.unusedSimpArgs false
set_option linter.unusedVariables false
open Go.RowKit

def exW (d : Nat) (w : World) (A : Option Addr) (l : ExL) : Prop := exS d 0 w.heap.size w A l
theorem exW.below {d : Nat} {w w' : World} {A : Option Addr} {l : ExL} (h : exW d w A l) (hb : Below w.heap.size w w') : exW d w' A l := (exS.below h (Nat.le_refl _) hb).wide (Nat.le_refl _) hb.size
theorem exW.regrown {m : Nat} {w : World} {A : Option Addr} {l : ExL} (h : exW m w A l) (d : Nat) (os : Array Obj) : exW m (Sort.grow (redrawn w d) os) A l := h.below (below_regrown w d os)
theorem exW.cells {d : Nat} {w : World} {A : Option Addr} {l : ExL} (h : exW (d + 1) w A l) (hn : 0 < l.length) : ∃ b off, A = some ⟨b, off, none⟩ ∧ ∀ k, k < l.length → ∃ A' c', exW d w A' (exAt l k).ps ∧ (exAt l k).s.size ≤ 9223372036854775807 ∧
    w.cell? ⟨b, off + k * 4, none⟩ = some (.int .i64 (exAt l k).k) ∧ w.cell? ⟨b, off + k * 4 + 1, none⟩ = some (.int .i64 (exAt l k).n) ∧ w.cell? ⟨b, off + k * 4 + 2, none⟩ = some (.string (exAt l k).s) ∧ w.cell? ⟨b, off + k * 4 + 3, none⟩ = some (.slice A' (exAt l k).ps.length c') := by
  obtain ⟨b, off, e, _, hc⟩ := exS.cells h hn
  exact ⟨b, off, e, hc⟩
theorem ex_sameX (r r' : Ex) : sameX r r' = (!(r.k != r'.k) && (!(r.n != r'.n) && (!(!(r.s.toList == r'.s.toList)) && !(!sameX r.ps r'.ps)))) := by
  rw [Bool.eq_iff_iff]
  simp only [sameX_true, Bool.and_eq_true, Bool.not_not, Bool.not_eq_true', bne_eq_false_iff_eq]
  constructor
  · rintro rfl; simp
  · rintro ⟨h0, h1, h2, h3⟩
    exact Ex.ext h0 h1 (by first | exact h2 | simpa using h2 | exact str_eq.1 (by simpa using h2)) h3
theorem ex_same {us vs : ExL} (h : us.length = vs.length) (h2 : ∀ k, k < us.length → exAt us k = exAt vs k) : true = sameX us vs := by
  rw [eq_comm, sameX_true]
  apply List.ext_getElem h
  intro k h3 h4
  rw [← exAt_eq h3, ← exAt_eq h4]
  exact h2 k h3
/-- What two calls of each comparison give, at parts at most d deep. -/
def EqQ (d : Nat) : Prop := ∀ (A A' : Option Addr) (r r' : Ex) (c c' : Nat) (w : World), exW d w A r.ps → exW d w A' r'.ps →
  Calls Try.prog 23 #[.agg #[.int .i64 r.k, .int .i64 r.n, .string r.s, .slice A r.ps.length c], .agg #[.int .i64 r'.k, .int .i64 r'.n, .string r'.s, .slice A' r'.ps.length c']] w fun e w' => e = .returned (.bool (sameX r r')) ∧ Below w.heap.size w w'
def EqP (d : Nat) : Prop := ∀ (A A' : Option Addr) (us vs : ExL) (c c' : Nat) (w : World), exW d w A us → exW d w A' vs →
  Calls Try.prog 75 #[.slice A us.length c, .slice A' vs.length c'] w fun e w' => e = .returned (.bool (sameX us vs)) ∧ Below w.heap.size w w'
set_option maxRecDepth 100000 in
set_option maxHeartbeats 2000000 in
theorem eqQ_of {d : Nat} (hP : EqP d) : EqQ d := by
  intro A A' r r' c c' w hU hV
  have hl := exS.len hU
  have hl' := exS.len hV
  have HP := Lib.hid hP
  clear hP
  go_enter Try.func23, Try.ntmps23
  go_wp2_with (go_at_call 75; refine (HP.out _ _ _ _ _ _ _ (hU.below (by (repeat (first | exact Below.refl _ _ | refine ext_alloc ?_ _ | refine Below.setCell ?_ (by simp) _)))) (hV.below (by (repeat (first | exact Below.refl _ _ | refine ext_alloc ?_ _ | refine Below.setCell ?_ (by simp) _))))).mono ?_; rintro e w1 ⟨rfl, hb⟩; obtain ⟨hc1, hf1⟩ := bcell hb; have hz1 := hb.size; simp at hz1)
  all_goals
    go_ret
    refine ⟨ret_bool ?_, ?_⟩
    · rw [ex_sameX]
      simp only [*, Bool.not_true, Bool.not_false, Bool.false_and, Bool.and_false, Bool.true_and, Bool.and_self]
    · first
        | ((repeat (first | exact Below.refl _ _ | refine ext_alloc ?_ _)); done)
        | (refine ext_trans ?_ ‹Below _ _ _›; (repeat (first | exact Below.refl _ _ | refine ext_alloc ?_ _)); done)
set_option maxRecDepth 100000 in
set_option maxHeartbeats 4000000 in
theorem eqP_zero : EqP 0 := by
  intro A A' us vs c c' w hU hV
  obtain rfl := exS.zero hU
  obtain rfl := exS.zero hV
  have hs : sameX ([] : ExL) [] = true := sameX_self _
  go_enter Try.func75, Try.ntmps75
  go_wp2
  go_loopw [5] (fun i wr => i = .int .i64 0 ∧ Below w.heap.size w wr) (fun _ _ => 0)
  case atStart => exact ⟨rfl, Below.refl _ _⟩
  case round =>
    obtain ⟨rfl, hB⟩ := hrel
    go_wp2
    go_ret
    exact ⟨ret_bool hs.symm, hB⟩
set_option maxRecDepth 100000 in
set_option maxHeartbeats 4000000 in
theorem eqP_succ {d : Nat} (hQ : EqQ d) : EqP (d + 1) := by
  intro A A' us vs c c' w hU hV
  have hl := exS.len hU
  have hl' := exS.len hV
  have HQ := Lib.hid hQ
  clear hQ
  by_cases hlen : us.length = vs.length
  · have HL := Lib.hid hlen
    have hlen1 : ((us.length : Int) != vs.length) = false := by simp [hlen]
    clear hlen
    go_enter Try.func75, Try.ntmps75
    go_wp2
    go_loopw [5] (fun i wr => ∃ k : Nat, k ≤ us.length ∧ i = .int .i64 k ∧ Below w.heap.size w wr ∧ (∀ j, j < k → exAt us j = exAt vs j)) (fun i _ => us.length - (intOf i).toNat)
    case atStart => exact ⟨0, Nat.zero_le _, rfl, Below.refl _ _, fun j h => by omega⟩
    case round =>
      obtain ⟨k, hk, rfl, hB, hgood⟩ := hrel
      have HG := Lib.hid hgood
      clear hgood
      by_cases hlt : k < us.length
      · have hlt' : k < vs.length := by rw [← HL.out]; exact hlt
        obtain ⟨b, off, rfl, hc⟩ := hU.cells (by omega)
        obtain ⟨b', off', rfl, hc'⟩ := hV.cells (by omega)
        obtain ⟨A1, c1, hfd, _, p0, p1, p2, p3⟩ := hc k hlt
        obtain ⟨A2, c2, hfd2, _, q0, q1, q2, q3⟩ := hc' k hlt'
        replace p0 := cell_regrown (below_cell hB p0)
        replace p1 := cell_regrown (below_cell hB p1)
        replace p2 := cell_regrown (below_cell hB p2)
        replace p3 := cell_regrown (below_cell hB p3)
        replace q0 := cell_regrown (below_cell hB q0)
        replace q1 := cell_regrown (below_cell hB q1)
        replace q2 := cell_regrown (below_cell hB q2)
        replace q3 := cell_regrown (below_cell hB q3)
        replace hfd := hfd.below hB
        replace hfd2 := hfd2.below hB
        clear hc hc'
        have HE := Lib.hid (fun (m : Nat) (os : Array Obj) => HQ.out _ _ _ _ c1 c2 _ (hfd.regrown m os) (hfd2.regrown m os))
        cases g : sameX (exAt us k) (exAt vs k)
        all_goals
          rw [g] at HE
          go_wp2
          refine wp_region_quiet_below (by kernel_rfl) (by kernel_rfl) ?_
          repeat (go_big_quiet_step ((go_at_call 23; (with_reducible exact Calls.regrown_of (HE.out _ _)))))
          refine wpQuiet_nil ?_
          intro w2 hw'regrown
          replace hB := ext_trans hB (below_of_regrown hw'regrown (Nat.le_refl _))
          clear hw'regrown p0 q0 p1 q1 p2 q2 p3 q3
          go_wp2
        · go_ret
          exact ⟨ret_bool (by rw [eq_comm, sameX_false]; rintro rfl; rw [sameX_self] at g; cases g), hB⟩
        · go_roundw
          case rel => exact ⟨k + 1, by omega, by go_num, hB, all_succ HG.out (sameX_true.1 g)⟩
          case measure => simp [intOf]; omega
      · obtain rfl : k = us.length := by omega
        go_wp2
        go_ret
        exact ⟨ret_bool (ex_same HL.out HG.out), hB⟩
  · have hlen1 : ((us.length : Int) != vs.length) = true := by simp; omega
    have HL := Lib.hid hlen
    clear hlen
    go_enter Try.func75, Try.ntmps75
    go_wp2
    go_ret
    exact ⟨ret_bool (by rw [eq_comm, sameX_false]; rintro rfl; exact HL.out rfl), Below.refl _ _⟩
theorem eqP_all : ∀ d, EqP d
  | 0 => eqP_zero
  | d + 1 => eqP_succ (eqQ_of (eqP_all d))
theorem eqExpr_any {d : Nat} {A A' : Option Addr} {r r' : Ex} {c c' : Nat} {w : World} (h1 : exW d w A r.ps) (h2 : exW d w A' r'.ps) :
    Calls Try.prog 23 #[.agg #[.int .i64 r.k, .int .i64 r.n, .string r.s, .slice A r.ps.length c], .agg #[.int .i64 r'.k, .int .i64 r'.n, .string r'.s, .slice A' r'.ps.length c']] w fun e w' => e = .returned (.bool (sameX r r')) ∧ Below w.heap.size w w' := eqQ_of (eqP_all d) A A' r r' c c' w h1 h2
end Go.Proofs.Ytodjokdaofefdaa
/- Lists of one's own: append to a slice without capacity; lists of expressions of one's own. -/
namespace Go.Proofs.Ytodjokdaofefdaa
set_option linter.unusedSimpArgs false
set_option linter.unusedVariables false
open Go.RowKit

theorem rel_ne {p : Prop} [Decidable p] {a b : Nat} {w w' : World} (h : ¬ p) (hb : Below b w w') : Below (if p then a else b) w w' := by rw [if_neg h]; exact hb
theorem rel_eq {p : Prop} [Decidable p] {a b : Nat} {w w' : World} (h : p) (hb : Below a w w') : Below (if p then a else b) w w' := by rw [if_pos h]; exact hb
theorem rel_un {p : Prop} [Decidable p] {a b : Nat} {w w' : World} (h : ¬ p) (hb : Below (if p then a else b) w w') : Below b w w' := by rwa [if_neg h] at hb
theorem OwnG.typ {α : Type} {R : World → α → List Value → Prop} {B : Nat} {e : TypeId} {sz : Nat} {w : World} {v : Value} {l : List α} (h : OwnG R B e sz w v l) : ∀ k, v.ownBlock = some k → ∃ cs fr, w.heap[k]? = some (.cells cs e fr) := by
  obtain ⟨A, c, xs, rfl, ho, _⟩ := h
  intro k hk
  rcases ho.2 with ⟨h1, _⟩ | ⟨g2, cap, cur, hv, _, hx2, _⟩
  · rw [h1] at hk; cases hk
  · rw [hv] at hk
    simp only [Value.ownBlock, Option.some.injEq] at hk
    subst hk
    exact ⟨_, _, hx2⟩
/-- append of what reads as a list to a slice without capacity. -/
theorem op_append_emptyG {α : Type} {R : World → α → List Value → Prop} {P : Program} {w : World} {o : Oper} {a : Act} {K : Act → World → Prop} {Q : Exit → Act → World → Prop} (s x : Operand) (t e : TypeId) (z : Value) (sz bytes : Nat)
    (ho : o.op = .call { callee := .builtin .append, args := #[s, x], argTypes := #[t, t] }) (ht : P.underlying t = some (.slice e)) (hinfo : (P.info? e).map (fun i => (i.zero, i.size, i.bytes)) = some (some z, sz, bytes))
    (hzs : z.cells.size = sz) (hsz : 0 < sz) {B : Nat} (hs : FrB B e 0 #[] w (a.eval s)) {A : Option Addr} {l : List α} {c : Nat} (hx : a.eval x = .slice A l.length c) (hr : RdL R sz w A l) (hR : ∀ w', Below w.heap.size w w' → ∀ a cs, R w a cs → R w' a cs)
    (hbase : B ≤ w.heap.size) (hbytes : l.length * bytes ≤ 140737488355328) (h63 : l.length ≤ 9223372036854775807)
    (h : ∀ v' w', OwnG R B e sz w' v' l → Below w.heap.size w w' → K (a.put o.dst v') w') : o.wp P a w K Q := by
  obtain ⟨i, hi, hz, hsize, hby⟩ := info_parts hinfo
  obtain ⟨g, hs, hB, hg⟩ := hs
  rcases Nat.eq_zero_or_pos l.length with h0 | hpos
  · obtain rfl := List.eq_nil_of_length_eq_zero h0
    have h1 : (Builtin.append_ #[t, t] o.type #[.slice (some ⟨g, 0, Option.none⟩) 0 0, .slice A ([] : List α).length c]).run P w = .ok (.slice (some ⟨g, 0, Option.none⟩) 0 0) w := by
      cases A <;> simp [Builtin.append_, run_underlying ht, sizeOf, typeInfo, hi, Builtin.lenOf, Builtin.firstCells, storeCells, loadCells, loadCellsFrom]
    unfold Oper.wp execOp
    simp only [ho, resolve, invoke, builtin, Sem.run_bind, Sem.run_pure, Result.andThen_ok, List.map_toArray, List.map_cons, List.map_nil, hs, hx, h1]
    exact h _ _ ⟨_, 0, [], rfl, ⟨by simp, .inr ⟨g, 0, #[], rfl, hB, hg, Nat.le_refl _, by simp [maxLen], by simp, by simp⟩⟩, rfl⟩ (Below.refl _ _)
  · obtain ⟨b, off, rfl, _⟩ := hr.2 hpos
    obtain ⟨ys, g1, g2⟩ := hr.chunks
    obtain ⟨v', w', h1, h2, h3⟩ := run_append_arg_grows (P := P) w t o.type e i z sz bytes ht hi hz hsize hby hzs hsz ⟨g, 0, Option.none⟩ 0 0 [] (by simp) (fun j u hj => by simp at hj) ⟨b, off, none⟩ l.length c ys g1.length g2 (by omega) (by simp only [maxLen]; omega) (by rw [Nat.zero_add]; exact hbytes)
    unfold Oper.wp execOp
    simp only [ho, resolve, invoke, builtin, Sem.run_bind, Sem.run_pure, Result.andThen_ok, List.map_toArray, List.map_cons, List.map_nil, hs, hx, h1]
    have hb : Below w.heap.size w w' := ⟨h3.os, h3.tape, h3.output, h3.size, fun k hk => h3.block k hk (fun e => by cases e)⟩
    exact h v' w' (OwnG.of (own_lower (by simpa using h2) hbase) (g1.mono (hR w' hb))) hb

section
variable {d D lo hi N B : Nat} {w w' : World} {A : Option Addr} {l l2 : ExL} {t : Ex} {cs : List Value} {v : Value}
theorem exR.row {row : Option Nat} (hN : N ≤ w.heap.size) (hg : w.grownBy w' row) (hr : ∀ k, row = some k → N ≤ k) : ∀ {d : Nat} {t : Ex} {cs : List Value}, exR d lo N w t cs → exR d lo N w' t cs :=
  fun h => exR.keep (fun k _ hk => hg.block k (by omega) (fun e => by have := hr k e.symm; omega)) (Nat.le_refl _) (Nat.le_refl _) h
theorem exR.one : ∀ {d : Nat} {t : Ex} {cs : List Value}, exR d lo hi w t cs → ∀ u ∈ cs, u.oneCell' = true
  | 0, _, _, h => h.elim
  | _ + 1, _, _, ⟨A, c, rfl, _⟩ => by intro u hu; simp [exHead] at hu; rcases hu with rfl | rfl | rfl | rfl <;> rfl
theorem exS.head {c : Nat} (h : exS d lo hi w A t.ps) (hs : t.s.size ≤ 9223372036854775807) : exR (d + 1) lo hi w t [.int .i64 t.k, .int .i64 t.n, .string t.s, .slice A t.ps.length c] := ⟨A, c, rfl, h.1, h.2, hs⟩
/-- A list of one's own; the parts of what is in it stand below N. -/
def OwnE (D N B : Nat) (l : ExL) (w : World) (v : Value) : Prop := (N ≤ w.heap.size ∧ N ≤ B) ∧ OwnG (exR D 0 N) B 28 4 w v l
theorem OwnE.below (h : OwnE D N B l w v) (hb : Below w.heap.size w w') : OwnE D N B l w' v :=
  ⟨⟨Nat.le_trans h.1.1 hb.size, h.1.2⟩, h.2.below hb (fun _ _ g => exR.below g h.1.1 hb)⟩
theorem OwnE.rd (h : OwnE D N B l w v) (hl : l.length ≤ 9223372036854775807) : ∃ A c, v = .slice A l.length c ∧ exW D w A l := by
  obtain ⟨A, c, e, hr⟩ := h.2.rd hl
  refine ⟨A, c, e, RdL.keep hr (fun _ _ g => exR.keep (fun _ _ _ => rfl) (Nat.le_refl _) h.1.1 g) (fun _ _ _ => rfl), fun hn a ha => ⟨Nat.zero_le _, ?_⟩⟩
  obtain ⟨b, off, e2, _⟩ := hr.2 hn
  rw [ha] at e2
  cases e2
  exact (h.2.ge b (by rw [e, ha]; rfl)).2
theorem OwnE.wide {N' B' : Nat} (h : OwnE D N B l w v) (hN : N ≤ N') (hN2 : N' ≤ w.heap.size) (hN3 : N' ≤ B') (hB : B' ≤ B) : OwnE D N' B' l w v :=
  ⟨⟨hN2, hN3⟩, by
    obtain ⟨A, c, xs, rfl, ho, hc⟩ := h.2
    exact ⟨A, c, xs, rfl, own_lower ho hB, hc.mono (fun _ _ g => exR.keep (fun _ _ _ => rfl) (Nat.le_refl _) hN g)⟩⟩
theorem OwnE.deeper {D' : Nat} (h : OwnE D N B l w v) (hD : D ≤ D') : OwnE D' N B l w v :=
  ⟨h.1, by
    obtain ⟨A, c, xs, rfl, ho, hc⟩ := h.2
    exact ⟨A, c, xs, rfl, ho, hc.mono (fun _ _ g => exR.deeper hD g)⟩⟩
/-- A row of one. -/
theorem OwnE.one {c : Nat} (h : exS d 0 N w A t.ps) (hs : t.s.size ≤ 9223372036854775807) (hN : N ≤ B) (hB : B ≤ w.heap.size) (hf : FrB B 28 1 #[.int .i64 t.k, .int .i64 t.n, .string t.s, .slice A t.ps.length c] w v) : OwnE (d + 1) N B [t] w v := by
  obtain ⟨g, rfl, h1, h2⟩ := hf
  exact ⟨⟨by omega, hN⟩, _, 1, _, rfl, ⟨by simp, .inr ⟨g, 1, _, rfl, h1, h2, by simp, by simp [maxLen], by simp, by simp⟩⟩, Chunks.one rfl (exS.head (c := c) h hs)⟩
end
/-- A list that reads. -/
def KnV (D : Nat) (l : ExL) (w : World) (v : Value) : Prop := ∃ A c, v = .slice A l.length c ∧ exW D w A l
theorem KnV.below {D : Nat} {l : ExL} {w w' : World} {v : Value} (h : KnV D l w v) (hb : Below w.heap.size w w') : KnV D l w' v := let ⟨A, c, e, h⟩ := h; ⟨A, c, e, h.below hb⟩
end Go.Proofs.Ytodjokdaofefdaa
/- Expressions: sizes, copies for a call. -/
namespace Go.Proofs.Ytodjokdaofefdaa
set_option linter.unusedSimpArgs false
set_option linter.unusedVariables false
open Go.RowKit

/-- Few parts everywhere. -/
def fewR : Nat → Ex → Prop
  | 0, _ => False
  | d + 1, t => t.ps.length ≤ 1048576 ∧ ∀ k, k < t.ps.length → fewR d (exAt t.ps k)
def fewS (d : Nat) (l : ExL) : Prop := l.length ≤ 1048576 ∧ ∀ k, k < l.length → fewR d (exAt l k)
/-- How many parts, parts of parts, and so on. -/
def cntR : Nat → Ex → Nat
  | 0, _ => 0
  | d + 1, t => t.ps.length + (t.ps.map (cntR d)).sum
def cntS (d : Nat) (l : ExL) : Nat := l.length + (l.map (cntR d)).sum
theorem cnt_take {d : Nat} {l : ExL} {k : Nat} (hk : k < l.length) : ((l.take (k + 1)).map (cntR d)).sum = ((l.take k).map (cntR d)).sum + cntR d (exAt l k) := by
  rw [List.take_succ_eq_append_getElem hk, List.map_append, List.sum_append, exAt_eq hk]; simp
def SzPst (left : Int) (n : Nat) (p : Prop) (w : World) (e : Ending) (w' : World) : Prop := ∃ x : Int, e = .returned (.int .i64 x) ∧ (x = -1 ∨ (0 ≤ x ∧ x + n ≤ left ∧ p)) ∧ Below w.heap.size w w'
def SzQ (d : Nat) : Prop := ∀ (A : Option Addr) (r : Ex) (c : Nat) (left : Int) (w : World), exW d w A r.ps → r.s.size ≤ 9223372036854775807 → 0 ≤ left → left ≤ 1048576 →
  Calls Try.prog 20 #[.agg #[.int .i64 r.k, .int .i64 r.n, .string r.s, .slice A r.ps.length c], .int .i64 left] w (SzPst left (cntS d r.ps) (fewS d r.ps) w)
def SzP (d : Nat) : Prop := ∀ (A : Option Addr) (l : ExL) (c : Nat) (left : Int) (w : World), exW d w A l → 0 ≤ left → left ≤ 1048576 →
  Calls Try.prog 71 #[.slice A l.length c, .int .i64 left] w (SzPst left (cntS d l) (fewS d l) w)
set_option maxRecDepth 100000 in
set_option maxHeartbeats 2000000 in
theorem szQ_of {d : Nat} (hP : SzP d) : SzQ d := by
  intro A r c left w hU hs h0 h1
  have HP := Lib.hid hP
  clear hP
  have hl := exS.len hU
  have hB := below_alloc w (.cells #[.int .i64 r.k, .int .i64 r.n, .string r.s, .slice A r.ps.length c] 48)
  obtain ⟨ln, hln⟩ : ∃ n : Nat, n = r.s.size := ⟨_, rfl⟩
  by_cases hlt : left < r.s.size
  · go_enter Try.func20, Try.ntmps20
    go_wp2
    go_ret
    exact ⟨-1, rfl, .inl rfl, hB⟩
  · go_enter Try.func20, Try.ntmps20
    go_wp2_with fail
    refine (HP.out _ _ _ (left - r.s.size) _ (hU.below hB) (by omega) (by omega)).mono ?_
    rintro e w1 ⟨x, rfl, hx, hb⟩
    replace hB := ext_trans hB hb
    rcases hx with rfl | ⟨x0, x1, hp⟩
    · go_wp2
      go_ret
      exact ⟨-1, rfl, .inl rfl, hB⟩
    · have HF := Lib.hid hp
      clear hp
      go_wp2
      go_ret
      exact ⟨x, rfl, .inr ⟨x0, by omega, HF.out⟩, hB⟩
set_option maxRecDepth 100000 in
set_option maxHeartbeats 2000000 in
theorem szP_of {d : Nat} (hQ : ∀ m, d = m + 1 → SzQ m) : SzP d := by
  intro A l c left w hU h0 h1
  have HQ := Lib.hid hQ
  clear hQ
  have hlen := exS.len hU
  by_cases h : left < l.length
  · go_enter Try.func71, Try.ntmps71
    go_wp2
    go_ret
    exact ⟨-1, rfl, .inl rfl, Below.refl _ _⟩
  · go_enter Try.func71, Try.ntmps71
    go_wp2
    go_loopw [1, 5] (fun xv iv wr => ∃ (k : Nat) (x : Int), k ≤ l.length ∧ iv = .int .i64 k ∧ xv = .int .i64 x ∧ (0 ≤ x ∧ x + l.length + ((l.take k).map (cntR d)).sum ≤ left) ∧ Hid (∀ j, j < k → fewR d (exAt l j)) ∧ Below w.heap.size w wr) (fun _ iv _ => l.length - (intOf iv).toNat)
    case atStart => exact ⟨0, left - l.length, Nat.zero_le _, rfl, rfl, by simp; omega, Lib.hid (fun j h => by omega), Below.refl _ _⟩
    case round =>
      obtain ⟨k, x, hk, rfl, rfl, ⟨x0, x1⟩, HF, hB⟩ := hrel
      by_cases hlt : k < l.length
      · have hd : ∃ m, d = m + 1 := by
          cases d with
          | zero => have := exS.zero hU; subst this; simp at hlt
          | succ m => exact ⟨m, rfl⟩
        obtain ⟨m, hm⟩ := hd
        subst hm
        have HQ1 := Lib.hid (HQ.out m rfl)
        have HCT := Lib.hid (cnt_take (d := m + 1) hlt)
        obtain ⟨sm, hsm⟩ : ∃ n : Nat, n = ((l.take k).map (cntR (m + 1))).sum := ⟨_, rfl⟩
        rw [← hsm] at x1
        have HSM := Lib.hid hsm
        clear hsm
        obtain ⟨b, off, rfl, hc⟩ := hU.cells (by omega)
        obtain ⟨A', c', hfd, hs, p0, p1, p2, p3⟩ := hc k hlt
        replace p0 := below_cell hB p0
        replace p1 := below_cell hB p1
        replace p2 := below_cell hB p2
        replace p3 := below_cell hB p3
        replace hfd := hfd.below hB
        clear hc
        go_wp2_with fail
        refine (HQ1.out _ _ _ _ _ hfd hs x0 (by omega)).mono ?_
        rintro e w1 ⟨y, rfl, hy, hb⟩
        replace hB := ext_trans hB hb
        clear p0 p1 p2 p3 hfd hb
        rcases hy with rfl | ⟨y0, y1, hp⟩
        · go_wp2
          go_ret
          exact ⟨-1, rfl, .inl rfl, hB⟩
        · have HF2 := Lib.hid (all_succ (p := fun j => fewR (m + 1) (exAt l j)) HF.out hp)
          clear hp
          go_wp2
          go_roundw
          case rel => exact ⟨k + 1, y, by omega, by go_num, rfl, ⟨y0, by rw [HCT.out, ← HSM.out]; have e : cntR (m + 1) (exAt l k) = cntS m (exAt l k).ps := rfl; omega⟩, HF2, hB⟩
          case measure => simp [intOf]; omega
      · obtain rfl : k = l.length := by omega
        go_wp2
        go_ret
        exact ⟨x, rfl, .inr ⟨x0, by rw [cntS]; rw [List.take_length] at x1; omega, by omega, HF.out⟩, hB⟩
theorem szP_all : ∀ d, SzP d
  | 0 => szP_of (fun m h => by omega)
  | d + 1 => szP_of (fun m h => by cases h; exact szQ_of (szP_all d))
theorem szExpr_any {d : Nat} {A : Option Addr} {r : Ex} {c : Nat} {left : Int} {w : World} (h1 : exW d w A r.ps) (h2 : r.s.size ≤ 9223372036854775807) (h3 : 0 ≤ left) (h4 : left ≤ 1048576) :
    Calls Try.prog 20 #[.agg #[.int .i64 r.k, .int .i64 r.n, .string r.s, .slice A r.ps.length c], .int .i64 left] w (SzPst left (cntS d r.ps) (fewS d r.ps) w) := szQ_of (szP_all d) A r c left w h1 h2 h3 h4
end Go.Proofs.Ytodjokdaofefdaa
/- Expressions: copies for a call. -/
namespace Go.Proofs.Ytodjokdaofefdaa
set_option linter.unusedSimpArgs false
set_option linter.unusedVariables false
open Go.RowKit

theorem exS.setCell {d lo hi : Nat} {w : World} {A : Option Addr} {l : ExL} {a : Addr} {x : Value} (h : exS d lo hi w A l) (hne : a.block < lo) : exS d lo hi (w.setCell a x) A l :=
  h.keep (fun k hk _ => Below.heap_setCell w a x k (by omega)) (Nat.le_refl _) (Nat.le_refl _)
theorem Try.infoExpr : (Try.prog.info? 28).map (fun i => (i.zero, i.size, i.bytes)) = some (some (.agg #[.int .i64 0, .int .i64 0, .string ByteArray.empty, .slice Option.none 0 0]), 4, 56) := by kernel_rfl
def ToQ (d : Nat) : Prop := ∀ (A : Option Addr) (r : Ex) (c : Nat) (w : World), exW d w A r.ps → fewS d r.ps →
  Calls Try.prog 22 #[.agg #[.int .i64 r.k, .int .i64 r.n, .string r.s, .slice A r.ps.length c]] w fun e w' => ∃ A' c', e = .returned (.agg #[.int .i64 r.k, .int .i64 r.n, .string r.s, .slice A' r.ps.length c']) ∧ exS d w.heap.size w'.heap.size w' A' r.ps ∧ Below w.heap.size w w'
def ToP (d : Nat) : Prop := ∀ (A : Option Addr) (l : ExL) (c : Nat) (w : World), exW d w A l → fewS d l →
  Calls Try.prog 74 #[.slice A l.length c] w fun e w' => ∃ A' c', e = .returned (.slice A' l.length c') ∧ exS d w.heap.size w'.heap.size w' A' l ∧ Below w.heap.size w w'
set_option maxRecDepth 100000 in
set_option maxHeartbeats 2000000 in
theorem toQ_of {d : Nat} (hP : ToP d) : ToQ d := by
  intro A r c w hU hf
  have HP := Lib.hid hP
  have HF := Lib.hid hf
  clear hP hf
  go_enter Try.func22, Try.ntmps22
  go_wp2_with fail
  refine (HP.out _ _ _ _ (hU.below (by (repeat (first | exact Below.refl _ _ | refine ext_alloc ?_ _ | refine Below.setCell ?_ (by simp) _)))) HF.out).mono ?_
  rintro e w1 ⟨A', c', rfl, ho, hb⟩
  obtain ⟨hc, hf⟩ := bcell hb
  have hz := hb.size
  simp only [World.size_alloc, World.size_setCell] at hz ho ⊢
  go_wp2
  refine bodyPost_ret (v := .agg #[.int .i64 r.k, .int .i64 r.n, .string r.s, .slice A' r.ps.length c']) (by simp [results, go_sem, hc]) rfl ⟨_, _, rfl, ?_, ?_⟩
  · have hlo : exS d (w.heap.size + 1 + 1 + 1) w1.heap.size w1 A' r.ps := ho
    refine exS.wide (lo := w.heap.size + 1 + 1 + 1) (hi := w1.heap.size) ?_ (by omega) (by simp)
    repeat (first | (with_reducible exact hlo) | (refine exS.setCell ?_ (by dsimp only; omega)))
  · have hb2 : Below w.heap.size w w1 := by
      refine Below.trans ?_ (hb.mono (by (try simp) <;> omega))
      repeat (first | exact Below.refl _ _ | refine ext_alloc ?_ _ | refine Below.setCell ?_ (by simp) _)
    repeat (first | (with_reducible exact hb2) | with_reducible refine Below.setCell ?_ (by (try simp) <;> omega) _)
set_option maxRecDepth 100000 in
set_option maxHeartbeats 4000000 in
theorem toP_of {d : Nat} (hQ : ∀ m, d = m + 1 → ToQ m) : ToP d := by
  intro A l c w hU hf
  have HQ := Lib.hid hQ
  have HF := Lib.hid hf.2
  have hn := hf.1
  clear hQ hf
  obtain ⟨i0, hi, hz0, hz1, hz2⟩ := info_parts Try.infoExpr
  obtain ⟨wm, hmk, hown, hgr⟩ := run_make_full (P := Try.prog) w w.heap.size 26 28 i0 _ 4 Try.underlying26 hi hz0 hz1 .i64 .i64 l.length (by rw [hz2]; omega) (by simp only [maxLen]; omega) (Nat.le_refl _)
  have hBm : Below w.heap.size w wm := ext_grown (Below.refl _ _) hgr (by simp)
  clear hgr hi hz0 hz1 hz2
  generalize (madeCells _ _).toList = xs0 at hown
  go_enter Try.func74, Try.ntmps74
  go_wp2
  clear hmk
  go_loopw [4] (fun i wr => ∃ k : Nat, k ≤ l.length ∧ i = .int .i64 k ∧ Below w.heap.size w wr ∧ ∃ xs, wr.ownsRow w.heap.size 28 4 (.slice (some ⟨w.heap.size, 0, none⟩) l.length l.length) l.length xs ∧ Chunks (exR d (w.heap.size + 1) wr.heap.size wr) 4 (l.take k) (xs.take (k * 4))) (fun i _ => l.length - (intOf i).toNat)
  case atStart => exact ⟨0, Nat.zero_le _, rfl, hBm, xs0, hown, by simp [Chunks]⟩
  case round =>
    rename_i wr
    clear hown hBm
    obtain ⟨k, hk, rfl, hB, xs, hown, htake⟩ := hrel
    have HT := Lib.hid htake
    clear htake
    by_cases hlt : k < l.length
    · have hd : ∃ m, d = m + 1 := by
        cases d with
        | zero => have := exS.zero hU; subst this; simp at hlt
        | succ m => exact ⟨m, rfl⟩
      obtain ⟨m, hm⟩ := hd
      subst hm
      have HQ1 := Lib.hid (HQ.out m rfl)
      have hfk := HF.out k hlt
      have HFK : Hid (fewS m (exAt l k).ps) := Lib.hid hfk
      clear hfk
      obtain ⟨b, off, rfl, hcl⟩ := hU.cells (by omega)
      obtain ⟨A', c', hfd, hs, c0, c1, c2, c3⟩ := hcl k hlt
      replace c0 := below_cell hB c0
      replace c1 := below_cell hB c1
      replace c2 := below_cell hB c2
      replace c3 := below_cell hB c3
      replace hfd := hfd.below hB
      clear hcl
      have hgr : w.heap.size < _ := (own_lt hown).2
      go_wp2_with fail
      refine (HQ1.out _ _ _ _ hfd HFK.out).mono ?_
      rintro e w1 ⟨A1, c1', rfl, ho1, hB1⟩
      have hws := hB.size
      have hw1 := hB1.size
      have HT1 := Lib.hid (HT.out.mono (fun a cs h => h.keep (fun j _ hj => hB1.block j hj) (Nat.le_refl _) hw1))
      replace hB := ext_trans hB hB1
      replace hown := own_below hown hB1
      obtain ⟨v0, f0⟩ := own_cell hown (j := k * 4) (by omega)
      obtain ⟨v1, f1⟩ := own_cell hown (j := k * 4 + 1) (by omega)
      obtain ⟨v2, f2⟩ := own_cell hown (j := k * 4 + 2) (by omega)
      obtain ⟨v3, f3⟩ := own_cell hown (j := k * 4 + 3) (by omega)
      have z0 := hown.frozenAt (k * 4)
      have z1 := hown.frozenAt (k * 4 + 1)
      have z2 := hown.frozenAt (k * 4 + 2)
      have z3 := hown.frozenAt (k * 4 + 3)
      have hsg := setCells_grown w.heap.size [.int .i64 (exAt l k).k, .int .i64 (exAt l k).n, .string (exAt l k).s, .slice A1 (exAt l k).ps.length c1'] w1 (k * 4)
      have hkp : ∀ j, w.heap.size + 1 ≤ j → j < w1.heap.size → (setCells w1 w.heap.size (k * 4) [.int .i64 (exAt l k).k, .int .i64 (exAt l k).n, .string (exAt l k).s, .slice A1 (exAt l k).ps.length c1']).heap[j]? = w1.heap[j]? := fun j h1 h2 => hsg.block j h2 (fun e => by cases e; omega)
      have HQ2 : Hid (exR (m + 1) (w.heap.size + 1) w1.heap.size (setCells w1 w.heap.size (k * 4) [.int .i64 (exAt l k).k, .int .i64 (exAt l k).n, .string (exAt l k).s, .slice A1 (exAt l k).ps.length c1']) (exAt l k) (exHead (exAt l k) (.slice A1 (exAt l k).ps.length c1'))) := by
        have h2 := (ho1.wide (show w.heap.size + 1 ≤ _ by omega) (Nat.le_refl _)).keep hkp (Nat.le_refl _) (Nat.le_refl _)
        exact Lib.hid ⟨A1, c1', rfl, h2.1, h2.2, hs⟩
      have HT2 := Lib.hid (HT1.out.mono (fun a cs h => h.keep hkp (Nat.le_refl _) (Nat.le_refl _)))
      have hss := hsg.size
      clear hsg hkp ho1 hB1 hfd c0 c1 c2 c3
      go_wp2
      go_roundw
      case rel =>
        obtain ⟨xs', h1, h2⟩ := chunks_elem (exHead (exAt l k) (.slice A1 (exAt l k).ps.length c1')) hown hlt rfl HT2.out HQ2.out
        have hbs := setCells_below (Nat.le_refl _) (exHead (exAt l k) (.slice A1 (exAt l k).ps.length c1')) (k * 4) hB
        refine ⟨k + 1, by omega, by go_num, hbs, xs', h1, ?_⟩
        rw [List.take_succ_eq_append_getElem hlt, ← exAt_eq hlt]
        exact h2.mono (fun a cs h => h.keep (fun _ _ _ => rfl) (Nat.le_refl _) hss)
      case measure => simp [intOf]; omega
    · obtain rfl : k = l.length := by omega
      go_wp2
      go_ret
      have hgl := (own_lt hown).2
      have e := HT.out
      rw [List.take_of_length_le (Nat.le_of_eq hown.1), List.take_length] at e
      refine ⟨_, _, rfl, ⟨?_, fun _ a ha => ?_⟩, hB⟩
      · have ho2 : OwnG (exR d w.heap.size wr.heap.size) w.heap.size 28 4 wr (.slice (some ⟨w.heap.size, 0, none⟩) l.length l.length) l := OwnG.of hown (e.mono (fun a cs h => h.keep (fun _ _ _ => rfl) (Nat.le_succ _) (Nat.le_refl _)))
        obtain ⟨A2, c2, e2, hr⟩ := ho2.rd (by omega)
        simp only [Value.slice.injEq, true_and] at e2
        obtain ⟨rfl, rfl⟩ := e2
        exact hr
      · cases ha
        exact ⟨Nat.le_refl _, hgl⟩
theorem toP_all : ∀ d, ToP d
  | 0 => toP_of (fun m h => by omega)
  | d + 1 => toP_of (fun m h => by cases h; exact toQ_of (toP_all d))
theorem toExpr_any {d : Nat} {A : Option Addr} {r : Ex} {c : Nat} {w : World} (h1 : exW d w A r.ps) (h2 : fewS d r.ps) :
    Calls Try.prog 22 #[.agg #[.int .i64 r.k, .int .i64 r.n, .string r.s, .slice A r.ps.length c]] w fun e w' => ∃ A' c', e = .returned (.agg #[.int .i64 r.k, .int .i64 r.n, .string r.s, .slice A' r.ps.length c']) ∧ exS d w.heap.size w'.heap.size w' A' r.ps ∧ Below w.heap.size w w' := toQ_of (toP_all d) A r c w h1 h2
end Go.Proofs.Ytodjokdaofefdaa
/- Expressions whose parts stand apart: trees of rows of one's own. -/
namespace Go.Proofs.Ytodjokdaofefdaa
set_option linter.unusedSimpArgs false
set_option linter.unusedVariables false
open Go.RowKit

theorem setCells_atG {g : Nat} {T : TypeId} {fr : Nat × Nat} (vs : List Value) : ∀ {w : World} {cs : List Value} (o : Nat), w.heap[g]? = some (.cells cs.toArray T fr) → o + vs.length ≤ cs.length → (setCells w g o vs).heap[g]? = some (.cells (cs.take o ++ vs ++ cs.drop (o + vs.length)).toArray T fr) := by
  induction vs with
  | nil => intro w cs o h _; simpa [setCells] using h
  | cons v vs ih =>
    intro w cs o h ho
    simp only [List.length_cons] at ho
    have h1 : (w.setCell ⟨g, o, Option.none⟩ v).heap[g]? = some (.cells (cs.set o v).toArray T fr) := by
      simp [World.setCell, Array.getElem?_modify, h]
    have h2 := ih (o + 1) h1 (by simp; omega)
    rw [setCells, h2]
    congr 3
    rw [List.drop_set_of_lt (by omega), List.take_succ_eq_append_getElem (by rw [List.length_set]; omega)]
    simp only [List.getElem_set_self, List.length_cons]
    rw [List.take_set_of_le (Nat.le_refl _), show o + 1 + vs.length = o + (vs.length + 1) by omega]
    simp
/-- A part with the blocks, from lo on and below hi, in which all that is in it stands. -/
abbrev ExX := Ex × Nat × Nat
def AscX (lo hi : Nat) (l : List ExX) : Prop := (∀ a ∈ l, lo ≤ a.2.1 ∧ a.2.1 ≤ a.2.2 ∧ a.2.2 ≤ hi) ∧ l.Pairwise fun a b => a.2.2 ≤ b.2.1
def AvX (v : Value) (l : List ExX) : Prop := ∀ a ∈ l, ∀ k, v.ownBlock = some k → k < a.2.1 ∨ a.2.2 ≤ k
def exT : Nat → Nat → Nat → World → Value → ExL → Prop
  | 0, _, _, _, v, l => l = [] ∧ ∃ A c, v = .slice A 0 c
  | d + 1, lo, hi, w, v, l => ∃ l' : List ExX, l'.map Prod.fst = l ∧ AscX lo hi l' ∧ AvX v l' ∧ (∀ k, v.ownBlock = some k → k < hi) ∧
      OwnG (fun w (a : ExX) cs => ∃ v', cs = exHead a.1 v' ∧ exT d a.2.1 a.2.2 w v' a.1.ps ∧ a.1.s.size ≤ 9223372036854775807) lo 28 4 w v l'
/-- An element of such a row. -/
def ExN (d : Nat) (w : World) (a : ExX) (cs : List Value) : Prop := ∃ v', cs = exHead a.1 v' ∧ exT d a.2.1 a.2.2 w v' a.1.ps ∧ a.1.s.size ≤ 9223372036854775807
theorem exT_succ {d lo hi : Nat} {w : World} {v : Value} {l : ExL} : exT (d + 1) lo hi w v l = ∃ l' : List ExX, l'.map Prod.fst = l ∧ AscX lo hi l' ∧ AvX v l' ∧ (∀ k, v.ownBlock = some k → k < hi) ∧ OwnG (ExN d) lo 28 4 w v l' := rfl
section
variable {α : Type} {R R' : α → List Value → Prop} {sz : Nat}
theorem Chunks.mono_mem {l : List α} {xs : List Value} (hR : ∀ a ∈ l, ∀ cs, R a cs → R' a cs) (h : Chunks R sz l xs) : Chunks R' sz l xs := by
  induction l generalizing xs with
  | nil => exact h
  | cons a l ih => obtain ⟨c, r, rfl, h1, h2, h3⟩ := h; exact ⟨c, r, rfl, h1, hR a (by simp) _ h2, ih (fun b hb => hR b (by simp [hb])) h3⟩
theorem Chunks.cut {p q : List α} {a : α} {xs : List Value} (h : Chunks R sz (p ++ a :: q) xs) : ∃ xp c xq, xs = xp ++ c ++ xq ∧ xp.length = p.length * sz ∧ c.length = sz ∧ Chunks R sz p xp ∧ R a c ∧ Chunks R sz q xq := by
  induction p generalizing xs with
  | nil =>
    obtain ⟨c, r, rfl, h1, h2, h3⟩ := h
    exact ⟨[], c, r, by simp, by simp, h1, rfl, h2, h3⟩
  | cons b p ih =>
    obtain ⟨c, r, rfl, h1, h2, h3⟩ := h
    obtain ⟨xp, c', xq, rfl, g1, g2, g3, g4, g5⟩ := ih h3
    exact ⟨c ++ xp, c', xq, by simp [List.append_assoc], by simp [g1, h1, Nat.add_mul]; omega, g2, ⟨c, xp, rfl, h1, h2, g3⟩, g4, g5⟩
theorem Chunks.join {p q : List α} {a : α} {xp c xq : List Value} (hp : Chunks R sz p xp) (hc : c.length = sz) (ha : R a c) (hq : Chunks R sz q xq) : Chunks R sz (p ++ a :: q) (xp ++ c ++ xq) := by
  rw [List.append_assoc]
  exact hp.append ⟨c, xq, rfl, hc, ha, hq⟩
end
theorem own_keep {B sz n lo hi : Nat} {e : TypeId} {w w' : World} {v : Value} {xs : List Value} (h : w.ownsRow B e sz v n xs) (hk : ∀ k, lo ≤ k → k < hi → w'.heap[k]? = w.heap[k]?) (hne : ∀ k, v.ownBlock = some k → lo ≤ k ∧ k < hi) : w'.ownsRow B e sz v n xs := by
  rcases h with ⟨h1, h2 | ⟨g, cap, cur, hv, hg, hc, hrest⟩⟩
  · exact ⟨h1, .inl h2⟩
  · have hb := hne g (by rw [hv]; rfl)
    exact ⟨h1, .inr ⟨g, cap, cur, hv, hg, (hk g hb.1 hb.2).trans hc, hrest⟩⟩
section
variable {lo hi lo' hi' : Nat} {w w' : World}
theorem AscX.wide {l : List ExX} (h : AscX lo hi l) (h1 : lo' ≤ lo) (h2 : hi ≤ hi') : AscX lo' hi' l := ⟨fun a ha => by have := h.1 a ha; omega, h.2⟩
theorem AscX.nil : AscX lo hi [] := ⟨by simp, List.Pairwise.nil⟩
theorem AscX.snoc {l : List ExX} {t : Ex} {a b : Nat} (h : AscX lo hi l) (h1 : hi ≤ a) (h2 : a ≤ b) (h3 : lo ≤ a) (h4 : b ≤ hi') : AscX lo hi' (l ++ [(t, a, b)]) := by
  refine ⟨fun c hc => ?_, List.pairwise_append.2 ⟨h.2, List.pairwise_singleton _ _, fun c hc d hd => ?_⟩⟩
  · rcases List.mem_append.1 hc with hc | hc
    · have := h.1 c hc; omega
    · rw [List.mem_singleton.1 hc]; exact ⟨h3, h2, h4⟩
  · rw [List.mem_singleton.1 hd]
    have := (h.1 c hc).2.2
    show c.2.2 ≤ a
    omega
theorem exT.keep : ∀ {d lo hi : Nat} {v : Value} {l : ExL}, (∀ k, lo ≤ k → k < hi → w'.heap[k]? = w.heap[k]?) → exT d lo hi w v l → exT d lo hi w' v l
  | 0, _, _, _, _, _, h => h
  | d + 1, lo, hi, v, l, hk, ⟨l', h1, h2, h3, h4, h5⟩ => by
    refine ⟨l', h1, h2, h3, h4, ?_⟩
    have hge := h5.ge
    obtain ⟨A, c, xs, e, ho, hc⟩ := h5
    refine ⟨A, c, xs, e, own_keep ho hk (fun k hv => ?_), hc.mono_mem (fun a ha cs hcs => ?_)⟩
    · rw [← e] at hv; exact ⟨(hge k hv).1, h4 k hv⟩
    · obtain ⟨v', g1, g2, g3⟩ := hcs
      have hb := h2.1 a ha
      exact ⟨v', g1, exT.keep (fun k k1 k2 => hk k (by omega) (by omega)) g2, g3⟩
theorem exT.wide : ∀ {d lo hi : Nat} {v : Value} {l : ExL}, lo' ≤ lo → hi ≤ hi' → exT d lo hi w v l → exT d lo' hi' w v l
  | 0, _, _, _, _, _, _, h => h
  | d + 1, lo, hi, v, l, k1, k2, ⟨l', h1, h2, h3, h4, h5⟩ => ⟨l', h1, h2.wide k1 k2, h3, fun k hk => by have := h4 k hk; omega, h5.lower k1 (fun _ _ h => h)⟩
theorem exT.below {d B : Nat} {v : Value} {l : ExL} (h : exT d lo hi w v l) (hB : hi ≤ B) (hb : Below B w w') : exT d lo hi w' v l := h.keep (fun k _ hk => hb.block k (by omega))
theorem exT.slice : ∀ {d lo hi : Nat} {v : Value} {l : ExL}, exT d lo hi w v l → ∃ A c, v = .slice A l.length c
  | 0, _, _, _, _, ⟨h, A, c, e⟩ => ⟨A, c, by rw [h]; exact e⟩
  | d + 1, _, _, _, _, ⟨l', h1, _, _, _, A, c, xs, e, _⟩ => ⟨A, c, by rw [e, ← h1, List.length_map]⟩
theorem exT.blk : ∀ {d lo hi : Nat} {v : Value} {l : ExL}, exT (d + 1) lo hi w v l → ∀ k, v.ownBlock = some k → lo ≤ k ∧ k < hi ∧ k < w.heap.size
  | _, _, _, _, _, ⟨l', _, _, _, h4, h5⟩, k, hk => ⟨(h5.ge k hk).1, h4 k hk, (h5.ge k hk).2⟩
theorem RdL.map {α β : Type} {R : World → α → List Value → Prop} {R' : World → β → List Value → Prop} {sz : Nat} {A : Option Addr} {l : List α} (f : α → β) (h : RdL R sz w A l) (hR : ∀ a ∈ l, ∀ cs, R w a cs → R' w (f a) cs) : RdL R' sz w A (l.map f) := by
  refine ⟨by rw [List.length_map]; exact h.1, fun hn => ?_⟩
  rw [List.length_map] at hn
  obtain ⟨b, off, e, hc⟩ := h.2 hn
  refine ⟨b, off, e, fun k hk => ?_⟩
  have hk' : k < l.length := by rwa [List.length_map] at hk
  obtain ⟨cs, h1, h2, h3⟩ := hc k hk'
  refine ⟨cs, h1, ?_, h3⟩
  rw [List.getElem_map]
  exact hR _ (List.getElem_mem hk') _ h2
theorem own_small {B sz n : Nat} {e : TypeId} {v : Value} {xs : List Value} (h : w.ownsRow B e sz v n xs) : n ≤ 9223372036854775807 := by
  obtain ⟨A, c, rfl⟩ := own_slice_ h
  rcases own_split2 h with ⟨_, h2, _⟩ | ⟨_, _, h2, h3⟩ <;> omega
/-- As it reads. -/
theorem exT.rd : ∀ {d lo hi : Nat} {v : Value} {l : ExL}, exT d lo hi w v l → ∃ A c, v = .slice A l.length c ∧ exS d lo hi w A l
  | 0, _, _, _, _, ⟨h, A, c, e⟩ => ⟨A, c, by rw [h]; exact e, by rw [h]; exact exS.nil⟩
  | d + 1, lo, hi, v, l, ⟨l', h1, h2, h3, h4, h5⟩ => by
    have hge := h5.ge
    have hsm : l'.length ≤ 9223372036854775807 := by
      obtain ⟨A, c, xs, e, ho, _⟩ := h5
      exact own_small ho
    obtain ⟨A, c, e, hr⟩ := h5.rd hsm
    have hl : l'.length = l.length := by rw [← h1, List.length_map]
    refine ⟨A, c, by rw [e, hl], ?_, fun hn a ha => ?_⟩
    · rw [← h1]
      refine RdL.map Prod.fst hr (fun a ha cs hcs => ?_)
      obtain ⟨v', g1, g2, g3⟩ := hcs
      obtain ⟨A', c', e', hr'⟩ := exT.rd g2
      have hb := h2.1 a ha
      subst e'
      have hw := hr'.wide hb.1 hb.2.2
      exact ⟨A', c', g1, hw.1, hw.2, g3⟩
    · obtain ⟨b, off, e2, _⟩ := hr.2 (by omega)
      rw [ha] at e2
      cases e2
      have := hge b (by rw [e, ha]; rfl)
      exact ⟨this.1, h4 b (by rw [e, ha]; rfl)⟩
theorem exT.rdW {d : Nat} {v : Value} {l : ExL} (h : exT d lo hi w v l) (hh : hi ≤ w.heap.size) : ∃ A c, v = .slice A l.length c ∧ exW d w A l := by
  obtain ⟨A, c, e, hr⟩ := h.rd
  exact ⟨A, c, e, hr.wide (Nat.zero_le _) hh⟩
theorem exT.rdA {d c : Nat} {A : Option Addr} {l : ExL} (h : exT d lo hi w (.slice A l.length c) l) (hh : hi ≤ w.heap.size) : exW d w A l := by
  obtain ⟨A', c', e, hr⟩ := h.rdW hh
  cases e; exact hr
end
/-- What an append goes from and to: elements that avoid the row, in blocks below N. -/
def ExA (d : Nat) (v : Value) (N : Nat) (w : World) (a : ExX) (cs : List Value) : Prop := ExN d w a cs ∧ a.2.1 ≤ a.2.2 ∧ a.2.2 ≤ N ∧ ∀ k, v.ownBlock = some k → k < a.2.1 ∨ a.2.2 ≤ k
theorem ExN.one {d : Nat} {w : World} {a : ExX} {cs : List Value} (h : ExN d w a cs) : ∀ u ∈ cs, u.oneCell' = true := by
  obtain ⟨v', rfl, hT, _⟩ := h
  obtain ⟨A, c, rfl⟩ := hT.slice
  intro u hu
  simp [exHead] at hu
  rcases hu with rfl | rfl | rfl | rfl <;> rfl
theorem ExN.keep {d : Nat} {w w' : World} {a : ExX} {cs : List Value} (h : ExN d w a cs) (hk : ∀ k, a.2.1 ≤ k → k < a.2.2 → w'.heap[k]? = w.heap[k]?) : ExN d w' a cs := by
  obtain ⟨v', h1, h2, h3⟩ := h
  exact ⟨v', h1, h2.keep hk, h3⟩
theorem ExA.row {d N : Nat} {v : Value} {w w' : World} {a : ExX} {cs : List Value} (h : ExA d v N w a cs) (hN : N ≤ w.heap.size) (hg : w.grownBy w' v.ownBlock) : ExA d v N w' a cs := by
  obtain ⟨h1, h2, h3, h4⟩ := h
  refine ⟨h1.keep (fun k k1 k2 => hg.block k (by omega) (fun e => ?_)), h2, h3, h4⟩
  have := h4 k e.symm
  omega
theorem ExA.below {d N : Nat} {v : Value} {w w' : World} {a : ExX} {cs : List Value} (h : ExA d v N w a cs) (hN : N ≤ w.heap.size) (hb : Below w.heap.size w w') : ExA d v N w' a cs := by
  obtain ⟨h1, h2, h3, h4⟩ := h
  exact ⟨h1.keep (fun k k1 k2 => hb.block k (by omega)), h2, h3, h4⟩
/-- A row of one's own whose elements stand apart from it and from one another, from lo on, below N. -/
def ExO (d lo N : Nat) (w : World) (v : Value) (l' : List ExX) : Prop := AscX lo N l' ∧ N ≤ w.heap.size ∧ OwnG (ExA d v N) lo 28 4 w v l'
theorem ExO.below {d lo N : Nat} {w w' : World} {v : Value} {l' : List ExX} (h : ExO d lo N w v l') (hb : Below w.heap.size w w') : ExO d lo N w' v l' :=
  ⟨h.1, Nat.le_trans h.2.1 hb.size, h.2.2.below hb (fun _ _ g => g.below h.2.1 hb)⟩
theorem ExO.nil {d lo N : Nat} {w : World} (hN : N ≤ w.heap.size) : ExO d lo N w (.slice Option.none 0 0) [] := ⟨AscX.nil, hN, OwnG.nil⟩
theorem ExO.t {d lo N : Nat} {w : World} {v : Value} {l' : List ExX} (h : ExO d lo N w v l') : exT (d + 1) lo w.heap.size w v (l'.map Prod.fst) := by
  refine ⟨l', rfl, h.1.wide (Nat.le_refl _) h.2.1, ?_, fun k hk => (h.2.2.ge k hk).2, h.2.2.lower (Nat.le_refl _) (fun _ _ g => g.1)⟩
  obtain ⟨A, c, xs, e, ho, hc⟩ := h.2.2
  clear h ho e
  induction l' generalizing xs with
  | nil => intro a ha; simp at ha
  | cons b l' ih =>
    obtain ⟨cc, r, rfl, h1, h2, h3⟩ := hc
    intro a ha
    rcases List.mem_cons.1 ha with rfl | ha
    · exact h2.2.2.2
    · exact ih r h3 a ha
/-- Behind an append of one that is new. -/
theorem ExO.add {d lo N : Nat} {w w' : World} {v v' : Value} {l' : List ExX} {t : Ex} {a b : Nat} (hasc : AscX lo N l') (hN : N ≤ a) (hab : a ≤ b) (hlo : lo ≤ a) (hb : b ≤ w.heap.size) (hw : w.heap.size ≤ w'.heap.size)
    (ho : OwnG (ExA d v b) lo 28 4 w' v' (l' ++ [(t, a, b)])) (hv : v'.ownBlock = v.ownBlock ∨ v'.ownBlock = some w.heap.size) : ExO d lo b w' v' (l' ++ [(t, a, b)]) := by
  refine ⟨hasc.snoc hN hab hlo (Nat.le_refl _), by omega, ho.lower (Nat.le_refl _) (fun x cs g => ?_)⟩
  obtain ⟨g1, g2, g3, g4⟩ := g
  refine ⟨g1, g2, g3, fun k hk => ?_⟩
  rcases hv with e | e
  · rw [e] at hk; exact g4 k hk
  · rw [e] at hk; cases hk; exact .inr (by omega)
end Go.Proofs.Ytodjokdaofefdaa
/- The two functions that ask whether a number is in a range. -/
namespace Go.Proofs.Ytodjokdaofefdaa
set_option linter.unusedSimpArgs false
set_option linter.unusedVariables false
open Go.RowKit

set_option maxHeartbeats 400000 in
theorem l1In_any (n lo hi : Int) (w : World) :
    Calls Try.prog 59 #[.int .i64 n, .int .i64 lo, .int .i64 hi] w fun e w' => e = .returned (.bool (inB n lo hi)) ∧ Below w.heap.size w w' := by
  by_cases h1 : lo ≤ n
  all_goals
    go_enter Try.func59, Try.ntmps59
    go_wp2
    go_ret
    exact ⟨ret_bool (by simp [inB]; omega), Below.refl _ _⟩
set_option maxHeartbeats 400000 in
theorem in_any (n lo hi : Int) (w : World) :
    Calls Try.prog 55 #[.int .i64 n, .int .i64 lo, .int .i64 hi] w fun e w' => e = .returned (.bool (inB n lo hi)) ∧ Below w.heap.size w w' := by
  by_cases h1 : lo ≤ n
  all_goals
    go_enter Try.func55, Try.ntmps55
    go_wp2
    go_ret
    exact ⟨ret_bool (by simp [inB]; omega), Below.refl _ _⟩
end Go.Proofs.Ytodjokdaofefdaa
/- Expressions: how many parts and which numbers a kind has. -/
namespace Go.Proofs.Ytodjokdaofefdaa
set_option linter.unusedSimpArgs false
set_option linter.unusedVariables false
open Go.RowKit

def arK (k : Int) : Nat := if k = 8 ∨ k = 9 ∨ k = 13 then 1 else if k = 10 ∨ k = 11 ∨ k = 12 ∨ k = 14 ∨ k = 15 then 2 else 0
def nmK (k : Int) : Bool := decide (k = 7 ∨ k = 8 ∨ k = 9)
theorem partsOf_any (k : Int) (w : World) :
    Calls Try.prog 127 #[.int .i64 k] w fun e w' => e = .returned (.tuple #[.int .i64 (arK k), .bool (nmK k)]) ∧ Below w.heap.size w w' := by
  by_cases h : k = 7 ∨ k = 8 ∨ k = 9 ∨ k = 10 ∨ k = 11 ∨ k = 12 ∨ k = 13 ∨ k = 14 ∨ k = 15
  · rcases h with rfl | rfl | rfl | rfl | rfl | rfl | rfl | rfl | rfl
    all_goals
      go_enter Try.func127, Try.ntmps127
      go_wp2
      go_ret2
      exact ⟨rfl, Below.refl _ _⟩
  · have n7 : (k == 7) = false := by simp; omega
    have n8 : (k == 8) = false := by simp; omega
    have n9 : (k == 9) = false := by simp; omega
    have n10 : (k == 10) = false := by simp; omega
    have n11 : (k == 11) = false := by simp; omega
    have n12 : (k == 12) = false := by simp; omega
    have n13 : (k == 13) = false := by simp; omega
    have n14 : (k == 14) = false := by simp; omega
    have n15 : (k == 15) = false := by simp; omega
    have HA : Hid (arK k = 0) := Lib.hid (by unfold arK; rw [if_neg (by omega), if_neg (by omega)])
    have HN : Hid (nmK k = false) := Lib.hid (by unfold nmK; simp only [decide_eq_false_iff_not]; omega)
    clear h
    go_enter Try.func127, Try.ntmps127
    go_wp2
    go_ret2
    refine ⟨?_, Below.refl _ _⟩
    rw [HA.out, HN.out]; rfl
def mostK (k : Int) : Int := if k = 1 then 1 else if k = 2 then 99 else if k = 3 then 6 else 0
theorem greatestNumber_any (k : Int) (w : World) :
    Calls Try.prog 128 #[.int .i64 k] w fun e w' => e = .returned (.int .i64 (mostK k)) ∧ Below w.heap.size w w' := by
  by_cases h : k = 1 ∨ k = 2 ∨ k = 3
  · rcases h with rfl | rfl | rfl
    all_goals
      go_enter Try.func128, Try.ntmps128
      go_wp2
      go_ret
      exact ⟨rfl, Below.refl _ _⟩
  · have n1 : (k == 1) = false := by simp; omega
    have n2 : (k == 2) = false := by simp; omega
    have n3 : (k == 3) = false := by simp; omega
    have HA : Hid (mostK k = 0) := Lib.hid (by unfold mostK; rw [if_neg (by omega), if_neg (by omega), if_neg (by omega)])
    clear h
    go_enter Try.func128, Try.ntmps128
    go_wp2
    go_ret
    refine ⟨?_, Below.refl _ _⟩
    rw [HA.out]; rfl
theorem mostK_le (k : Int) : 0 ≤ mostK k ∧ mostK k ≤ 99 := by
  unfold mostK
  split
  · omega
  · split
    · omega
    · split <;> omega
/-- How many parts a kind has, by the reference: -1 for what is no kind. -/
def arS (k : Int) : Int := if inB k 1 15 then arK k else -1
set_option maxHeartbeats 4000000 in
set_option maxRecDepth 100000 in
theorem l4Parts_any (k : Int) (w : World) :
    Calls Try.prog 147 #[.int .i64 k] w fun e w' => e = .returned (.int .i64 (arS k)) ∧ Below w.heap.size w w' := by
  cases g : inB k 1 15
  · have HE : Hid (arS k = -1) := Lib.hid (by rw [arS, g]; rfl)
    have HG := Lib.hid g
    clear g
    go_enter Try.func147, Try.ntmps147
    go_wp2_with fail
    refine (l1In_any _ _ _ _).mono ?_
    rintro e w1 ⟨rfl, hB⟩
    rw [HG.out]
    go_wp2
    go_ret
    exact ⟨by rw [HE.out]; rfl, hB⟩
  · have hk := inB_true.1 g
    have h : k = 1 ∨ k = 2 ∨ k = 3 ∨ k = 4 ∨ k = 5 ∨ k = 6 ∨ k = 7 ∨ k = 8 ∨ k = 9 ∨ k = 10 ∨ k = 11 ∨ k = 12 ∨ k = 13 ∨ k = 14 ∨ k = 15 := by omega
    clear hk
    rcases h with rfl | rfl | rfl | rfl | rfl | rfl | rfl | rfl | rfl | rfl | rfl | rfl | rfl | rfl | rfl
    all_goals
      clear g
      go_enter Try.func147, Try.ntmps147
      go_wp2_with fail
      refine (l1In_any _ _ _ _).mono ?_
      rintro e w1 ⟨rfl, hB⟩
      rw [show inB _ 1 15 = true by decide]
      go_wp2
      go_ret
      exact ⟨rfl, ext_trans hB (by (repeat (first | exact Below.refl _ _ | refine ext_alloc ?_ _ | refine Below.setCell ?_ (by simp) _)))⟩
end Go.Proofs.Ytodjokdaofefdaa
/- impl.NameValid of any text; alive. -/
namespace Go.Proofs.Ytodjokdaofefdaa
set_option linter.unusedSimpArgs false
set_option linter.unusedVariables false
open Go.RowKit

def byteAt (s : ByteArray) (k : Nat) : Int := if h : k < s.size then (s[k]'h).toNat else 0
theorem byteAt_of {s : ByteArray} {k : Nat} (h : k < s.size) : byteAt s k = ((s[k]'h).toNat : Int) := dif_pos h
def nmGood (s : ByteArray) (k : Nat) : Bool := inB (byteAt s k) 97 122
def nmOk (s : ByteArray) : Bool := decide (∀ k, k < s.size → nmGood s k = true) && inB s.size 1 8
theorem nmOk_no {s : ByteArray} {k : Nat} (hk : k < s.size) (h : nmGood s k = false) : false = nmOk s := by
  have : ¬ ∀ k, k < s.size → nmGood s k = true := fun hh => by rw [hh k hk] at h; cases h
  simp [nmOk, this]
theorem nmOk_yes {s : ByteArray} (h : ∀ k, k < s.size → nmGood s k = true) : nmOk s = inB s.size 1 8 := by
  unfold nmOk
  rw [decide_eq_true h, Bool.true_and]

set_option maxHeartbeats 1000000 in
theorem implNameValid (s : ByteArray) (hs : s.size ≤ 9223372036854775807) (w : World) :
    Calls Try.prog 70 #[.string s] w fun e w' => e = .returned (.bool (nmOk s)) ∧ Below w.heap.size w w' := by
  go_enter Try.func70, Try.ntmps70
  go_wp2
  go_loopw [6] (fun i wr => ∃ k : Nat, k ≤ s.size ∧ i = .int .i64 k ∧ (∀ j, j < k → nmGood s j = true) ∧ Below w.heap.size w wr) (fun i _ => s.size - (intOf i).toNat)
  case atStart => exact ⟨0, Nat.zero_le _, rfl, fun j h => by omega, Below.refl _ _⟩
  case round =>
    obtain ⟨k, hk, rfl, hgood, hB⟩ := hrel
    have HG := Lib.hid hgood
    clear hgood
    by_cases hlt : k < s.size
    · have hx := byteAt_of hlt
      by_cases h1 : ((s[k]'hlt).toNat : Int) < 97
      · go_wp2
        go_ret
        exact ⟨ret_bool (nmOk_no hlt (by rw [nmGood, inB_false]; omega)), hB⟩
      · by_cases h2 : 122 < ((s[k]'hlt).toNat : Int)
        · go_wp2
          go_ret
          exact ⟨ret_bool (nmOk_no hlt (by rw [nmGood, inB_false]; omega)), hB⟩
        · go_wp2
          go_roundw
          case rel => exact ⟨k + 1, by omega, by go_num, all_succ HG.out (by rw [nmGood, inB_true]; omega), hB⟩
          case measure => simp [intOf]; omega
    · obtain rfl : k = s.size := by omega
      go_wp2_with fail
      refine (in_any _ _ _ _).mono ?_
      rintro e w2 ⟨rfl, hB2⟩
      go_wp2
      go_ret
      exact ⟨ret_bool (nmOk_yes HG.out).symm, ext_trans hB hB2⟩
def sA : ByteArray := ⟨#[97]⟩
theorem alive_any (w : World) : Calls Try.prog 19 #[] w fun e w' => e = .returned (.bool true) ∧ Below w.heap.size w w' := by
  go_enter Try.func19, Try.ntmps19
  go_wp2_with fail
  refine (implNameValid sA (by decide) _).mono ?_
  rintro e w2 ⟨rfl, hB2⟩
  go_wp2
  go_ret
  exact ⟨ret_bool (by decide), hB2⟩
end Go.Proofs.Ytodjokdaofefdaa
/- Expressions: sizes of valid ones, by the program. -/
namespace Go.Proofs.Ytodjokdaofefdaa
set_option linter.unusedSimpArgs false
set_option linter.unusedVariables false
open Go.RowKit

def headB (t : Ex) : Bool := inB t.k 1 15 && (inB t.n 0 (mostK t.k) && (decide (t.ps.length = arK t.k) && ((nmK t.k == !decide (t.s = ByteArray.empty)) && (!nmK t.k || nmOk t.s))))
/-- How many expressions are in a valid one at most so deep; 0 for others. -/
def szE : Nat → Ex → Nat
  | 0, _ => 0
  | m + 1, t => if (headB t && t.ps.all (fun p => decide (szE m p ≠ 0))) = true then 1 + (t.ps.map (szE m)).sum else 0
theorem arK_le (k : Int) : arK k ≤ 2 := by
  unfold arK
  split
  · omega
  · split <;> omega
theorem headB_len {t : Ex} (h : headB t = true) : t.ps.length ≤ 2 := by
  simp only [headB, Bool.and_eq_true, decide_eq_true_eq] at h
  have := arK_le t.k
  omega
theorem szE_lt : ∀ (m : Nat) (t : Ex), szE m t < 2 ^ m
  | 0, _ => by simp [szE]
  | m + 1, t => by
    rw [szE]
    split
    · rename_i h
      have hl := headB_len (Bool.and_eq_true_iff.1 h).1
      have ih := szE_lt m
      have hs : ∀ l : ExL, (l.map (szE m)).sum ≤ l.length * (2 ^ m - 1) := by
        intro l
        induction l with
        | nil => simp
        | cons a l ihl =>
          have := ih a
          simp only [List.map_cons, List.sum_cons, List.length_cons, Nat.succ_mul]
          omega
      have h1 := hs t.ps
      have h2 : t.ps.length * (2 ^ m - 1) ≤ 2 * (2 ^ m - 1) := Nat.mul_le_mul_right _ hl
      have h3 := Nat.two_pow_pos m
      rw [Nat.pow_succ]
      omega
    · exact Nat.two_pow_pos _
/-- Where a head stops being a valid one. -/
theorem headCases (t : Ex) : (inB t.k 1 15 = false ∧ headB t = false) ∨ (inB t.k 1 15 = true ∧ inB t.n 0 (mostK t.k) = false ∧ headB t = false) ∨
    (inB t.k 1 15 = true ∧ inB t.n 0 (mostK t.k) = true ∧ t.ps.length ≠ arK t.k ∧ headB t = false) ∨
    (inB t.k 1 15 = true ∧ inB t.n 0 (mostK t.k) = true ∧ t.ps.length = arK t.k ∧ (nmK t.k = decide (t.s = ByteArray.empty)) ∧ headB t = false) ∨
    (inB t.k 1 15 = true ∧ inB t.n 0 (mostK t.k) = true ∧ t.ps.length = arK t.k ∧ (nmK t.k = true ∧ decide (t.s = ByteArray.empty) = false) ∧ nmOk t.s = false ∧ headB t = false) ∨
    (inB t.k 1 15 = true ∧ inB t.n 0 (mostK t.k) = true ∧ t.ps.length = arK t.k ∧ (nmK t.k = true ∧ decide (t.s = ByteArray.empty) = false) ∧ nmOk t.s = true ∧ headB t = true) ∨
    (inB t.k 1 15 = true ∧ inB t.n 0 (mostK t.k) = true ∧ t.ps.length = arK t.k ∧ (nmK t.k = false ∧ decide (t.s = ByteArray.empty) = true) ∧ headB t = true) := by
  unfold headB
  cases inB t.k 1 15
  · simp
  · cases inB t.n 0 (mostK t.k)
    · simp
    · by_cases h : t.ps.length = arK t.k
      · cases nmK t.k <;> cases decide (t.s = ByteArray.empty) <;> cases nmOk t.s <;> simp [h]
      · simp [h]
end Go.Proofs.Ytodjokdaofefdaa
/- Expressions: sizes, by the reference. -/
namespace Go.Proofs.Ytodjokdaofefdaa
set_option linter.unusedSimpArgs false
set_option linter.unusedVariables false
open Go.RowKit

theorem cnt_le {d : Nat} {l : ExL} {k : Nat} (hk : k ≤ l.length) : ((l.take k).map (cntR d)).sum ≤ (l.map (cntR d)).sum := by
  have h : l.map (cntR d) = (l.take k).map (cntR d) ++ (l.drop k).map (cntR d) := by rw [← List.map_append, List.take_append_drop]
  rw [h, List.sum_append]; omega
def SsQ (d : Nat) : Prop := ∀ (A : Option Addr) (r : Ex) (c : Nat) (w : World), exW d w A r.ps → cntS d r.ps ≤ 2097152 →
  Calls Try.prog 118 #[.agg #[.int .i64 r.k, .int .i64 r.n, .string r.s, .slice A r.ps.length c]] w fun e w' => e = .returned (.int .i64 ((1 + cntS d r.ps : Nat) : Int)) ∧ Below w.heap.size w w'
set_option maxRecDepth 100000 in
set_option maxHeartbeats 4000000 in
theorem ssQ_of {d : Nat} (hQ : ∀ m, d = m + 1 → SsQ m) : SsQ d := by
  intro A r c w hU hcnt
  have hl := exS.len hU
  have HQ := Lib.hid hQ
  have HCN := Lib.hid hcnt
  clear hQ
  obtain ⟨W, hW⟩ : ∃ W, W = w.alloc (.cells #[.int .i64 r.k, .int .i64 r.n, .string r.s, .slice A r.ps.length c] 28) := ⟨_, rfl⟩
  have hBW : Below w.heap.size w W := by rw [hW]; (repeat (first | exact Below.refl _ _ | refine ext_alloc ?_ _ | refine Below.setCell ?_ (by simp) _))
  have b3 : W.cell? ⟨w.heap.size, 3, none⟩ = some (.slice A r.ps.length c) := by rw [hW]; exact box_cell w _ _ 3 _ rfl
  have HW := Lib.hid hW
  have HB3 := Lib.hid b3
  have HBW := Lib.hid hBW
  have hlc : r.ps.length ≤ 2097152 := by unfold cntS at hcnt; omega
  clear hW b3 hBW hcnt
  go_enter Try.func118, Try.ntmps118
  go_wp2
  go_loopw [3, 4] (fun ov kv wr => ∃ (k s : Nat), k ≤ r.ps.length ∧ kv = .int .i64 k ∧ ov = .int .i64 (s : Int) ∧ Hid (s = 1 + k + ((r.ps.take k).map (cntR d)).sum) ∧ s ≤ 2097153 ∧ Below W.heap.size W wr) (fun _ kv _ => r.ps.length - (intOf kv).toNat)
  case atStart => exact ⟨0, 1, Nat.zero_le _, rfl, rfl, Lib.hid (by simp), by omega, by rw [HW.out]; exact Below.refl _ _⟩
  case round =>
    obtain ⟨k, s, hk, rfl, rfl, HS, hs, hB⟩ := hrel
    have b3 := below_cell hB HB3.out
    by_cases hlt : k < r.ps.length
    · have hd : ∃ m, d = m + 1 := by
        cases d with
        | zero => have := exS.zero hU; rw [this] at hlt; simp at hlt
        | succ m => exact ⟨m, rfl⟩
      obtain ⟨m, hm⟩ := hd
      subst hm
      have HQ1 := Lib.hid (HQ.out m rfl)
      obtain ⟨b, off, rfl, hc⟩ := (hU.below HBW.out).cells (by omega)
      obtain ⟨A1, c1, hfd, hs1, p0, p1, p2, p3⟩ := hc k hlt
      replace p0 := below_cell hB p0
      replace p1 := below_cell hB p1
      replace p2 := below_cell hB p2
      replace p3 := below_cell hB p3
      replace hfd := hfd.below hB
      clear hc
      have HT := Lib.hid (cnt_take (d := m + 1) hlt)
      have HL := Lib.hid (cnt_le (d := m + 1) (l := r.ps) (k := k + 1) (by omega))
      obtain ⟨z, hz⟩ : ∃ z, cntS m (exAt r.ps k).ps = z := ⟨_, rfl⟩
      have hz2 : cntR (m + 1) (exAt r.ps k) = z := hz
      have hall : s + (1 + z) ≤ 2097153 ∧ s + (1 + z) = 1 + (k + 1) + ((r.ps.take (k + 1)).map (cntR (m + 1))).sum := by
        have h1 := HL.out
        have h2 := HT.out
        have h3 := HCN.out
        have h4 := HS.out
        unfold cntS at h3
        rw [hz2] at h2
        omega
      have hzl : z ≤ 2097152 := by omega
      have HZ := Lib.hid hz
      have HALL := Lib.hid hall.2
      have hall1 := hall.1
      clear hz hz2 hall
      go_wp2_with fail
      refine (HQ1.out _ _ _ _ hfd (by rw [HZ.out]; exact hzl)).mono ?_
      rintro e w4 ⟨rfl, hb⟩
      rw [HZ.out]
      replace hB := ext_trans hB hb
      clear hb p0 p1 p2 p3 hfd b3
      go_wp2
      go_roundw
      case rel => exact ⟨k + 1, s + (1 + z), by omega, by go_num, by go_num, Lib.hid HALL.out, hall1, hB⟩
      case measure => simp [intOf]; omega
    · obtain rfl : k = r.ps.length := by omega
      have HE : Hid (s = 1 + cntS d r.ps) := Lib.hid (by have := HS.out; rw [List.take_length] at this; unfold cntS; omega)
      go_wp2
      go_ret
      exact ⟨by rw [← HE.out]; rfl, ext_trans HBW.out hB⟩
theorem ssQ_all : ∀ d, SsQ d
  | 0 => ssQ_of (fun m h => by cases h)
  | d + 1 => ssQ_of (fun m h => by cases h; exact ssQ_all d)
end Go.Proofs.Ytodjokdaofefdaa
/- Expressions: depths, by the reference. -/
namespace Go.Proofs.Ytodjokdaofefdaa
set_option linter.unusedSimpArgs false
set_option linter.unusedVariables false
open Go.RowKit

def mxL : List Nat → Nat
  | [] => 0
  | a :: l => max a (mxL l)
theorem mx_snoc (a : Nat) : ∀ l : List Nat, mxL (l ++ [a]) = max (mxL l) a
  | [] => by simp [mxL]
  | b :: l => by rw [List.cons_append, mxL, mx_snoc a l, mxL]; omega
def dpR : Nat → Ex → Nat
  | 0, _ => 0
  | d + 1, t => 1 + mxL (t.ps.map (dpR d))
theorem mx_take {d : Nat} {l : ExL} {k : Nat} (hk : k < l.length) : mxL ((l.take (k + 1)).map (dpR d)) = max (mxL ((l.take k).map (dpR d))) (dpR d (exAt l k)) := by
  rw [List.take_succ_eq_append_getElem hk, List.map_append, exAt_eq hk, List.map_cons, List.map_nil, mx_snoc]
theorem dp_le : ∀ (d : Nat) (t : Ex), dpR d t ≤ 1 + cntR d t
  | 0, _ => by simp [dpR]
  | d + 1, t => by
    have h : ∀ l : ExL, mxL (l.map (dpR d)) ≤ l.length + (l.map (cntR d)).sum := by
      intro l
      induction l with
      | nil => simp [mxL]
      | cons a l ih =>
        have := dp_le d a
        simp only [List.map_cons, mxL, List.sum_cons, List.length_cons]
        omega
    have := h t.ps
    rw [dpR, cntR]
    omega
def SdQ (d : Nat) : Prop := ∀ (A : Option Addr) (r : Ex) (c : Nat) (w : World), exW d w A r.ps → cntS d r.ps ≤ 2097152 →
  Calls Try.prog 119 #[.agg #[.int .i64 r.k, .int .i64 r.n, .string r.s, .slice A r.ps.length c]] w fun e w' => e = .returned (.int .i64 ((1 + mxL (r.ps.map (dpR d)) : Nat) : Int)) ∧ Below w.heap.size w w'
set_option maxRecDepth 100000 in
set_option maxHeartbeats 4000000 in
theorem sdQ_of {d : Nat} (hQ : ∀ m, d = m + 1 → SdQ m) : SdQ d := by
  intro A r c w hU hcnt
  have hl := exS.len hU
  have HQ := Lib.hid hQ
  have HCN := Lib.hid hcnt
  clear hQ
  obtain ⟨W, hW⟩ : ∃ W, W = w.alloc (.cells #[.int .i64 r.k, .int .i64 r.n, .string r.s, .slice A r.ps.length c] 28) := ⟨_, rfl⟩
  have hBW : Below w.heap.size w W := by rw [hW]; (repeat (first | exact Below.refl _ _ | refine ext_alloc ?_ _ | refine Below.setCell ?_ (by simp) _))
  have b3 : W.cell? ⟨w.heap.size, 3, none⟩ = some (.slice A r.ps.length c) := by rw [hW]; exact box_cell w _ _ 3 _ rfl
  have HW := Lib.hid hW
  have HB3 := Lib.hid b3
  have HBW := Lib.hid hBW
  have hlc : r.ps.length ≤ 2097152 := by unfold cntS at hcnt; omega
  clear hW b3 hBW hcnt
  go_enter Try.func119, Try.ntmps119
  go_wp2
  go_loopw [3, 4] (fun ov kv wr => ∃ (k s : Nat), k ≤ r.ps.length ∧ kv = .int .i64 k ∧ ov = .int .i64 (s : Int) ∧ Hid (s = mxL ((r.ps.take k).map (dpR d))) ∧ s ≤ 2097153 ∧ Below W.heap.size W wr) (fun _ kv _ => r.ps.length - (intOf kv).toNat)
  case atStart => exact ⟨0, 0, Nat.zero_le _, rfl, rfl, Lib.hid (by simp [mxL]), by omega, by rw [HW.out]; exact Below.refl _ _⟩
  case round =>
    obtain ⟨k, s, hk, rfl, rfl, HS, hs, hB⟩ := hrel
    have b3 := below_cell hB HB3.out
    by_cases hlt : k < r.ps.length
    · have hd : ∃ m, d = m + 1 := by
        cases d with
        | zero => have := exS.zero hU; rw [this] at hlt; simp at hlt
        | succ m => exact ⟨m, rfl⟩
      obtain ⟨m, hm⟩ := hd
      subst hm
      have HQ1 := Lib.hid (HQ.out m rfl)
      obtain ⟨b, off, rfl, hc⟩ := (hU.below HBW.out).cells (by omega)
      obtain ⟨A1, c1, hfd, hs1, p0, p1, p2, p3⟩ := hc k hlt
      replace p0 := below_cell hB p0
      replace p1 := below_cell hB p1
      replace p2 := below_cell hB p2
      replace p3 := below_cell hB p3
      replace hfd := hfd.below hB
      clear hc
      have HT := Lib.hid (mx_take (d := m + 1) hlt)
      have hcz : cntS m (exAt r.ps k).ps ≤ 2097152 := by
        have h1 := cnt_le (d := m + 1) (l := r.ps) (k := k + 1) (by omega)
        have h2 := cnt_take (d := m + 1) hlt
        have h3 := HCN.out
        have h4 : cntR (m + 1) (exAt r.ps k) = cntS m (exAt r.ps k).ps := rfl
        unfold cntS at h3
        omega
      obtain ⟨z, hz⟩ : ∃ z, 1 + mxL ((exAt r.ps k).ps.map (dpR m)) = z := ⟨_, rfl⟩
      have hz2 : dpR (m + 1) (exAt r.ps k) = z := hz
      have hzl : z ≤ 2097153 := by
        have h1 := dp_le (m + 1) (exAt r.ps k)
        have h4 : cntR (m + 1) (exAt r.ps k) = cntS m (exAt r.ps k).ps := rfl
        omega
      have HCZ := Lib.hid hcz
      have HZ := Lib.hid hz
      have HZ2 := Lib.hid hz2
      clear hz hz2 hcz
      go_wp2_with fail
      refine (HQ1.out _ _ _ _ hfd HCZ.out).mono ?_
      rintro e w4 ⟨rfl, hb⟩
      rw [HZ.out]
      replace hB := ext_trans hB hb
      clear hb p0 p1 p2 p3 hfd b3
      by_cases h : s < z
      · go_wp2
        go_roundw
        case rel => exact ⟨k + 1, z, by omega, by go_num, by simp [h], Lib.hid (by rw [HT.out, ← HS.out, HZ2.out]; omega), hzl, hB⟩
        case measure => simp [intOf]; omega
      · go_wp2
        go_roundw
        case rel => exact ⟨k + 1, s, by omega, by go_num, by simp [h], Lib.hid (by rw [HT.out, ← HS.out, HZ2.out]; omega), hs, hB⟩
        case measure => simp [intOf]; omega
    · obtain rfl : k = r.ps.length := by omega
      have HE : Hid (s = mxL (r.ps.map (dpR d))) := Lib.hid (by have := HS.out; rwa [List.take_length] at this)
      go_wp2
      go_ret
      exact ⟨by rw [← HE.out, Nat.add_comm 1 s]; rfl, ext_trans HBW.out hB⟩
theorem sdQ_all : ∀ d, SdQ d
  | 0 => sdQ_of (fun m h => by cases h)
  | d + 1 => sdQ_of (fun m h => by cases h; exact sdQ_all d)
end Go.Proofs.Ytodjokdaofefdaa

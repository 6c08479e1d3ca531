/- Structs with one slice of flat elements: how slices of them read; rows of one's own. -/
import Derived.Test.YtodjokdaofefdaaQ1
namespace Go.Proofs.Ytodjokdaofefdaa
set_option linter.unusedSimpArgs false
set_option linter.unusedVariables false
open Go.RowKit

/-- A type of structs with one slice field: its cells (the slice's value apart), the slice's elements. -/
structure Nst (α β : Type) where
  cells : α → Value → List Value
  inner : α → List β
  enc : β → List Value
  isz : Nat
  iT : TypeId
structure Nst.Good {α β : Type} (N : Nst α β) (oT : TypeId) : Prop where
  one : ∀ r v, v.oneCell' = true → ∀ u ∈ N.cells r v, u.oneCell' = true
  encl : ∀ b, (N.enc b).length = N.isz
  ipos : 0 < N.isz
  ne : N.iT ≠ oT
section
variable {α β : Type} {N : Nst α β} {oT : TypeId} {osz B B' B0 B1 : Nat} {w w' : World} {A : Option Addr} {l : List α} {r : α} {cs : List Value}
theorem rdl_lt {enc : β → List Value} {sz : Nat} {l : List β} (hp : 0 < sz) (h : RdL (Flat enc) sz w A l) (hn : 0 < l.length) (a : Addr) (ha : A = some a) : a.block < w.heap.size := by
  obtain ⟨b, off, e, hc⟩ := h.2 hn
  subst ha
  simp only [Option.some.injEq] at e
  subst e
  obtain ⟨cs, h1, _, h3⟩ := hc 0 hn
  have h4 := h3 0 (cs[0]'(by omega)) (List.getElem?_eq_getElem _)
  have h5 := block_lt_of_cell h4
  simpa using h5
theorem rdl_belowB {enc : β → List Value} {sz : Nat} {l : List β} (h : RdL (Flat enc) sz w A l) (hlt : 0 < l.length → ∀ a, A = some a → a.block < B0) (hb : ∀ k, k < B0 → w'.heap[k]? = w.heap[k]?) : RdL (Flat enc) sz w' A l := by
  refine ⟨h.1, fun hn => ?_⟩
  obtain ⟨b, off, e, hc⟩ := h.2 hn
  refine ⟨b, off, e, fun k hk => ?_⟩
  obtain ⟨cs, h1, h2, h3⟩ := hc k hk
  refine ⟨cs, h1, h2, fun j v hv => ?_⟩
  have h4 := h3 j v hv
  have h5 := hlt hn _ e
  rw [← h4]
  exact World.cell?_of_block (hb _ h5)
def Nst.R (N : Nst α β) (B0 : Nat) (w : World) (r : α) (cs : List Value) : Prop := ∃ A c, cs = N.cells r (.slice A (N.inner r).length c) ∧ RdL (Flat N.enc) N.isz w A (N.inner r) ∧ (0 < (N.inner r).length → ∀ a, A = some a → a.block < B0)
def Nst.O (N : Nst α β) (B : Nat) (w : World) (r : α) (cs : List Value) : Prop := ∃ v, cs = N.cells r v ∧ OwnA B N.iT N.isz N.enc w v (N.inner r)
theorem Nst.R.belowB (h : N.R B0 w r cs) (hb : ∀ k, k < B0 → w'.heap[k]? = w.heap[k]?) : N.R B0 w' r cs := by
  obtain ⟨A, c, h1, h2, h3⟩ := h
  exact ⟨A, c, h1, rdl_belowB h2 h3 hb, h3⟩
theorem Nst.R.up (h : N.R B0 w r cs) (hB : B0 ≤ B1) : N.R B1 w r cs := by
  obtain ⟨A, c, h1, h2, h3⟩ := h
  exact ⟨A, c, h1, h2, fun hn a ha => Nat.lt_of_lt_of_le (h3 hn a ha) hB⟩
theorem Nst.R.mono (hB : B0 ≤ w.heap.size) (hb : Below w.heap.size w w') (h : N.R B0 w r cs) : N.R B0 w' r cs := h.belowB (fun k hk => hb.block k (by omega))
theorem Nst.O.one (hN : N.Good oT) (h : N.O B w r cs) : ∀ u ∈ cs, u.oneCell' = true := by
  obtain ⟨v, rfl, A, c, rfl, _⟩ := h
  exact hN.one r _ rfl
theorem Nst.R.one (hN : N.Good oT) (h : N.R B w r cs) : ∀ u ∈ cs, u.oneCell' = true := by
  obtain ⟨A, c, rfl, _⟩ := h
  exact hN.one r _ rfl
theorem Nst.O.rd (hN : N.Good oT) (h : N.O B w r cs) (hn : (N.inner r).length ≤ 9223372036854775807) : N.R w.heap.size w r cs := by
  obtain ⟨v, rfl, ho⟩ := h
  obtain ⟨A, c, rfl, hr⟩ := OwnA.rd hN.encl hn ho
  exact ⟨A, c, rfl, hr, fun h0 a ha => rdl_lt hN.ipos hr h0 a ha⟩
theorem Nst.O.below (hb : Below w.heap.size w w') (h : N.O B w r cs) : N.O B w' r cs := let ⟨v, h1, h2⟩ := h; ⟨v, h1, h2.below hb⟩
theorem Nst.O.lower (hB : B' ≤ B) (h : N.O B w r cs) : N.O B' w r cs := let ⟨v, h1, h2⟩ := h; ⟨v, h1, h2.lower hB⟩
/-- Only rows of the structs turn: what is in them stays. -/
theorem Nst.O.row (hN : N.Good oT) {row : Option Nat} (hg : w.grownBy w' row) (hrow : ∀ k, row = some k → ∃ cs fr, w.heap[k]? = some (.cells cs oT fr)) (h : N.O B w r cs) : N.O B w' r cs := by
  obtain ⟨v, h1, A, c, rfl, ho⟩ := h
  refine ⟨_, h1, A, c, rfl, own_apart_ ho hg (fun k hk e => ?_)⟩
  obtain ⟨cs, fr, hx⟩ := hrow k e
  rcases ho.2 with ⟨h1, _⟩ | ⟨g2, cap, cur, hv, _, hx2, _⟩
  · rw [h1] at hk; cases hk
  · rw [hv] at hk
    simp only [Value.ownBlock, Option.some.injEq] at hk
    subst hk
    rw [hx] at hx2
    simp only [Option.some.injEq, Obj.cells.injEq] at hx2
    exact absurd hx2.2.1 (fun h => hN.ne h.symm)
/-- The slice with the address A reads as l. -/
def Nst.rdl (N : Nst α β) (osz : Nat) (w : World) (A : Option Addr) (l : List α) : Prop := RdL (N.R w.heap.size) osz w A l
theorem RdL.mono {α : Type} {R R' : World → α → List Value → Prop} {sz : Nat} {w w' : World} {A : Option Addr} {l : List α} (h : RdL R sz w A l) (hb : Below w.heap.size w w') (hR : ∀ a cs, R w a cs → R' w' a cs) : RdL R' sz w' A l :=
  ⟨h.1, fun hn => let ⟨b, off, e, hc⟩ := h.2 hn; ⟨b, off, e, fun k hk => let ⟨cs, h1, h2, h3⟩ := hc k hk; ⟨cs, h1, hR _ _ h2, fun j v hv => below_cell hb (h3 j v hv)⟩⟩⟩
theorem chunks_mem {α : Type} {R : α → List Value → Prop} {p : α → Prop} {sz : Nat} {l : List α} {xs : List Value} (hp : ∀ a ∈ l, p a) (h : Chunks R sz l xs) : Chunks (fun a cs => R a cs ∧ p a) sz l xs := by
  induction l generalizing xs with
  | nil => exact h
  | cons a l ih =>
    obtain ⟨c, r, rfl, h1, h2, h3⟩ := h
    exact ⟨c, r, rfl, h1, ⟨h2, hp a (by simp)⟩, ih (fun b hb => hp b (by simp [hb])) h3⟩
theorem Nst.rdl.below (h : N.rdl osz w A l) (hb : Below w.heap.size w w') : N.rdl osz w' A l := RdL.mono h hb (fun a cs h => (Nst.R.mono (Nat.le_refl _) hb h).up hb.size)
theorem Nst.rdl.regrown (h : N.rdl osz w A l) (d : Nat) (os : Array Obj) : N.rdl osz (Sort.grow (redrawn w d) os) A l := h.below (below_regrown w d os)
theorem Nst.rdl.len (h : N.rdl osz w A l) : l.length ≤ 9223372036854775807 := h.1
theorem Nst.rdl.own (hN : N.Good oT) {c : Nat} (hl : l.length ≤ 9223372036854775807) (hf : ∀ r ∈ l, (N.inner r).length ≤ 9223372036854775807) (h : OwnG (N.O B) B oT osz w (.slice A l.length c) l) : N.rdl osz w A l := by
  obtain ⟨A', c', xs, e, ho, hc⟩ := h
  have h2 : OwnG (fun w r cs => N.O B w r cs ∧ (N.inner r).length ≤ 9223372036854775807) B oT osz w (.slice A l.length c) l := ⟨A', c', xs, e, ho, chunks_mem hf hc⟩
  obtain ⟨A1, c1, e1, hr⟩ := h2.rd hl
  simp only [Value.slice.injEq, true_and] at e1
  obtain ⟨rfl, rfl⟩ := e1
  exact ⟨hr.1, fun hn => let ⟨b, off, e, hc⟩ := hr.2 hn; ⟨b, off, e, fun k hk => let ⟨cs, g1, g2, g3⟩ := hc k hk; ⟨cs, g1, Nst.O.rd hN g2.1 g2.2, g3⟩⟩⟩
end
theorem own_setCell {w : World} {B sz n : Nat} {e : TypeId} {v : Value} {xs : List Value} {a : Addr} {x : Value} (h : w.ownsRow B e sz v n xs) (hne : ∀ k, v.ownBlock = some k → k ≠ a.block) : (w.setCell a x).ownsRow B e sz v n xs :=
  own_apart_ (row := some a.block) h ⟨rfl, rfl, rfl, by simp [World.setCell], fun k _ hk => Below.heap_setCell w a x k (fun e => hk (by simp [e]))⟩ (fun k hk e => hne k hk (by simpa using e.symm))
theorem chunks_elem {α : Type} {R : α → List Value → Prop} {sz B g n c k : Nat} {e : TypeId} {w : World} {xs : List Value} {l : List α} {q : α} (vs : List Value) (h : w.ownsRow B e sz (.slice (some ⟨g, 0, none⟩) n c) n xs) (hk : k < n) (hv : vs.length = sz) (hp : Chunks R sz l (xs.take (k * sz))) (hq : R q vs) :
    ∃ xs', (setCells w g (k * sz) vs).ownsRow B e sz (.slice (some ⟨g, 0, none⟩) n c) n xs' ∧ Chunks R sz (l ++ [q]) (xs'.take ((k + 1) * sz)) := by
  obtain ⟨xs', h1, h2⟩ := own_elem vs h hk hv rfl
  exact ⟨xs', h1, by rw [h2]; exact hp.append (Chunks.one hv hq)⟩
theorem str_eq {x y : ByteArray} : x.toList = y.toList ↔ x = y := by
  constructor
  · intro h
    rw [Go.ByteArray.toList_eq, Go.ByteArray.toList_eq] at h
    exact ByteArray.ext (Array.toList_inj.1 h)
  · rintro rfl; rfl
theorem str_beq (x y : ByteArray) : (x.toList == y.toList) = decide (x = y) := by
  rw [Bool.eq_iff_iff]
  simp [str_eq]
def SzPost (left : Int) (n : Nat) (w : World) (e : Ending) (w' : World) : Prop := ∃ x : Int, e = .returned (.int .i64 x) ∧ (x = -1 ∨ (0 ≤ x ∧ x + n ≤ left)) ∧ Below w.heap.size w w'
theorem bcell {W w1 : World} (hb : Below W.heap.size W w1) : (∀ b o, b < W.heap.size → w1.cell? ⟨b, o, none⟩ = W.cell? ⟨b, o, none⟩) ∧ (∀ b o, b < W.heap.size → w1.frozen? ⟨b, o, none⟩ = W.frozen? ⟨b, o, none⟩) :=
  ⟨fun b o h => hb.cell (p := ⟨b, o, none⟩) h, fun b o h => hb.frozen (p := ⟨b, o, none⟩) h⟩
end Go.Proofs.Ytodjokdaofefdaa
/- The two functions that ask whether a number is in a range. -/
namespace Go.Proofs.Ytodjokdaofefdaa
set_option linter.unusedSimpArgs false
set_option linter.unusedVariables false
open Go.RowKit

set_option maxHeartbeats 400000 in
theorem l1In_any (n lo hi : Int) (w : World) :
    Calls Try.prog 59 #[.int .i64 n, .int .i64 lo, .int .i64 hi] w fun e w' => e = .returned (.bool (inB n lo hi)) ∧ Below w.heap.size w w' := by
  by_cases h1 : lo ≤ n
  all_goals
    go_enter Try.func59, Try.ntmps59
    go_wp2
    go_ret
    exact ⟨ret_bool (by simp [inB]; omega), Below.refl _ _⟩
set_option maxHeartbeats 400000 in
theorem in_any (n lo hi : Int) (w : World) :
    Calls Try.prog 55 #[.int .i64 n, .int .i64 lo, .int .i64 hi] w fun e w' => e = .returned (.bool (inB n lo hi)) ∧ Below w.heap.size w w' := by
  by_cases h1 : lo ≤ n
  all_goals
    go_enter Try.func55, Try.ntmps55
    go_wp2
    go_ret
    exact ⟨ret_bool (by simp [inB]; omega), Below.refl _ _⟩
end Go.Proofs.Ytodjokdaofefdaa
/- Expressions: trees; how they read, in which blocks they stand. -/
namespace Go.Proofs.Ytodjokdaofefdaa
set_option linter.unusedSimpArgs false
set_option linter.unusedVariables false
open Go.RowKit

inductive Ex where
  | nd (k n : Int) (s : ByteArray) (ps : List Ex)
def Ex.k : Ex → Int | .nd k _ _ _ => k
def Ex.n : Ex → Int | .nd _ n _ _ => n
def Ex.s : Ex → ByteArray | .nd _ _ s _ => s
def Ex.ps : Ex → List Ex | .nd _ _ _ ps => ps
theorem Ex.ext {a b : Ex} (h1 : a.k = b.k) (h2 : a.n = b.n) (h3 : a.s = b.s) (h4 : a.ps = b.ps) : a = b := by
  cases a; cases b
  simp only [Ex.k, Ex.n, Ex.s, Ex.ps] at h1 h2 h3 h4
  subst h1; subst h2; subst h3; subst h4; rfl
abbrev ExL := List Ex
def exD : Ex := .nd 0 0 ByteArray.empty []
def exAt (l : ExL) (k : Nat) : Ex := l.getD k exD
theorem exAt_eq {l : ExL} {k : Nat} (hk : k < l.length) : exAt l k = l[k] := by simp [exAt, hk]
def exHead (t : Ex) (v : Value) : List Value := [.int .i64 t.k, .int .i64 t.n, .string t.s, v]
/-- An expression at most d deep; its parts stand in blocks from lo on, below hi. -/
def exR : Nat → Nat → Nat → World → Ex → List Value → Prop
  | 0, _, _, _, _, _ => False
  | d + 1, lo, hi, w, t, cs => ∃ A c, cs = exHead t (.slice A t.ps.length c) ∧ RdL (exR d lo hi) 4 w A t.ps ∧ (0 < t.ps.length → ∀ a, A = some a → lo ≤ a.block ∧ a.block < hi) ∧ t.s.size ≤ 9223372036854775807
def exS (d lo hi : Nat) (w : World) (A : Option Addr) (l : ExL) : Prop := RdL (exR d lo hi) 4 w A l ∧ (0 < l.length → ∀ a, A = some a → lo ≤ a.block ∧ a.block < hi)
section
variable {d d' lo hi lo' hi' B : Nat} {w w' : World} {A : Option Addr} {l : ExL} {t : Ex} {cs : List Value}
theorem RdL.keep {α : Type} {R R' : World → α → List Value → Prop} {sz : Nat} {l : List α} (h : RdL R sz w A l) (hR : ∀ a cs, R w a cs → R' w' a cs) (hA : 0 < l.length → ∀ a, A = some a → w'.heap[a.block]? = w.heap[a.block]?) : RdL R' sz w' A l := by
  refine ⟨h.1, fun hn => ?_⟩
  obtain ⟨b, off, e, hc⟩ := h.2 hn
  refine ⟨b, off, e, fun k hk => ?_⟩
  obtain ⟨cs, h1, h2, h3⟩ := hc k hk
  refine ⟨cs, h1, hR _ _ h2, fun j v hv => ?_⟩
  have hb := hA hn _ e
  rw [World.cell?_of_block (by exact hb)]
  exact h3 j v hv
theorem exR.keep (hk : ∀ k, lo ≤ k → k < hi → w'.heap[k]? = w.heap[k]?) (h1 : lo' ≤ lo) (h2 : hi ≤ hi') : ∀ {d : Nat} {t : Ex} {cs : List Value}, exR d lo hi w t cs → exR d lo' hi' w' t cs
  | 0, _, _, h => h
  | d + 1, t, cs, ⟨A, c, e, h3, h4, h5⟩ => ⟨A, c, e, RdL.keep h3 (fun _ _ h => exR.keep hk h1 h2 h) (fun hn a ha => hk _ (h4 hn a ha).1 (h4 hn a ha).2), fun hn a ha => ⟨by have := (h4 hn a ha).1; omega, by have := (h4 hn a ha).2; omega⟩, h5⟩
theorem exS.keep (h : exS d lo hi w A l) (hk : ∀ k, lo ≤ k → k < hi → w'.heap[k]? = w.heap[k]?) (h1 : lo' ≤ lo) (h2 : hi ≤ hi') : exS d lo' hi' w' A l :=
  ⟨RdL.keep h.1 (fun _ _ h => exR.keep hk h1 h2 h) (fun hn a ha => hk _ (h.2 hn a ha).1 (h.2 hn a ha).2), fun hn a ha => ⟨by have := (h.2 hn a ha).1; omega, by have := (h.2 hn a ha).2; omega⟩⟩
theorem exS.below (h : exS d lo hi w A l) (hB : hi ≤ B) (hb : Below B w w') : exS d lo hi w' A l := h.keep (fun k _ hk => hb.block k (by omega)) (Nat.le_refl _) (Nat.le_refl _)
theorem exR.below (h : exR d lo hi w t cs) (hB : hi ≤ B) (hb : Below B w w') : exR d lo hi w' t cs := h.keep (fun k _ hk => hb.block k (by omega)) (Nat.le_refl _) (Nat.le_refl _)
theorem exS.wide (h : exS d lo hi w A l) (h1 : lo' ≤ lo) (h2 : hi ≤ hi') : exS d lo' hi' w A l := h.keep (fun _ _ _ => rfl) h1 h2
theorem exR.deeper : ∀ {d d' : Nat} {t : Ex} {cs : List Value}, d ≤ d' → exR d lo hi w t cs → exR d' lo hi w t cs
  | 0, _, _, _, _, h => h.elim
  | d + 1, 0, _, _, hd, _ => by omega
  | d + 1, d' + 1, t, cs, hd, ⟨A, c, e, h3, h4⟩ => ⟨A, c, e, RdL.keep h3 (fun _ _ h => exR.deeper (by omega) h) (fun _ _ _ => rfl), h4⟩
theorem exS.deeper (h : exS d lo hi w A l) (hd : d ≤ d') : exS d' lo hi w A l := ⟨RdL.keep h.1 (fun _ _ h => exR.deeper hd h) (fun _ _ _ => rfl), h.2⟩
theorem exS.nil : exS d lo hi w A [] := ⟨RdL.nil A, fun h => by simp at h⟩
theorem exS.len (h : exS d lo hi w A l) : l.length ≤ 9223372036854775807 := h.1.1
theorem exS.zero (h : exS 0 lo hi w A l) : l = [] := by
  cases l with
  | nil => rfl
  | cons x l =>
    obtain ⟨_, _, _, hc⟩ := h.1.2 (by simp)
    obtain ⟨_, _, h2, _⟩ := hc 0 (by simp)
    exact h2.elim
theorem exS.cells (h : exS (d + 1) lo hi w A l) (hn : 0 < l.length) : ∃ b off, A = some ⟨b, off, none⟩ ∧ (lo ≤ b ∧ b < hi) ∧ ∀ k, k < l.length → ∃ A' c', exS d lo hi w A' (exAt l k).ps ∧ (exAt l k).s.size ≤ 9223372036854775807 ∧
    w.cell? ⟨b, off + k * 4, none⟩ = some (.int .i64 (exAt l k).k) ∧ w.cell? ⟨b, off + k * 4 + 1, none⟩ = some (.int .i64 (exAt l k).n) ∧ w.cell? ⟨b, off + k * 4 + 2, none⟩ = some (.string (exAt l k).s) ∧ w.cell? ⟨b, off + k * 4 + 3, none⟩ = some (.slice A' (exAt l k).ps.length c') := by
  obtain ⟨b, off, e, hc⟩ := h.1.2 hn
  refine ⟨b, off, e, h.2 hn _ e, fun k hk => ?_⟩
  obtain ⟨cs, _, ⟨A', c', rfl, h2, h4, h5⟩, hv⟩ := hc k hk
  have e : l[k] = exAt l k := (exAt_eq hk).symm
  rw [e] at h2 hv h4 h5
  exact ⟨A', c', ⟨h2, h4⟩, h5, hv 0 _ rfl, hv 1 _ rfl, hv 2 _ rfl, hv 3 _ rfl⟩
end
/-- Whether two are alike. -/
noncomputable def sameX {α : Type} (a b : α) : Bool := @decide (a = b) (Classical.propDecidable _)
theorem sameX_true {α : Type} {a b : α} : sameX a b = true ↔ a = b := by simp [sameX]
theorem sameX_false {α : Type} {a b : α} : sameX a b = false ↔ a ≠ b := by simp [sameX]
theorem sameX_self {α : Type} (a : α) : sameX a a = true := sameX_true.2 rfl
end Go.Proofs.Ytodjokdaofefdaa
/- Names with kinds, numbers: how a slice of them reads; schemas. -/
namespace Go.Proofs.Ytodjokdaofefdaa
set_option linter.unusedSimpArgs false
set_option linter.unusedVariables false
open Go.RowKit

def kdD : ByteArray × Int := (ByteArray.empty, 0)
def kd0 (l : List (ByteArray × Int)) (k : Nat) : ByteArray := (l.getD k kdD).1
def kd1 (l : List (ByteArray × Int)) (k : Nat) : Int := (l.getD k kdD).2
def kdEnc (u : ByteArray × Int) : List Value := [.string u.1, .int .i64 u.2]
def kdR (w : World) (A : Option Addr) (l : List (ByteArray × Int)) : Prop := RdL (Flat kdEnc) 2 w A l
section
variable {w w' : World} {A : Option Addr} {l : List (ByteArray × Int)}
theorem kdR.below (h : kdR w A l) (hb : Below w.heap.size w w') : kdR w' A l := RdL.below (Flat.mono _) h hb
theorem kdR.regrown (h : kdR w A l) (d : Nat) (os : Array Obj) : kdR (Sort.grow (redrawn w d) os) A l := RdL.regrown (Flat.mono _) h d os
theorem kdR.keep (h : kdR w A l) (hk : ∀ a, A = some a → w'.heap[a.block]? = w.heap[a.block]?) : kdR w' A l := RdL.keep h (fun _ _ h => h) (fun _ a ha => hk a ha)
theorem kdR.len (h : kdR w A l) : l.length ≤ 9223372036854775807 := h.1
theorem kdR.cells (h : kdR w A l) (hn : 0 < l.length) : ∃ b off, A = some ⟨b, off, none⟩ ∧ ∀ k, k < l.length →
    w.cell? ⟨b, off + k * 2, none⟩ = some (.string (kd0 l k)) ∧ w.cell? ⟨b, off + k * 2 + 1, none⟩ = some (.int .i64 (kd1 l k)) := by
  obtain ⟨b, off, e, hc⟩ := h.2 hn
  refine ⟨b, off, e, fun k hk => ?_⟩
  obtain ⟨cs, _, rfl, hv⟩ := hc k hk
  have e : l.getD k kdD = l[k] := by simp [hk]
  simp only [kd0, kd1, e]
  exact ⟨hv 0 _ rfl, hv 1 _ rfl⟩
theorem kdR.own {B n c : Nat} {e : TypeId} (hl : l.length = n) (hb : n ≤ 4194304) (h : w.ownsRow B e 2 (.slice A n c) n (l.flatMap kdEnc)) : kdR w A l :=
  RdL.of_own (fun _ => rfl) hl (by omega) h
theorem kdEnc_one (a : ByteArray × Int) : ∀ u ∈ kdEnc a, u.oneCell' = true := by intro u hu; simp [kdEnc] at hu; rcases hu with rfl | rfl <;> rfl
theorem kd_elem {k : Nat} (hk : k < l.length) : (kd0 l k, kd1 l k) = l[k] := by
  have e : l.getD k kdD = l[k] := by simp [hk]
  simp only [kd0, kd1, e]
end
theorem kd_differ {us vs : List (ByteArray × Int)} {k : Nat} (hk : k < us.length) (hk' : k < vs.length) (h : ¬ (kd0 us k, kd1 us k) = (kd0 vs k, kd1 vs k)) : false = sameB us vs := by
  rw [eq_comm, sameB_false]
  rintro rfl
  exact h rfl
theorem kd_same {us vs : List (ByteArray × Int)} (h : us.length = vs.length) (h2 : ∀ k, k < us.length → (kd0 us k, kd1 us k) = (kd0 vs k, kd1 vs k)) : true = sameB us vs := by
  rw [eq_comm, sameB_true]
  apply List.ext_getElem h
  intro k h3 h4
  rw [← kd_elem h3, ← kd_elem h4]
  exact h2 k h3

theorem Try.infoKinded : (Try.prog.info? 84).map (fun i => (i.zero, i.size, i.bytes)) = some (some (.agg #[.string ByteArray.empty, .int .i64 0]), 2, 24) := by kernel_rfl
def ilD : Int := 0
def il0 (l : List (Int)) (k : Nat) : Int := (l.getD k ilD)
def ilEnc (u : Int) : List Value := [.int .i64 u]
def ilR (w : World) (A : Option Addr) (l : List (Int)) : Prop := RdL (Flat ilEnc) 1 w A l
section
variable {w w' : World} {A : Option Addr} {l : List (Int)}
theorem ilR.below (h : ilR w A l) (hb : Below w.heap.size w w') : ilR w' A l := RdL.below (Flat.mono _) h hb
theorem ilR.regrown (h : ilR w A l) (d : Nat) (os : Array Obj) : ilR (Sort.grow (redrawn w d) os) A l := RdL.regrown (Flat.mono _) h d os
theorem ilR.len (h : ilR w A l) : l.length ≤ 9223372036854775807 := h.1
theorem ilR.cells (h : ilR w A l) (hn : 0 < l.length) : ∃ b off, A = some ⟨b, off, none⟩ ∧ ∀ k, k < l.length →
    w.cell? ⟨b, off + k, none⟩ = some (.int .i64 (il0 l k)) := by
  obtain ⟨b, off, e, hc⟩ := h.2 hn
  refine ⟨b, off, e, fun k hk => ?_⟩
  obtain ⟨cs, _, rfl, hv⟩ := hc k hk
  have e : l.getD k ilD = l[k] := by simp [hk]
  simp only [il0, e]
  have := hv 0 _ rfl
  simpa using this
theorem ilR.own {B n c : Nat} {e : TypeId} (hl : l.length = n) (hb : n ≤ 4194304) (h : w.ownsRow B e 1 (.slice A n c) n (l.flatMap ilEnc)) : ilR w A l :=
  RdL.of_own (fun _ => rfl) hl (by omega) h
theorem ilEnc_one (a : Int) : ∀ u ∈ ilEnc a, u.oneCell' = true := by intro u hu; simp [ilEnc] at hu; subst hu; rfl
theorem il_elem {k : Nat} (hk : k < l.length) : il0 l k = l[k] := by
  have e : l.getD k ilD = l[k] := by simp [hk]
  simp only [il0, e]
end
theorem il_differ {us vs : List (Int)} {k : Nat} (hk : k < us.length) (hk' : k < vs.length) (h : ¬ il0 us k = il0 vs k) : false = sameB us vs := by
  rw [eq_comm, sameB_false]
  rintro rfl
  exact h rfl
theorem il_same {us vs : List (Int)} (h : us.length = vs.length) (h2 : ∀ k, k < us.length → il0 us k = il0 vs k) : true = sameB us vs := by
  rw [eq_comm, sameB_true]
  apply List.ext_getElem h
  intro k h3 h4
  rw [← il_elem h3, ← il_elem h4]
  exact h2 k h3
theorem Try.infoInt : (Try.prog.info? 3).map (fun i => (i.zero, i.size, i.bytes)) = some (some (.int .i64 0), 1, 8) := by kernel_rfl
abbrev Kd2 := ByteArray × Int
abbrev KdL := List Kd2
/-- A schema: names of things, names of requests. -/
abbrev Sc := KdL × KdL
def scV (s : Sc) (A0 : Option Addr) (c0 : Nat) (A1 : Option Addr) (c1 : Nat) : Value := .agg #[.slice A0 s.1.length c0, .slice A1 s.2.length c1]
/-- A schema reads. -/
def scR (w : World) (A0 A1 : Option Addr) (s : Sc) : Prop := kdR w A0 s.1 ∧ kdR w A1 s.2
theorem scR.below {w w' : World} {A0 A1 : Option Addr} {s : Sc} (h : scR w A0 A1 s) (hb : Below w.heap.size w w') : scR w' A0 A1 s := ⟨h.1.below hb, h.2.below hb⟩
theorem cells2 {w : World} {g : Nat} {T : TypeId} {a b : Value} (h : w.heap[g]? = some (.cells #[a, b] T (0, 0))) : w.cell? ⟨g, 0, none⟩ = some a ∧ w.cell? ⟨g, 1, none⟩ = some b :=
  ⟨(cell_of_row w g 0 _ _ _ h).trans rfl, (cell_of_row w g 1 _ _ _ h).trans rfl⟩
theorem froz2 {w : World} {g : Nat} {T : TypeId} {cs : Array Value} (h : w.heap[g]? = some (.cells cs T (0, 0))) : w.frozen? ⟨g, 0, none⟩ = false ∧ w.frozen? ⟨g, 1, none⟩ = false :=
  ⟨frozen_of_row w g 0 _ _ h, frozen_of_row w g 1 _ _ h⟩
theorem block_in {w w' : World} {g : Nat} {o : Obj} (h : w.heap[g]? = some o) (hb : Below w.heap.size w w') : w'.heap[g]? = some o := (hb.block g (Array.getElem?_eq_some_iff.1 h).1).trans h
def WfKd (l : KdL) : Prop := ∀ f ∈ l, f.1.size ≤ 9223372036854775807
theorem WfKd.at {l : KdL} (h : WfKd l) {k : Nat} (hk : k < l.length) : (kd0 l k).size ≤ 9223372036854775807 := by
  have := h _ (List.getElem_mem hk)
  rwa [← kd_elem hk] at this
end Go.Proofs.Ytodjokdaofefdaa
/- Expressions: comparison by the laws. -/
namespace Go.Proofs.Ytodjokdaofefdaa
set_option linter.unusedSimpArgs false
set_option linter.unusedVariables false
open Go.RowKit

def exW (d : Nat) (w : World) (A : Option Addr) (l : ExL) : Prop := exS d 0 w.heap.size w A l
theorem exW.below {d : Nat} {w w' : World} {A : Option Addr} {l : ExL} (h : exW d w A l) (hb : Below w.heap.size w w') : exW d w' A l := (exS.below h (Nat.le_refl _) hb).wide (Nat.le_refl _) hb.size
theorem exW.regrown {m : Nat} {w : World} {A : Option Addr} {l : ExL} (h : exW m w A l) (d : Nat) (os : Array Obj) : exW m (Sort.grow (redrawn w d) os) A l := h.below (below_regrown w d os)
theorem exW.cells {d : Nat} {w : World} {A : Option Addr} {l : ExL} (h : exW (d + 1) w A l) (hn : 0 < l.length) : ∃ b off, A = some ⟨b, off, none⟩ ∧ ∀ k, k < l.length → ∃ A' c', exW d w A' (exAt l k).ps ∧ (exAt l k).s.size ≤ 9223372036854775807 ∧
    w.cell? ⟨b, off + k * 4, none⟩ = some (.int .i64 (exAt l k).k) ∧ w.cell? ⟨b, off + k * 4 + 1, none⟩ = some (.int .i64 (exAt l k).n) ∧ w.cell? ⟨b, off + k * 4 + 2, none⟩ = some (.string (exAt l k).s) ∧ w.cell? ⟨b, off + k * 4 + 3, none⟩ = some (.slice A' (exAt l k).ps.length c') := by
  obtain ⟨b, off, e, _, hc⟩ := exS.cells h hn
  exact ⟨b, off, e, hc⟩
theorem ex_sameX (r r' : Ex) : sameX r r' = (!(r.k != r'.k) && (!(r.n != r'.n) && (!(!(r.s.toList == r'.s.toList)) && !(!sameX r.ps r'.ps)))) := by
  rw [Bool.eq_iff_iff]
  simp only [sameX_true, Bool.and_eq_true, Bool.not_not, Bool.not_eq_true', bne_eq_false_iff_eq]
  constructor
  · rintro rfl; simp
  · rintro ⟨h0, h1, h2, h3⟩
    exact Ex.ext h0 h1 (by first | exact h2 | simpa using h2 | exact str_eq.1 (by simpa using h2)) h3
theorem ex_same {us vs : ExL} (h : us.length = vs.length) (h2 : ∀ k, k < us.length → exAt us k = exAt vs k) : true = sameX us vs := by
  rw [eq_comm, sameX_true]
  apply List.ext_getElem h
  intro k h3 h4
  rw [← exAt_eq h3, ← exAt_eq h4]
  exact h2 k h3
/-- What two calls of each comparison give, at parts at most d deep. -/
def EqQ (d : Nat) : Prop := ∀ (A A' : Option Addr) (r r' : Ex) (c c' : Nat) (w : World), exW d w A r.ps → exW d w A' r'.ps →
  Calls Try.prog 23 #[.agg #[.int .i64 r.k, .int .i64 r.n, .string r.s, .slice A r.ps.length c], .agg #[.int .i64 r'.k, .int .i64 r'.n, .string r'.s, .slice A' r'.ps.length c']] w fun e w' => e = .returned (.bool (sameX r r')) ∧ Below w.heap.size w w'
def EqP (d : Nat) : Prop := ∀ (A A' : Option Addr) (us vs : ExL) (c c' : Nat) (w : World), exW d w A us → exW d w A' vs →
  Calls Try.prog 75 #[.slice A us.length c, .slice A' vs.length c'] w fun e w' => e = .returned (.bool (sameX us vs)) ∧ Below w.heap.size w w'
set_option maxRecDepth 100000 in
set_option maxHeartbeats 2000000 in
theorem eqQ_of {d : Nat} (hP : EqP d) : EqQ d := by
  intro A A' r r' c c' w hU hV
  have hl := exS.len hU
  have hl' := exS.len hV
  have HP := Lib.hid hP
  clear hP
  go_enter Try.func23, Try.ntmps23
  go_wp2_with (go_at_call 75; refine (HP.out _ _ _ _ _ _ _ (hU.below (by (repeat (first | exact Below.refl _ _ | refine ext_alloc ?_ _ | refine Below.setCell ?_ (by simp) _)))) (hV.below (by (repeat (first | exact Below.refl _ _ | refine ext_alloc ?_ _ | refine Below.setCell ?_ (by simp) _))))).mono ?_; rintro e w1 ⟨rfl, hb⟩; obtain ⟨hc1, hf1⟩ := bcell hb; have hz1 := hb.size; simp at hz1)
  all_goals
    go_ret
    refine ⟨ret_bool ?_, ?_⟩
    · rw [ex_sameX]
      simp only [*, Bool.not_true, Bool.not_false, Bool.false_and, Bool.and_false, Bool.true_and, Bool.and_self]
    · first
        | ((repeat (first | exact Below.refl _ _ | refine ext_alloc ?_ _)); done)
        | (refine ext_trans ?_ ‹Below _ _ _›; (repeat (first | exact Below.refl _ _ | refine ext_alloc ?_ _)); done)
set_option maxRecDepth 100000 in
set_option maxHeartbeats 4000000 in
theorem eqP_zero : EqP 0 := by
  intro A A' us vs c c' w hU hV
  obtain rfl := exS.zero hU
  obtain rfl := exS.zero hV
  have hs : sameX ([] : ExL) [] = true := sameX_self _
  go_enter Try.func75, Try.ntmps75
  go_wp2
  go_loopw [5] (fun i wr => i = .int .i64 0 ∧ Below w.heap.size w wr) (fun _ _ => 0)
  case atStart => exact ⟨rfl, Below.refl _ _⟩
  case round =>
    obtain ⟨rfl, hB⟩ := hrel
    go_wp2
    go_ret
    exact ⟨ret_bool hs.symm, hB⟩
set_option maxRecDepth 100000 in
set_option maxHeartbeats 4000000 in
theorem eqP_succ {d : Nat} (hQ : EqQ d) : EqP (d + 1) := by
  intro A A' us vs c c' w hU hV
  have hl := exS.len hU
  have hl' := exS.len hV
  have HQ := Lib.hid hQ
  clear hQ
  by_cases hlen : us.length = vs.length
  · have HL := Lib.hid hlen
    have hlen1 : ((us.length : Int) != vs.length) = false := by simp [hlen]
    clear hlen
    go_enter Try.func75, Try.ntmps75
    go_wp2
    go_loopw [5] (fun i wr => ∃ k : Nat, k ≤ us.length ∧ i = .int .i64 k ∧ Below w.heap.size w wr ∧ (∀ j, j < k → exAt us j = exAt vs j)) (fun i _ => us.length - (intOf i).toNat)
    case atStart => exact ⟨0, Nat.zero_le _, rfl, Below.refl _ _, fun j h => by omega⟩
    case round =>
      obtain ⟨k, hk, rfl, hB, hgood⟩ := hrel
      have HG := Lib.hid hgood
      clear hgood
      by_cases hlt : k < us.length
      · have hlt' : k < vs.length := by rw [← HL.out]; exact hlt
        obtain ⟨b, off, rfl, hc⟩ := hU.cells (by omega)
        obtain ⟨b', off', rfl, hc'⟩ := hV.cells (by omega)
        obtain ⟨A1, c1, hfd, _, p0, p1, p2, p3⟩ := hc k hlt
        obtain ⟨A2, c2, hfd2, _, q0, q1, q2, q3⟩ := hc' k hlt'
        replace p0 := cell_regrown (below_cell hB p0)
        replace p1 := cell_regrown (below_cell hB p1)
        replace p2 := cell_regrown (below_cell hB p2)
        replace p3 := cell_regrown (below_cell hB p3)
        replace q0 := cell_regrown (below_cell hB q0)
        replace q1 := cell_regrown (below_cell hB q1)
        replace q2 := cell_regrown (below_cell hB q2)
        replace q3 := cell_regrown (below_cell hB q3)
        replace hfd := hfd.below hB
        replace hfd2 := hfd2.below hB
        clear hc hc'
        have HE := Lib.hid (fun (m : Nat) (os : Array Obj) => HQ.out _ _ _ _ c1 c2 _ (hfd.regrown m os) (hfd2.regrown m os))
        cases g : sameX (exAt us k) (exAt vs k)
        all_goals
          rw [g] at HE
          go_wp2
          refine wp_region_quiet_below (by kernel_rfl) (by kernel_rfl) ?_
          repeat (go_big_quiet_step ((go_at_call 23; (with_reducible exact Calls.regrown_of (HE.out _ _)))))
          refine wpQuiet_nil ?_
          intro w2 hw'regrown
          replace hB := ext_trans hB (below_of_regrown hw'regrown (Nat.le_refl _))
          clear hw'regrown p0 q0 p1 q1 p2 q2 p3 q3
          go_wp2
        · go_ret
          exact ⟨ret_bool (by rw [eq_comm, sameX_false]; rintro rfl; rw [sameX_self] at g; cases g), hB⟩
        · go_roundw
          case rel => exact ⟨k + 1, by omega, by go_num, hB, all_succ HG.out (sameX_true.1 g)⟩
          case measure => simp [intOf]; omega
      · obtain rfl : k = us.length := by omega
        go_wp2
        go_ret
        exact ⟨ret_bool (ex_same HL.out HG.out), hB⟩
  · have hlen1 : ((us.length : Int) != vs.length) = true := by simp; omega
    have HL := Lib.hid hlen
    clear hlen
    go_enter Try.func75, Try.ntmps75
    go_wp2
    go_ret
    exact ⟨ret_bool (by rw [eq_comm, sameX_false]; rintro rfl; exact HL.out rfl), Below.refl _ _⟩
theorem eqP_all : ∀ d, EqP d
  | 0 => eqP_zero
  | d + 1 => eqP_succ (eqQ_of (eqP_all d))
theorem eqExpr_any {d : Nat} {A A' : Option Addr} {r r' : Ex} {c c' : Nat} {w : World} (h1 : exW d w A r.ps) (h2 : exW d w A' r'.ps) :
    Calls Try.prog 23 #[.agg #[.int .i64 r.k, .int .i64 r.n, .string r.s, .slice A r.ps.length c], .agg #[.int .i64 r'.k, .int .i64 r'.n, .string r'.s, .slice A' r'.ps.length c']] w fun e w' => e = .returned (.bool (sameX r r')) ∧ Below w.heap.size w w' := eqQ_of (eqP_all d) A A' r r' c c' w h1 h2
end Go.Proofs.Ytodjokdaofefdaa
/- Expressions: sizes, copies for a call. -/
namespace Go.Proofs.Ytodjokdaofefdaa
set_option linter.unusedSimpArgs false
set_option linter.unusedVariables false
open Go.RowKit

/-- Few parts everywhere. -/
def fewR : Nat → Ex → Prop
  | 0, _ => False
  | d + 1, t => t.ps.length ≤ 1048576 ∧ ∀ k, k < t.ps.length → fewR d (exAt t.ps k)
def fewS (d : Nat) (l : ExL) : Prop := l.length ≤ 1048576 ∧ ∀ k, k < l.length → fewR d (exAt l k)
/-- How many parts, parts of parts, and so on. -/
def cntR : Nat → Ex → Nat
  | 0, _ => 0
  | d + 1, t => t.ps.length + (t.ps.map (cntR d)).sum
def cntS (d : Nat) (l : ExL) : Nat := l.length + (l.map (cntR d)).sum
theorem cnt_take {d : Nat} {l : ExL} {k : Nat} (hk : k < l.length) : ((l.take (k + 1)).map (cntR d)).sum = ((l.take k).map (cntR d)).sum + cntR d (exAt l k) := by
  rw [List.take_succ_eq_append_getElem hk, List.map_append, List.sum_append, exAt_eq hk]; simp
def SzPst (left : Int) (n : Nat) (p : Prop) (w : World) (e : Ending) (w' : World) : Prop := ∃ x : Int, e = .returned (.int .i64 x) ∧ (x = -1 ∨ (0 ≤ x ∧ x + n ≤ left ∧ p)) ∧ Below w.heap.size w w'
def SzQ (d : Nat) : Prop := ∀ (A : Option Addr) (r : Ex) (c : Nat) (left : Int) (w : World), exW d w A r.ps → r.s.size ≤ 9223372036854775807 → 0 ≤ left → left ≤ 1048576 →
  Calls Try.prog 20 #[.agg #[.int .i64 r.k, .int .i64 r.n, .string r.s, .slice A r.ps.length c], .int .i64 left] w (SzPst left (cntS d r.ps) (fewS d r.ps) w)
def SzP (d : Nat) : Prop := ∀ (A : Option Addr) (l : ExL) (c : Nat) (left : Int) (w : World), exW d w A l → 0 ≤ left → left ≤ 1048576 →
  Calls Try.prog 71 #[.slice A l.length c, .int .i64 left] w (SzPst left (cntS d l) (fewS d l) w)
set_option maxRecDepth 100000 in
set_option maxHeartbeats 2000000 in
theorem szQ_of {d : Nat} (hP : SzP d) : SzQ d := by
  intro A r c left w hU hs h0 h1
  have HP := Lib.hid hP
  clear hP
  have hl := exS.len hU
  have hB := below_alloc w (.cells #[.int .i64 r.k, .int .i64 r.n, .string r.s, .slice A r.ps.length c] 48)
  obtain ⟨ln, hln⟩ : ∃ n : Nat, n = r.s.size := ⟨_, rfl⟩
  by_cases hlt : left < r.s.size
  · go_enter Try.func20, Try.ntmps20
    go_wp2
    go_ret
    exact ⟨-1, rfl, .inl rfl, hB⟩
  · go_enter Try.func20, Try.ntmps20
    go_wp2_with fail
    refine (HP.out _ _ _ (left - r.s.size) _ (hU.below hB) (by omega) (by omega)).mono ?_
    rintro e w1 ⟨x, rfl, hx, hb⟩
    replace hB := ext_trans hB hb
    rcases hx with rfl | ⟨x0, x1, hp⟩
    · go_wp2
      go_ret
      exact ⟨-1, rfl, .inl rfl, hB⟩
    · have HF := Lib.hid hp
      clear hp
      go_wp2
      go_ret
      exact ⟨x, rfl, .inr ⟨x0, by omega, HF.out⟩, hB⟩
set_option maxRecDepth 100000 in
set_option maxHeartbeats 2000000 in
theorem szP_of {d : Nat} (hQ : ∀ m, d = m + 1 → SzQ m) : SzP d := by
  intro A l c left w hU h0 h1
  have HQ := Lib.hid hQ
  clear hQ
  have hlen := exS.len hU
  by_cases h : left < l.length
  · go_enter Try.func71, Try.ntmps71
    go_wp2
    go_ret
    exact ⟨-1, rfl, .inl rfl, Below.refl _ _⟩
  · go_enter Try.func71, Try.ntmps71
    go_wp2
    go_loopw [1, 5] (fun xv iv wr => ∃ (k : Nat) (x : Int), k ≤ l.length ∧ iv = .int .i64 k ∧ xv = .int .i64 x ∧ (0 ≤ x ∧ x + l.length + ((l.take k).map (cntR d)).sum ≤ left) ∧ Hid (∀ j, j < k → fewR d (exAt l j)) ∧ Below w.heap.size w wr) (fun _ iv _ => l.length - (intOf iv).toNat)
    case atStart => exact ⟨0, left - l.length, Nat.zero_le _, rfl, rfl, by simp; omega, Lib.hid (fun j h => by omega), Below.refl _ _⟩
    case round =>
      obtain ⟨k, x, hk, rfl, rfl, ⟨x0, x1⟩, HF, hB⟩ := hrel
      by_cases hlt : k < l.length
      · have hd : ∃ m, d = m + 1 := by
          cases d with
          | zero => have := exS.zero hU; subst this; simp at hlt
          | succ m => exact ⟨m, rfl⟩
        obtain ⟨m, hm⟩ := hd
        subst hm
        have HQ1 := Lib.hid (HQ.out m rfl)
        have HCT := Lib.hid (cnt_take (d := m + 1) hlt)
        obtain ⟨sm, hsm⟩ : ∃ n : Nat, n = ((l.take k).map (cntR (m + 1))).sum := ⟨_, rfl⟩
        rw [← hsm] at x1
        have HSM := Lib.hid hsm
        clear hsm
        obtain ⟨b, off, rfl, hc⟩ := hU.cells (by omega)
        obtain ⟨A', c', hfd, hs, p0, p1, p2, p3⟩ := hc k hlt
        replace p0 := below_cell hB p0
        replace p1 := below_cell hB p1
        replace p2 := below_cell hB p2
        replace p3 := below_cell hB p3
        replace hfd := hfd.below hB
        clear hc
        go_wp2_with fail
        refine (HQ1.out _ _ _ _ _ hfd hs x0 (by omega)).mono ?_
        rintro e w1 ⟨y, rfl, hy, hb⟩
        replace hB := ext_trans hB hb
        clear p0 p1 p2 p3 hfd hb
        rcases hy with rfl | ⟨y0, y1, hp⟩
        · go_wp2
          go_ret
          exact ⟨-1, rfl, .inl rfl, hB⟩
        · have HF2 := Lib.hid (all_succ (p := fun j => fewR (m + 1) (exAt l j)) HF.out hp)
          clear hp
          go_wp2
          go_roundw
          case rel => exact ⟨k + 1, y, by omega, by go_num, rfl, ⟨y0, by rw [HCT.out, ← HSM.out]; have e : cntR (m + 1) (exAt l k) = cntS m (exAt l k).ps := rfl; omega⟩, HF2, hB⟩
          case measure => simp [intOf]; omega
      · obtain rfl : k = l.length := by omega
        go_wp2
        go_ret
        exact ⟨x, rfl, .inr ⟨x0, by rw [cntS]; rw [List.take_length] at x1; omega, by omega, HF.out⟩, hB⟩
theorem szP_all : ∀ d, SzP d
  | 0 => szP_of (fun m h => by omega)
  | d + 1 => szP_of (fun m h => by cases h; exact szQ_of (szP_all d))
theorem szExpr_any {d : Nat} {A : Option Addr} {r : Ex} {c : Nat} {left : Int} {w : World} (h1 : exW d w A r.ps) (h2 : r.s.size ≤ 9223372036854775807) (h3 : 0 ≤ left) (h4 : left ≤ 1048576) :
    Calls Try.prog 20 #[.agg #[.int .i64 r.k, .int .i64 r.n, .string r.s, .slice A r.ps.length c], .int .i64 left] w (SzPst left (cntS d r.ps) (fewS d r.ps) w) := szQ_of (szP_all d) A r c left w h1 h2 h3 h4
end Go.Proofs.Ytodjokdaofefdaa
/- Expressions: how many parts and which numbers a kind has. -/
namespace Go.Proofs.Ytodjokdaofefdaa
set_option linter.unusedSimpArgs false
set_option linter.unusedVariables false
open Go.RowKit

def arK (k : Int) : Nat := if k = 8 ∨ k = 9 ∨ k = 13 then 1 else if k = 10 ∨ k = 11 ∨ k = 12 ∨ k = 14 ∨ k = 15 then 2 else 0
def nmK (k : Int) : Bool := decide (k = 7 ∨ k = 8 ∨ k = 9)
theorem partsOf_any (k : Int) (w : World) :
    Calls Try.prog 127 #[.int .i64 k] w fun e w' => e = .returned (.tuple #[.int .i64 (arK k), .bool (nmK k)]) ∧ Below w.heap.size w w' := by
  by_cases h : k = 7 ∨ k = 8 ∨ k = 9 ∨ k = 10 ∨ k = 11 ∨ k = 12 ∨ k = 13 ∨ k = 14 ∨ k = 15
  · rcases h with rfl | rfl | rfl | rfl | rfl | rfl | rfl | rfl | rfl
    all_goals
      go_enter Try.func127, Try.ntmps127
      go_wp2
      go_ret2
      exact ⟨rfl, Below.refl _ _⟩
  · have n7 : (k == 7) = false := by simp; omega
    have n8 : (k == 8) = false := by simp; omega
    have n9 : (k == 9) = false := by simp; omega
    have n10 : (k == 10) = false := by simp; omega
    have n11 : (k == 11) = false := by simp; omega
    have n12 : (k == 12) = false := by simp; omega
    have n13 : (k == 13) = false := by simp; omega
    have n14 : (k == 14) = false := by simp; omega
    have n15 : (k == 15) = false := by simp; omega
    have HA : Hid (arK k = 0) := Lib.hid (by unfold arK; rw [if_neg (by omega), if_neg (by omega)])
    have HN : Hid (nmK k = false) := Lib.hid (by unfold nmK; simp only [decide_eq_false_iff_not]; omega)
    clear h
    go_enter Try.func127, Try.ntmps127
    go_wp2
    go_ret2
    refine ⟨?_, Below.refl _ _⟩
    rw [HA.out, HN.out]; rfl
def mostK (k : Int) : Int := if k = 1 then 1 else if k = 2 then 99 else if k = 3 then 6 else 0
theorem greatestNumber_any (k : Int) (w : World) :
    Calls Try.prog 128 #[.int .i64 k] w fun e w' => e = .returned (.int .i64 (mostK k)) ∧ Below w.heap.size w w' := by
  by_cases h : k = 1 ∨ k = 2 ∨ k = 3
  · rcases h with rfl | rfl | rfl
    all_goals
      go_enter Try.func128, Try.ntmps128
      go_wp2
      go_ret
      exact ⟨rfl, Below.refl _ _⟩
  · have n1 : (k == 1) = false := by simp; omega
    have n2 : (k == 2) = false := by simp; omega
    have n3 : (k == 3) = false := by simp; omega
    have HA : Hid (mostK k = 0) := Lib.hid (by unfold mostK; rw [if_neg (by omega), if_neg (by omega), if_neg (by omega)])
    clear h
    go_enter Try.func128, Try.ntmps128
    go_wp2
    go_ret
    refine ⟨?_, Below.refl _ _⟩
    rw [HA.out]; rfl
theorem mostK_le (k : Int) : 0 ≤ mostK k ∧ mostK k ≤ 99 := by
  unfold mostK
  split
  · omega
  · split
    · omega
    · split <;> omega
/-- How many parts a kind has, by the reference: -1 for what is no kind. -/
def arS (k : Int) : Int := if inB k 1 15 then arK k else -1
set_option maxHeartbeats 4000000 in
set_option maxRecDepth 100000 in
theorem l4Parts_any (k : Int) (w : World) :
    Calls Try.prog 147 #[.int .i64 k] w fun e w' => e = .returned (.int .i64 (arS k)) ∧ Below w.heap.size w w' := by
  cases g : inB k 1 15
  · have HE : Hid (arS k = -1) := Lib.hid (by rw [arS, g]; rfl)
    have HG := Lib.hid g
    clear g
    go_enter Try.func147, Try.ntmps147
    go_wp2_with fail
    refine (l1In_any _ _ _ _).mono ?_
    rintro e w1 ⟨rfl, hB⟩
    rw [HG.out]
    go_wp2
    go_ret
    exact ⟨by rw [HE.out]; rfl, hB⟩
  · have hk := inB_true.1 g
    have h : k = 1 ∨ k = 2 ∨ k = 3 ∨ k = 4 ∨ k = 5 ∨ k = 6 ∨ k = 7 ∨ k = 8 ∨ k = 9 ∨ k = 10 ∨ k = 11 ∨ k = 12 ∨ k = 13 ∨ k = 14 ∨ k = 15 := by omega
    clear hk
    rcases h with rfl | rfl | rfl | rfl | rfl | rfl | rfl | rfl | rfl | rfl | rfl | rfl | rfl | rfl | rfl
    all_goals
      clear g
      go_enter Try.func147, Try.ntmps147
      go_wp2_with fail
      refine (l1In_any _ _ _ _).mono ?_
      rintro e w1 ⟨rfl, hB⟩
      rw [show inB _ 1 15 = true by decide]
      go_wp2
      go_ret
      exact ⟨rfl, ext_trans hB (by (repeat (first | exact Below.refl _ _ | refine ext_alloc ?_ _ | refine Below.setCell ?_ (by simp) _)))⟩
end Go.Proofs.Ytodjokdaofefdaa
/- impl.NameValid of any text; alive. -/
namespace Go.Proofs.Ytodjokdaofefdaa
set_option linter.unusedSimpArgs false
set_option linter.unusedVariables false
open Go.RowKit

def byteAt (s : ByteArray) (k : Nat) : Int := if h : k < s.size then (s[k]'h).toNat else 0
theorem byteAt_of {s : ByteArray} {k : Nat} (h : k < s.size) : byteAt s k = ((s[k]'h).toNat : Int) := dif_pos h
def nmGood (s : ByteArray) (k : Nat) : Bool := inB (byteAt s k) 97 122
def nmOk (s : ByteArray) : Bool := decide (∀ k, k < s.size → nmGood s k = true) && inB s.size 1 8
theorem nmOk_no {s : ByteArray} {k : Nat} (hk : k < s.size) (h : nmGood s k = false) : false = nmOk s := by
  have : ¬ ∀ k, k < s.size → nmGood s k = true := fun hh => by rw [hh k hk] at h; cases h
  simp [nmOk, this]
theorem nmOk_yes {s : ByteArray} (h : ∀ k, k < s.size → nmGood s k = true) : nmOk s = inB s.size 1 8 := by
  unfold nmOk
  rw [decide_eq_true h, Bool.true_and]

set_option maxHeartbeats 1000000 in
theorem implNameValid (s : ByteArray) (hs : s.size ≤ 9223372036854775807) (w : World) :
    Calls Try.prog 70 #[.string s] w fun e w' => e = .returned (.bool (nmOk s)) ∧ Below w.heap.size w w' := by
  go_enter Try.func70, Try.ntmps70
  go_wp2
  go_loopw [6] (fun i wr => ∃ k : Nat, k ≤ s.size ∧ i = .int .i64 k ∧ (∀ j, j < k → nmGood s j = true) ∧ Below w.heap.size w wr) (fun i _ => s.size - (intOf i).toNat)
  case atStart => exact ⟨0, Nat.zero_le _, rfl, fun j h => by omega, Below.refl _ _⟩
  case round =>
    obtain ⟨k, hk, rfl, hgood, hB⟩ := hrel
    have HG := Lib.hid hgood
    clear hgood
    by_cases hlt : k < s.size
    · have hx := byteAt_of hlt
      by_cases h1 : ((s[k]'hlt).toNat : Int) < 97
      · go_wp2
        go_ret
        exact ⟨ret_bool (nmOk_no hlt (by rw [nmGood, inB_false]; omega)), hB⟩
      · by_cases h2 : 122 < ((s[k]'hlt).toNat : Int)
        · go_wp2
          go_ret
          exact ⟨ret_bool (nmOk_no hlt (by rw [nmGood, inB_false]; omega)), hB⟩
        · go_wp2
          go_roundw
          case rel => exact ⟨k + 1, by omega, by go_num, all_succ HG.out (by rw [nmGood, inB_true]; omega), hB⟩
          case measure => simp [intOf]; omega
    · obtain rfl : k = s.size := by omega
      go_wp2_with fail
      refine (in_any _ _ _ _).mono ?_
      rintro e w2 ⟨rfl, hB2⟩
      go_wp2
      go_ret
      exact ⟨ret_bool (nmOk_yes HG.out).symm, ext_trans hB hB2⟩
def sA : ByteArray := ⟨#[97]⟩
theorem alive_any (w : World) : Calls Try.prog 19 #[] w fun e w' => e = .returned (.bool true) ∧ Below w.heap.size w w' := by
  go_enter Try.func19, Try.ntmps19
  go_wp2_with fail
  refine (implNameValid sA (by decide) _).mono ?_
  rintro e w2 ⟨rfl, hB2⟩
  go_wp2
  go_ret
  exact ⟨ret_bool (by decide), hB2⟩
end Go.Proofs.Ytodjokdaofefdaa
/- Expressions: sizes of valid ones, by the program. -/
namespace Go.Proofs.Ytodjokdaofefdaa
set_option linter.unusedSimpArgs false
set_option linter.unusedVariables false
open Go.RowKit

def headB (t : Ex) : Bool := inB t.k 1 15 && (inB t.n 0 (mostK t.k) && (decide (t.ps.length = arK t.k) && ((nmK t.k == !decide (t.s = ByteArray.empty)) && (!nmK t.k || nmOk t.s))))
/-- How many expressions are in a valid one at most so deep; 0 for others. -/
def szE : Nat → Ex → Nat
  | 0, _ => 0
  | m + 1, t => if (headB t && t.ps.all (fun p => decide (szE m p ≠ 0))) = true then 1 + (t.ps.map (szE m)).sum else 0
theorem arK_le (k : Int) : arK k ≤ 2 := by
  unfold arK
  split
  · omega
  · split <;> omega
theorem headB_len {t : Ex} (h : headB t = true) : t.ps.length ≤ 2 := by
  simp only [headB, Bool.and_eq_true, decide_eq_true_eq] at h
  have := arK_le t.k
  omega
theorem szE_lt : ∀ (m : Nat) (t : Ex), szE m t < 2 ^ m
  | 0, _ => by simp [szE]
  | m + 1, t => by
    rw [szE]
    split
    · rename_i h
      have hl := headB_len (Bool.and_eq_true_iff.1 h).1
      have ih := szE_lt m
      have hs : ∀ l : ExL, (l.map (szE m)).sum ≤ l.length * (2 ^ m - 1) := by
        intro l
        induction l with
        | nil => simp
        | cons a l ihl =>
          have := ih a
          simp only [List.map_cons, List.sum_cons, List.length_cons, Nat.succ_mul]
          omega
      have h1 := hs t.ps
      have h2 : t.ps.length * (2 ^ m - 1) ≤ 2 * (2 ^ m - 1) := Nat.mul_le_mul_right _ hl
      have h3 := Nat.two_pow_pos m
      rw [Nat.pow_succ]
      omega
    · exact Nat.two_pow_pos _
/-- Where a head stops being a valid one. -/
theorem headCases (t : Ex) : (inB t.k 1 15 = false ∧ headB t = false) ∨ (inB t.k 1 15 = true ∧ inB t.n 0 (mostK t.k) = false ∧ headB t = false) ∨
    (inB t.k 1 15 = true ∧ inB t.n 0 (mostK t.k) = true ∧ t.ps.length ≠ arK t.k ∧ headB t = false) ∨
    (inB t.k 1 15 = true ∧ inB t.n 0 (mostK t.k) = true ∧ t.ps.length = arK t.k ∧ (nmK t.k = decide (t.s = ByteArray.empty)) ∧ headB t = false) ∨
    (inB t.k 1 15 = true ∧ inB t.n 0 (mostK t.k) = true ∧ t.ps.length = arK t.k ∧ (nmK t.k = true ∧ decide (t.s = ByteArray.empty) = false) ∧ nmOk t.s = false ∧ headB t = false) ∨
    (inB t.k 1 15 = true ∧ inB t.n 0 (mostK t.k) = true ∧ t.ps.length = arK t.k ∧ (nmK t.k = true ∧ decide (t.s = ByteArray.empty) = false) ∧ nmOk t.s = true ∧ headB t = true) ∨
    (inB t.k 1 15 = true ∧ inB t.n 0 (mostK t.k) = true ∧ t.ps.length = arK t.k ∧ (nmK t.k = false ∧ decide (t.s = ByteArray.empty) = true) ∧ headB t = true) := by
  unfold headB
  cases inB t.k 1 15
  · simp
  · cases inB t.n 0 (mostK t.k)
    · simp
    · by_cases h : t.ps.length = arK t.k
      · cases nmK t.k <;> cases decide (t.s = ByteArray.empty) <;> cases nmOk t.s <;> simp [h]
      · simp [h]
end Go.Proofs.Ytodjokdaofefdaa
/- Expressions: sizes, by the reference. -/
namespace Go.Proofs.Ytodjokdaofefdaa
set_option linter.unusedSimpArgs false
set_option linter.unusedVariables false
open Go.RowKit

theorem cnt_le {d : Nat} {l : ExL} {k : Nat} (hk : k ≤ l.length) : ((l.take k).map (cntR d)).sum ≤ (l.map (cntR d)).sum := by
  have h : l.map (cntR d) = (l.take k).map (cntR d) ++ (l.drop k).map (cntR d) := by rw [← List.map_append, List.take_append_drop]
  rw [h, List.sum_append]; omega
def SsQ (d : Nat) : Prop := ∀ (A : Option Addr) (r : Ex) (c : Nat) (w : World), exW d w A r.ps → cntS d r.ps ≤ 2097152 →
  Calls Try.prog 118 #[.agg #[.int .i64 r.k, .int .i64 r.n, .string r.s, .slice A r.ps.length c]] w fun e w' => e = .returned (.int .i64 ((1 + cntS d r.ps : Nat) : Int)) ∧ Below w.heap.size w w'
set_option maxRecDepth 100000 in
set_option maxHeartbeats 4000000 in
theorem ssQ_of {d : Nat} (hQ : ∀ m, d = m + 1 → SsQ m) : SsQ d := by
  intro A r c w hU hcnt
  have hl := exS.len hU
  have HQ := Lib.hid hQ
  have HCN := Lib.hid hcnt
  clear hQ
  obtain ⟨W, hW⟩ : ∃ W, W = w.alloc (.cells #[.int .i64 r.k, .int .i64 r.n, .string r.s, .slice A r.ps.length c] 28) := ⟨_, rfl⟩
  have hBW : Below w.heap.size w W := by rw [hW]; (repeat (first | exact Below.refl _ _ | refine ext_alloc ?_ _ | refine Below.setCell ?_ (by simp) _))
  have b3 : W.cell? ⟨w.heap.size, 3, none⟩ = some (.slice A r.ps.length c) := by rw [hW]; exact box_cell w _ _ 3 _ rfl
  have HW := Lib.hid hW
  have HB3 := Lib.hid b3
  have HBW := Lib.hid hBW
  have hlc : r.ps.length ≤ 2097152 := by unfold cntS at hcnt; omega
  clear hW b3 hBW hcnt
  go_enter Try.func118, Try.ntmps118
  go_wp2
  go_loopw [3, 4] (fun ov kv wr => ∃ (k s : Nat), k ≤ r.ps.length ∧ kv = .int .i64 k ∧ ov = .int .i64 (s : Int) ∧ Hid (s = 1 + k + ((r.ps.take k).map (cntR d)).sum) ∧ s ≤ 2097153 ∧ Below W.heap.size W wr) (fun _ kv _ => r.ps.length - (intOf kv).toNat)
  case atStart => exact ⟨0, 1, Nat.zero_le _, rfl, rfl, Lib.hid (by simp), by omega, by rw [HW.out]; exact Below.refl _ _⟩
  case round =>
    obtain ⟨k, s, hk, rfl, rfl, HS, hs, hB⟩ := hrel
    have b3 := below_cell hB HB3.out
    by_cases hlt : k < r.ps.length
    · have hd : ∃ m, d = m + 1 := by
        cases d with
        | zero => have := exS.zero hU; rw [this] at hlt; simp at hlt
        | succ m => exact ⟨m, rfl⟩
      obtain ⟨m, hm⟩ := hd
      subst hm
      have HQ1 := Lib.hid (HQ.out m rfl)
      obtain ⟨b, off, rfl, hc⟩ := (hU.below HBW.out).cells (by omega)
      obtain ⟨A1, c1, hfd, hs1, p0, p1, p2, p3⟩ := hc k hlt
      replace p0 := below_cell hB p0
      replace p1 := below_cell hB p1
      replace p2 := below_cell hB p2
      replace p3 := below_cell hB p3
      replace hfd := hfd.below hB
      clear hc
      have HT := Lib.hid (cnt_take (d := m + 1) hlt)
      have HL := Lib.hid (cnt_le (d := m + 1) (l := r.ps) (k := k + 1) (by omega))
      obtain ⟨z, hz⟩ : ∃ z, cntS m (exAt r.ps k).ps = z := ⟨_, rfl⟩
      have hz2 : cntR (m + 1) (exAt r.ps k) = z := hz
      have hall : s + (1 + z) ≤ 2097153 ∧ s + (1 + z) = 1 + (k + 1) + ((r.ps.take (k + 1)).map (cntR (m + 1))).sum := by
        have h1 := HL.out
        have h2 := HT.out
        have h3 := HCN.out
        have h4 := HS.out
        unfold cntS at h3
        rw [hz2] at h2
        omega
      have hzl : z ≤ 2097152 := by omega
      have HZ := Lib.hid hz
      have HALL := Lib.hid hall.2
      have hall1 := hall.1
      clear hz hz2 hall
      go_wp2_with fail
      refine (HQ1.out _ _ _ _ hfd (by rw [HZ.out]; exact hzl)).mono ?_
      rintro e w4 ⟨rfl, hb⟩
      rw [HZ.out]
      replace hB := ext_trans hB hb
      clear hb p0 p1 p2 p3 hfd b3
      go_wp2
      go_roundw
      case rel => exact ⟨k + 1, s + (1 + z), by omega, by go_num, by go_num, Lib.hid HALL.out, hall1, hB⟩
      case measure => simp [intOf]; omega
    · obtain rfl : k = r.ps.length := by omega
      have HE : Hid (s = 1 + cntS d r.ps) := Lib.hid (by have := HS.out; rw [List.take_length] at this; unfold cntS; omega)
      go_wp2
      go_ret
      exact ⟨by rw [← HE.out]; rfl, ext_trans HBW.out hB⟩
theorem ssQ_all : ∀ d, SsQ d
  | 0 => ssQ_of (fun m h => by cases h)
  | d + 1 => ssQ_of (fun m h => by cases h; exact ssQ_all d)
end Go.Proofs.Ytodjokdaofefdaa
/- Expressions: depths, by the reference. -/
namespace Go.Proofs.Ytodjokdaofefdaa
set_option linter.unusedSimpArgs false
set_option linter.unusedVariables false
open Go.RowKit

def mxL : List Nat → Nat
  | [] => 0
  | a :: l => max a (mxL l)
theorem mx_snoc (a : Nat) : ∀ l : List Nat, mxL (l ++ [a]) = max (mxL l) a
  | [] => by simp [mxL]
  | b :: l => by rw [List.cons_append, mxL, mx_snoc a l, mxL]; omega
def dpR : Nat → Ex → Nat
  | 0, _ => 0
  | d + 1, t => 1 + mxL (t.ps.map (dpR d))
theorem mx_take {d : Nat} {l : ExL} {k : Nat} (hk : k < l.length) : mxL ((l.take (k + 1)).map (dpR d)) = max (mxL ((l.take k).map (dpR d))) (dpR d (exAt l k)) := by
  rw [List.take_succ_eq_append_getElem hk, List.map_append, exAt_eq hk, List.map_cons, List.map_nil, mx_snoc]
theorem dp_le : ∀ (d : Nat) (t : Ex), dpR d t ≤ 1 + cntR d t
  | 0, _ => by simp [dpR]
  | d + 1, t => by
    have h : ∀ l : ExL, mxL (l.map (dpR d)) ≤ l.length + (l.map (cntR d)).sum := by
      intro l
      induction l with
      | nil => simp [mxL]
      | cons a l ih =>
        have := dp_le d a
        simp only [List.map_cons, mxL, List.sum_cons, List.length_cons]
        omega
    have := h t.ps
    rw [dpR, cntR]
    omega
def SdQ (d : Nat) : Prop := ∀ (A : Option Addr) (r : Ex) (c : Nat) (w : World), exW d w A r.ps → cntS d r.ps ≤ 2097152 →
  Calls Try.prog 119 #[.agg #[.int .i64 r.k, .int .i64 r.n, .string r.s, .slice A r.ps.length c]] w fun e w' => e = .returned (.int .i64 ((1 + mxL (r.ps.map (dpR d)) : Nat) : Int)) ∧ Below w.heap.size w w'
set_option maxRecDepth 100000 in
set_option maxHeartbeats 4000000 in
theorem sdQ_of {d : Nat} (hQ : ∀ m, d = m + 1 → SdQ m) : SdQ d := by
  intro A r c w hU hcnt
  have hl := exS.len hU
  have HQ := Lib.hid hQ
  have HCN := Lib.hid hcnt
  clear hQ
  obtain ⟨W, hW⟩ : ∃ W, W = w.alloc (.cells #[.int .i64 r.k, .int .i64 r.n, .string r.s, .slice A r.ps.length c] 28) := ⟨_, rfl⟩
  have hBW : Below w.heap.size w W := by rw [hW]; (repeat (first | exact Below.refl _ _ | refine ext_alloc ?_ _ | refine Below.setCell ?_ (by simp) _))
  have b3 : W.cell? ⟨w.heap.size, 3, none⟩ = some (.slice A r.ps.length c) := by rw [hW]; exact box_cell w _ _ 3 _ rfl
  have HW := Lib.hid hW
  have HB3 := Lib.hid b3
  have HBW := Lib.hid hBW
  have hlc : r.ps.length ≤ 2097152 := by unfold cntS at hcnt; omega
  clear hW b3 hBW hcnt
  go_enter Try.func119, Try.ntmps119
  go_wp2
  go_loopw [3, 4] (fun ov kv wr => ∃ (k s : Nat), k ≤ r.ps.length ∧ kv = .int .i64 k ∧ ov = .int .i64 (s : Int) ∧ Hid (s = mxL ((r.ps.take k).map (dpR d))) ∧ s ≤ 2097153 ∧ Below W.heap.size W wr) (fun _ kv _ => r.ps.length - (intOf kv).toNat)
  case atStart => exact ⟨0, 0, Nat.zero_le _, rfl, rfl, Lib.hid (by simp [mxL]), by omega, by rw [HW.out]; exact Below.refl _ _⟩
  case round =>
    obtain ⟨k, s, hk, rfl, rfl, HS, hs, hB⟩ := hrel
    have b3 := below_cell hB HB3.out
    by_cases hlt : k < r.ps.length
    · have hd : ∃ m, d = m + 1 := by
        cases d with
        | zero => have := exS.zero hU; rw [this] at hlt; simp at hlt
        | succ m => exact ⟨m, rfl⟩
      obtain ⟨m, hm⟩ := hd
      subst hm
      have HQ1 := Lib.hid (HQ.out m rfl)
      obtain ⟨b, off, rfl, hc⟩ := (hU.below HBW.out).cells (by omega)
      obtain ⟨A1, c1, hfd, hs1, p0, p1, p2, p3⟩ := hc k hlt
      replace p0 := below_cell hB p0
      replace p1 := below_cell hB p1
      replace p2 := below_cell hB p2
      replace p3 := below_cell hB p3
      replace hfd := hfd.below hB
      clear hc
      have HT := Lib.hid (mx_take (d := m + 1) hlt)
      have hcz : cntS m (exAt r.ps k).ps ≤ 2097152 := by
        have h1 := cnt_le (d := m + 1) (l := r.ps) (k := k + 1) (by omega)
        have h2 := cnt_take (d := m + 1) hlt
        have h3 := HCN.out
        have h4 : cntR (m + 1) (exAt r.ps k) = cntS m (exAt r.ps k).ps := rfl
        unfold cntS at h3
        omega
      obtain ⟨z, hz⟩ : ∃ z, 1 + mxL ((exAt r.ps k).ps.map (dpR m)) = z := ⟨_, rfl⟩
      have hz2 : dpR (m + 1) (exAt r.ps k) = z := hz
      have hzl : z ≤ 2097153 := by
        have h1 := dp_le (m + 1) (exAt r.ps k)
        have h4 : cntR (m + 1) (exAt r.ps k) = cntS m (exAt r.ps k).ps := rfl
        omega
      have HCZ := Lib.hid hcz
      have HZ := Lib.hid hz
      have HZ2 := Lib.hid hz2
      clear hz hz2 hcz
      go_wp2_with fail
      refine (HQ1.out _ _ _ _ hfd HCZ.out).mono ?_
      rintro e w4 ⟨rfl, hb⟩
      rw [HZ.out]
      replace hB := ext_trans hB hb
      clear hb p0 p1 p2 p3 hfd b3
      by_cases h : s < z
      · go_wp2
        go_roundw
        case rel => exact ⟨k + 1, z, by omega, by go_num, by simp [h], Lib.hid (by rw [HT.out, ← HS.out, HZ2.out]; omega), hzl, hB⟩
        case measure => simp [intOf]; omega
      · go_wp2
        go_roundw
        case rel => exact ⟨k + 1, s, by omega, by go_num, by simp [h], Lib.hid (by rw [HT.out, ← HS.out, HZ2.out]; omega), hs, hB⟩
        case measure => simp [intOf]; omega
    · obtain rfl : k = r.ps.length := by omega
      have HE : Hid (s = mxL (r.ps.map (dpR d))) := Lib.hid (by have := HS.out; rwa [List.take_length] at this)
      go_wp2
      go_ret
      exact ⟨by rw [← HE.out, Nat.add_comm 1 s]; rfl, ext_trans HBW.out hB⟩
theorem sdQ_all : ∀ d, SdQ d
  | 0 => sdQ_of (fun m h => by cases h)
  | d + 1 => sdQ_of (fun m h => by cases h; exact sdQ_all d)
end Go.Proofs.Ytodjokdaofefdaa
/- Expressions: sizes of valid ones: the program's walk. -/
namespace Go.Proofs.Ytodjokdaofefdaa
set_option linter.unusedSimpArgs false
set_option linter.unusedVariables false
open Go.RowKit

def SeQ (m : Nat) : Prop := ∀ (d : Nat) (A : Option Addr) (r : Ex) (c : Nat) (w : World), exW d w A r.ps → r.s.size ≤ 9223372036854775807 →
  Calls Try.prog 87 #[.agg #[.int .i64 r.k, .int .i64 r.n, .string r.s, .slice A r.ps.length c], .int .i64 (m : Int)] w fun e w' => e = .returned (.int .i64 (szE m r)) ∧ Below w.heap.size w w'
theorem str_isEmpty (s : ByteArray) : s.toList.isEmpty = decide (s = ByteArray.empty) := by
  have h0 : ByteArray.empty.toList = [] := by first | (unfold ByteArray.toList ByteArray.toList.loop; simp; done) | (simp [ByteArray.toList, ByteArray.toList.loop]; done) | kernel_rfl | decide +kernel
  rw [Bool.eq_iff_iff, List.isEmpty_iff, decide_eq_true_eq, ← h0]
  exact str_eq
theorem szE_no {m k : Nat} {r : Ex} (hk : k < r.ps.length) (h : szE m (exAt r.ps k) = 0) : szE (m + 1) r = 0 := by
  rw [szE, if_neg]
  intro h2
  have h3 := List.all_eq_true.1 (Bool.and_eq_true_iff.1 h2).2 _ (List.getElem_mem hk)
  rw [← exAt_eq hk, h] at h3
  simp at h3
theorem szE_yes {m : Nat} {r : Ex} (g : headB r = true) (h : ∀ j, j < r.ps.length → szE m (exAt r.ps j) ≠ 0) : szE (m + 1) r = 1 + (r.ps.map (szE m)).sum := by
  rw [szE, if_pos]
  rw [g, Bool.true_and, List.all_eq_true]
  intro p hp
  obtain ⟨j, hj, rfl⟩ := List.getElem_of_mem hp
  have := h j hj
  rw [exAt_eq hj] at this
  simpa using this
theorem szE_sum {m : Nat} (hm : m < 7) (l : ExL) : (l.map (szE m)).sum ≤ l.length * 127 := by
  have h2 : (2 : Nat) ^ m ≤ 2 ^ 7 := Nat.pow_le_pow_right (by omega) (by omega)
  induction l with
  | nil => simp
  | cons a l ihl =>
    have := szE_lt m a
    simp only [List.map_cons, List.sum_cons, List.length_cons, Nat.succ_mul]
    omega
theorem sum_take {m : Nat} {l : ExL} {k : Nat} (hk : k < l.length) : ((l.take (k + 1)).map (szE m)).sum = ((l.take k).map (szE m)).sum + szE m (exAt l k) := by
  rw [List.take_succ_eq_append_getElem hk, List.map_append, List.sum_append, exAt_eq hk]; simp
theorem implNameValid_v {s : ByteArray} {b : Bool} (hb : nmOk s = b) (hs : s.size ≤ 9223372036854775807) (w : World) :
    Calls Try.prog 70 #[.string s] w fun e w' => e = .returned (.bool b) ∧ Below w.heap.size w w' := hb ▸ implNameValid s hs w
set_option maxRecDepth 100000 in
set_option maxHeartbeats 4000000 in
theorem seQ_succ {m : Nat} (hm : m < 7) (hQ : SeQ m) : SeQ (m + 1) := by
  intro d A r c w hU hs
  have hl := exS.len hU
  have HQ := Lib.hid hQ
  clear hQ
  obtain ⟨W, hW⟩ : ∃ W, W = w.alloc (.cells #[.int .i64 r.k, .int .i64 r.n, .string r.s, .slice A r.ps.length c] 28) := ⟨_, rfl⟩
  have hBW : Below w.heap.size w W := by rw [hW]; (repeat (first | exact Below.refl _ _ | refine ext_alloc ?_ _ | refine Below.setCell ?_ (by simp) _))
  have b0 : W.cell? ⟨w.heap.size, 0, none⟩ = some (.int .i64 r.k) := by rw [hW]; exact box_cell w _ _ 0 _ rfl
  have b1 : W.cell? ⟨w.heap.size, 1, none⟩ = some (.int .i64 r.n) := by rw [hW]; exact box_cell w _ _ 1 _ rfl
  have b2 : W.cell? ⟨w.heap.size, 2, none⟩ = some (.string r.s) := by rw [hW]; exact box_cell w _ _ 2 _ rfl
  have b3 : W.cell? ⟨w.heap.size, 3, none⟩ = some (.slice A r.ps.length c) := by rw [hW]; exact box_cell w _ _ 3 _ rfl
  have HW := Lib.hid hW
  have HBW := Lib.hid hBW
  clear hW hBW
  have hm0 : (((m + 1 : Nat) : Int) == 0) = false := by simp; omega
  have hm1 : (((m : Int) + 1) == 0) = false := by simp; omega
  rcases headCases r with ⟨g1, g0⟩ | ⟨g1, g2, g0⟩ | ⟨g1, g2, g3, g0⟩ | ⟨g1, g2, g3, g4, g0⟩ | ⟨g1, g2, g3, g4, g5, g0⟩ | ⟨g1, g2, g3, g4, g5, g0⟩ | ⟨g1, g2, g3, g4, g0⟩
  · have HZ : Hid (szE (m + 1) r = 0) := Lib.hid (by rw [szE, g0]; simp)
    clear g0
    go_enter Try.func87, Try.ntmps87
    go_wp2_with fail
    rw [← HW.out]
    refine (partsOf_any _ _).mono ?_
    rintro e w1 ⟨rfl, hB⟩
    have a0 := cell_regrown (below_cell hB b0)
    have a1 := cell_regrown (below_cell hB b1)
    have a2 := cell_regrown (below_cell hB b2)
    have a3 := cell_regrown (below_cell hB b3)
    clear b0 b1 b2 b3
    go_wp2
    refine wp_region_quiet_below (by kernel_rfl) (by kernel_rfl) ?_
    repeat (go_big_quiet_step (first | (go_at_call 55; exact Calls.regrown_of (in_any _ _ _ _)) | (go_at_call 128; exact Calls.regrown_of (greatestNumber_any _ _)) | (go_at_call 70; exact Calls.regrown_of (implNameValid _ hs _))))
    refine wpQuiet_nil ?_
    intro w2 hw'regrown
    replace hB := ext_trans hB (below_of_regrown hw'regrown (Nat.le_refl _))
    clear hw'regrown a0 a1 a2 a3
    go_wp2
    go_ret
    exact ⟨by rw [HZ.out]; rfl, ext_trans HBW.out hB⟩
  · have HZ : Hid (szE (m + 1) r = 0) := Lib.hid (by rw [szE, g0]; simp)
    clear g0
    go_enter Try.func87, Try.ntmps87
    go_wp2_with fail
    rw [← HW.out]
    refine (partsOf_any _ _).mono ?_
    rintro e w1 ⟨rfl, hB⟩
    have a0 := cell_regrown (below_cell hB b0)
    have a1 := cell_regrown (below_cell hB b1)
    have a2 := cell_regrown (below_cell hB b2)
    have a3 := cell_regrown (below_cell hB b3)
    clear b0 b1 b2 b3
    go_wp2
    refine wp_region_quiet_below (by kernel_rfl) (by kernel_rfl) ?_
    repeat (go_big_quiet_step (first | (go_at_call 55; exact Calls.regrown_of (in_any _ _ _ _)) | (go_at_call 128; exact Calls.regrown_of (greatestNumber_any _ _)) | (go_at_call 70; exact Calls.regrown_of (implNameValid _ hs _))))
    refine wpQuiet_nil ?_
    intro w2 hw'regrown
    replace hB := ext_trans hB (below_of_regrown hw'regrown (Nat.le_refl _))
    clear hw'regrown a0 a1 a2 a3
    go_wp2
    go_ret
    exact ⟨by rw [HZ.out]; rfl, ext_trans HBW.out hB⟩
  · have HZ : Hid (szE (m + 1) r = 0) := Lib.hid (by rw [szE, g0]; simp)
    have e3 : ((r.ps.length : Int) != (arK r.k : Int)) = true := by simp; omega
    have G3 := Lib.hid g3
    clear g3
    clear g0
    go_enter Try.func87, Try.ntmps87
    go_wp2_with fail
    rw [← HW.out]
    refine (partsOf_any _ _).mono ?_
    rintro e w1 ⟨rfl, hB⟩
    have a0 := cell_regrown (below_cell hB b0)
    have a1 := cell_regrown (below_cell hB b1)
    have a2 := cell_regrown (below_cell hB b2)
    have a3 := cell_regrown (below_cell hB b3)
    clear b0 b1 b2 b3
    go_wp2
    refine wp_region_quiet_below (by kernel_rfl) (by kernel_rfl) ?_
    repeat (go_big_quiet_step (first | (go_at_call 55; exact Calls.regrown_of (in_any _ _ _ _)) | (go_at_call 128; exact Calls.regrown_of (greatestNumber_any _ _)) | (go_at_call 70; exact Calls.regrown_of (implNameValid _ hs _))))
    refine wpQuiet_nil ?_
    intro w2 hw'regrown
    replace hB := ext_trans hB (below_of_regrown hw'regrown (Nat.le_refl _))
    clear hw'regrown a0 a1 a2 a3
    go_wp2
    go_ret
    exact ⟨by rw [HZ.out]; rfl, ext_trans HBW.out hB⟩
  · obtain ⟨q, hq⟩ : ∃ q, nmK r.k = q := ⟨_, rfl⟩
    have hq2 : decide (r.s = ByteArray.empty) = q := by rw [← g4, hq]
    have e3 : ((r.ps.length : Int) != (arK r.k : Int)) = false := by simp; omega
    have e5 : r.s.toList.isEmpty = q := by rw [str_isEmpty]; exact hq2
    have HQQ := Lib.hid hq
    have G3 := Lib.hid g3
    obtain ⟨x5, g5⟩ : ∃ x, nmOk r.s = x := ⟨_, rfl⟩
    clear g3 g4 hq hq2
    have HZ : Hid (szE (m + 1) r = 0) := Lib.hid (by rw [szE, g0]; simp)
    clear g0
    cases q
    · go_enter Try.func87, Try.ntmps87
      go_wp2_with fail
      rw [← HW.out]
      refine (partsOf_any _ _).mono ?_
      rintro e w1 ⟨rfl, hB⟩
      rw [HQQ.out]
      have a0 := cell_regrown (below_cell hB b0)
      have a1 := cell_regrown (below_cell hB b1)
      have a2 := cell_regrown (below_cell hB b2)
      have a3 := cell_regrown (below_cell hB b3)
      clear b0 b1 b2 b3
      go_wp2
      refine wp_region_quiet_below (by kernel_rfl) (by kernel_rfl) ?_
      repeat (go_big_quiet_step (first | (go_at_call 55; exact Calls.regrown_of (in_any _ _ _ _)) | (go_at_call 128; exact Calls.regrown_of (greatestNumber_any _ _)) | (go_at_call 70; (with_reducible exact Calls.regrown_of (implNameValid_v g5 hs _)))))
      refine wpQuiet_nil ?_
      intro w2 hw'regrown
      replace hB := ext_trans hB (below_of_regrown hw'regrown (Nat.le_refl _))
      clear hw'regrown a0 a1 a2 a3
      go_wp2
      go_ret
      exact ⟨by rw [HZ.out]; rfl, ext_trans HBW.out hB⟩
    · go_enter Try.func87, Try.ntmps87
      go_wp2_with fail
      rw [← HW.out]
      refine (partsOf_any _ _).mono ?_
      rintro e w1 ⟨rfl, hB⟩
      rw [HQQ.out]
      have a0 := cell_regrown (below_cell hB b0)
      have a1 := cell_regrown (below_cell hB b1)
      have a2 := cell_regrown (below_cell hB b2)
      have a3 := cell_regrown (below_cell hB b3)
      clear b0 b1 b2 b3
      go_wp2
      refine wp_region_quiet_below (by kernel_rfl) (by kernel_rfl) ?_
      repeat (go_big_quiet_step (first | (go_at_call 55; exact Calls.regrown_of (in_any _ _ _ _)) | (go_at_call 128; exact Calls.regrown_of (greatestNumber_any _ _)) | (go_at_call 70; (with_reducible exact Calls.regrown_of (implNameValid_v g5 hs _)))))
      refine wpQuiet_nil ?_
      intro w2 hw'regrown
      replace hB := ext_trans hB (below_of_regrown hw'regrown (Nat.le_refl _))
      clear hw'regrown a0 a1 a2 a3
      go_wp2
      go_ret
      exact ⟨by rw [HZ.out]; rfl, ext_trans HBW.out hB⟩
  · have e3 : ((r.ps.length : Int) != (arK r.k : Int)) = false := by simp; omega
    have e5 : r.s.toList.isEmpty = false := by rw [str_isEmpty]; exact g4.2
    have HQQ := Lib.hid g4.1
    have G3 := Lib.hid g3
    clear g3 g4
    have HZ : Hid (szE (m + 1) r = 0) := Lib.hid (by rw [szE, g0]; simp)
    clear g0
    go_enter Try.func87, Try.ntmps87
    go_wp2_with fail
    rw [← HW.out]
    refine (partsOf_any _ _).mono ?_
    rintro e w1 ⟨rfl, hB⟩
    rw [HQQ.out]
    have a0 := cell_regrown (below_cell hB b0)
    have a1 := cell_regrown (below_cell hB b1)
    have a2 := cell_regrown (below_cell hB b2)
    have a3 := cell_regrown (below_cell hB b3)
    clear b0 b1 b2 b3
    go_wp2
    refine wp_region_quiet_below (by kernel_rfl) (by kernel_rfl) ?_
    repeat (go_big_quiet_step (first | (go_at_call 55; exact Calls.regrown_of (in_any _ _ _ _)) | (go_at_call 128; exact Calls.regrown_of (greatestNumber_any _ _)) | (go_at_call 70; (with_reducible exact Calls.regrown_of (implNameValid_v g5 hs _)))))
    refine wpQuiet_nil ?_
    intro w2 hw'regrown
    replace hB := ext_trans hB (below_of_regrown hw'regrown (Nat.le_refl _))
    clear hw'regrown a0 a1 a2 a3
    go_wp2
    go_ret
    exact ⟨by rw [HZ.out]; rfl, ext_trans HBW.out hB⟩
  · have e3 : ((r.ps.length : Int) != (arK r.k : Int)) = false := by simp; omega
    have e5 : r.s.toList.isEmpty = false := by rw [str_isEmpty]; exact g4.2
    have HQQ := Lib.hid g4.1
    have G3 := Lib.hid g3
    clear g3 g4
    have HGH := Lib.hid g0
    have hl2 := headB_len g0
    clear g0
    go_enter Try.func87, Try.ntmps87
    go_wp2_with fail
    rw [← HW.out]
    refine (partsOf_any _ _).mono ?_
    rintro e w1 ⟨rfl, hB⟩
    rw [HQQ.out]
    have a0 := cell_regrown (below_cell hB b0)
    have a1 := cell_regrown (below_cell hB b1)
    have a2 := cell_regrown (below_cell hB b2)
    have a3 := cell_regrown (below_cell hB b3)
    clear b0 b1 b2
    go_wp2
    refine wp_region_quiet_below (by kernel_rfl) (by kernel_rfl) ?_
    repeat (go_big_quiet_step (first | (go_at_call 55; exact Calls.regrown_of (in_any _ _ _ _)) | (go_at_call 128; exact Calls.regrown_of (greatestNumber_any _ _)) | (go_at_call 70; (with_reducible exact Calls.regrown_of (implNameValid_v g5 hs _)))))
    refine wpQuiet_nil ?_
    intro w2 hw'regrown
    replace hB := ext_trans hB (below_of_regrown hw'regrown (Nat.le_refl _))
    clear hw'regrown a0 a1 a2 a3
    rw [g1, g2]
    have hB3 := below_cell hB b3
    go_wp2
    go_loopw [7, 60] (fun ov kv wr => ∃ (k s : Nat), k ≤ r.ps.length ∧ kv = .int .i64 k ∧ ov = .int .i64 ((1 + s : Nat) : Int) ∧ Hid (s = ((r.ps.take k).map (szE m)).sum) ∧ s ≤ 254 ∧ Hid (∀ j, j < k → szE m (exAt r.ps j) ≠ 0) ∧ Below W.heap.size W wr) (fun _ kv _ => r.ps.length - (intOf kv).toNat)
    case atStart => exact ⟨0, 0, Nat.zero_le _, rfl, rfl, Lib.hid rfl, by omega, Lib.hid (fun j h => by omega), hB⟩
    case round =>
      clear hB hB3
      obtain ⟨k, s, hk, rfl, rfl, HS, hs254, HG, hB⟩ := hrel
      by_cases hlt : k < r.ps.length
      · have hd : ∃ m, d = m + 1 := by
          cases d with
          | zero => have := exS.zero hU; rw [this] at hlt; simp at hlt
          | succ m => exact ⟨m, rfl⟩
        obtain ⟨dd, hdd⟩ := hd
        subst hdd
        obtain ⟨b, off, rfl, hc⟩ := (hU.below HBW.out).cells (by omega)
        obtain ⟨A1, c1, hfd, hs1, p0, p1, p2, p3⟩ := hc k hlt
        replace p0 := below_cell hB p0
        replace p1 := below_cell hB p1
        replace p2 := below_cell hB p2
        replace p3 := below_cell hB p3
        replace hfd := hfd.below hB
        have HST := Lib.hid (sum_take (m := m) hlt)
        have HTB := Lib.hid (szE_sum hm (r.ps.take (k + 1)))
        clear hc
        obtain ⟨z, hz⟩ : ∃ z, szE m (exAt r.ps k) = z := ⟨_, rfl⟩
        have HZ := Lib.hid hz
        have hzb : s + z ≤ 254 := by
          have h1 := HTB.out
          rw [HST.out, ← HS.out, hz, List.length_take] at h1
          have : min (k + 1) r.ps.length ≤ 2 := by omega
          omega
        clear hz
        go_wp2_with fail
        refine (HQ.out _ _ _ _ _ (hfd.below (by (repeat (first | exact Below.refl _ _ | refine ext_alloc ?_ _ | refine Below.setCell ?_ (by simp) _)))) hs1).mono ?_
        rintro e w4 ⟨rfl, hb⟩
        rw [HZ.out]
        replace hB := ext_trans (ext_trans hB (by (repeat (first | exact Below.refl _ _ | refine ext_alloc ?_ _ | refine Below.setCell ?_ (by simp) _)))) hb
        clear hb p0 p1 p2 p3 hfd
        by_cases h0 : z = 0
        · subst h0
          have HN := Lib.hid (szE_no hlt HZ.out)
          go_wp2
          go_ret
          exact ⟨by rw [HN.out]; rfl, ext_trans HBW.out hB⟩
        · have hz0 : ((z : Int) == 0) = false := by simp; omega
          have HN0 := Lib.hid h0
          clear h0
          go_wp2
          go_roundw
          case rel =>
            exact ⟨k + 1, s + z, by omega, by go_num, by go_num, Lib.hid (by rw [HST.out, ← HS.out, HZ.out]), hzb, Lib.hid (all_succ HG.out (by rw [HZ.out]; exact HN0.out)), hB⟩
          case measure => simp [intOf]; omega
      · obtain rfl : k = r.ps.length := by omega
        have HY := Lib.hid (szE_yes HGH.out HG.out)
        go_wp2
        go_ret
        exact ⟨by rw [HY.out, HS.out, List.take_length]; rfl, ext_trans HBW.out hB⟩
  · have e3 : ((r.ps.length : Int) != (arK r.k : Int)) = false := by simp; omega
    have e5 : r.s.toList.isEmpty = true := by rw [str_isEmpty]; exact g4.2
    have HQQ := Lib.hid g4.1
    have G3 := Lib.hid g3
    obtain ⟨x5, g5⟩ : ∃ x, nmOk r.s = x := ⟨_, rfl⟩
    clear g3 g4
    have HGH := Lib.hid g0
    have hl2 := headB_len g0
    clear g0
    go_enter Try.func87, Try.ntmps87
    go_wp2_with fail
    rw [← HW.out]
    refine (partsOf_any _ _).mono ?_
    rintro e w1 ⟨rfl, hB⟩
    rw [HQQ.out]
    have a0 := cell_regrown (below_cell hB b0)
    have a1 := cell_regrown (below_cell hB b1)
    have a2 := cell_regrown (below_cell hB b2)
    have a3 := cell_regrown (below_cell hB b3)
    clear b0 b1 b2
    go_wp2
    refine wp_region_quiet_below (by kernel_rfl) (by kernel_rfl) ?_
    repeat (go_big_quiet_step (first | (go_at_call 55; exact Calls.regrown_of (in_any _ _ _ _)) | (go_at_call 128; exact Calls.regrown_of (greatestNumber_any _ _)) | (go_at_call 70; (with_reducible exact Calls.regrown_of (implNameValid_v g5 hs _)))))
    refine wpQuiet_nil ?_
    intro w2 hw'regrown
    replace hB := ext_trans hB (below_of_regrown hw'regrown (Nat.le_refl _))
    clear hw'regrown a0 a1 a2 a3
    rw [g1, g2]
    have hB3 := below_cell hB b3
    go_wp2
    go_loopw [7, 60] (fun ov kv wr => ∃ (k s : Nat), k ≤ r.ps.length ∧ kv = .int .i64 k ∧ ov = .int .i64 ((1 + s : Nat) : Int) ∧ Hid (s = ((r.ps.take k).map (szE m)).sum) ∧ s ≤ 254 ∧ Hid (∀ j, j < k → szE m (exAt r.ps j) ≠ 0) ∧ Below W.heap.size W wr) (fun _ kv _ => r.ps.length - (intOf kv).toNat)
    case atStart => exact ⟨0, 0, Nat.zero_le _, rfl, rfl, Lib.hid rfl, by omega, Lib.hid (fun j h => by omega), hB⟩
    case round =>
      clear hB hB3
      obtain ⟨k, s, hk, rfl, rfl, HS, hs254, HG, hB⟩ := hrel
      by_cases hlt : k < r.ps.length
      · have hd : ∃ m, d = m + 1 := by
          cases d with
          | zero => have := exS.zero hU; rw [this] at hlt; simp at hlt
          | succ m => exact ⟨m, rfl⟩
        obtain ⟨dd, hdd⟩ := hd
        subst hdd
        obtain ⟨b, off, rfl, hc⟩ := (hU.below HBW.out).cells (by omega)
        obtain ⟨A1, c1, hfd, hs1, p0, p1, p2, p3⟩ := hc k hlt
        replace p0 := below_cell hB p0
        replace p1 := below_cell hB p1
        replace p2 := below_cell hB p2
        replace p3 := below_cell hB p3
        replace hfd := hfd.below hB
        have HST := Lib.hid (sum_take (m := m) hlt)
        have HTB := Lib.hid (szE_sum hm (r.ps.take (k + 1)))
        clear hc
        obtain ⟨z, hz⟩ : ∃ z, szE m (exAt r.ps k) = z := ⟨_, rfl⟩
        have HZ := Lib.hid hz
        have hzb : s + z ≤ 254 := by
          have h1 := HTB.out
          rw [HST.out, ← HS.out, hz, List.length_take] at h1
          have : min (k + 1) r.ps.length ≤ 2 := by omega
          omega
        clear hz
        go_wp2_with fail
        refine (HQ.out _ _ _ _ _ (hfd.below (by (repeat (first | exact Below.refl _ _ | refine ext_alloc ?_ _ | refine Below.setCell ?_ (by simp) _)))) hs1).mono ?_
        rintro e w4 ⟨rfl, hb⟩
        rw [HZ.out]
        replace hB := ext_trans (ext_trans hB (by (repeat (first | exact Below.refl _ _ | refine ext_alloc ?_ _ | refine Below.setCell ?_ (by simp) _)))) hb
        clear hb p0 p1 p2 p3 hfd
        by_cases h0 : z = 0
        · subst h0
          have HN := Lib.hid (szE_no hlt HZ.out)
          go_wp2
          go_ret
          exact ⟨by rw [HN.out]; rfl, ext_trans HBW.out hB⟩
        · have hz0 : ((z : Int) == 0) = false := by simp; omega
          have HN0 := Lib.hid h0
          clear h0
          go_wp2
          go_roundw
          case rel =>
            exact ⟨k + 1, s + z, by omega, by go_num, by go_num, Lib.hid (by rw [HST.out, ← HS.out, HZ.out]), hzb, Lib.hid (all_succ HG.out (by rw [HZ.out]; exact HN0.out)), hB⟩
          case measure => simp [intOf]; omega
      · obtain rfl : k = r.ps.length := by omega
        have HY := Lib.hid (szE_yes HGH.out HG.out)
        go_wp2
        go_ret
        exact ⟨by rw [HY.out, HS.out, List.take_length]; rfl, ext_trans HBW.out hB⟩
set_option maxRecDepth 100000 in
set_option maxHeartbeats 4000000 in
theorem seQ_zero : SeQ 0 := by
  intro d A r c w hU hs
  have hl := exS.len hU
  obtain ⟨W, hW⟩ : ∃ W, W = w.alloc (.cells #[.int .i64 r.k, .int .i64 r.n, .string r.s, .slice A r.ps.length c] 28) := ⟨_, rfl⟩
  have hBW : Below w.heap.size w W := by rw [hW]; (repeat (first | exact Below.refl _ _ | refine ext_alloc ?_ _ | refine Below.setCell ?_ (by simp) _))
  have b0 : W.cell? ⟨w.heap.size, 0, none⟩ = some (.int .i64 r.k) := by rw [hW]; exact box_cell w _ _ 0 _ rfl
  have HW := Lib.hid hW
  clear hW
  go_enter Try.func87, Try.ntmps87
  go_wp2_with fail
  rw [← HW.out]
  refine (partsOf_any _ _).mono ?_
  rintro e w1 ⟨rfl, hB⟩
  go_wp2
  refine wp_region_quiet_below (by kernel_rfl) (by kernel_rfl) ?_
  repeat (go_big_quiet_step (fail))
  refine wpQuiet_nil ?_
  intro w2 hw'regrown
  replace hB := ext_trans hB (below_of_regrown hw'regrown (Nat.le_refl _))
  clear hw'regrown
  go_wp2
  go_ret
  exact ⟨rfl, ext_trans hBW hB⟩
theorem seQ_all : ∀ m, m ≤ 7 → SeQ m
  | 0, _ => seQ_zero
  | m + 1, h => seQ_succ (by omega) (seQ_all m (by omega))
end Go.Proofs.Ytodjokdaofefdaa
/- Expressions: validity, by the program. -/
namespace Go.Proofs.Ytodjokdaofefdaa
set_option linter.unusedSimpArgs false
set_option linter.unusedVariables false
open Go.RowKit

def exOk (t : Ex) : Bool := inB (szE 7 t : Int) 1 40
theorem implExprValid {d : Nat} {A : Option Addr} {r : Ex} {c : Nat} {w : World} (hU : exW d w A r.ps) (hs : r.s.size ≤ 9223372036854775807) :
    Calls Try.prog 29 #[.agg #[.int .i64 r.k, .int .i64 r.n, .string r.s, .slice A r.ps.length c]] w fun e w' => e = .returned (.bool (exOk r)) ∧ Below w.heap.size w w' := by
  go_enter Try.func29, Try.ntmps29
  go_wp2_with fail
  refine (seQ_all 7 (by omega) _ _ _ _ _ (hU.below (by (repeat (first | exact Below.refl _ _ | refine ext_alloc ?_ _ | refine Below.setCell ?_ (by simp) _)))) hs).mono ?_
  rintro e w1 ⟨rfl, hB⟩
  replace hB := ext_trans (show Below w.heap.size w _ by (repeat (first | exact Below.refl _ _ | refine ext_alloc ?_ _ | refine Below.setCell ?_ (by simp) _))) hB
  go_wp2_with fail
  refine (in_any _ _ _ _).mono ?_
  rintro e w2 ⟨rfl, hb⟩
  replace hB := ext_trans hB hb
  go_wp2
  go_ret
  exact ⟨rfl, hB⟩
end Go.Proofs.Ytodjokdaofefdaa
/- Expressions: both say the same of validity: plain. -/
namespace Go.Proofs.Ytodjokdaofefdaa
set_option linter.unusedSimpArgs false
set_option linter.unusedVariables false
open Go.RowKit

/-- At most d deep. -/
def inD : Nat → Ex → Prop
  | 0, _ => False
  | d + 1, t => ∀ p ∈ t.ps, inD d p
def gdR : Nat → Ex → Bool
  | 0, _ => false
  | d + 1, t => headB t && t.ps.all (gdR d)
theorem exR_in {lo hi : Nat} {w : World} : ∀ {d : Nat} {t : Ex} {cs : List Value}, exR d lo hi w t cs → inD d t
  | 0, _, _, h => h.elim
  | d + 1, t, cs, ⟨A, c, _, h, _⟩ => fun p hp => by
    obtain ⟨k, hk, rfl⟩ := List.getElem_of_mem hp
    obtain ⟨_, _, _, hc⟩ := h.2 (by omega)
    obtain ⟨_, _, h2, _⟩ := hc k hk
    exact exR_in h2
theorem mx_le {l : List Nat} {m : Nat} : mxL l ≤ m ↔ ∀ a ∈ l, a ≤ m := by
  induction l with
  | nil => simp [mxL]
  | cons b l ih => rw [mxL, Nat.max_le, ih]; simp
theorem szE_iff : ∀ (m d : Nat) (t : Ex), inD d t → ((szE m t ≠ 0 ↔ gdR d t = true ∧ dpR d t ≤ m) ∧ (szE m t ≠ 0 → szE m t = 1 + cntR d t))
  | _, 0, _, h => h.elim
  | 0, d + 1, t, _ => by simp [szE, dpR]
  | m + 1, d + 1, t, h => by
    have ih := fun p hp => szE_iff m d p (h p hp)
    have hall : (t.ps.all (fun p => decide (szE m p ≠ 0)) = true) ↔ (t.ps.all (gdR d) = true ∧ mxL (t.ps.map (dpR d)) ≤ m) := by
      rw [mx_le, List.all_eq_true, List.all_eq_true]
      simp only [decide_eq_true_eq, List.mem_map, forall_exists_index, and_imp, forall_apply_eq_imp_iff₂]
      constructor
      · exact fun h => ⟨fun p hp => ((ih p hp).1.1 (h p hp)).1, fun p hp => ((ih p hp).1.1 (h p hp)).2⟩
      · exact fun h p hp => (ih p hp).1.2 ⟨h.1 p hp, h.2 p hp⟩
    have hsum : (t.ps.all (fun p => decide (szE m p ≠ 0)) = true) → (t.ps.map (szE m)).sum = t.ps.length + (t.ps.map (cntR d)).sum := by
      intro ha
      have ha2 : ∀ p ∈ t.ps, szE m p = 1 + cntR d p := fun p hp => (ih p hp).2 (by simpa using List.all_eq_true.1 ha p hp)
      generalize t.ps = l at ha2
      induction l with
      | nil => simp
      | cons a l ihl =>
        have h1 := ha2 a (by simp)
        have h2 := ihl (fun p hp => ha2 p (by simp [hp]))
        simp only [List.map_cons, List.sum_cons, List.length_cons]
        omega
    rw [szE, gdR, dpR, cntR]
    by_cases hc : (headB t && t.ps.all (fun p => decide (szE m p ≠ 0))) = true
    · rw [if_pos hc]
      have hc2 := Bool.and_eq_true_iff.1 hc
      have h1 := hall.1 hc2.2
      have h2 := hsum hc2.2
      refine ⟨⟨fun _ => ⟨by rw [hc2.1, h1.1]; rfl, by omega⟩, fun _ => by omega⟩, fun _ => by omega⟩
    · rw [if_neg hc]
      refine ⟨⟨fun h => absurd rfl h, fun h => absurd (Bool.and_eq_true_iff.2 ⟨(Bool.and_eq_true_iff.1 h.1).1, hall.2 ⟨(Bool.and_eq_true_iff.1 h.1).2, by omega⟩⟩) hc⟩, fun h => absurd rfl h⟩
theorem exOk_eq {d : Nat} {t : Ex} (h : inD d t) : exOk t = (gdR d t && (decide (1 + cntR d t ≤ 40) && decide (dpR d t ≤ 7))) := by
  obtain ⟨h1, h2⟩ := szE_iff 7 d t h
  rw [Bool.eq_iff_iff]
  simp only [exOk, inB_true, Bool.and_eq_true, decide_eq_true_eq]
  constructor
  · rintro ⟨g1, g2⟩
    have hne : szE 7 t ≠ 0 := by omega
    have := h2 hne
    have h3 := h1.1 hne
    exact ⟨h3.1, by omega, h3.2⟩
  · rintro ⟨g1, g2, g3⟩
    have hne := h1.2 ⟨g1, g3⟩
    have := h2 hne
    omega
end Go.Proofs.Ytodjokdaofefdaa
/- Guards: what both compute, and that they agree at valid expressions: plain. -/
namespace Go.Proofs.Ytodjokdaofefdaa
set_option linter.unusedSimpArgs false
set_option linter.unusedVariables false
open Go.RowKit

noncomputable def hasB (l : ExL) (e : Ex) : Bool := l.any (fun x => sameX x e)
def asHas (t : Ex) : Ex := .nd 9 t.n t.s t.ps
def asHas0 (t : Ex) : Ex := .nd 9 0 t.s t.ps
/-- What is known if an expression holds, behind what is known before. -/
def knS : Nat → Ex → ExL → ExL
  | 0, _, l => l
  | d + 1, t, l => if t.k = 9 then l ++ [t] else if t.k = 14 then knS d (exAt t.ps 1) (knS d (exAt t.ps 0) l) else l
/-- By the reference. -/
noncomputable def guS : Nat → Ex → ExL → Bool
  | 0, _, _ => true
  | d + 1, t, l => if t.k = 7 then false else if t.k = 8 then hasB l (asHas0 t) && guS d (exAt t.ps 0) l
      else if t.k = 14 then guS d (exAt t.ps 0) l && guS d (exAt t.ps 1) (knS d (exAt t.ps 0) l) else t.ps.all (fun p => guS d p l)
/-- What is joined by ExprAnd. -/
def cjI : Nat → Ex → ExL
  | 0, _ => []
  | d + 1, t => if t.k = 14 then cjI d (exAt t.ps 0) ++ cjI d (exAt t.ps 1) else [t]
/-- By the program. -/
noncomputable def guI : Nat → Ex → ExL → Bool
  | 0, _, _ => true
  | d + 1, t, l => if t.k = 7 then false else if t.k = 8 ∧ hasB l (asHas t) = false then false
      else if t.k = 14 then guI d (exAt t.ps 0) l && guI d (exAt t.ps 1) (l ++ cjI d (exAt t.ps 0)) else t.ps.all (fun p => guI d p l)
theorem knS_eq : ∀ (d : Nat) (t : Ex) (l : ExL), knS d t l = l ++ (cjI d t).filter (fun x => decide (x.k = 9))
  | 0, t, l => by simp [knS, cjI]
  | d + 1, t, l => by
    rw [knS, cjI]
    by_cases h9 : t.k = 9
    · have h14 : ¬ t.k = 14 := by omega
      rw [if_pos h9, if_neg h14]; simp [h9]
    · rw [if_neg h9]
      by_cases h14 : t.k = 14
      · rw [if_pos h14, if_pos h14, knS_eq d, knS_eq d, List.filter_append, List.append_assoc]
      · rw [if_neg h14, if_neg h14]; simp [h9]
theorem hasB_append (l l' : ExL) (e : Ex) : hasB (l ++ l') e = (hasB l e || hasB l' e) := by simp [hasB, List.any_append]
theorem hasB_filter (l : ExL) {e : Ex} (h : e.k = 9) : hasB (l.filter (fun x => decide (x.k = 9))) e = hasB l e := by
  rw [Bool.eq_iff_iff]
  simp only [hasB, List.any_eq_true, List.mem_filter, decide_eq_true_eq, sameX_true]
  constructor
  · rintro ⟨x, ⟨hx, _⟩, rfl⟩; exact ⟨x, hx, rfl⟩
  · rintro ⟨x, hx, rfl⟩; exact ⟨x, ⟨hx, h⟩, rfl⟩
/-- Both lists have the same questions. -/
def Alk (l l' : ExL) : Prop := ∀ e : Ex, e.k = 9 → hasB l e = hasB l' e
theorem Alk.step {l l' : ExL} (h : Alk l l') (d : Nat) (t : Ex) : Alk (knS d t l) (l' ++ cjI d t) := fun e he => by
  rw [knS_eq, hasB_append, hasB_append, h e he, hasB_filter _ he]
theorem head_len {t : Ex} (h : headB t = true) : t.ps.length = arK t.k := by
  simp only [headB, Bool.and_eq_true, decide_eq_true_eq] at h
  exact h.2.2.1
theorem head_num {t : Ex} (h : headB t = true) : inB t.n 0 (mostK t.k) = true := by
  simp only [headB, Bool.and_eq_true, decide_eq_true_eq] at h
  exact h.2.1
theorem head_8 {t : Ex} (h : headB t = true) (h8 : t.k = 8) : t.n = 0 ∧ t.ps.length = 1 := by
  have h1 := head_len h
  have h2 := head_num h
  rw [h8] at h1 h2
  rw [inB_true] at h2
  have e1 : mostK 8 = 0 := by decide
  have e2 : arK 8 = 1 := by decide
  rw [e1] at h2
  rw [e2] at h1
  exact ⟨by omega, h1⟩
theorem head_14 {t : Ex} (h : headB t = true) (h14 : t.k = 14) : t.ps.length = 2 := by
  have h1 := head_len h
  rw [h14] at h1
  exact h1.trans (by decide)
theorem gd_head {d : Nat} {t : Ex} (h : gdR (d + 1) t = true) : headB t = true := (Bool.and_eq_true_iff.1 h).1
theorem gd_part {d : Nat} {t : Ex} (h : gdR (d + 1) t = true) {k : Nat} (hk : k < t.ps.length) : gdR d (exAt t.ps k) = true := by
  rw [exAt_eq hk]
  exact List.all_eq_true.1 (Bool.and_eq_true_iff.1 h).2 _ (List.getElem_mem hk)
theorem all_at {l : ExL} {p : Ex → Bool} : l.all p = true ↔ ∀ k, k < l.length → p (exAt l k) = true := by
  rw [List.all_eq_true]
  constructor
  · intro h k hk; rw [exAt_eq hk]; exact h _ (List.getElem_mem hk)
  · intro h x hx
    obtain ⟨k, hk, rfl⟩ := List.getElem_of_mem hx
    have := h k hk
    rwa [exAt_eq hk] at this
theorem all_1 {l : ExL} {p : Ex → Bool} (h : l.length = 1) : l.all p = p (exAt l 0) := by
  match l, h with
  | [x], _ => simp [exAt]
theorem gu_eq : ∀ (d : Nat) (t : Ex) (l l' : ExL), gdR d t = true → Alk l l' → guS d t l = guI d t l'
  | 0, _, _, _, _, _ => rfl
  | d + 1, t, l, l', hg, ha => by
    rw [guS, guI]
    by_cases h7 : t.k = 7
    · rw [if_pos h7, if_pos h7]
    rw [if_neg h7, if_neg h7]
    by_cases h8 : t.k = 8
    · obtain ⟨hn, hl⟩ := head_8 (gd_head hg) h8
      have e : asHas0 t = asHas t := by unfold asHas0 asHas; rw [hn]
      have h14 : ¬ t.k = 14 := by omega
      rw [if_pos h8, e, ha _ (by rfl), if_neg h14, gu_eq d _ l l' (gd_part hg (by omega)) ha, all_1 hl]
      cases hb : hasB l' (asHas t)
      · rw [if_pos ⟨h8, rfl⟩]; rfl
      · rw [if_neg (by simp)]; rfl
    · rw [if_neg h8, if_neg (show ¬ (t.k = 8 ∧ hasB l' (asHas t) = false) from fun h => h8 h.1)]
      by_cases h14 : t.k = 14
      · have hl := head_14 (gd_head hg) h14
        rw [if_pos h14, if_pos h14, gu_eq d _ l l' (gd_part hg (by omega)) ha, gu_eq d _ _ _ (gd_part hg (by omega)) (ha.step d _)]
      · rw [if_neg h14, if_neg h14, Bool.eq_iff_iff, all_at, all_at]
        constructor
        · intro h k hk; rw [← gu_eq d _ l l' (gd_part hg hk) ha]; exact h k hk
        · intro h k hk; rw [gu_eq d _ l l' (gd_part hg hk) ha]; exact h k hk
theorem cnt_at {d : Nat} {l : ExL} : ∀ {k : Nat}, k < l.length → cntR d (exAt l k) ≤ (l.map (cntR d)).sum := by
  induction l with
  | nil => intro k hk; simp at hk
  | cons a l ih =>
    intro k hk
    simp only [List.map_cons, List.sum_cons]
    cases k with
    | zero => simp [exAt]
    | succ k =>
      have := ih (k := k) (by simpa using hk)
      have e : exAt (a :: l) (k + 1) = exAt l k := by simp [exAt]
      rw [e]; omega
theorem cnt_two {d : Nat} {t : Ex} (h : t.ps.length = 2) : cntR (d + 1) t = 2 + cntR d (exAt t.ps 0) + cntR d (exAt t.ps 1) := by
  rw [cntR]
  match t.ps, h with
  | [x, y], _ => simp [exAt]; omega
theorem cj_len : ∀ (d : Nat) (t : Ex), gdR d t = true → (cjI d t).length ≤ 1 + cntR d t
  | 0, t, _ => by simp [cjI]
  | d + 1, t, hg => by
    rw [cjI]
    by_cases h14 : t.k = 14
    · have hl := head_14 (gd_head hg) h14
      have h0 := cj_len d _ (gd_part hg (k := 0) (by omega))
      have h1 := cj_len d _ (gd_part hg (k := 1) (by omega))
      rw [if_pos h14, List.length_append, cnt_two hl]
      omega
    · rw [if_neg h14]; simp
theorem kn_len (d : Nat) (t : Ex) (l : ExL) (hg : gdR d t = true) : (knS d t l).length ≤ l.length + 1 + cntR d t := by
  have h1 := cj_len d t hg
  have h2 : ((cjI d t).filter (fun x => decide (x.k = 9))).length ≤ (cjI d t).length := List.length_filter_le _ _
  rw [knS_eq, List.length_append]
  omega
end Go.Proofs.Ytodjokdaofefdaa

/- Structs with one slice of flat elements: how slices of them read; rows of one's own. -/
import Derived.Test.YtpmelhkhmichcaaDoorKi5
namespace Go.Proofs.YtpmelhkhmichcaaDoor
set_option linter.unusedSimpArgs false
set_option linter.unusedVariables false
open Go.RowKit

/-- A type of structs with one slice field: its cells (the slice's value apart), the slice's elements. -/
structure Nst (α β : Type) where
  cells : α → Value → List Value
  inner : α → List β
  enc : β → List Value
  isz : Nat
  iT : TypeId
structure Nst.Good {α β : Type} (N : Nst α β) (oT : TypeId) : Prop where
  one : ∀ r v, v.oneCell' = true → ∀ u ∈ N.cells r v, u.oneCell' = true
  encl : ∀ b, (N.enc b).length = N.isz
  ipos : 0 < N.isz
  ne : N.iT ≠ oT
section
variable {α β : Type} {N : Nst α β} {oT : TypeId} {osz B B' B0 B1 : Nat} {w w' : World} {A : Option Addr} {l : List α} {r : α} {cs : List Value}
theorem rdl_lt {enc : β → List Value} {sz : Nat} {l : List β} (hp : 0 < sz) (h : RdL (Flat enc) sz w A l) (hn : 0 < l.length) (a : Addr) (ha : A = some a) : a.block < w.heap.size := by
  obtain ⟨b, off, e, hc⟩ := h.2 hn
  subst ha
  simp only [Option.some.injEq] at e
  subst e
  obtain ⟨cs, h1, _, h3⟩ := hc 0 hn
  have h4 := h3 0 (cs[0]'(by omega)) (List.getElem?_eq_getElem _)
  have h5 := block_lt_of_cell h4
  simpa using h5
theorem rdl_belowB {enc : β → List Value} {sz : Nat} {l : List β} (h : RdL (Flat enc) sz w A l) (hlt : 0 < l.length → ∀ a, A = some a → a.block < B0) (hb : ∀ k, k < B0 → w'.heap[k]? = w.heap[k]?) : RdL (Flat enc) sz w' A l := by
  refine ⟨h.1, fun hn => ?_⟩
  obtain ⟨b, off, e, hc⟩ := h.2 hn
  refine ⟨b, off, e, fun k hk => ?_⟩
  obtain ⟨cs, h1, h2, h3⟩ := hc k hk
  refine ⟨cs, h1, h2, fun j v hv => ?_⟩
  have h4 := h3 j v hv
  have h5 := hlt hn _ e
  rw [← h4]
  exact World.cell?_of_block (hb _ h5)
def Nst.R (N : Nst α β) (B0 : Nat) (w : World) (r : α) (cs : List Value) : Prop := ∃ A c, cs = N.cells r (.slice A (N.inner r).length c) ∧ RdL (Flat N.enc) N.isz w A (N.inner r) ∧ (0 < (N.inner r).length → ∀ a, A = some a → a.block < B0)
def Nst.O (N : Nst α β) (B : Nat) (w : World) (r : α) (cs : List Value) : Prop := ∃ v, cs = N.cells r v ∧ OwnA B N.iT N.isz N.enc w v (N.inner r)
theorem Nst.R.belowB (h : N.R B0 w r cs) (hb : ∀ k, k < B0 → w'.heap[k]? = w.heap[k]?) : N.R B0 w' r cs := by
  obtain ⟨A, c, h1, h2, h3⟩ := h
  exact ⟨A, c, h1, rdl_belowB h2 h3 hb, h3⟩
theorem Nst.R.up (h : N.R B0 w r cs) (hB : B0 ≤ B1) : N.R B1 w r cs := by
  obtain ⟨A, c, h1, h2, h3⟩ := h
  exact ⟨A, c, h1, h2, fun hn a ha => Nat.lt_of_lt_of_le (h3 hn a ha) hB⟩
theorem Nst.R.mono (hB : B0 ≤ w.heap.size) (hb : Below w.heap.size w w') (h : N.R B0 w r cs) : N.R B0 w' r cs := h.belowB (fun k hk => hb.block k (by omega))
theorem Nst.O.one (hN : N.Good oT) (h : N.O B w r cs) : ∀ u ∈ cs, u.oneCell' = true := by
  obtain ⟨v, rfl, A, c, rfl, _⟩ := h
  exact hN.one r _ rfl
theorem Nst.R.one (hN : N.Good oT) (h : N.R B w r cs) : ∀ u ∈ cs, u.oneCell' = true := by
  obtain ⟨A, c, rfl, _⟩ := h
  exact hN.one r _ rfl
theorem Nst.O.rd (hN : N.Good oT) (h : N.O B w r cs) (hn : (N.inner r).length ≤ 9223372036854775807) : N.R w.heap.size w r cs := by
  obtain ⟨v, rfl, ho⟩ := h
  obtain ⟨A, c, rfl, hr⟩ := OwnA.rd hN.encl hn ho
  exact ⟨A, c, rfl, hr, fun h0 a ha => rdl_lt hN.ipos hr h0 a ha⟩
theorem Nst.O.below (hb : Below w.heap.size w w') (h : N.O B w r cs) : N.O B w' r cs := let ⟨v, h1, h2⟩ := h; ⟨v, h1, h2.below hb⟩
theorem Nst.O.lower (hB : B' ≤ B) (h : N.O B w r cs) : N.O B' w r cs := let ⟨v, h1, h2⟩ := h; ⟨v, h1, h2.lower hB⟩
/-- Only rows of the structs turn: what is in them stays. -/
theorem Nst.O.row (hN : N.Good oT) {row : Option Nat} (hg : w.grownBy w' row) (hrow : ∀ k, row = some k → ∃ cs fr, w.heap[k]? = some (.cells cs oT fr)) (h : N.O B w r cs) : N.O B w' r cs := by
  obtain ⟨v, h1, A, c, rfl, ho⟩ := h
  refine ⟨_, h1, A, c, rfl, own_apart_ ho hg (fun k hk e => ?_)⟩
  obtain ⟨cs, fr, hx⟩ := hrow k e
  rcases ho.2 with ⟨h1, _⟩ | ⟨g2, cap, cur, hv, _, hx2, _⟩
  · rw [h1] at hk; cases hk
  · rw [hv] at hk
    simp only [Value.ownBlock, Option.some.injEq] at hk
    subst hk
    rw [hx] at hx2
    simp only [Option.some.injEq, Obj.cells.injEq] at hx2
    exact absurd hx2.2.1 (fun h => hN.ne h.symm)
/-- The slice with the address A reads as l. -/
def Nst.rdl (N : Nst α β) (osz : Nat) (w : World) (A : Option Addr) (l : List α) : Prop := RdL (N.R w.heap.size) osz w A l
theorem RdL.mono {α : Type} {R R' : World → α → List Value → Prop} {sz : Nat} {w w' : World} {A : Option Addr} {l : List α} (h : RdL R sz w A l) (hb : Below w.heap.size w w') (hR : ∀ a cs, R w a cs → R' w' a cs) : RdL R' sz w' A l :=
  ⟨h.1, fun hn => let ⟨b, off, e, hc⟩ := h.2 hn; ⟨b, off, e, fun k hk => let ⟨cs, h1, h2, h3⟩ := hc k hk; ⟨cs, h1, hR _ _ h2, fun j v hv => below_cell hb (h3 j v hv)⟩⟩⟩
theorem chunks_mem {α : Type} {R : α → List Value → Prop} {p : α → Prop} {sz : Nat} {l : List α} {xs : List Value} (hp : ∀ a ∈ l, p a) (h : Chunks R sz l xs) : Chunks (fun a cs => R a cs ∧ p a) sz l xs := by
  induction l generalizing xs with
  | nil => exact h
  | cons a l ih =>
    obtain ⟨c, r, rfl, h1, h2, h3⟩ := h
    exact ⟨c, r, rfl, h1, ⟨h2, hp a (by simp)⟩, ih (fun b hb => hp b (by simp [hb])) h3⟩
theorem Nst.rdl.below (h : N.rdl osz w A l) (hb : Below w.heap.size w w') : N.rdl osz w' A l := RdL.mono h hb (fun a cs h => (Nst.R.mono (Nat.le_refl _) hb h).up hb.size)
theorem Nst.rdl.regrown (h : N.rdl osz w A l) (d : Nat) (os : Array Obj) : N.rdl osz (Sort.grow (redrawn w d) os) A l := h.below (below_regrown w d os)
theorem Nst.rdl.len (h : N.rdl osz w A l) : l.length ≤ 9223372036854775807 := h.1
theorem Nst.rdl.own (hN : N.Good oT) {c : Nat} (hl : l.length ≤ 9223372036854775807) (hf : ∀ r ∈ l, (N.inner r).length ≤ 9223372036854775807) (h : OwnG (N.O B) B oT osz w (.slice A l.length c) l) : N.rdl osz w A l := by
  obtain ⟨A', c', xs, e, ho, hc⟩ := h
  have h2 : OwnG (fun w r cs => N.O B w r cs ∧ (N.inner r).length ≤ 9223372036854775807) B oT osz w (.slice A l.length c) l := ⟨A', c', xs, e, ho, chunks_mem hf hc⟩
  obtain ⟨A1, c1, e1, hr⟩ := h2.rd hl
  simp only [Value.slice.injEq, true_and] at e1
  obtain ⟨rfl, rfl⟩ := e1
  exact ⟨hr.1, fun hn => let ⟨b, off, e, hc⟩ := hr.2 hn; ⟨b, off, e, fun k hk => let ⟨cs, g1, g2, g3⟩ := hc k hk; ⟨cs, g1, Nst.O.rd hN g2.1 g2.2, g3⟩⟩⟩
end
theorem own_setCell {w : World} {B sz n : Nat} {e : TypeId} {v : Value} {xs : List Value} {a : Addr} {x : Value} (h : w.ownsRow B e sz v n xs) (hne : ∀ k, v.ownBlock = some k → k ≠ a.block) : (w.setCell a x).ownsRow B e sz v n xs :=
  own_apart_ (row := some a.block) h ⟨rfl, rfl, rfl, by simp [World.setCell], fun k _ hk => Below.heap_setCell w a x k (fun e => hk (by simp [e]))⟩ (fun k hk e => hne k hk (by simpa using e.symm))
theorem chunks_elem {α : Type} {R : α → List Value → Prop} {sz B g n c k : Nat} {e : TypeId} {w : World} {xs : List Value} {l : List α} {q : α} (vs : List Value) (h : w.ownsRow B e sz (.slice (some ⟨g, 0, none⟩) n c) n xs) (hk : k < n) (hv : vs.length = sz) (hp : Chunks R sz l (xs.take (k * sz))) (hq : R q vs) :
    ∃ xs', (setCells w g (k * sz) vs).ownsRow B e sz (.slice (some ⟨g, 0, none⟩) n c) n xs' ∧ Chunks R sz (l ++ [q]) (xs'.take ((k + 1) * sz)) := by
  obtain ⟨xs', h1, h2⟩ := own_elem vs h hk hv rfl
  exact ⟨xs', h1, by rw [h2]; exact hp.append (Chunks.one hv hq)⟩
theorem str_eq {x y : ByteArray} : x.toList = y.toList ↔ x = y := by
  constructor
  · intro h
    rw [Go.ByteArray.toList_eq, Go.ByteArray.toList_eq] at h
    exact ByteArray.ext (Array.toList_inj.1 h)
  · rintro rfl; rfl
theorem str_beq (x y : ByteArray) : (x.toList == y.toList) = decide (x = y) := by
  rw [Bool.eq_iff_iff]
  simp [str_eq]
theorem bcell {W w1 : World} (hb : Below W.heap.size W w1) : (∀ b o, b < W.heap.size → w1.cell? ⟨b, o, none⟩ = W.cell? ⟨b, o, none⟩) ∧ (∀ b o, b < W.heap.size → w1.frozen? ⟨b, o, none⟩ = W.frozen? ⟨b, o, none⟩) :=
  ⟨fun b o h => hb.cell (p := ⟨b, o, none⟩) h, fun b o h => hb.frozen (p := ⟨b, o, none⟩) h⟩
end Go.Proofs.YtpmelhkhmichcaaDoor

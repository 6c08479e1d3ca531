/- Guards that are added, by the program: what is done with each expression. -/
import Derived.Test.YtodjokdaofefdaaQ12
import Derived.Test.YtodjokdaofefdaaQ13
namespace Go.Proofs.Ytodjokdaofefdaa
set_option linter.unusedSimpArgs false
set_option linter.unusedVariables false
open Go.RowKit

theorem grown_of_below {w w' : World} (h : Below w.heap.size w w') (row : Option Nat) : w.grownBy w' row := ⟨h.os, h.tape, h.output, h.size, fun k hk _ => h.block k hk⟩
noncomputable def adL (pre : ExL) : ExL := pre.foldl (fun l x => addI x l) []
theorem adL_snoc (pre : ExL) (x : Ex) : adL (pre ++ [x]) = addI x (adL pre) := by rw [adL, List.foldl_append]; rfl
theorem addI_len (t : Ex) (l : ExL) : (addI t l).length ≤ l.length + 1 := by
  unfold addI
  split <;> simp
theorem adL_len (pre : ExL) : (adL pre).length ≤ pre.length := by
  have : ∀ (q l : ExL), (q.foldl (fun l x => addI x l) l).length ≤ l.length + q.length := by
    intro q
    induction q with
    | nil => intro l; simp
    | cons a q ih =>
      intro l
      have h1 := ih (addI a l)
      have h2 := addI_len a l
      rw [List.foldl_cons, List.length_cons]
      omega
  have h := this pre []
  simpa [adL] using h
def as7 (pre : ExL) : Bool := pre.any fun x => decide (x.k = 7)
theorem as7_snoc (pre : ExL) (x : Ex) : as7 (pre ++ [x]) = (as7 pre || decide (x.k = 7)) := by simp [as7]
/-- The two boxes of GuardedBy. -/
def GiP (D n0 b4 b5 : Nat) (y : Bool) (gl : ExL) (w : World) : Prop := (n0 ≤ b4 ∧ b4 < b5) ∧ w.heap[b4]? = some (.cells #[.bool y] 4 (0, 0)) ∧
  ∃ A c, w.heap[b5]? = some (.cells #[.slice A gl.length c] 26 (0, 0)) ∧ OwnE (D + 1) n0 (b5 + 1) gl w (.slice A gl.length c)
/-- All expressions of pre having come. -/
def GiJ (D n0 b4 b5 : Nat) (pre : ExL) (w : World) : Prop := GiP D n0 b4 b5 (as7 pre) (adL pre) w
/-- What may turn. -/
def GiM (b4 b5 : Nat) (w : World) (k : Nat) : Prop := k = b4 ∨ k = b5 ∨ ∃ v, w.heap[b5]? = some (.cells #[v] 26 (0, 0)) ∧ v.ownBlock = some k
structure GiF (b4 b5 : Nat) (w w' : World) : Prop where
  os : w'.os = w.os
  tape : w'.tape = w.tape
  output : w'.output = w.output
  size : w.heap.size ≤ w'.heap.size
  keep : ∀ k, k < w.heap.size → ¬ GiM b4 b5 w k → w'.heap[k]? = w.heap[k]?
  may : ∀ k, GiM b4 b5 w' k → GiM b4 b5 w k ∨ w.heap.size ≤ k
theorem GiF.refl (b4 b5 : Nat) (w : World) : GiF b4 b5 w w := ⟨rfl, rfl, rfl, Nat.le_refl _, fun _ _ _ => rfl, fun _ h => .inl h⟩
theorem GiF.trans {b4 b5 : Nat} {a b c : World} (h : GiF b4 b5 a b) (h2 : GiF b4 b5 b c) : GiF b4 b5 a c := by
  refine ⟨h2.os.trans h.os, h2.tape.trans h.tape, h2.output.trans h.output, Nat.le_trans h.size h2.size, fun k hk hm => ?_, fun k hm => ?_⟩
  · refine (h2.keep k (Nat.lt_of_lt_of_le hk h.size) (fun hb => ?_)).trans (h.keep k hk hm)
    rcases h.may k hb with hb | hb
    · exact hm hb
    · omega
  · rcases h2.may k hm with hm | hm
    · exact h.may k hm
    · exact .inr (Nat.le_trans h.size hm)
theorem GiF.ofBelow {b4 b5 : Nat} {w w' : World} (hb : Below w.heap.size w w') (h5 : b5 < w.heap.size) : GiF b4 b5 w w' :=
  ⟨hb.os, hb.tape, hb.output, hb.size, fun k hk _ => hb.block k hk, fun k hm => by
    rcases hm with hm | hm | ⟨v, hv, hk⟩
    · exact .inl (.inl hm)
    · exact .inl (.inr (.inl hm))
    · rw [hb.block _ h5] at hv; exact .inl (.inr (.inr ⟨v, hv, hk⟩))⟩
section
variable {D n0 b4 b5 : Nat} {y : Bool} {gl : ExL} {w w' : World}
theorem GiP.lt (h : GiP D n0 b4 b5 y gl w) : b5 < w.heap.size := by
  obtain ⟨_, _, A, c, h5, _⟩ := h
  exact (Array.getElem?_eq_some_iff.1 h5).1
theorem GiP.below (h : GiP D n0 b4 b5 y gl w) (hb : Below w.heap.size w w') : GiP D n0 b4 b5 y gl w' := by
  obtain ⟨h0, h4, A, c, h5, hO⟩ := h
  exact ⟨h0, block_below h4 hb, A, c, block_below h5 hb, hO.below hb⟩
theorem GiP.m (h : GiP D n0 b4 b5 y gl w) (k : Nat) (hm : GiM b4 b5 w k) : n0 ≤ k ∧ k < w.heap.size := by
  obtain ⟨h0, h4, A, c, h5, hO⟩ := h
  have l4 := (Array.getElem?_eq_some_iff.1 h4).1
  have l5 := (Array.getElem?_eq_some_iff.1 h5).1
  rcases hm with rfl | rfl | ⟨v, hv, hk⟩
  · exact ⟨h0.1, l4⟩
  · exact ⟨by omega, l5⟩
  · rw [h5] at hv
    simp only [Option.some.injEq, Obj.cells.injEq, and_true] at hv
    have e : (Value.slice A gl.length c) = v := by simpa using hv
    rw [← e] at hk
    have := hO.2.ge k hk
    exact ⟨by omega, this.2⟩
theorem OwnE.grown {N B : Nat} {l : ExL} {v : Value} {row : Option Nat} (h : OwnE D N B l w v) (hg : w.grownBy w' row) (hr : ∀ k, row = some k → N ≤ k) (hv : ∀ k, v.ownBlock = some k → row ≠ some k) : OwnE D N B l w' v :=
  ⟨⟨Nat.le_trans h.1.1 hg.size, h.1.2⟩, h.2.kept hg hv (fun _ _ g => exR.row h.1.1 hg hr g)⟩
/-- The first box is written, a box is laid. -/
theorem GiP.asks {bb : Bool} {o : Obj} (h : GiP D n0 b4 b5 y gl w) : GiP D n0 b4 b5 bb gl ((w.setCell ⟨b4, 0, none⟩ (.bool bb)).alloc o) ∧ GiF b4 b5 w ((w.setCell ⟨b4, 0, none⟩ (.bool bb)).alloc o) := by
  have hlt := h.lt
  obtain ⟨h0, h4, A, c, h5, hO⟩ := h
  have hg := setCells_grown b4 [.bool bb] w 0
  have hbl := below_alloc (w.setCell ⟨b4, 0, none⟩ (.bool bb)) o
  have e5 : (w.setCell ⟨b4, 0, none⟩ (.bool bb)).heap[b5]? = w.heap[b5]? := Below.heap_setCell w ⟨b4, 0, none⟩ (.bool bb) b5 (by show b5 ≠ b4; omega)
  have hF : GiF b4 b5 w (w.setCell ⟨b4, 0, none⟩ (.bool bb)) := ⟨rfl, rfl, rfl, by simp [World.setCell], fun k hk hm => Below.heap_setCell w ⟨b4, 0, none⟩ (.bool bb) k (fun e => hm (.inl e)), fun k hm => .inl (by
    rcases hm with hm | hm | ⟨v, hv, hk⟩
    · exact .inl hm
    · exact .inr (.inl hm)
    · rw [e5] at hv; exact .inr (.inr ⟨v, hv, hk⟩))⟩
  have hs : (w.setCell ⟨b4, 0, none⟩ (.bool bb)).heap.size = w.heap.size := by simp [World.setCell]
  have hP : GiP D n0 b4 b5 bb gl (w.setCell ⟨b4, 0, none⟩ (.bool bb)) := ⟨h0, setCells_at [.bool bb] 0 h4 (by simp), A, c, e5.trans h5, hO.grown hg (fun k e => by cases e; exact h0.1) (fun k hk e => by cases e; have := (hO.2.ge _ hk).1; omega)⟩
  exact ⟨hP.below hbl, hF.trans (GiF.ofBelow hbl (by omega))⟩
end
/-- What lay ahead of an append lies as it lay. -/
structure GiFr (V : World) (b5 : Nat) (old : Value) (w : World) : Prop where
  os : w.os = V.os
  tape : w.tape = V.tape
  output : w.output = V.output
  size : V.heap.size ≤ w.heap.size
  keep : ∀ k, k < V.heap.size → k ≠ b5 → old.ownBlock ≠ some k → w.heap[k]? = V.heap[k]?
theorem GiFr.grown {V w w' : World} {b5 : Nat} {old : Value} {row : Option Nat} (h : GiFr V b5 old w) (hg : w.grownBy w' row) (hr : ∀ k, row = some k → k = b5 ∨ old.ownBlock = some k ∨ V.heap.size ≤ k) : GiFr V b5 old w' :=
  ⟨hg.os.trans h.os, hg.tape.trans h.tape, hg.output.trans h.output, Nat.le_trans h.size hg.size, fun k hk h5 ho => (hg.block k (Nat.lt_of_lt_of_le hk h.size) (fun e => by
    rcases hr k e.symm with e | e | e
    · exact h5 e
    · exact ho e
    · omega)).trans (h.keep k hk h5 ho)⟩
def GiT (V : World) (D n0 b5 : Nat) (old : Value) (gl : ExL) (w : World) (v : Value) : Prop := GiFr V b5 old w ∧ (∃ u, w.heap[b5]? = some (.cells #[u] 26 (0, 0))) ∧
  ∃ g c xs, v = .slice (some ⟨g, 0, none⟩) (gl.length + 1) c ∧ (old.ownBlock = some g ∨ V.heap.size ≤ g) ∧ w.ownsRow (b5 + 1) 28 4 (.slice (some ⟨g, 0, none⟩) (gl.length + 1) c) (gl.length + 1) xs ∧ Chunks (exR (D + 1) 0 n0 w) 4 gl (xs.take (gl.length * 4))
def GiH (D n0 b5 : Nat) (gl : ExL) (x : Ex) (u : Value) (w : World) : Prop := ∃ xs, w.ownsRow (b5 + 1) 28 4 u (gl.length + 1) xs ∧ Chunks (exR (D + 1) 0 n0 w) 4 (gl ++ [x]) xs
def GiB (b5 : Nat) (u : Value) (w : World) : Prop := w.heap[b5]? = some (.cells #[u] 26 (0, 0))
/-- The row of an append is written behind n elements. -/
def Q7 (V : World) (b5 n : Nat) (old : Value) (w w' : World) : Prop := ∃ g vs, w' = setCells w g (n * 4) vs ∧ vs.length = 4 ∧ b5 < g ∧ (old.ownBlock = some g ∨ V.heap.size ≤ g)
def Q8 (b5 : Nat) (w w' : World) : Prop := ∃ u, w' = setCells w b5 0 [u]
section
variable {V w w' : World} {D n0 b5 : Nat} {old v u : Value} {gl : ExL} {x : Ex}
theorem GiT.below (hn : n0 ≤ b5) (h : GiT V D n0 b5 old gl w v) (hb : Below w.heap.size w w') : GiT V D n0 b5 old gl w' v := by
  obtain ⟨h1, ⟨u, h2⟩, g, c, xs, e, h3, h4, h5⟩ := h
  have hlt := (Array.getElem?_eq_some_iff.1 h2).1
  exact ⟨h1.grown (grown_of_below hb Option.none) (fun k e => by cases e), ⟨u, block_below h2 hb⟩, g, c, xs, e, h3, own_below h4 hb, h5.mono (fun _ _ q => exR.below q (by omega) hb)⟩
theorem GiT.st7 (hn : n0 ≤ b5) (h : GiT V D n0 b5 old gl w v) (hq : Q7 V b5 gl.length old w w') : GiT V D n0 b5 old gl w' v := by
  obtain ⟨h1, ⟨u, h2⟩, g, c, xs, e, h3, h4, h5⟩ := h
  obtain ⟨g', vs, rfl, hvs, hg', ho'⟩ := hq
  have hlt := (Array.getElem?_eq_some_iff.1 h2).1
  have hg := setCells_grown g' vs w (gl.length * 4)
  have hx := h4.1
  refine ⟨h1.grown hg (fun k e => by cases e; exact .inr ho'), ⟨u, (hg.block b5 hlt (fun e => by cases e; omega)).trans h2⟩, g, c, ?_⟩
  have hch := h5.mono (fun _ _ q => exR.row (show n0 ≤ w.heap.size by omega) hg (fun k e => by cases e; omega) q)
  by_cases eg : g' = g
  · subst eg
    refine ⟨_, e, h3, own_stores vs (gl.length * 4) h4 (by rw [hvs]; omega), ?_⟩
    rw [List.append_assoc, List.take_append_of_le_length (by rw [List.length_take]; omega), List.take_take, Nat.min_self]
    exact hch
  · exact ⟨xs, e, h3, own_apart h4 hg (fun k hk => by simp only [Value.ownBlock, Option.some.injEq] at hk; omega), hch⟩
theorem GiT.st8 (hn : n0 ≤ b5) (h : GiT V D n0 b5 old gl w v) (hq : Q8 b5 w w') : GiT V D n0 b5 old gl w' v := by
  obtain ⟨h1, ⟨u, h2⟩, g, c, xs, e, h3, h4, h5⟩ := h
  obtain ⟨u', rfl⟩ := hq
  have hlt := (Array.getElem?_eq_some_iff.1 h2).1
  have hg := setCells_grown b5 [u'] w 0
  exact ⟨h1.grown hg (fun k e => by cases e; exact .inl rfl), ⟨u', setCells_at [u'] 0 h2 (by simp)⟩, g, c, xs, e, h3, own_apart h4 hg (fun k hk => by have := (h4.lt k hk).1; omega), h5.mono (fun _ _ q => exR.row (show n0 ≤ w.heap.size by omega) hg (fun k e => by cases e; omega) q)⟩
theorem GiH.st8 (hn : n0 ≤ b5) (h : GiH D n0 b5 gl x u w) (hq : Q8 b5 w w') : GiH D n0 b5 gl x u w' := by
  obtain ⟨xs, h4, h5⟩ := h
  obtain ⟨g9, cap9, hv9, hB9, hs9⟩ := h4.form (by omega)
  obtain ⟨u', rfl⟩ := hq
  have hg := setCells_grown b5 [u'] w 0
  exact ⟨xs, own_apart h4 hg (fun k hk => by have := (h4.lt k hk).1; omega), h5.mono (fun _ _ q => exR.row (show n0 ≤ w.heap.size by omega) hg (fun k e => by cases e; omega) q)⟩
theorem GiH.below (hn : n0 ≤ b5) (h : GiH D n0 b5 gl x u w) (hb : Below w.heap.size w w') : GiH D n0 b5 gl x u w' := by
  obtain ⟨xs, h4, h5⟩ := h
  obtain ⟨g9, cap9, hv9, hB9, hs9⟩ := h4.form (by omega)
  exact ⟨xs, own_below h4 hb, h5.mono (fun _ _ q => exR.below q (by omega) hb)⟩
theorem GiB.st7 {n : Nat} (h : GiB b5 u w) (hq : Q7 V b5 n old w w') : GiB b5 u w' := by
  obtain ⟨g', vs, rfl, hvs, hg', ho'⟩ := hq
  have hlt := (Array.getElem?_eq_some_iff.1 h).1
  exact ((setCells_grown g' vs w (n * 4)).block b5 hlt (fun e => by cases e; omega)).trans h
end
theorem cell1 {w : World} {g : Nat} {T : TypeId} {a : Value} (h : w.heap[g]? = some (.cells #[a] T (0, 0))) : w.cell? ⟨g, 0, none⟩ = some a ∧ w.frozen? ⟨g, 0, none⟩ = false := ⟨(cell_of_row w g 0 _ _ _ h).trans rfl, frozen_of_row w g 0 _ _ h⟩
theorem exR.zero {d lo hi : Nat} {w : World} : exR (d + 1) lo hi w exD [.int .i64 0, .int .i64 0, .string ⟨#[]⟩, .slice Option.none 0 0] := ⟨Option.none, 0, rfl, RdL.nil _, fun h => absurd h (by decide), by decide⟩
end Go.Proofs.Ytodjokdaofefdaa

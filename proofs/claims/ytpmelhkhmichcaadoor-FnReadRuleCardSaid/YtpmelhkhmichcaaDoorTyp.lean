/- Kinds of values, for drawn arguments: a value's kind stays whatever typed writes come. -/
import Derived.Test.YtpmelhkhmichcaaDoorKi5
import Derived.Test.YtpmelhkhmichcaaDoorDrk
namespace Go.Proofs.YtpmelhkhmichcaaDoor
set_option linter.unusedSimpArgs false
set_option linter.unusedVariables false
open Go.RowKit

/-- A kind of values. -/
abbrev VK := World → Value → Prop
def IntK (lo hi : Int) : VK := fun _ v => ∃ n : Int, v = .int .i64 n ∧ lo ≤ n ∧ n ≤ hi
def BoolK : VK := fun _ v => ∃ b, v = .bool b
def StrK (m : Nat) : VK := fun _ v => ∃ s : ByteArray, v = .string s ∧ s.size ≤ m
section
variable (B br : Nat)
/-- A block of one's own: elements of the type e; room for m; the cells of the first t are of the kinds ks. -/
def BlkK (e : TypeId) (ks : List VK) (t m : Nat) (w : World) (g : Nat) : Prop := B ≤ g ∧ g ≠ br ∧ ∃ cs, w.heap[g]? = some (.cells cs e (0, 0)) ∧ m * ks.length ≤ cs.size ∧ ∀ (q f : Nat) k u, q < t → ks[f]? = some k → cs[q * ks.length + f]? = some u → k w u
/-- A slice of at most m elements. -/
def SlK (e : TypeId) (ks : List VK) (m : Nat) : VK := fun w v => v = .slice Option.none 0 0 ∨ ∃ g o n c, v = .slice (some ⟨g, o * ks.length, Option.none⟩) n c ∧ n ≤ m ∧ n ≤ c ∧ c ≤ 9223372036854775807 ∧ BlkK B br e ks (o + n) (o + c) w g
/-- A slice that was written out, of n elements. -/
def LitK (e : TypeId) (ks : List VK) (n : Nat) : VK := fun w v => ∃ g, v = .slice (some ⟨g, 0, Option.none⟩) n n ∧ BlkK B br e ks n n w g
/-- A pointer to an element, or to a variable. -/
def PtrK (e : TypeId) (ks : List VK) : VK := fun w v => ∃ g q, v = .pointer (some ⟨g, q * ks.length, Option.none⟩) ∧ BlkK B br e ks (q + 1) (q + 1) w g
/-- What an operation may do to memory: blocks of types in S may get cells of their kinds; the reader turns; nothing else does. -/
def RelK (S : TypeId → Bool) (sh : TypeId → List VK) (w w' : World) : Prop := w.heap.size ≤ w'.heap.size ∧ ∀ g cs T, B ≤ g → g ≠ br → w.heap[g]? = some (.cells cs T (0, 0)) →
  ∃ cs', w'.heap[g]? = some (.cells cs' T (0, 0)) ∧ cs'.size = cs.size ∧ (S T = false → cs' = cs) ∧ (S T = true → ∀ (q f : Nat) k u, (sh T)[f]? = some k → cs'[q * (sh T).length + f]? = some u → cs[q * (sh T).length + f]? = some u ∨ k w u)
def StabK (S : TypeId → Bool) (sh : TypeId → List VK) (k : VK) : Prop := ∀ w w' v, RelK B br S sh w w' → k w v → k w' v
end
section
variable {B br : Nat} {S : TypeId → Bool} {sh : TypeId → List VK} {w w' w'' : World} {v : Value} {g n m t : Nat} {e : TypeId} {ks : List VK}
theorem stab_int {lo hi : Int} : StabK B br S sh (IntK lo hi) := fun _ _ _ _ h => h
theorem stab_bool : StabK B br S sh BoolK := fun _ _ _ _ h => h
theorem stab_str {m : Nat} : StabK B br S sh (StrK m) := fun _ _ _ _ h => h
theorem BlkK.rel (hks : ∀ k ∈ ks, StabK B br S sh k) (hS : S e = true → sh e = ks) (hr : RelK B br S sh w w') (h : BlkK B br e ks t m w g) : BlkK B br e ks t m w' g := by
  obtain ⟨h1, h2, cs, h3, h4, h5⟩ := h
  obtain ⟨cs', g1, g2, g3, g4⟩ := hr.2 g cs e h1 h2 h3
  refine ⟨h1, h2, cs', g1, by omega, fun q f k u hq hk hu => ?_⟩
  have hst := hks k (List.mem_of_getElem? hk)
  cases hSe : S e with
  | false =>
    rw [g3 hSe] at hu
    exact hst w w' u hr (h5 q f k u hq hk hu)
  | true =>
    have he := hS hSe
    rcases g4 hSe q f k u (by rw [he]; exact hk) (by rw [he]; exact hu) with h6 | h6
    · rw [he] at h6; exact hst w w' u hr (h5 q f k u hq hk h6)
    · exact hst w w' u hr h6
theorem stab_sl (hks : ∀ k ∈ ks, StabK B br S sh k) (hS : S e = true → sh e = ks) : StabK B br S sh (SlK B br e ks m) := fun w w' v hr h => by
  rcases h with h | ⟨g, o, n, c, h1, h2, h3, h4, h5⟩
  · exact .inl h
  · exact .inr ⟨g, o, n, c, h1, h2, h3, h4, h5.rel hks hS hr⟩
theorem stab_lit (hks : ∀ k ∈ ks, StabK B br S sh k) (hS : S e = true → sh e = ks) : StabK B br S sh (LitK B br e ks n) := fun w w' v hr h => by
  obtain ⟨g, h1, h2⟩ := h
  exact ⟨g, h1, h2.rel hks hS hr⟩
theorem stab_ptr (hks : ∀ k ∈ ks, StabK B br S sh k) (hS : S e = true → sh e = ks) : StabK B br S sh (PtrK B br e ks) := fun w w' v hr h => by
  obtain ⟨g, q, h1, h2⟩ := h
  exact ⟨g, q, h1, h2.rel hks hS hr⟩
theorem BlkK.le {m' t' : Nat} (h : BlkK B br e ks t m w g) (ht : t' ≤ t) (hm : m' ≤ m) : BlkK B br e ks t' m' w g := by
  obtain ⟨h1, h2, cs, h3, h4, h5⟩ := h
  exact ⟨h1, h2, cs, h3, Nat.le_trans (Nat.mul_le_mul_right _ hm) h4, fun q f k u hq hk hu => h5 q f k u (by omega) hk hu⟩
theorem BlkK.lower {B' : Nat} (hB : B' ≤ B) (hks : ∀ k ∈ ks, True) (h : BlkK B br e ks t m w g) : BlkK B' br e ks t m w g := by
  obtain ⟨h1, h2, h3⟩ := h
  exact ⟨Nat.le_trans hB h1, h2, h3⟩
/-- The cells of an element. -/
theorem BlkK.cell (h : BlkK B br e ks t m w g) (htm : t ≤ m) {q f : Nat} (hq : q < t) {k : VK} (hk : ks[f]? = some k) : ∃ u, w.cell? ⟨g, q * ks.length + f, Option.none⟩ = some u ∧ k w u := by
  obtain ⟨h1, h2, cs, h3, h4, h5⟩ := h
  have hf : f < ks.length := (List.getElem?_eq_some_iff.1 hk).1
  have h6 := Nat.mul_le_mul_right ks.length (show q + 1 ≤ m by omega)
  rw [Nat.succ_mul] at h6
  have hlt : q * ks.length + f < cs.size := by omega
  refine ⟨cs[q * ks.length + f], ?_, h5 q f k _ hq hk (by rw [Array.getElem?_eq_getElem hlt])⟩
  rw [cell_of_row w g _ cs e (0, 0) h3, Array.getElem?_eq_getElem hlt]
theorem BlkK.free (h : BlkK B br e ks t m w g) (j : Nat) : w.frozen? ⟨g, j, Option.none⟩ = false := by
  obtain ⟨h1, h2, cs, h3, _⟩ := h
  exact frozen_of_row w g j _ _ h3
theorem RelK.refl (w : World) : RelK B br S sh w w := ⟨Nat.le_refl _, fun _ cs _ _ _ h => ⟨cs, h, rfl, fun _ => rfl, fun _ _ _ _ _ _ hu => .inl hu⟩⟩
theorem RelK.grown {row : Option Nat} (hg : w.grownBy w' row) (hr : ∀ k, row = some k → k = br ∨ k < B) : RelK B br S sh w w' :=
  ⟨hg.size, fun g cs T h1 h2 h3 => ⟨cs, (hg.block g (Array.getElem?_eq_some_iff.1 h3).1 (fun e => by rcases hr g e.symm with h | h; exact h2 h; omega)).trans h3, rfl, fun _ => rfl, fun _ _ _ _ _ _ hu => .inl hu⟩⟩
theorem RelK.below (hb : Below w.heap.size w w') : RelK B br S sh w w' := RelK.grown (grown_of_below hb Option.none) (fun k e => by cases e)
theorem RelK.alloc (w : World) (o : Obj) : RelK B br S sh w (w.alloc o) := RelK.below (below_alloc w o)
theorem RelK.drew (w : World) : RelK B br S sh w w.drew := RelK.refl w
/-- A new block. -/
theorem BlkK.new {cs : Array Value} (hB : B ≤ w.heap.size) (hbr : br < w.heap.size) (hm : m * ks.length ≤ cs.size) (hc : ∀ (q f : Nat) k u, q < t → ks[f]? = some k → cs[q * ks.length + f]? = some u → k (w.alloc (.cells cs e)) u) : BlkK B br e ks t m (w.alloc (.cells cs e)) w.heap.size :=
  ⟨hB, by omega, cs, heap_alloc_new w _, hm, hc⟩
theorem setCells_other (g : Nat) (vs : List Value) (w : World) (o k : Nat) (hk : k ≠ g) : (setCells w g o vs).heap[k]? = w.heap[k]? := by
  by_cases hlt : k < w.heap.size
  · exact (setCells_grown g vs w o).block k hlt (by simpa using hk)
  · rw [Array.getElem?_eq_none (by rw [setCells_size]; omega), Array.getElem?_eq_none (by omega)]
/-- Cells are stored, each of its kind. -/
theorem RelK.storeAt {start : Nat} {vs : List Value} (h : BlkK B br e ks t m w g) (hS : S e = true) (he : sh e = ks) (hl0 : start + vs.length ≤ m * ks.length)
    (hv : ∀ (q f : Nat) k u, ks[f]? = some k → start ≤ q * ks.length + f → vs[q * ks.length + f - start]? = some u → k w u) : RelK B br S sh w (setCells w g start vs) := by
  obtain ⟨h1, h2, cs, h3, h4, h5⟩ := h
  have hl : start + vs.length ≤ cs.toList.length := by simp; omega
  have hat := setCells_at (T := e) (fr := (0, 0)) vs (cs := cs.toList) start (by simpa using h3) hl
  refine ⟨by rw [setCells_size]; exact Nat.le_refl _, fun k cs1 T g1 g2 g3 => ?_⟩
  by_cases ek : k = g
  · subst ek
    rw [h3] at g3
    simp only [Option.some.injEq, Obj.cells.injEq, and_true] at g3
    obtain ⟨rfl, rfl⟩ := g3
    refine ⟨_, hat, (by simp; simp at hl; omega), (fun hn => by rw [hS] at hn; cases hn), fun _ q' f' k' u hk hu => ?_⟩
    rw [he] at hk hu ⊢
    simp only [List.getElem?_toArray, List.append_assoc] at hu
    by_cases a1 : q' * ks.length + f' < start
    · rw [List.getElem?_append_left (by simp at hl ⊢; omega), List.getElem?_take_of_lt a1] at hu
      exact .inl (by simpa using hu)
    · rw [List.getElem?_append_right (by simp; omega)] at hu
      have e1 : (cs.toList.take start).length = start := by simp at hl ⊢; omega
      rw [e1] at hu
      by_cases a2 : q' * ks.length + f' - start < vs.length
      · rw [List.getElem?_append_left a2] at hu
        exact .inr (hv q' f' k' u hk (by omega) hu)
      · rw [List.getElem?_append_right (by omega), List.getElem?_drop] at hu
        rw [show start + vs.length + (q' * ks.length + f' - start - vs.length) = q' * ks.length + f' by omega] at hu
        exact .inl (by simpa using hu)
  · exact ⟨cs1, by rw [setCells_other g vs w _ k ek]; exact g3, rfl, fun _ => rfl, fun _ _ _ _ _ _ hu => .inl hu⟩
theorem one_elem {q q' f f' len n : Nat} (hf' : f' < len) (hfn : f + n ≤ len) (h1 : q * len + f ≤ q' * len + f') (h2 : q' * len + f' - (q * len + f) < n) : q' = q := by
  rcases Nat.lt_trichotomy q' q with c | c | c
  · have := Nat.mul_le_mul_right len c
    rw [Nat.succ_mul] at this
    omega
  · exact c
  · have := Nat.mul_le_mul_right len c
    rw [Nat.succ_mul] at this
    omega
/-- Cells of an element are stored. -/
theorem RelK.store {q f : Nat} {vs : List Value} (h : BlkK B br e ks t m w g) (hS : S e = true) (he : sh e = ks) (hq : q < m) (hf : f + vs.length ≤ ks.length)
    (hv : ∀ (i : Nat) k u, ks[f + i]? = some k → vs[i]? = some u → k w u) : RelK B br S sh w (setCells w g (q * ks.length + f) vs) := by
  have h6 := Nat.mul_le_mul_right ks.length hq
  rw [Nat.succ_mul] at h6
  refine RelK.storeAt h hS he (by omega) (fun q' f' k u hk hs hu => ?_)
  have hf' : f' < ks.length := (List.getElem?_eq_some_iff.1 hk).1
  have hlt := (List.getElem?_eq_some_iff.1 hu).1
  obtain rfl := one_elem hf' hf hs hlt
  refine hv (f' - f) k u ?_ ?_
  · rwa [show f + (f' - f) = f' by omega]
  · rwa [show q' * ks.length + f' - (q' * ks.length + f) = f' - f by omega] at hu
/-- More elements are stored behind those that are there. -/
theorem BlkK.storeAt {c : Nat} {vs : List Value} (h : BlkK B br e ks t m w g) (hS : S e = true) (he : sh e = ks) (hst : ∀ k ∈ ks, StabK B br S sh k) (hlen : vs.length = c * ks.length) (htc : t + c ≤ m)
    (hv : ∀ (i f : Nat) k u, i < c → ks[f]? = some k → vs[i * ks.length + f]? = some u → k w u) : RelK B br S sh w (setCells w g (t * ks.length) vs) ∧ BlkK B br e ks (t + c) m (setCells w g (t * ks.length) vs) g := by
  have hm := Nat.mul_le_mul_right ks.length htc
  rw [Nat.add_mul] at hm
  have key : ∀ (q f : Nat) k u, ks[f]? = some k → t * ks.length ≤ q * ks.length + f → vs[q * ks.length + f - t * ks.length]? = some u → k w u := fun q f k u hk hs hu => by
    have hf : f < ks.length := (List.getElem?_eq_some_iff.1 hk).1
    have hlt := (List.getElem?_eq_some_iff.1 hu).1
    have hqt : t ≤ q := by
      rcases Nat.lt_or_ge q t with c1 | c1
      · have := Nat.mul_le_mul_right ks.length c1
        rw [Nat.succ_mul] at this
        omega
      · exact c1
    obtain ⟨i, rfl⟩ : ∃ i, q = t + i := ⟨q - t, by omega⟩
    rw [Nat.add_mul, show t * ks.length + i * ks.length + f - t * ks.length = i * ks.length + f by omega] at hu hlt
    have hic : i < c := by
      rcases Nat.lt_or_ge i c with c1 | c1
      · exact c1
      · have := Nat.mul_le_mul_right ks.length c1
        omega
    exact hv i f k u hic hk hu
  have hr := RelK.storeAt (S := S) (sh := sh) h hS he (by omega) key
  refine ⟨hr, ?_⟩
  obtain ⟨h1, h2, cs, h3, h4, h5⟩ := h
  have hl : t * ks.length + vs.length ≤ cs.toList.length := by simp; omega
  have hat := setCells_at (T := e) (fr := (0, 0)) vs (cs := cs.toList) (t * ks.length) (by simpa using h3) hl
  refine ⟨h1, h2, _, hat, (by simp; simp at hl; omega), fun q f k u hq hk hu => ?_⟩
  have hf : f < ks.length := (List.getElem?_eq_some_iff.1 hk).1
  refine hst k (List.mem_of_getElem? hk) _ _ _ hr ?_
  simp only [List.getElem?_toArray, List.append_assoc] at hu
  by_cases a1 : q < t
  · have := Nat.mul_le_mul_right ks.length a1
    rw [Nat.succ_mul] at this
    rw [List.getElem?_append_left (by simp at hl ⊢; omega), List.getElem?_take_of_lt (by omega)] at hu
    exact h5 q f k u a1 hk (by simpa using hu)
  · have hge := Nat.mul_le_mul_right ks.length (show t ≤ q by omega)
    have hle := Nat.mul_le_mul_right ks.length (show q + 1 ≤ t + c by omega)
    rw [Nat.succ_mul, Nat.add_mul] at hle
    rw [List.getElem?_append_right (by simp; omega)] at hu
    have e1 : (cs.toList.take (t * ks.length)).length = t * ks.length := by simp at hl ⊢; omega
    rw [e1, List.getElem?_append_left (by omega)] at hu
    exact key q f k u hk (by omega) hu
end
end Go.Proofs.YtpmelhkhmichcaaDoor

/- General lemmas, continued: a row of one's own, cut and cleared. -/
import Derived.Test.YtdpiaiblpafglaaKi2
import Derived.Lib.SliceRun
namespace Go.Proofs.Ytdpiaiblpafglaa
set_option linter.unusedSimpArgs false
set_option linter.unusedVariables false
open Go.RowKit

theorem setCells_eq (g : Nat) (vs : List Value) : ∀ (w : World) (o : Nat), setCells w g o vs = w.setCells g o vs := by
  induction vs with
  | nil => intro w o; rfl
  | cons v vs ih => intro w o; exact ih _ _
theorem own_prefix {B sz n c m g : Nat} {e : TypeId} {w : World} {xs : List Value} (h : w.ownsRow B e sz (.slice (some ⟨g, 0, Option.none⟩) n c) n xs) (hm : m ≤ n) : w.ownsRow B e sz (.slice (some ⟨g, 0, Option.none⟩) m c) m (xs.take (m * sz)) := by
  have hmul : m * sz ≤ n * sz := Nat.mul_le_mul_right _ hm
  refine ⟨by rw [List.length_take, h.1]; omega, .inr ?_⟩
  rcases h.2 with ⟨h0, _⟩ | ⟨g', cap, cur, hv, hB, hx, h1, h2, h3, h4⟩
  · cases h0
  · simp only [Value.slice.injEq, true_and, Option.some.injEq, Addr.mk.injEq, and_true] at hv
    obtain ⟨rfl, rfl⟩ := hv
    exact ⟨g, c, cur, rfl, hB, hx, by omega, h2, h3, by rw [← h4, List.take_take, Nat.min_eq_left hmul]⟩
theorem zeroCells_spec (zs : Array Value) (n : Nat) : (Builtin.zeroCells zs n).toList.length = n * zs.size ∧ ∀ u ∈ (Builtin.zeroCells zs n).toList, 0 < zs.size → u ∈ zs.toList := by
  refine ⟨by simp [Builtin.zeroCells], fun u hu h0 => ?_⟩
  simp only [Builtin.zeroCells, Array.toList_map, List.mem_map] at hu
  obtain ⟨i, _, rfl⟩ := hu
  have hlt : i % zs.size < zs.size := Nat.mod_lt _ h0
  rw [getElem!_pos zs (i % zs.size) hlt]
  simp
/-- clear(s[i:]), s a row of one's own. -/
theorem run_clear_own {P : Program} {B sz n c i g : Nat} {e t : TypeId} {w : World} {xs : List Value} {z : Value} (ht : P.underlying t = some (.slice e)) (hv : ∀ w, (zeroValue e).run P w = .ok z w) (hz : z.cells.size = sz) (hone : ∀ u ∈ z.cells.toList, u.oneCell' = true)
    (ho : w.ownsRow B e sz (.slice (some ⟨g, 0, Option.none⟩) n c) n xs) (hi : i < n) (hsz : 0 < sz) :
    ∃ w' ys, (∀ ty c', (Builtin.clear_ #[t] ty #[.slice (some ⟨g, i * sz, Option.none⟩) (n - i) c']).run P w = .ok (.tuple #[]) w') ∧ w'.ownsRow B e sz (.slice (some ⟨g, 0, Option.none⟩) n c) n ys ∧ ys.take (i * sz) = xs.take (i * sz) ∧ w.grownBy w' (some g) := by
  obtain ⟨vs, hvs⟩ : ∃ vs, vs = (Builtin.zeroCells z.cells (n - i)).toList := ⟨_, rfl⟩
  obtain ⟨s1, s2⟩ := zeroCells_spec z.cells (n - i)
  rw [← hvs] at s1 s2
  have hmul : i * sz + (n - i) * sz = n * sz := by rw [← Nat.add_mul]; congr 1; omega
  have hmem : ∀ j, j < vs.length → i * sz + j < n * sz := fun j hj => by rw [s1, hz] at hj; omega
  have hst := run_storeCells_cells (P := P) g (i * sz) vs 0 w (fun j hj => by
    obtain ⟨v, hv⟩ := own_cell ho (j := i * sz + j) (hmem j hj)
    rw [Nat.add_zero, hv]; rfl) (fun j hj => by rw [Nat.add_zero]; exact ho.frozenAt (i * sz + j)) (fun u hu => hone u (s2 u hu (by omega)))
  have hown := own_stores vs (i * sz) ho (by rw [s1, hz]; omega)
  refine ⟨setCells w g (i * sz) vs, _, ?_, hown, ?_, setCells_grown g vs w _⟩
  · obtain ⟨m, hm⟩ : ∃ m, n - i = m + 1 := ⟨n - i - 1, by omega⟩
    intro ty c'
    rw [hm] at hvs ⊢
    rw [setCells_eq]
    simp [Builtin.clear_, run_underlying ht, hv, ← hvs, hst]
  · have hl := ho.1
    rw [List.append_assoc, List.take_append_of_le_length (by simp; omega), List.take_take, Nat.min_self]
theorem flatMap_take {α : Type} {enc : α → List Value} {sz : Nat} (henc : ∀ a, (enc a).length = sz) (l : List α) (m : Nat) (hm : m ≤ l.length) : (l.flatMap enc).take (m * sz) = (l.take m).flatMap enc := by
  have : l.flatMap enc = (l.take m).flatMap enc ++ (l.drop m).flatMap enc := by rw [← List.flatMap_append, List.take_append_drop]
  rw [this, List.take_append_of_le_length (by rw [flatMap_length enc sz henc, List.length_take, Nat.min_eq_left hm]; exact Nat.le_refl _), List.take_of_length_le (by rw [flatMap_length enc sz henc, List.length_take, Nat.min_eq_left hm]; exact Nat.le_refl _)]
theorem own_split2 {w : World} {B sz n c : Nat} {e : TypeId} {A : Option Addr} {xs : List Value} (h : w.ownsRow B e sz (.slice A n c) n xs) : (A = Option.none ∧ n = 0 ∧ c = 0) ∨ ∃ g, A = some ⟨g, 0, Option.none⟩ ∧ n ≤ c ∧ c ≤ 9223372036854775807 := by
  rcases h.2 with ⟨h1, h2⟩ | ⟨g, cap, _, h1, _, _, h3, h4, _⟩
  · simp only [Value.slice.injEq] at h1
    exact .inl ⟨h1.1, h2, h1.2.2⟩
  · simp only [Value.slice.injEq, true_and] at h1
    obtain ⟨rfl, rfl⟩ := h1
    exact .inr ⟨g, rfl, h3, by simpa [maxLen] using h4⟩
theorem own_of_block {w : World} {B sz n g : Nat} {e : TypeId} {cs : Array Value} (hB : B ≤ g) (h : w.heap[g]? = some (.cells cs e (0, 0))) (hs : cs.size = n * sz) (hn : n ≤ 1048576) : w.ownsRow B e sz (.slice (some ⟨g, 0, Option.none⟩) n n) n cs.toList :=
  ⟨by simpa using hs, .inr ⟨g, n, cs, rfl, hB, h, Nat.le_refl _, by simp only [maxLen]; omega, hs, List.take_of_length_le (by simp; omega)⟩⟩
/-- A row that was written out, in a block of its own. -/
def FrB (B : Nat) (T : TypeId) (n : Nat) (cs : Array Value) (w : World) (v : Value) : Prop := ∃ g, v = .slice (some ⟨g, 0, Option.none⟩) n n ∧ B ≤ g ∧ w.heap[g]? = some (.cells cs T (0, 0))
theorem FrB.below {B : Nat} {T : TypeId} {n : Nat} {cs : Array Value} {w w' : World} {v : Value} (h : FrB B T n cs w v) (hb : Below w.heap.size w w') : FrB B T n cs w' v :=
  let ⟨g, h1, h2, h3⟩ := h; ⟨g, h1, h2, (hb.block g (Array.getElem?_eq_some_iff.1 h3).1).trans h3⟩
end Go.Proofs.Ytdpiaiblpafglaa

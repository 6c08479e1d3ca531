/- A code, as an argument of a law; and what draws leave. -/
import Derived.Test.YtpmelhkhmichcaaDoorDrk
import Derived.Test.YtpmelhkhmichcaaDoorOpen
namespace Go.Proofs.YtpmelhkhmichcaaDoor
set_option linter.unusedSimpArgs false
set_option linter.unusedVariables false
open Go.RowKit Go.ChangeShapes Go.WideShapes Go.ChangeAt

theorem open_code_arg {H : Type} {enc : TypeId × Value → H} {P : Program} {T : TypeId} {w : World} {r : Reach} {b0 base : Nat} {spare : Nat → Bool} {held : Bool} {v : Value} {d : DataW H} {p : List MemPlace} {E : TypeId} (hT : P.underlying T = some (.slice E)) (hE : P.underlying E = some (.int .u8)) (hc : P.cellsOf E = 1)
    (hv : Value.okWide P w r b0 T v) (h : DataW.Trod enc P w base spare held T v d p) : ∃ (A : Option Addr) (l : List Int) (c : Nat), v = .slice A l.length c ∧ CodeR w w.heap.size A l ∧ l.length ≤ c := by
  obtain ⟨A, l, c, rfl, hr⟩ := open_slice_arg hT (opens_slice hT (opens_int hE) hc (by decide)) hv h
  refine ⟨A, l, c, rfl, ⟨hr.1, fun hn => ?_⟩, ?_⟩
  · obtain ⟨b, off, e, hk⟩ := hr.2 hn
    obtain ⟨cs0, hl0, ⟨rfl, _, _⟩, h30⟩ := hk 0 hn
    refine ⟨b, off, e, by simpa using block_lt_of_cell (h30 0 _ rfl), fun k hk' => ?_⟩
    obtain ⟨cs, _, ⟨rfl, h1, h2⟩, h3⟩ := hk k hk'
    refine ⟨l[k], ⟨?_, ?_⟩, ?_⟩
    · exact h1
    · exact h2
    · simpa using h3 0 _ rfl
  · obtain ⟨fuel, hf⟩ := h
    rcases Go.Deep.open_slice hT hf with ⟨h0, _⟩ | ⟨a, len, cap, m, n, D, Pl, h0, _, hl, _⟩
    · simp only [Value.cells, List.cons.injEq, Value.slice.injEq, and_true] at h0
      omega
    · simp only [Value.cells, List.cons.injEq, Value.slice.injEq, and_true] at h0
      omega
theorem below_of_new {w w1 w2 : World} {row : Option Nat} (h : Below w.heap.size w w1) (hg : w1.grownBy w2 row) (hr : ∀ k, row = some k → w.heap.size ≤ k) : Below w.heap.size w w2 := h.grown hg h.size hr
/-- A row that was written out. -/
theorem own_fresh {w : World} {B sz n : Nat} {e : TypeId} {cs : Array Value} (hB : B ≤ w.heap.size) (hs : cs.size = n * sz) (hn : n ≤ 1048576) : (w.alloc (.cells cs e)).ownsRow B e sz (.slice (some ⟨w.heap.size, 0, Option.none⟩) n n) n cs.toList :=
  ⟨by simpa using hs, .inr ⟨w.heap.size, n, cs, rfl, hB, heap_alloc_new w _, Nat.le_refl _, by simp only [maxLen]; omega, hs, List.take_of_length_le (by simp; omega)⟩⟩
theorem own_split {w : World} {B sz n c : Nat} {e : TypeId} {A : Option Addr} {xs : List Value} (h : w.ownsRow B e sz (.slice A n c) n xs) : (A = Option.none ∧ n = 0 ∧ c = 0) ∨ ∃ g, A = some ⟨g, 0, Option.none⟩ ∧ n ≤ c ∧ c ≤ 9223372036854775807 := by
  rcases h.2 with ⟨h1, h2⟩ | ⟨g, cap, _, h1, _, _, h3, h4, _⟩
  · simp only [Value.slice.injEq] at h1
    exact .inl ⟨h1.1, h2, h1.2.2⟩
  · simp only [Value.slice.injEq, true_and] at h1
    obtain ⟨rfl, rfl⟩ := h1
    exact .inr ⟨g, rfl, h3, by simpa [maxLen] using h4⟩
end Go.Proofs.YtpmelhkhmichcaaDoor

/- Expressions: goodness, by the reference: cases. Printed by gen_good.py. -/
import Derived.Test.YtodjokdaofefdaaExP
import Derived.Test.YtodjokdaofefdaaNmS
namespace Go.Proofs.Ytodjokdaofefdaa
set_option linter.unusedSimpArgs false
set_option linter.unusedVariables false
open Go.RowKit

def goodB (d : Nat) (r : Ex) : Bool := headB r && r.ps.all (gdR d)
def GoQ (d : Nat) : Prop := ∀ (A : Option Addr) (r : Ex) (c : Nat) (w : World), exW d w A r.ps → r.s.size ≤ 9223372036854775807 →
  Calls Try.prog 117 #[.agg #[.int .i64 r.k, .int .i64 r.n, .string r.s, .slice A r.ps.length c]] w fun e w' => e = .returned (.bool (goodB d r)) ∧ Below w.heap.size w w'
theorem l4Parts_v {k : Int} {q : Int} (h : arS k = q) (w : World) :
    Calls Try.prog 147 #[.int .i64 k] w fun e w' => e = .returned (.int .i64 q) ∧ Below w.heap.size w w' := h ▸ l4Parts_any k w
theorem specNameValid_v {s : ByteArray} {b : Bool} (hb : nmOk s = b) (hs : s.size ≤ 9223372036854775807) (w : World) :
    Calls Try.prog 101 #[.string s] w fun e w' => e = .returned (.bool b) ∧ Below w.heap.size w w' := hb ▸ specNameValid s hs w
theorem goodB_no {d : Nat} {r : Ex} {k : Nat} (hk : k < r.ps.length) (h : gdR d (exAt r.ps k) = false) : goodB d r = false := by
  rw [goodB, Bool.and_eq_false_iff]
  right
  rw [List.all_eq_false]
  exact ⟨_, List.getElem_mem hk, by rw [← exAt_eq hk, h]; simp⟩
theorem goodB_yes {d : Nat} {r : Ex} (g : headB r = true) (h : ∀ j, j < r.ps.length → gdR d (exAt r.ps j) = true) : goodB d r = true := by
  rw [goodB, g, Bool.true_and, List.all_eq_true]
  intro p hp
  obtain ⟨j, hj, rfl⟩ := List.getElem_of_mem hp
  have := h j hj
  rwa [exAt_eq hj] at this
/-- Where a head stops being a valid one, by the reference. -/
theorem specCases (t : Ex) {m q : Int} {nm x5 : Bool} (hm : mostK t.k = m) (hn : nmK t.k = nm) (hq : arS t.k = q) (h5 : nmOk t.s = x5) :
    (((t.ps.length : Int) != q) = true ∧ headB t = false) ∨
    (((t.ps.length : Int) != q) = false ∧ inB t.n 0 m = false ∧ headB t = false) ∨
    (((t.ps.length : Int) != q) = false ∧ inB t.n 0 m = true ∧ t.s.toList.isEmpty = nm ∧ headB t = false) ∨
    (((t.ps.length : Int) != q) = false ∧ inB t.n 0 m = true ∧ nm = true ∧ t.s.toList.isEmpty = false ∧ false = x5 ∧ headB t = false) ∨
    (((t.ps.length : Int) != q) = false ∧ inB t.n 0 m = true ∧ t.s.toList.isEmpty = (!nm) ∧ (nm = true → true = x5) ∧ headB t = true) := by
  rw [str_isEmpty, ← hm, ← hn, ← hq, ← h5]
  unfold headB arS
  cases hi : inB t.k 1 15
  · left; refine ⟨?_, by simp⟩; simp <;> omega
  · by_cases hl : t.ps.length = arK t.k
    · right
      have e : ((t.ps.length : Int) != (if true = true then (arK t.k : Int) else -1)) = false := by simp [hl]
      cases inB t.n 0 (mostK t.k) <;> cases nmK t.k <;> cases decide (t.s = ByteArray.empty) <;> cases nmOk t.s <;> simp [hl]
    · left
      refine ⟨?_, by simp [hl]⟩
      simp only [if_true, bne_iff_ne, ne_eq]
      omega
end Go.Proofs.Ytodjokdaofefdaa

/- A tuple of a drawn row and a truth. -/
import Derived.Test.YtflhmkpabhedjaaDrk
namespace Go.Proofs.Ytflhmkpabhedjaa
open Go.RowKit
def TupD {α : Type} (B : Nat) (e : TypeId) (sz : Nat) (enc : α → List Value) (n : Nat) (Q : α → Prop) (w : World) (v : Value) : Prop := ∃ (v0 : Value) (b0 : Bool), v = .tuple #[v0, .bool b0] ∧ DrS B e sz enc n Q w v0
theorem TupD.grown {α : Type} {B : Nat} {e : TypeId} {sz n : Nat} {enc : α → List Value} {Q : α → Prop} {w w' : World} {v : Value} {row : Option Nat} (h : TupD B e sz enc n Q w v) (hg : w.grownBy w' row) (hr : ∀ k, row = some k → k < B) : TupD B e sz enc n Q w' v :=
  let ⟨v0, b0, h1, h2⟩ := h; ⟨v0, b0, h1, h2.grown hg hr⟩
theorem own_ne {B sz n g : Nat} {e T : TypeId} {w : World} {v : Value} {xs : List Value} {cs : Array Value} {fr : Nat × Nat} (h : w.ownsRow B e sz v n xs) (hb : w.heap[g]? = some (.cells cs T fr)) (hT : e ≠ T) : ∀ k, v.ownBlock = some k → k ≠ g := by
  intro k hk e2
  subst e2
  rcases h.2 with ⟨h1, _⟩ | ⟨g2, cap, cur, hv, _, hx, _⟩
  · rw [h1] at hk; cases hk
  · rw [hv] at hk
    simp only [Value.ownBlock, Option.some.injEq] at hk
    subst hk
    rw [hb] at hx
    simp only [Option.some.injEq, Obj.cells.injEq] at hx
    exact hT hx.2.1.symm
theorem dr_ne {α : Type} {B sz n g : Nat} {e T : TypeId} {enc : α → List Value} {Q : α → Prop} {w : World} {v : Value} {cs : Array Value} {fr : Nat × Nat} (h : DrS B e sz enc n Q w v) (hb : w.heap[g]? = some (.cells cs T fr)) (hT : e ≠ T) : v.ownBlock ≠ some g := by
  obtain ⟨l, _, _, A, c, rfl, ho⟩ := h
  exact fun hk => own_ne ho hb hT g hk rfl
theorem box_after {w w1 w2 : World} {g : Nat} {o : Obj} {row : Option Nat} (hbx : w.heap[g]? = some o) (hb : Below w.heap.size w w1) (hg : w1.grownBy w2 row) (hne : row ≠ some g) : w2.heap[g]? = some o := by
  have hlt := (Array.getElem?_eq_some_iff.1 hbx).1
  exact (hg.block g (Nat.lt_of_lt_of_le hlt hb.size) (fun e => hne e.symm)).trans ((hb.block g hlt).trans hbx)
theorem dr_box_ne {α : Type} {B sz n g : Nat} {e T : TypeId} {enc : α → List Value} {Q : α → Prop} {P : List Value → Prop} {w : World} {v : Value} (h : DrS B e sz enc n Q w v) (hb : BoxP P T g w) (hT : e ≠ T) : v.ownBlock ≠ some g := by
  obtain ⟨cs, _, hx⟩ := hb
  exact dr_ne h hx hT
end Go.Proofs.Ytflhmkpabhedjaa

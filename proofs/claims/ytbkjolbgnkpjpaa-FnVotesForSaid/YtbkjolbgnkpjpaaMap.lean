/- A map from numbers to truths, made by the call. -/
import Derived.Test.YtbkjolbgnkpjpaaKit
import Derived.Maps.Views
import Derived.Maps.OwnOps
import Derived.OwnWalk
namespace Go.Proofs.Ytbkjolbgnkpjpaa
open Go.RowKit Go.Maps

theorem int_key : Keyed Try.prog 3 := int_keyed Try.underlying3
theorem zeroBool (w : World) : (zeroValue 4).run Try.prog w = .ok (.bool false) w := by kernel_rfl
/-- Block b is a map of at most n entries that reads as the function f. -/
def MapB (w : World) (b n : Nat) (f : Int → Bool) : Prop :=
  ∃ D : DataW Unit, w.ownsMap Try.prog 3 (plainElem Try.prog 4) b n D ∧ IsMap D ∧ ∀ x : Int, (Lit.int .i64 x).wf = true → D.atKey (.int .i64 x) (.lit (.bool false)) = .lit (.bool (f x))
theorem MapB.made (w : World) : MapB (w.alloc (.map #[] 0)) w.heap.size 0 (fun _ => false) := ⟨_, World.ownsMap_made w _ _ _, isMap_empty, fun _ _ => rfl⟩
section
variable {w w' : World} {b n : Nat} {f : Int → Bool}
theorem MapB.lt (h : MapB w b n f) : b < w.heap.size := let ⟨_, h1, _⟩ := h; h1.lt
theorem MapB.grown {row : Option Nat} (h : MapB w b n f) (hg : w.grownBy w' row) (hr : row ≠ some b) : MapB w' b n f := let ⟨D, h1, h2⟩ := h; ⟨D, h1.kept hg (fun e => hr e.symm), h2⟩
theorem MapB.below (h : MapB w b n f) (hb : Below w.heap.size w w') : MapB w' b n f :=
  let ⟨D, h1, h2⟩ := h; ⟨D, h1.kept (row := Option.none) ⟨hb.os, hb.tape, hb.output, hb.size, fun k hk _ => hb.block k hk⟩ (by simp), h2⟩
theorem MapB.ext {g : Int → Bool} (h : MapB w b n f) (he : ∀ x, f x = g x) : MapB w b n g := by
  obtain rfl : f = g := funext he
  exact h
theorem plainElem_bool_inv {H : Type} {P : Program} {e : TypeId} (he : P.underlying e = some .bool) {v : Value} {z : DataW H × List MemPlace} (h : plainElem P e v = some z) : ∃ x, v = .bool x ∧ z = (.lit (.bool x), []) := by
  unfold plainElem at h
  rw [he] at h
  cases v <;> simp at h
  exact ⟨_, rfl, h.symm⟩
theorem MapB.look (h : MapB w b n f) {x : Int} (hx : (Lit.int .i64 x).wf = true) : (Instr.lookup 68 (.map (some b)) (.int .i64 x) false).run Try.prog w = .ok (.bool (f x)) w := by
  obtain ⟨D, h1, _, h3⟩ := h
  obtain ⟨v, ps, hrun, hv⟩ := h1.lookup int_key Try.underlying68 (zeroBool w) (plainElem_bool Try.underlying4 false) (keyOf_int_mk Try.underlying3 hx)
  obtain ⟨y, rfl, hy⟩ := plainElem_bool_inv Try.underlying4 hv
  rw [h3 x hx] at hy
  simp only [Prod.mk.injEq, DataW.lit.injEq, Lit.bool.injEq] at hy
  rw [hrun, hy.1]
theorem wpList_look_mapB {ops : Array Oper} {rest : List Oper} {o : Oper} {a : Act} {Q : Exit → Act → World → Prop} (hg : o.guard = Option.none) (m x : Operand) (hop : o.op = Op.lookup 68 m x false)
    (h : MapB w b n f) (hm : a.eval m = .map (some b)) {k : Int} (hx : a.eval x = .int .i64 k) (hk : (Lit.int .i64 k).wf = true) (hK : wpList Try.prog ops Q rest (a.put o.dst (.bool (f k))) w) : wpList Try.prog ops Q (o :: rest) a w := by
  refine wpList_plain hg fun K' hK' => ?_
  have hrun := h.look hk
  unfold Oper.wp
  simp [execOp, hop, hm, hx, hrun, Result.andThen]
  exact hK' _ _ hK
theorem wpList_put_mapB {ops : Array Oper} {rest : List Oper} {o : Oper} {a : Act} {Q : Exit → Act → World → Prop} (hg : o.guard = Option.none) (m x v : Operand) (hop : o.op = Op.mapUpdate 68 m x v)
    (h : MapB w b n f) (hm : a.eval m = .map (some b)) {k : Int} (hx : a.eval x = .int .i64 k) {y : Bool} (hv : a.eval v = .bool y) (hk : (Lit.int .i64 k).wf = true) (hn : n < 9223372036854775807)
    (hK : ∀ w', MapB w' b (n + 1) (fun z => if z = k then y else f z) → w.grownBy w' (some b) → wpList Try.prog ops Q rest (a.put o.dst undef) w') : wpList Try.prog ops Q (o :: rest) a w := by
  obtain ⟨D, h1, h2, h3⟩ := h
  have hkey := keyOf_int_mk Try.underlying3 hk
  refine wpList_mapUpdate_own w hg m x v 68 hop 3 4 int_key Try.underlying68 _ b n D hm h1 (by unfold maxLen; omega) _ _ _ hx hv hkey _ [] (plainElem_bool Try.underlying4 y) ?_
  intro w' hown hg'
  refine hK w' ⟨_, hown, h2.put _ _, fun z hz => ?_⟩ hg'
  show _ = DataW.lit (Lit.bool (if z = k then y else f z))
  by_cases e : z = k
  · subst e
    rw [if_pos rfl, atKey_put_same h2 (int_key.key hkey)]
  · rw [if_neg e, atKey_put_other (by simpa using e), h3 z hz]
end
end Go.Proofs.Ytbkjolbgnkpjpaa

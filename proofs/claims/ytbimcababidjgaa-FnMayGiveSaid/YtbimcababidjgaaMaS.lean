/- A map from texts to truths, made by the call. -/
import Derived.Test.YtbimcababidjgaaKit
import Derived.Maps.Views
import Derived.Maps.OwnOps
import Derived.OwnWalk
namespace Go.Proofs.Ytbimcababidjgaa
set_option linter.unusedSimpArgs false
set_option linter.unusedVariables false
open Go.RowKit Go.Maps

theorem str_key : Keyed Try.prog 9 := string_keyed Try.underlying9
theorem zeroBoolS (w : World) : (zeroValue 4).run Try.prog w = .ok (.bool false) w := by kernel_rfl
/-- Block b is a map of at most n entries that reads as the function f. -/
def MapS (w : World) (b n : Nat) (f : ByteArray → Bool) : Prop :=
  ∃ D : DataW Unit, w.ownsMap Try.prog 9 (plainElem Try.prog 4) b n D ∧ IsMap D ∧ ∀ x : ByteArray, x.size ≤ maxLen → D.atKey (.string x.data.toList) (.lit (.bool false)) = .lit (.bool (f x))
theorem MapS.made (w : World) : MapS (w.alloc (.map #[] 0)) w.heap.size 0 (fun _ => false) := ⟨_, World.ownsMap_made w _ _ _, isMap_empty, fun _ _ => rfl⟩
section
variable {w w' : World} {b n : Nat} {f : ByteArray → Bool}
theorem MapS.below (h : MapS w b n f) (hb : Below w.heap.size w w') : MapS w' b n f :=
  let ⟨D, h1, h2⟩ := h; ⟨D, h1.kept (row := Option.none) ⟨hb.os, hb.tape, hb.output, hb.size, fun k hk _ => hb.block k hk⟩ (by simp), h2⟩
theorem MapS.ext {g : ByteArray → Bool} (h : MapS w b n f) (he : ∀ x, f x = g x) : MapS w b n g := by
  obtain rfl : f = g := funext he
  exact h
theorem plainElemS_bool_inv {H : Type} {P : Program} {e : TypeId} (he : P.underlying e = some .bool) {v : Value} {z : DataW H × List MemPlace} (h : plainElem P e v = some z) : ∃ x, v = .bool x ∧ z = (.lit (.bool x), []) := by
  unfold plainElem at h
  rw [he] at h
  cases v <;> simp at h
  exact ⟨_, rfl, h.symm⟩
theorem keyS {x : ByteArray} (hx : x.size ≤ maxLen) : keyOf Try.prog 9 (.string x) = some (.string x.data.toList) := WideMaps.keyOf_string_mk Try.underlying9 hx
theorem MapS.look (h : MapS w b n f) {x : ByteArray} (hx : x.size ≤ maxLen) : (Instr.lookup 88 (.map (some b)) (.string x) false).run Try.prog w = .ok (.bool (f x)) w := by
  obtain ⟨D, h1, _, h3⟩ := h
  obtain ⟨v, ps, hrun, hv⟩ := h1.lookup str_key Try.underlying88 (zeroBoolS w) (plainElem_bool Try.underlying4 false) (keyS hx)
  obtain ⟨y, rfl, hy⟩ := plainElemS_bool_inv Try.underlying4 hv
  rw [h3 x hx] at hy
  simp only [Prod.mk.injEq, DataW.lit.injEq, Lit.bool.injEq] at hy
  rw [hrun, hy.1]
theorem wpList_put_mapS {ops : Array Oper} {rest : List Oper} {o : Oper} {a : Act} {Q : Exit → Act → World → Prop} (hg : o.guard = Option.none) (m x v : Operand) (hop : o.op = Op.mapUpdate 88 m x v)
    (h : MapS w b n f) (hm : a.eval m = .map (some b)) {k : ByteArray} (hx : a.eval x = .string k) {y : Bool} (hv : a.eval v = .bool y) (hk : k.size ≤ maxLen) (hn : n < 9223372036854775807)
    (hK : ∀ w', MapS w' b (n + 1) (fun z => if z = k then y else f z) → w.grownBy w' (some b) → wpList Try.prog ops Q rest (a.put o.dst undef) w') : wpList Try.prog ops Q (o :: rest) a w := by
  obtain ⟨D, h1, h2, h3⟩ := h
  have hkey := keyS hk
  refine wpList_mapUpdate_own w hg m x v 88 hop 9 4 str_key Try.underlying88 _ b n D hm h1 (by unfold maxLen; omega) _ _ _ hx hv hkey _ [] (plainElem_bool Try.underlying4 y) ?_
  intro w' hown hg'
  refine hK w' ⟨_, hown, h2.put _ _, fun z hz => ?_⟩ hg'
  show _ = DataW.lit (Lit.bool (if z = k then y else f z))
  by_cases e : z = k
  · subst e
    rw [if_pos rfl, atKey_put_same h2 (str_key.key hkey)]
  · rw [if_neg e, atKey_put_other (by
      simp only [ne_eq, Lit.string.injEq]
      intro hh
      exact e (ByteArray.ext (Array.toList_inj.1 hh))), h3 z hz]
end
end Go.Proofs.Ytbimcababidjgaa

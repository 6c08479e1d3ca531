/- General lemmas, continued: append that must make a new row; slices cut in front. -/
import Derived.Test.YtdpiaiblpafglaaKi2
import Derived.ArgAppend
namespace Go.Proofs.Ytdpiaiblpafglaa
set_option linter.unusedSimpArgs false
set_option linter.unusedVariables false
open Go.RowKit

theorem RdL.news {α : Type} {enc : α → List Value} {sz : Nat} {w : World} {b off : Nat} {l : List α} (henc : ∀ a, (enc a).length = sz) (hsz : 0 < sz) (h : RdL (Flat enc) sz w (some ⟨b, off, none⟩) l) (j : Nat) (u : Value) (hu : (l.flatMap enc)[j]? = some u) : w.cell? ((⟨b, off, none⟩ : Addr).add j) = some u := by
  have hl : (l.flatMap enc).length = l.length * sz := flatMap_length enc sz henc l
  have hj : j < l.length * sz := by rw [← hl]; exact (List.getElem?_eq_some_iff.1 hu).1
  have h0 : 0 < l.length := by
    rcases Nat.eq_zero_or_pos l.length with e | e
    · rw [e, Nat.zero_mul] at hj; omega
    · exact e
  obtain ⟨b', off', e, hc⟩ := h.2 h0
  simp only [Option.some.injEq, Addr.mk.injEq, and_true] at e
  obtain ⟨rfl, rfl⟩ := e
  have hk : j / sz < l.length := Nat.div_lt_of_lt_mul (by rwa [Nat.mul_comm] at hj)
  obtain ⟨cs, h1, rfl, h3⟩ := hc (j / sz) hk
  have hm : j % sz < sz := Nat.mod_lt _ hsz
  have e1 := flatMap_get enc sz henc l (j / sz) (j % sz) hk hm
  rw [Nat.div_add_mod' j sz, hu] at e1
  have := h3 (j % sz) u e1.symm
  rw [Nat.add_assoc, Nat.div_add_mod' j sz] at this
  simpa [Addr.add_lit] using this
/-- append to a slice without capacity: a new row. -/
theorem op_append_fresh {α : Type} {enc : α → List Value} {P : Program} {w : World} {o : Oper} {a : Act} {K : Act → World → Prop} {Q : Exit → Act → World → Prop} (s x : Operand) (t e : TypeId) (z : Value) (sz bytes : Nat)
    (ho : o.op = .call { callee := .builtin .append, args := #[s, x], argTypes := #[t, t] }) (ht : P.underlying t = some (.slice e)) (hinfo : (P.info? e).map (fun i => (i.zero, i.size, i.bytes)) = some (some z, sz, bytes))
    (hzs : z.cells.size = sz) (hsz : 0 < sz) (henc : ∀ a, (enc a).length = sz)
    {g : Nat} (hs : a.eval s = .slice (some ⟨g, 0, Option.none⟩) 0 0) {A : Option Addr} {l : List α} {c : Nat} (hx : a.eval x = .slice A l.length c) (hr : RdL (Flat enc) sz w A l) (hpos : 0 < l.length)
    (hbytes : l.length * bytes ≤ 140737488355328) (h63 : l.length ≤ 9223372036854775807)
    (h : ∀ v' w', OwnA w.heap.size e sz enc w' v' l → Below w.heap.size w w' → K (a.put o.dst v') w') : o.wp P a w K Q := by
  obtain ⟨i, hi, hz, hsize, hby⟩ := info_parts hinfo
  obtain ⟨b, off, rfl, _⟩ := hr.2 hpos
  obtain ⟨v', w', h1, h2, h3⟩ := run_append_arg_grows (P := P) w t o.type e i z sz bytes ht hi hz hsize hby hzs hsz ⟨g, 0, Option.none⟩ 0 0 [] (by simp) (fun j u hj => by simp at hj) ⟨b, off, none⟩ l.length c (l.flatMap enc) (flatMap_length enc sz henc l) (RdL.news henc hsz hr) (by omega) (by simp only [maxLen]; omega) (by rw [Nat.zero_add]; exact hbytes)
  unfold Oper.wp execOp
  simp only [ho, resolve, invoke, builtin, Sem.run_bind, Sem.run_pure, Result.andThen_ok, List.map_toArray, List.map_cons, List.map_nil, hs, hx, h1]
  refine h v' w' (OwnA.of (by simpa using h2)) ⟨h3.os, h3.tape, h3.output, h3.size, fun k hk => h3.block k hk (fun e => by cases e)⟩
end Go.Proofs.Ytdpiaiblpafglaa

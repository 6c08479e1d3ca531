/- Lists of one's own: append to a slice without capacity; lists of expressions of one's own. -/
import Derived.Test.YtodjokdaofefdaaKi3
import Derived.Test.YtodjokdaofefdaaKi5
import Derived.Test.YtodjokdaofefdaaExB
namespace Go.Proofs.Ytodjokdaofefdaa
set_option linter.unusedSimpArgs false
set_option linter.unusedVariables false
open Go.RowKit

theorem rel_ne {p : Prop} [Decidable p] {a b : Nat} {w w' : World} (h : ¬ p) (hb : Below b w w') : Below (if p then a else b) w w' := by rw [if_neg h]; exact hb
theorem rel_eq {p : Prop} [Decidable p] {a b : Nat} {w w' : World} (h : p) (hb : Below a w w') : Below (if p then a else b) w w' := by rw [if_pos h]; exact hb
theorem rel_un {p : Prop} [Decidable p] {a b : Nat} {w w' : World} (h : ¬ p) (hb : Below (if p then a else b) w w') : Below b w w' := by rwa [if_neg h] at hb
theorem OwnG.typ {α : Type} {R : World → α → List Value → Prop} {B : Nat} {e : TypeId} {sz : Nat} {w : World} {v : Value} {l : List α} (h : OwnG R B e sz w v l) : ∀ k, v.ownBlock = some k → ∃ cs fr, w.heap[k]? = some (.cells cs e fr) := by
  obtain ⟨A, c, xs, rfl, ho, _⟩ := h
  intro k hk
  rcases ho.2 with ⟨h1, _⟩ | ⟨g2, cap, cur, hv, _, hx2, _⟩
  · rw [h1] at hk; cases hk
  · rw [hv] at hk
    simp only [Value.ownBlock, Option.some.injEq] at hk
    subst hk
    exact ⟨_, _, hx2⟩
/-- append of what reads as a list to a slice without capacity. -/
theorem op_append_emptyG {α : Type} {R : World → α → List Value → Prop} {P : Program} {w : World} {o : Oper} {a : Act} {K : Act → World → Prop} {Q : Exit → Act → World → Prop} (s x : Operand) (t e : TypeId) (z : Value) (sz bytes : Nat)
    (ho : o.op = .call { callee := .builtin .append, args := #[s, x], argTypes := #[t, t] }) (ht : P.underlying t = some (.slice e)) (hinfo : (P.info? e).map (fun i => (i.zero, i.size, i.bytes)) = some (some z, sz, bytes))
    (hzs : z.cells.size = sz) (hsz : 0 < sz) {B : Nat} (hs : FrB B e 0 #[] w (a.eval s)) {A : Option Addr} {l : List α} {c : Nat} (hx : a.eval x = .slice A l.length c) (hr : RdL R sz w A l) (hR : ∀ w', Below w.heap.size w w' → ∀ a cs, R w a cs → R w' a cs)
    (hbase : B ≤ w.heap.size) (hbytes : l.length * bytes ≤ 140737488355328) (h63 : l.length ≤ 9223372036854775807)
    (h : ∀ v' w', OwnG R B e sz w' v' l → Below w.heap.size w w' → K (a.put o.dst v') w') : o.wp P a w K Q := by
  obtain ⟨i, hi, hz, hsize, hby⟩ := info_parts hinfo
  obtain ⟨g, hs, hB, hg⟩ := hs
  rcases Nat.eq_zero_or_pos l.length with h0 | hpos
  · obtain rfl := List.eq_nil_of_length_eq_zero h0
    have h1 : (Builtin.append_ #[t, t] o.type #[.slice (some ⟨g, 0, Option.none⟩) 0 0, .slice A ([] : List α).length c]).run P w = .ok (.slice (some ⟨g, 0, Option.none⟩) 0 0) w := by
      cases A <;> simp [Builtin.append_, run_underlying ht, sizeOf, typeInfo, hi, Builtin.lenOf, Builtin.firstCells, storeCells, loadCells, loadCellsFrom]
    unfold Oper.wp execOp
    simp only [ho, resolve, invoke, builtin, Sem.run_bind, Sem.run_pure, Result.andThen_ok, List.map_toArray, List.map_cons, List.map_nil, hs, hx, h1]
    exact h _ _ ⟨_, 0, [], rfl, ⟨by simp, .inr ⟨g, 0, #[], rfl, hB, hg, Nat.le_refl _, by simp [maxLen], by simp, by simp⟩⟩, rfl⟩ (Below.refl _ _)
  · obtain ⟨b, off, rfl, _⟩ := hr.2 hpos
    obtain ⟨ys, g1, g2⟩ := hr.chunks
    obtain ⟨v', w', h1, h2, h3⟩ := run_append_arg_grows (P := P) w t o.type e i z sz bytes ht hi hz hsize hby hzs hsz ⟨g, 0, Option.none⟩ 0 0 [] (by simp) (fun j u hj => by simp at hj) ⟨b, off, none⟩ l.length c ys g1.length g2 (by omega) (by simp only [maxLen]; omega) (by rw [Nat.zero_add]; exact hbytes)
    unfold Oper.wp execOp
    simp only [ho, resolve, invoke, builtin, Sem.run_bind, Sem.run_pure, Result.andThen_ok, List.map_toArray, List.map_cons, List.map_nil, hs, hx, h1]
    have hb : Below w.heap.size w w' := ⟨h3.os, h3.tape, h3.output, h3.size, fun k hk => h3.block k hk (fun e => by cases e)⟩
    exact h v' w' (OwnG.of (own_lower (by simpa using h2) hbase) (g1.mono (hR w' hb))) hb

section
variable {d D lo hi N B : Nat} {w w' : World} {A : Option Addr} {l l2 : ExL} {t : Ex} {cs : List Value} {v : Value}
theorem exR.row {row : Option Nat} (hN : N ≤ w.heap.size) (hg : w.grownBy w' row) (hr : ∀ k, row = some k → N ≤ k) : ∀ {d : Nat} {t : Ex} {cs : List Value}, exR d lo N w t cs → exR d lo N w' t cs :=
  fun h => exR.keep (fun k _ hk => hg.block k (by omega) (fun e => by have := hr k e.symm; omega)) (Nat.le_refl _) (Nat.le_refl _) h
theorem exR.one : ∀ {d : Nat} {t : Ex} {cs : List Value}, exR d lo hi w t cs → ∀ u ∈ cs, u.oneCell' = true
  | 0, _, _, h => h.elim
  | _ + 1, _, _, ⟨A, c, rfl, _⟩ => by intro u hu; simp [exHead] at hu; rcases hu with rfl | rfl | rfl | rfl <;> rfl
theorem exS.head {c : Nat} (h : exS d lo hi w A t.ps) (hs : t.s.size ≤ 9223372036854775807) : exR (d + 1) lo hi w t [.int .i64 t.k, .int .i64 t.n, .string t.s, .slice A t.ps.length c] := ⟨A, c, rfl, h.1, h.2, hs⟩
/-- A list of one's own; the parts of what is in it stand below N. -/
def OwnE (D N B : Nat) (l : ExL) (w : World) (v : Value) : Prop := (N ≤ w.heap.size ∧ N ≤ B) ∧ OwnG (exR D 0 N) B 28 4 w v l
theorem OwnE.below (h : OwnE D N B l w v) (hb : Below w.heap.size w w') : OwnE D N B l w' v :=
  ⟨⟨Nat.le_trans h.1.1 hb.size, h.1.2⟩, h.2.below hb (fun _ _ g => exR.below g h.1.1 hb)⟩
theorem OwnE.rd (h : OwnE D N B l w v) (hl : l.length ≤ 9223372036854775807) : ∃ A c, v = .slice A l.length c ∧ exW D w A l := by
  obtain ⟨A, c, e, hr⟩ := h.2.rd hl
  refine ⟨A, c, e, RdL.keep hr (fun _ _ g => exR.keep (fun _ _ _ => rfl) (Nat.le_refl _) h.1.1 g) (fun _ _ _ => rfl), fun hn a ha => ⟨Nat.zero_le _, ?_⟩⟩
  obtain ⟨b, off, e2, _⟩ := hr.2 hn
  rw [ha] at e2
  cases e2
  exact (h.2.ge b (by rw [e, ha]; rfl)).2
theorem OwnE.wide {N' B' : Nat} (h : OwnE D N B l w v) (hN : N ≤ N') (hN2 : N' ≤ w.heap.size) (hN3 : N' ≤ B') (hB : B' ≤ B) : OwnE D N' B' l w v :=
  ⟨⟨hN2, hN3⟩, by
    obtain ⟨A, c, xs, rfl, ho, hc⟩ := h.2
    exact ⟨A, c, xs, rfl, own_lower ho hB, hc.mono (fun _ _ g => exR.keep (fun _ _ _ => rfl) (Nat.le_refl _) hN g)⟩⟩
theorem OwnE.deeper {D' : Nat} (h : OwnE D N B l w v) (hD : D ≤ D') : OwnE D' N B l w v :=
  ⟨h.1, by
    obtain ⟨A, c, xs, rfl, ho, hc⟩ := h.2
    exact ⟨A, c, xs, rfl, ho, hc.mono (fun _ _ g => exR.deeper hD g)⟩⟩
/-- A row of one. -/
theorem OwnE.one {c : Nat} (h : exS d 0 N w A t.ps) (hs : t.s.size ≤ 9223372036854775807) (hN : N ≤ B) (hB : B ≤ w.heap.size) (hf : FrB B 28 1 #[.int .i64 t.k, .int .i64 t.n, .string t.s, .slice A t.ps.length c] w v) : OwnE (d + 1) N B [t] w v := by
  obtain ⟨g, rfl, h1, h2⟩ := hf
  exact ⟨⟨by omega, hN⟩, _, 1, _, rfl, ⟨by simp, .inr ⟨g, 1, _, rfl, h1, h2, by simp, by simp [maxLen], by simp, by simp⟩⟩, Chunks.one rfl (exS.head (c := c) h hs)⟩
end
/-- A list that reads. -/
def KnV (D : Nat) (l : ExL) (w : World) (v : Value) : Prop := ∃ A c, v = .slice A l.length c ∧ exW D w A l
theorem KnV.below {D : Nat} {l : ExL} {w w' : World} {v : Value} (h : KnV D l w v) (hb : Below w.heap.size w w') : KnV D l w' v := let ⟨A, c, e, h⟩ := h; ⟨A, c, e, h.below hb⟩
end Go.Proofs.Ytodjokdaofefdaa

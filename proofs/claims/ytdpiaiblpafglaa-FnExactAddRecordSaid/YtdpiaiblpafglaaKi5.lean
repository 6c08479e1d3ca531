/- General lemmas, continued: slices of one's own whose elements hold more than their own cells. -/
import Derived.Test.YtdpiaiblpafglaaKi4
namespace Go.Proofs.Ytdpiaiblpafglaa
set_option linter.unusedSimpArgs false
set_option linter.unusedVariables false
open Go.RowKit

/-- The cells of a list's elements, one behind the other. -/
def Chunks {α : Type} (R : α → List Value → Prop) (sz : Nat) : List α → List Value → Prop
  | [], xs => xs = []
  | a :: l, xs => ∃ c r, xs = c ++ r ∧ c.length = sz ∧ R a c ∧ Chunks R sz l r
section
variable {α : Type} {R R' : α → List Value → Prop} {sz : Nat}
theorem Chunks.length {l : List α} {xs : List Value} (h : Chunks R sz l xs) : xs.length = l.length * sz := by
  induction l generalizing xs with
  | nil => rw [h]; simp
  | cons a l ih =>
    obtain ⟨c, r, rfl, h1, _, h2⟩ := h
    rw [List.length_append, ih h2, h1, List.length_cons, Nat.add_mul]; omega
theorem Chunks.mono {l : List α} {xs : List Value} (hR : ∀ a cs, R a cs → R' a cs) (h : Chunks R sz l xs) : Chunks R' sz l xs := by
  induction l generalizing xs with
  | nil => exact h
  | cons a l ih => obtain ⟨c, r, rfl, h1, h2, h3⟩ := h; exact ⟨c, r, rfl, h1, hR _ _ h2, ih h3⟩
theorem Chunks.append {l l2 : List α} {xs ys : List Value} (h : Chunks R sz l xs) (h2 : Chunks R sz l2 ys) : Chunks R sz (l ++ l2) (xs ++ ys) := by
  induction l generalizing xs with
  | nil => rw [show xs = [] from h]; exact h2
  | cons a l ih =>
    obtain ⟨c, r, rfl, h1, h3, h4⟩ := h
    exact ⟨c, r ++ ys, by rw [List.append_assoc], h1, h3, ih h4⟩
theorem Chunks.one {a : α} {c : List Value} (h1 : c.length = sz) (h : R a c) : Chunks R sz [a] c := ⟨c, [], by simp, h1, h, rfl⟩
theorem Chunks.at {l : List α} {xs : List Value} (h : Chunks R sz l xs) : ∀ k (hk : k < l.length), ∃ c : List Value, c.length = sz ∧ R l[k] c ∧ ∀ j v, c[j]? = some v → xs[k * sz + j]? = some v := by
  induction l generalizing xs with
  | nil => intro k hk; simp at hk
  | cons a l ih =>
    obtain ⟨c, r, rfl, h1, h2, h3⟩ := h
    intro k hk
    cases k with
    | zero =>
      refine ⟨c, h1, h2, fun j v hv => ?_⟩
      have hj := (List.getElem?_eq_some_iff.1 hv).1
      rw [Nat.zero_mul, Nat.zero_add, List.getElem?_append_left hj]; exact hv
    | succ k =>
      obtain ⟨c', h4, h5, h6⟩ := ih h3 k (by simpa using hk)
      refine ⟨c', h4, h5, fun j v hv => ?_⟩
      rw [List.getElem?_append_right (by rw [h1, Nat.add_mul]; omega), show (k + 1) * sz + j - c.length = k * sz + j by rw [h1, Nat.add_mul]; omega]
      exact h6 j v hv
theorem Chunks.all {l : List α} {xs : List Value} {p : Value → Prop} (h : Chunks R sz l xs) (hp : ∀ a cs, R a cs → ∀ u ∈ cs, p u) : ∀ u ∈ xs, p u := by
  induction l generalizing xs with
  | nil => rw [show xs = [] from h]; simp
  | cons a l ih =>
    obtain ⟨c, r, rfl, _, h2, h3⟩ := h
    intro u hu
    rcases List.mem_append.1 hu with hu | hu
    · exact hp _ _ h2 u hu
    · exact ih h3 u hu
/-- What reads as a list has its cells one behind the other. -/
theorem chunks_of {w : World} {b : Nat} (l : List α) : ∀ off, (∀ k (hk : k < l.length), ∃ cs : List Value, cs.length = sz ∧ R l[k] cs ∧ ∀ j v, cs[j]? = some v → w.cell? ⟨b, off + k * sz + j, none⟩ = some v) →
    ∃ xs, Chunks R sz l xs ∧ ∀ j v, xs[j]? = some v → w.cell? ⟨b, off + j, none⟩ = some v := by
  induction l with
  | nil => exact fun _ _ => ⟨[], rfl, by simp⟩
  | cons a l ih =>
    intro off h
    obtain ⟨c, h1, h2, h3⟩ := h 0 (by simp)
    obtain ⟨r, h4, h5⟩ := ih (off + sz) (fun k hk => by
      obtain ⟨cs, g1, g2, g3⟩ := h (k + 1) (by simpa using hk)
      refine ⟨cs, g1, g2, fun j v hv => ?_⟩
      have := g3 j v hv
      rwa [Nat.add_mul, Nat.one_mul, show off + (k * sz + sz) + j = off + sz + k * sz + j by omega] at this)
    refine ⟨c ++ r, ⟨c, r, rfl, h1, h2, h4⟩, fun j v hv => ?_⟩
    by_cases hj : j < c.length
    · rw [List.getElem?_append_left hj] at hv
      have := h3 j v hv
      simpa using this
    · rw [List.getElem?_append_right (by omega), h1] at hv
      have := h5 (j - sz) v hv
      rwa [show off + sz + (j - sz) = off + j by omega] at this
end
/-- A slice of one's own whose elements read as the list l, in the sense of R. -/
def OwnG {α : Type} (R : World → α → List Value → Prop) (B : Nat) (e : TypeId) (sz : Nat) (w : World) (v : Value) (l : List α) : Prop :=
  ∃ A c xs, v = .slice A l.length c ∧ w.ownsRow B e sz (.slice A l.length c) l.length xs ∧ Chunks (R w) sz l xs
section
variable {α : Type} {R R' : World → α → List Value → Prop} {B B' : Nat} {e : TypeId} {sz : Nat} {w w' : World} {v : Value} {l : List α}
theorem OwnG.of {xs : List Value} (h : w.ownsRow B e sz v l.length xs) (hc : Chunks (R w) sz l xs) : OwnG R B e sz w v l := by
  obtain ⟨A, c, rfl⟩ := own_slice_ h
  exact ⟨A, c, xs, rfl, h, hc⟩
theorem OwnG.kept {row : Option Nat} (h : OwnG R B e sz w v l) (hg : w.grownBy w' row) (hr : ∀ k, v.ownBlock = some k → row ≠ some k) (hR : ∀ a cs, R w a cs → R w' a cs) : OwnG R B e sz w' v l := by
  obtain ⟨A, c, xs, rfl, ho, hc⟩ := h
  exact ⟨A, c, xs, rfl, own_apart_ ho hg hr, hc.mono hR⟩
theorem OwnG.grown {row : Option Nat} (h : OwnG R B e sz w v l) (hg : w.grownBy w' row) (hr : ∀ k, row = some k → k < B) (hR : ∀ a cs, R w a cs → R w' a cs) : OwnG R B e sz w' v l := by
  obtain ⟨A, c, xs, rfl, ho, hc⟩ := h
  exact ⟨A, c, xs, rfl, own_apart_ ho hg (fun k hk e => by have := (ho.lt k hk).1; have := hr k e; omega), hc.mono hR⟩
theorem OwnG.below (h : OwnG R B e sz w v l) (hb : Below w.heap.size w w') (hR : ∀ a cs, R w a cs → R w' a cs) : OwnG R B e sz w' v l := by
  obtain ⟨A, c, xs, rfl, ho, hc⟩ := h
  exact ⟨A, c, xs, rfl, own_below ho hb, hc.mono hR⟩
theorem OwnG.lower (h : OwnG R B e sz w v l) (hB : B' ≤ B) (hR : ∀ a cs, R w a cs → R' w a cs) : OwnG R' B' e sz w v l := by
  obtain ⟨A, c, xs, rfl, ho, hc⟩ := h
  exact ⟨A, c, xs, rfl, own_lower ho hB, hc.mono hR⟩
theorem OwnG.ge (h : OwnG R B e sz w v l) (k : Nat) (hk : v.ownBlock = some k) : B ≤ k ∧ k < w.heap.size := by
  obtain ⟨A, c, xs, rfl, ho, _⟩ := h
  exact ho.lt k hk
theorem OwnG.nil : OwnG R B e sz w (.slice Option.none 0 0) ([] : List α) := ⟨_, 0, [], rfl, World.ownsRow_nil _ _ _ _, rfl⟩
theorem OwnG.empty (hB : B ≤ w.heap.size) : OwnG R B e sz (w.alloc (.cells #[] e)) (.slice (some ⟨w.heap.size, 0, Option.none⟩) 0 0) ([] : List α) :=
  ⟨_, 0, [], rfl, ⟨by simp, .inr ⟨w.heap.size, 0, #[], rfl, hB, heap_alloc_new w _, Nat.le_refl _, by simp [maxLen], by simp, by simp⟩⟩, rfl⟩
/-- As it reads. -/
theorem OwnG.rd (hb : l.length ≤ 9223372036854775807) (h : OwnG R B e sz w v l) : ∃ A c, v = .slice A l.length c ∧ RdL R sz w A l := by
  obtain ⟨A, c, xs, rfl, ho, hc⟩ := h
  refine ⟨A, c, rfl, hb, fun hn => ?_⟩
  obtain ⟨g, cap, hv, _, _⟩ := ho.form hn
  simp only [Value.slice.injEq, true_and] at hv
  obtain ⟨rfl, rfl⟩ := hv
  refine ⟨g, 0, rfl, fun k hk => ?_⟩
  obtain ⟨cs, h1, h2, h3⟩ := hc.at k hk
  refine ⟨cs, h1, h2, fun j u hu => ?_⟩
  have h4 := h3 j u hu
  have hlt : k * sz + j < l.length * sz := by rw [← hc.length]; exact (List.getElem?_eq_some_iff.1 h4).1
  rw [Nat.zero_add, ho.cellAt _ hlt]; exact h4
end
theorem RdL.chunks {α : Type} {R : World → α → List Value → Prop} {sz : Nat} {w : World} {b off : Nat} {l : List α} (h : RdL R sz w (some ⟨b, off, none⟩) l) : ∃ xs, Chunks (R w) sz l xs ∧ ∀ j u, xs[j]? = some u → w.cell? ((⟨b, off, none⟩ : Addr).add j) = some u := by
  rcases Nat.eq_zero_or_pos l.length with h0 | h0
  · obtain rfl := List.eq_nil_of_length_eq_zero h0
    exact ⟨[], rfl, by simp⟩
  · obtain ⟨b', off', e, hc⟩ := h.2 h0
    simp only [Option.some.injEq, Addr.mk.injEq, and_true] at e
    obtain ⟨rfl, rfl⟩ := e
    obtain ⟨xs, h1, h2⟩ := chunks_of l off hc
    exact ⟨xs, h1, fun j u hu => by rw [Addr.add_lit]; exact h2 j u hu⟩
theorem rd_blockG {α : Type} {R : World → α → List Value → Prop} {sz : Nat} {w : World} {g : Nat} {cs : Array Value} {t : TypeId} {q : α} (hg : w.heap[g]? = some (.cells cs t (0, 0))) (hl : cs.size = sz) (hq : R w q cs.toList) : RdL R sz w (some ⟨g, 0, Option.none⟩) [q] :=
  ⟨by simp, fun _ => ⟨g, 0, rfl, fun k hk => by
    obtain rfl : k = 0 := by simp at hk; omega
    exact ⟨cs.toList, by simpa using hl, hq, fun j v hv => by
      simp only [Nat.zero_mul, Nat.zero_add]
      rw [cell_of_row w g _ cs t (0, 0) hg, ← Array.getElem?_toList, hv]⟩⟩⟩
theorem run_appendG {α : Type} {R : World → α → List Value → Prop} {P : Program} (w : World) (B : Nat) (t ty e : TypeId) (i : TypeInfo) (z : Value) (sz bytes : Nat) (ht : P.underlying t = some (.slice e)) (hi : P.info? e = some i) (hz : i.zero = some z)
    (hsize : i.size = sz) (hby : i.bytes = bytes) (hzs : z.cells.size = sz) (hsz : 0 < sz) (hone : ∀ a cs, R w a cs → ∀ u ∈ cs, u.oneCell' = true)
    (v : Value) (l : List α) (hown : OwnG R B e sz w v l) (A : Option Addr) (l2 : List α) (c : Nat) (hr : RdL R sz w A l2) (hR : ∀ w', w.grownBy w' v.ownBlock → ∀ a cs, R w a cs → R w' a cs)
    (hbytes : (l.length + l2.length) * bytes ≤ 140737488355328) (h63 : l.length + l2.length ≤ 9223372036854775807) (hbase : B ≤ w.heap.size) :
    ∃ v' w', (Builtin.append_ #[t, t] ty #[v, .slice A l2.length c]).run P w = .ok v' w' ∧ OwnG R B e sz w' v' (l ++ l2) ∧ w.grownBy w' v.ownBlock ∧ (v'.ownBlock = v.ownBlock ∨ v'.ownBlock = some w.heap.size) := by
  obtain ⟨A0, c0, xs, rfl, ho, hc⟩ := hown
  rcases Nat.eq_zero_or_pos l2.length with h0 | h0
  · obtain rfl := List.eq_nil_of_length_eq_zero h0
    refine ⟨.slice A0 l.length c0, w, ?_, ⟨A0, c0, xs, by simp, by simpa using ho, by simpa using hc⟩, World.grownBy.refl w _, .inl rfl⟩
    rcases ho.2 with ⟨h1, h2⟩ | ⟨g, cap, cur, h1, _, _, hnc, _⟩
    · rw [h1]; cases A <;> simp [Builtin.append_, run_underlying ht, sizeOf, typeInfo, hi, Builtin.lenOf, Builtin.firstCells, loadCells, loadCellsFrom]
    · rw [h1]; cases A <;> simp [Builtin.append_, run_underlying ht, sizeOf, typeInfo, hi, Builtin.lenOf, Builtin.firstCells, hnc, storeCells, loadCells, loadCellsFrom]
  · obtain ⟨b, off, rfl, _⟩ := hr.2 h0
    obtain ⟨ys, h1, h2⟩ := hr.chunks
    obtain ⟨v', w', g1, g2, g3, _, g5⟩ := run_append_own_at (P := P) w B t ty e i z sz bytes ht hi hz hsize hby hzs hsz (.slice A0 l.length c0) l.length xs ho ⟨b, off, none⟩ l2.length c ys h1.length h2 (h1.all hone) (by simp only [maxLen]; omega) hbytes hbase
    exact ⟨v', w', g1, OwnG.of (by simpa using g2) ((hc.append h1).mono (hR w' g3)), g3, g5⟩
theorem op_appendG {α : Type} {R : World → α → List Value → Prop} {P : Program} {w : World} {o : Oper} {a : Act} {K : Act → World → Prop} {Q : Exit → Act → World → Prop} (s x : Operand) (t e : TypeId) (z : Value) (sz bytes : Nat)
    (ho : o.op = .call { callee := .builtin .append, args := #[s, x], argTypes := #[t, t] }) (ht : P.underlying t = some (.slice e)) (hinfo : (P.info? e).map (fun i => (i.zero, i.size, i.bytes)) = some (some z, sz, bytes))
    (hzs : z.cells.size = sz) (hsz : 0 < sz) (hone : ∀ a cs, R w a cs → ∀ u ∈ cs, u.oneCell' = true)
    {B c : Nat} {A : Option Addr} {l l2 : List α} {v : Value} (hs : a.eval s = v) (hown : OwnG R B e sz w v l) (hx : a.eval x = .slice A l2.length c) (hr : RdL R sz w A l2) (hR : ∀ w', w.grownBy w' v.ownBlock → ∀ a cs, R w a cs → R w' a cs)
    (hbytes : (l.length + l2.length) * bytes ≤ 140737488355328) (h63 : l.length + l2.length ≤ 9223372036854775807) (hbase : B ≤ w.heap.size)
    (h : ∀ v' w', OwnG R B e sz w' v' (l ++ l2) → Below B w w' → w.grownBy w' v.ownBlock → (v'.ownBlock = v.ownBlock ∨ v'.ownBlock = some w.heap.size) → K (a.put o.dst v') w') : o.wp P a w K Q := by
  obtain ⟨i, hi, hz, hsize, hby⟩ := info_parts hinfo
  obtain ⟨v', w', h1, h2, h3, h4⟩ := run_appendG (P := P) w B t o.type e i z sz bytes ht hi hz hsize hby hzs hsz hone v l hown A l2 c hr hR hbytes h63 hbase
  unfold Oper.wp execOp
  simp only [ho, resolve, invoke, builtin, Sem.run_bind, Sem.run_pure, Result.andThen_ok, List.map_toArray, List.map_cons, List.map_nil, hs, hx, h1]
  exact h v' w' h2 (grown_below h3 hbase (fun k hk => (hown.ge k hk).1)) h3 h4
theorem wpList_appendG {α : Type} {R : World → α → List Value → Prop} {P : Program} {w : World} {ops : Array Oper} {rest : List Oper} {o : Oper} {a : Act} {Q : Exit → Act → World → Prop} (hgd : o.guard = Option.none) (s x : Operand) (t e : TypeId) (z : Value) (sz bytes : Nat)
    (ho : o.op = .call { callee := .builtin .append, args := #[s, x], argTypes := #[t, t] }) (ht : P.underlying t = some (.slice e)) (hinfo : (P.info? e).map (fun i => (i.zero, i.size, i.bytes)) = some (some z, sz, bytes))
    (hzs : z.cells.size = sz) (hsz : 0 < sz) (hone : ∀ a cs, R w a cs → ∀ u ∈ cs, u.oneCell' = true)
    {B c : Nat} {A : Option Addr} {l l2 : List α} (hown : OwnG R B e sz w (a.eval s) l) (hx : a.eval x = .slice A l2.length c) (hr : RdL R sz w A l2) (hR : ∀ w', w.grownBy w' (a.eval s).ownBlock → ∀ a cs, R w a cs → R w' a cs)
    (hbytes : (l.length + l2.length) * bytes ≤ 140737488355328) (h63 : l.length + l2.length ≤ 9223372036854775807) (hbase : B ≤ w.heap.size)
    (h : ∀ v' w', OwnG R B e sz w' v' (l ++ l2) → Below B w w' → w.grownBy w' (a.eval s).ownBlock → (v'.ownBlock = (a.eval s).ownBlock ∨ v'.ownBlock = some w.heap.size) → wpList P ops Q rest (a.put o.dst v') w') : wpList P ops Q (o :: rest) a w :=
  wpList_plain hgd fun _ hK => op_appendG s x t e z sz bytes ho ht hinfo hzs hsz hone rfl hown hx hr hR hbytes h63 hbase fun v' w' h2 h3 h4 h5 => hK _ _ (h v' w' h2 h3 h4 h5)
end Go.Proofs.Ytdpiaiblpafglaa

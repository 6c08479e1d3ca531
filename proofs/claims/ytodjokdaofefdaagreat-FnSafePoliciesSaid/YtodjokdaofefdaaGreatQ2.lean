/- General lemmas, continued: slices of one's own whose elements hold more than their own cells. -/
import Derived.Test.YtodjokdaofefdaaGreatQ1
namespace Go.Proofs.YtodjokdaofefdaaGreat
set_option linter.unusedSimpArgs false
set_option linter.unusedVariables false
open Go.RowKit

/-- The cells of a list's elements, one behind the other. -/
def Chunks {α : Type} (R : α → List Value → Prop) (sz : Nat) : List α → List Value → Prop
  | [], xs => xs = []
  | a :: l, xs => ∃ c r, xs = c ++ r ∧ c.length = sz ∧ R a c ∧ Chunks R sz l r
section
variable {α : Type} {R R' : α → List Value → Prop} {sz : Nat}
theorem Chunks.length {l : List α} {xs : List Value} (h : Chunks R sz l xs) : xs.length = l.length * sz := by
  induction l generalizing xs with
  | nil => rw [h]; simp
  | cons a l ih =>
    obtain ⟨c, r, rfl, h1, _, h2⟩ := h
    rw [List.length_append, ih h2, h1, List.length_cons, Nat.add_mul]; omega
theorem Chunks.mono {l : List α} {xs : List Value} (hR : ∀ a cs, R a cs → R' a cs) (h : Chunks R sz l xs) : Chunks R' sz l xs := by
  induction l generalizing xs with
  | nil => exact h
  | cons a l ih => obtain ⟨c, r, rfl, h1, h2, h3⟩ := h; exact ⟨c, r, rfl, h1, hR _ _ h2, ih h3⟩
theorem Chunks.append {l l2 : List α} {xs ys : List Value} (h : Chunks R sz l xs) (h2 : Chunks R sz l2 ys) : Chunks R sz (l ++ l2) (xs ++ ys) := by
  induction l generalizing xs with
  | nil => rw [show xs = [] from h]; exact h2
  | cons a l ih =>
    obtain ⟨c, r, rfl, h1, h3, h4⟩ := h
    exact ⟨c, r ++ ys, by rw [List.append_assoc], h1, h3, ih h4⟩
theorem Chunks.one {a : α} {c : List Value} (h1 : c.length = sz) (h : R a c) : Chunks R sz [a] c := ⟨c, [], by simp, h1, h, rfl⟩
theorem Chunks.at {l : List α} {xs : List Value} (h : Chunks R sz l xs) : ∀ k (hk : k < l.length), ∃ c : List Value, c.length = sz ∧ R l[k] c ∧ ∀ j v, c[j]? = some v → xs[k * sz + j]? = some v := by
  induction l generalizing xs with
  | nil => intro k hk; simp at hk
  | cons a l ih =>
    obtain ⟨c, r, rfl, h1, h2, h3⟩ := h
    intro k hk
    cases k with
    | zero =>
      refine ⟨c, h1, h2, fun j v hv => ?_⟩
      have hj := (List.getElem?_eq_some_iff.1 hv).1
      rw [Nat.zero_mul, Nat.zero_add, List.getElem?_append_left hj]; exact hv
    | succ k =>
      obtain ⟨c', h4, h5, h6⟩ := ih h3 k (by simpa using hk)
      refine ⟨c', h4, h5, fun j v hv => ?_⟩
      rw [List.getElem?_append_right (by rw [h1, Nat.add_mul]; omega), show (k + 1) * sz + j - c.length = k * sz + j by rw [h1, Nat.add_mul]; omega]
      exact h6 j v hv
theorem Chunks.all {l : List α} {xs : List Value} {p : Value → Prop} (h : Chunks R sz l xs) (hp : ∀ a cs, R a cs → ∀ u ∈ cs, p u) : ∀ u ∈ xs, p u := by
  induction l generalizing xs with
  | nil => rw [show xs = [] from h]; simp
  | cons a l ih =>
    obtain ⟨c, r, rfl, _, h2, h3⟩ := h
    intro u hu
    rcases List.mem_append.1 hu with hu | hu
    · exact hp _ _ h2 u hu
    · exact ih h3 u hu
/-- What reads as a list has its cells one behind the other. -/
theorem chunks_of {w : World} {b : Nat} (l : List α) : ∀ off, (∀ k (hk : k < l.length), ∃ cs : List Value, cs.length = sz ∧ R l[k] cs ∧ ∀ j v, cs[j]? = some v → w.cell? ⟨b, off + k * sz + j, none⟩ = some v) →
    ∃ xs, Chunks R sz l xs ∧ ∀ j v, xs[j]? = some v → w.cell? ⟨b, off + j, none⟩ = some v := by
  induction l with
  | nil => exact fun _ _ => ⟨[], rfl, by simp⟩
  | cons a l ih =>
    intro off h
    obtain ⟨c, h1, h2, h3⟩ := h 0 (by simp)
    obtain ⟨r, h4, h5⟩ := ih (off + sz) (fun k hk => by
      obtain ⟨cs, g1, g2, g3⟩ := h (k + 1) (by simpa using hk)
      refine ⟨cs, g1, g2, fun j v hv => ?_⟩
      have := g3 j v hv
      rwa [Nat.add_mul, Nat.one_mul, show off + (k * sz + sz) + j = off + sz + k * sz + j by omega] at this)
    refine ⟨c ++ r, ⟨c, r, rfl, h1, h2, h4⟩, fun j v hv => ?_⟩
    by_cases hj : j < c.length
    · rw [List.getElem?_append_left hj] at hv
      have := h3 j v hv
      simpa using this
    · rw [List.getElem?_append_right (by omega), h1] at hv
      have := h5 (j - sz) v hv
      rwa [show off + sz + (j - sz) = off + j by omega] at this
end
/-- A slice of one's own whose elements read as the list l, in the sense of R. -/
def OwnG {α : Type} (R : World → α → List Value → Prop) (B : Nat) (e : TypeId) (sz : Nat) (w : World) (v : Value) (l : List α) : Prop :=
  ∃ A c xs, v = .slice A l.length c ∧ w.ownsRow B e sz (.slice A l.length c) l.length xs ∧ Chunks (R w) sz l xs
section
variable {α : Type} {R R' : World → α → List Value → Prop} {B B' : Nat} {e : TypeId} {sz : Nat} {w w' : World} {v : Value} {l : List α}
theorem OwnG.of {xs : List Value} (h : w.ownsRow B e sz v l.length xs) (hc : Chunks (R w) sz l xs) : OwnG R B e sz w v l := by
  obtain ⟨A, c, rfl⟩ := own_slice_ h
  exact ⟨A, c, xs, rfl, h, hc⟩
theorem OwnG.kept {row : Option Nat} (h : OwnG R B e sz w v l) (hg : w.grownBy w' row) (hr : ∀ k, v.ownBlock = some k → row ≠ some k) (hR : ∀ a cs, R w a cs → R w' a cs) : OwnG R B e sz w' v l := by
  obtain ⟨A, c, xs, rfl, ho, hc⟩ := h
  exact ⟨A, c, xs, rfl, own_apart_ ho hg hr, hc.mono hR⟩
theorem OwnG.grown {row : Option Nat} (h : OwnG R B e sz w v l) (hg : w.grownBy w' row) (hr : ∀ k, row = some k → k < B) (hR : ∀ a cs, R w a cs → R w' a cs) : OwnG R B e sz w' v l := by
  obtain ⟨A, c, xs, rfl, ho, hc⟩ := h
  exact ⟨A, c, xs, rfl, own_apart_ ho hg (fun k hk e => by have := (ho.lt k hk).1; have := hr k e; omega), hc.mono hR⟩
theorem OwnG.below (h : OwnG R B e sz w v l) (hb : Below w.heap.size w w') (hR : ∀ a cs, R w a cs → R w' a cs) : OwnG R B e sz w' v l := by
  obtain ⟨A, c, xs, rfl, ho, hc⟩ := h
  exact ⟨A, c, xs, rfl, own_below ho hb, hc.mono hR⟩
theorem OwnG.lower (h : OwnG R B e sz w v l) (hB : B' ≤ B) (hR : ∀ a cs, R w a cs → R' w a cs) : OwnG R' B' e sz w v l := by
  obtain ⟨A, c, xs, rfl, ho, hc⟩ := h
  exact ⟨A, c, xs, rfl, own_lower ho hB, hc.mono hR⟩
theorem OwnG.ge (h : OwnG R B e sz w v l) (k : Nat) (hk : v.ownBlock = some k) : B ≤ k ∧ k < w.heap.size := by
  obtain ⟨A, c, xs, rfl, ho, _⟩ := h
  exact ho.lt k hk
theorem OwnG.nil : OwnG R B e sz w (.slice Option.none 0 0) ([] : List α) := ⟨_, 0, [], rfl, World.ownsRow_nil _ _ _ _, rfl⟩
theorem OwnG.empty (hB : B ≤ w.heap.size) : OwnG R B e sz (w.alloc (.cells #[] e)) (.slice (some ⟨w.heap.size, 0, Option.none⟩) 0 0) ([] : List α) :=
  ⟨_, 0, [], rfl, ⟨by simp, .inr ⟨w.heap.size, 0, #[], rfl, hB, heap_alloc_new w _, Nat.le_refl _, by simp [maxLen], by simp, by simp⟩⟩, rfl⟩
/-- As it reads. -/
theorem OwnG.rd (hb : l.length ≤ 9223372036854775807) (h : OwnG R B e sz w v l) : ∃ A c, v = .slice A l.length c ∧ RdL R sz w A l := by
  obtain ⟨A, c, xs, rfl, ho, hc⟩ := h
  refine ⟨A, c, rfl, hb, fun hn => ?_⟩
  obtain ⟨g, cap, hv, _, _⟩ := ho.form hn
  simp only [Value.slice.injEq, true_and] at hv
  obtain ⟨rfl, rfl⟩ := hv
  refine ⟨g, 0, rfl, fun k hk => ?_⟩
  obtain ⟨cs, h1, h2, h3⟩ := hc.at k hk
  refine ⟨cs, h1, h2, fun j u hu => ?_⟩
  have h4 := h3 j u hu
  have hlt : k * sz + j < l.length * sz := by rw [← hc.length]; exact (List.getElem?_eq_some_iff.1 h4).1
  rw [Nat.zero_add, ho.cellAt _ hlt]; exact h4
end
theorem RdL.chunks {α : Type} {R : World → α → List Value → Prop} {sz : Nat} {w : World} {b off : Nat} {l : List α} (h : RdL R sz w (some ⟨b, off, none⟩) l) : ∃ xs, Chunks (R w) sz l xs ∧ ∀ j u, xs[j]? = some u → w.cell? ((⟨b, off, none⟩ : Addr).add j) = some u := by
  rcases Nat.eq_zero_or_pos l.length with h0 | h0
  · obtain rfl := List.eq_nil_of_length_eq_zero h0
    exact ⟨[], rfl, by simp⟩
  · obtain ⟨b', off', e, hc⟩ := h.2 h0
    simp only [Option.some.injEq, Addr.mk.injEq, and_true] at e
    obtain ⟨rfl, rfl⟩ := e
    obtain ⟨xs, h1, h2⟩ := chunks_of l off hc
    exact ⟨xs, h1, fun j u hu => by rw [Addr.add_lit]; exact h2 j u hu⟩
theorem rd_blockG {α : Type} {R : World → α → List Value → Prop} {sz : Nat} {w : World} {g : Nat} {cs : Array Value} {t : TypeId} {q : α} (hg : w.heap[g]? = some (.cells cs t (0, 0))) (hl : cs.size = sz) (hq : R w q cs.toList) : RdL R sz w (some ⟨g, 0, Option.none⟩) [q] :=
  ⟨by simp, fun _ => ⟨g, 0, rfl, fun k hk => by
    obtain rfl : k = 0 := by simp at hk; omega
    exact ⟨cs.toList, by simpa using hl, hq, fun j v hv => by
      simp only [Nat.zero_mul, Nat.zero_add]
      rw [cell_of_row w g _ cs t (0, 0) hg, ← Array.getElem?_toList, hv]⟩⟩⟩
theorem run_appendG {α : Type} {R : World → α → List Value → Prop} {P : Program} (w : World) (B : Nat) (t ty e : TypeId) (i : TypeInfo) (z : Value) (sz bytes : Nat) (ht : P.underlying t = some (.slice e)) (hi : P.info? e = some i) (hz : i.zero = some z)
    (hsize : i.size = sz) (hby : i.bytes = bytes) (hzs : z.cells.size = sz) (hsz : 0 < sz) (hone : ∀ a cs, R w a cs → ∀ u ∈ cs, u.oneCell' = true)
    (v : Value) (l : List α) (hown : OwnG R B e sz w v l) (A : Option Addr) (l2 : List α) (c : Nat) (hr : RdL R sz w A l2) (hR : ∀ w', w.grownBy w' v.ownBlock → ∀ a cs, R w a cs → R w' a cs)
    (hbytes : (l.length + l2.length) * bytes ≤ 140737488355328) (h63 : l.length + l2.length ≤ 9223372036854775807) (hbase : B ≤ w.heap.size) :
    ∃ v' w', (Builtin.append_ #[t, t] ty #[v, .slice A l2.length c]).run P w = .ok v' w' ∧ OwnG R B e sz w' v' (l ++ l2) ∧ w.grownBy w' v.ownBlock ∧ (v'.ownBlock = v.ownBlock ∨ v'.ownBlock = some w.heap.size) := by
  obtain ⟨A0, c0, xs, rfl, ho, hc⟩ := hown
  rcases Nat.eq_zero_or_pos l2.length with h0 | h0
  · obtain rfl := List.eq_nil_of_length_eq_zero h0
    refine ⟨.slice A0 l.length c0, w, ?_, ⟨A0, c0, xs, by simp, by simpa using ho, by simpa using hc⟩, World.grownBy.refl w _, .inl rfl⟩
    rcases ho.2 with ⟨h1, h2⟩ | ⟨g, cap, cur, h1, _, _, hnc, _⟩
    · rw [h1]; cases A <;> simp [Builtin.append_, run_underlying ht, sizeOf, typeInfo, hi, Builtin.lenOf, Builtin.firstCells, loadCells, loadCellsFrom]
    · rw [h1]; cases A <;> simp [Builtin.append_, run_underlying ht, sizeOf, typeInfo, hi, Builtin.lenOf, Builtin.firstCells, hnc, storeCells, loadCells, loadCellsFrom]
  · obtain ⟨b, off, rfl, _⟩ := hr.2 h0
    obtain ⟨ys, h1, h2⟩ := hr.chunks
    obtain ⟨v', w', g1, g2, g3, _, g5⟩ := run_append_own_at (P := P) w B t ty e i z sz bytes ht hi hz hsize hby hzs hsz (.slice A0 l.length c0) l.length xs ho ⟨b, off, none⟩ l2.length c ys h1.length h2 (h1.all hone) (by simp only [maxLen]; omega) hbytes hbase
    exact ⟨v', w', g1, OwnG.of (by simpa using g2) ((hc.append h1).mono (hR w' g3)), g3, g5⟩
theorem op_appendG {α : Type} {R : World → α → List Value → Prop} {P : Program} {w : World} {o : Oper} {a : Act} {K : Act → World → Prop} {Q : Exit → Act → World → Prop} (s x : Operand) (t e : TypeId) (z : Value) (sz bytes : Nat)
    (ho : o.op = .call { callee := .builtin .append, args := #[s, x], argTypes := #[t, t] }) (ht : P.underlying t = some (.slice e)) (hinfo : (P.info? e).map (fun i => (i.zero, i.size, i.bytes)) = some (some z, sz, bytes))
    (hzs : z.cells.size = sz) (hsz : 0 < sz) (hone : ∀ a cs, R w a cs → ∀ u ∈ cs, u.oneCell' = true)
    {B c : Nat} {A : Option Addr} {l l2 : List α} {v : Value} (hs : a.eval s = v) (hown : OwnG R B e sz w v l) (hx : a.eval x = .slice A l2.length c) (hr : RdL R sz w A l2) (hR : ∀ w', w.grownBy w' v.ownBlock → ∀ a cs, R w a cs → R w' a cs)
    (hbytes : (l.length + l2.length) * bytes ≤ 140737488355328) (h63 : l.length + l2.length ≤ 9223372036854775807) (hbase : B ≤ w.heap.size)
    (h : ∀ v' w', OwnG R B e sz w' v' (l ++ l2) → Below B w w' → w.grownBy w' v.ownBlock → (v'.ownBlock = v.ownBlock ∨ v'.ownBlock = some w.heap.size) → K (a.put o.dst v') w') : o.wp P a w K Q := by
  obtain ⟨i, hi, hz, hsize, hby⟩ := info_parts hinfo
  obtain ⟨v', w', h1, h2, h3, h4⟩ := run_appendG (P := P) w B t o.type e i z sz bytes ht hi hz hsize hby hzs hsz hone v l hown A l2 c hr hR hbytes h63 hbase
  unfold Oper.wp execOp
  simp only [ho, resolve, invoke, builtin, Sem.run_bind, Sem.run_pure, Result.andThen_ok, List.map_toArray, List.map_cons, List.map_nil, hs, hx, h1]
  exact h v' w' h2 (grown_below h3 hbase (fun k hk => (hown.ge k hk).1)) h3 h4
end Go.Proofs.YtodjokdaofefdaaGreat
/- Structs with one slice of flat elements: how slices of them read; rows of one's own. -/
namespace Go.Proofs.YtodjokdaofefdaaGreat
set_option linter.unusedSimpArgs false
set_option linter.unusedVariables false
open Go.RowKit

/-- A type of structs with one slice field: its cells (the slice's value apart), the slice's elements. -/
structure Nst (α β : Type) where
  cells : α → Value → List Value
  inner : α → List β
  enc : β → List Value
  isz : Nat
  iT : TypeId
structure Nst.Good {α β : Type} (N : Nst α β) (oT : TypeId) : Prop where
  one : ∀ r v, v.oneCell' = true → ∀ u ∈ N.cells r v, u.oneCell' = true
  encl : ∀ b, (N.enc b).length = N.isz
  ipos : 0 < N.isz
  ne : N.iT ≠ oT
section
variable {α β : Type} {N : Nst α β} {oT : TypeId} {osz B B' B0 B1 : Nat} {w w' : World} {A : Option Addr} {l : List α} {r : α} {cs : List Value}
theorem rdl_lt {enc : β → List Value} {sz : Nat} {l : List β} (hp : 0 < sz) (h : RdL (Flat enc) sz w A l) (hn : 0 < l.length) (a : Addr) (ha : A = some a) : a.block < w.heap.size := by
  obtain ⟨b, off, e, hc⟩ := h.2 hn
  subst ha
  simp only [Option.some.injEq] at e
  subst e
  obtain ⟨cs, h1, _, h3⟩ := hc 0 hn
  have h4 := h3 0 (cs[0]'(by omega)) (List.getElem?_eq_getElem _)
  have h5 := block_lt_of_cell h4
  simpa using h5
theorem rdl_belowB {enc : β → List Value} {sz : Nat} {l : List β} (h : RdL (Flat enc) sz w A l) (hlt : 0 < l.length → ∀ a, A = some a → a.block < B0) (hb : ∀ k, k < B0 → w'.heap[k]? = w.heap[k]?) : RdL (Flat enc) sz w' A l := by
  refine ⟨h.1, fun hn => ?_⟩
  obtain ⟨b, off, e, hc⟩ := h.2 hn
  refine ⟨b, off, e, fun k hk => ?_⟩
  obtain ⟨cs, h1, h2, h3⟩ := hc k hk
  refine ⟨cs, h1, h2, fun j v hv => ?_⟩
  have h4 := h3 j v hv
  have h5 := hlt hn _ e
  rw [← h4]
  exact World.cell?_of_block (hb _ h5)
def Nst.R (N : Nst α β) (B0 : Nat) (w : World) (r : α) (cs : List Value) : Prop := ∃ A c, cs = N.cells r (.slice A (N.inner r).length c) ∧ RdL (Flat N.enc) N.isz w A (N.inner r) ∧ (0 < (N.inner r).length → ∀ a, A = some a → a.block < B0)
def Nst.O (N : Nst α β) (B : Nat) (w : World) (r : α) (cs : List Value) : Prop := ∃ v, cs = N.cells r v ∧ OwnA B N.iT N.isz N.enc w v (N.inner r)
theorem Nst.R.belowB (h : N.R B0 w r cs) (hb : ∀ k, k < B0 → w'.heap[k]? = w.heap[k]?) : N.R B0 w' r cs := by
  obtain ⟨A, c, h1, h2, h3⟩ := h
  exact ⟨A, c, h1, rdl_belowB h2 h3 hb, h3⟩
theorem Nst.R.up (h : N.R B0 w r cs) (hB : B0 ≤ B1) : N.R B1 w r cs := by
  obtain ⟨A, c, h1, h2, h3⟩ := h
  exact ⟨A, c, h1, h2, fun hn a ha => Nat.lt_of_lt_of_le (h3 hn a ha) hB⟩
theorem Nst.R.mono (hB : B0 ≤ w.heap.size) (hb : Below w.heap.size w w') (h : N.R B0 w r cs) : N.R B0 w' r cs := h.belowB (fun k hk => hb.block k (by omega))
theorem Nst.O.one (hN : N.Good oT) (h : N.O B w r cs) : ∀ u ∈ cs, u.oneCell' = true := by
  obtain ⟨v, rfl, A, c, rfl, _⟩ := h
  exact hN.one r _ rfl
theorem Nst.R.one (hN : N.Good oT) (h : N.R B w r cs) : ∀ u ∈ cs, u.oneCell' = true := by
  obtain ⟨A, c, rfl, _⟩ := h
  exact hN.one r _ rfl
theorem Nst.O.rd (hN : N.Good oT) (h : N.O B w r cs) (hn : (N.inner r).length ≤ 9223372036854775807) : N.R w.heap.size w r cs := by
  obtain ⟨v, rfl, ho⟩ := h
  obtain ⟨A, c, rfl, hr⟩ := OwnA.rd hN.encl hn ho
  exact ⟨A, c, rfl, hr, fun h0 a ha => rdl_lt hN.ipos hr h0 a ha⟩
theorem Nst.O.below (hb : Below w.heap.size w w') (h : N.O B w r cs) : N.O B w' r cs := let ⟨v, h1, h2⟩ := h; ⟨v, h1, h2.below hb⟩
theorem Nst.O.lower (hB : B' ≤ B) (h : N.O B w r cs) : N.O B' w r cs := let ⟨v, h1, h2⟩ := h; ⟨v, h1, h2.lower hB⟩
/-- Only rows of the structs turn: what is in them stays. -/
theorem Nst.O.row (hN : N.Good oT) {row : Option Nat} (hg : w.grownBy w' row) (hrow : ∀ k, row = some k → ∃ cs fr, w.heap[k]? = some (.cells cs oT fr)) (h : N.O B w r cs) : N.O B w' r cs := by
  obtain ⟨v, h1, A, c, rfl, ho⟩ := h
  refine ⟨_, h1, A, c, rfl, own_apart_ ho hg (fun k hk e => ?_)⟩
  obtain ⟨cs, fr, hx⟩ := hrow k e
  rcases ho.2 with ⟨h1, _⟩ | ⟨g2, cap, cur, hv, _, hx2, _⟩
  · rw [h1] at hk; cases hk
  · rw [hv] at hk
    simp only [Value.ownBlock, Option.some.injEq] at hk
    subst hk
    rw [hx] at hx2
    simp only [Option.some.injEq, Obj.cells.injEq] at hx2
    exact absurd hx2.2.1 (fun h => hN.ne h.symm)
/-- The slice with the address A reads as l. -/
def Nst.rdl (N : Nst α β) (osz : Nat) (w : World) (A : Option Addr) (l : List α) : Prop := RdL (N.R w.heap.size) osz w A l
theorem RdL.mono {α : Type} {R R' : World → α → List Value → Prop} {sz : Nat} {w w' : World} {A : Option Addr} {l : List α} (h : RdL R sz w A l) (hb : Below w.heap.size w w') (hR : ∀ a cs, R w a cs → R' w' a cs) : RdL R' sz w' A l :=
  ⟨h.1, fun hn => let ⟨b, off, e, hc⟩ := h.2 hn; ⟨b, off, e, fun k hk => let ⟨cs, h1, h2, h3⟩ := hc k hk; ⟨cs, h1, hR _ _ h2, fun j v hv => below_cell hb (h3 j v hv)⟩⟩⟩
theorem chunks_mem {α : Type} {R : α → List Value → Prop} {p : α → Prop} {sz : Nat} {l : List α} {xs : List Value} (hp : ∀ a ∈ l, p a) (h : Chunks R sz l xs) : Chunks (fun a cs => R a cs ∧ p a) sz l xs := by
  induction l generalizing xs with
  | nil => exact h
  | cons a l ih =>
    obtain ⟨c, r, rfl, h1, h2, h3⟩ := h
    exact ⟨c, r, rfl, h1, ⟨h2, hp a (by simp)⟩, ih (fun b hb => hp b (by simp [hb])) h3⟩
theorem Nst.rdl.below (h : N.rdl osz w A l) (hb : Below w.heap.size w w') : N.rdl osz w' A l := RdL.mono h hb (fun a cs h => (Nst.R.mono (Nat.le_refl _) hb h).up hb.size)
theorem Nst.rdl.regrown (h : N.rdl osz w A l) (d : Nat) (os : Array Obj) : N.rdl osz (Sort.grow (redrawn w d) os) A l := h.below (below_regrown w d os)
theorem Nst.rdl.len (h : N.rdl osz w A l) : l.length ≤ 9223372036854775807 := h.1
theorem Nst.rdl.own (hN : N.Good oT) {c : Nat} (hl : l.length ≤ 9223372036854775807) (hf : ∀ r ∈ l, (N.inner r).length ≤ 9223372036854775807) (h : OwnG (N.O B) B oT osz w (.slice A l.length c) l) : N.rdl osz w A l := by
  obtain ⟨A', c', xs, e, ho, hc⟩ := h
  have h2 : OwnG (fun w r cs => N.O B w r cs ∧ (N.inner r).length ≤ 9223372036854775807) B oT osz w (.slice A l.length c) l := ⟨A', c', xs, e, ho, chunks_mem hf hc⟩
  obtain ⟨A1, c1, e1, hr⟩ := h2.rd hl
  simp only [Value.slice.injEq, true_and] at e1
  obtain ⟨rfl, rfl⟩ := e1
  exact ⟨hr.1, fun hn => let ⟨b, off, e, hc⟩ := hr.2 hn; ⟨b, off, e, fun k hk => let ⟨cs, g1, g2, g3⟩ := hc k hk; ⟨cs, g1, Nst.O.rd hN g2.1 g2.2, g3⟩⟩⟩
end
theorem str_eq {x y : ByteArray} : x.toList = y.toList ↔ x = y := by
  constructor
  · intro h
    rw [Go.ByteArray.toList_eq, Go.ByteArray.toList_eq] at h
    exact ByteArray.ext (Array.toList_inj.1 h)
  · rintro rfl; rfl
theorem str_beq (x y : ByteArray) : (x.toList == y.toList) = decide (x = y) := by
  rw [Bool.eq_iff_iff]
  simp [str_eq]
theorem bcell {W w1 : World} (hb : Below W.heap.size W w1) : (∀ b o, b < W.heap.size → w1.cell? ⟨b, o, none⟩ = W.cell? ⟨b, o, none⟩) ∧ (∀ b o, b < W.heap.size → w1.frozen? ⟨b, o, none⟩ = W.frozen? ⟨b, o, none⟩) :=
  ⟨fun b o h => hb.cell (p := ⟨b, o, none⟩) h, fun b o h => hb.frozen (p := ⟨b, o, none⟩) h⟩
end Go.Proofs.YtodjokdaofefdaaGreat
/- The two functions that ask whether a number is in a range. -/
namespace Go.Proofs.YtodjokdaofefdaaGreat
set_option linter.unusedSimpArgs false
set_option linter.unusedVariables false
open Go.RowKit

set_option maxHeartbeats 400000 in
theorem l1In_any (n lo hi : Int) (w : World) :
    Calls Tryz.prog 23 #[.int .i64 n, .int .i64 lo, .int .i64 hi] w fun e w' => e = .returned (.bool (inB n lo hi)) ∧ Below w.heap.size w w' := by
  by_cases h1 : lo ≤ n
  all_goals
    go_enter Tryz.func23, Tryz.ntmps23
    go_wp2
    go_ret
    exact ⟨ret_bool (by simp [inB]; omega), Below.refl _ _⟩
set_option maxHeartbeats 400000 in
theorem in_any (n lo hi : Int) (w : World) :
    Calls Tryz.prog 18 #[.int .i64 n, .int .i64 lo, .int .i64 hi] w fun e w' => e = .returned (.bool (inB n lo hi)) ∧ Below w.heap.size w w' := by
  by_cases h1 : lo ≤ n
  all_goals
    go_enter Tryz.func18, Tryz.ntmps18
    go_wp2
    go_ret
    exact ⟨ret_bool (by simp [inB]; omega), Below.refl _ _⟩
end Go.Proofs.YtodjokdaofefdaaGreat
/- Expressions: trees; how they read, in which blocks they stand. -/
namespace Go.Proofs.YtodjokdaofefdaaGreat
set_option linter.unusedSimpArgs false
set_option linter.unusedVariables false
open Go.RowKit

inductive Ex where
  | nd (k n : Int) (s : ByteArray) (ps : List Ex)
def Ex.k : Ex → Int | .nd k _ _ _ => k
def Ex.n : Ex → Int | .nd _ n _ _ => n
def Ex.s : Ex → ByteArray | .nd _ _ s _ => s
def Ex.ps : Ex → List Ex | .nd _ _ _ ps => ps
theorem Ex.ext {a b : Ex} (h1 : a.k = b.k) (h2 : a.n = b.n) (h3 : a.s = b.s) (h4 : a.ps = b.ps) : a = b := by
  cases a; cases b
  simp only [Ex.k, Ex.n, Ex.s, Ex.ps] at h1 h2 h3 h4
  subst h1; subst h2; subst h3; subst h4; rfl
abbrev ExL := List Ex
def exD : Ex := .nd 0 0 ByteArray.empty []
def exAt (l : ExL) (k : Nat) : Ex := l.getD k exD
theorem exAt_eq {l : ExL} {k : Nat} (hk : k < l.length) : exAt l k = l[k] := by simp [exAt, hk]
def exHead (t : Ex) (v : Value) : List Value := [.int .i64 t.k, .int .i64 t.n, .string t.s, v]
/-- An expression at most d deep; its parts stand in blocks from lo on, below hi. -/
def exR : Nat → Nat → Nat → World → Ex → List Value → Prop
  | 0, _, _, _, _, _ => False
  | d + 1, lo, hi, w, t, cs => ∃ A c, cs = exHead t (.slice A t.ps.length c) ∧ RdL (exR d lo hi) 4 w A t.ps ∧ (0 < t.ps.length → ∀ a, A = some a → lo ≤ a.block ∧ a.block < hi) ∧ t.s.size ≤ 9223372036854775807
def exS (d lo hi : Nat) (w : World) (A : Option Addr) (l : ExL) : Prop := RdL (exR d lo hi) 4 w A l ∧ (0 < l.length → ∀ a, A = some a → lo ≤ a.block ∧ a.block < hi)
section
variable {d d' lo hi lo' hi' B : Nat} {w w' : World} {A : Option Addr} {l : ExL} {t : Ex} {cs : List Value}
theorem RdL.keep {α : Type} {R R' : World → α → List Value → Prop} {sz : Nat} {l : List α} (h : RdL R sz w A l) (hR : ∀ a cs, R w a cs → R' w' a cs) (hA : 0 < l.length → ∀ a, A = some a → w'.heap[a.block]? = w.heap[a.block]?) : RdL R' sz w' A l := by
  refine ⟨h.1, fun hn => ?_⟩
  obtain ⟨b, off, e, hc⟩ := h.2 hn
  refine ⟨b, off, e, fun k hk => ?_⟩
  obtain ⟨cs, h1, h2, h3⟩ := hc k hk
  refine ⟨cs, h1, hR _ _ h2, fun j v hv => ?_⟩
  have hb := hA hn _ e
  rw [World.cell?_of_block (by exact hb)]
  exact h3 j v hv
theorem exR.keep (hk : ∀ k, lo ≤ k → k < hi → w'.heap[k]? = w.heap[k]?) (h1 : lo' ≤ lo) (h2 : hi ≤ hi') : ∀ {d : Nat} {t : Ex} {cs : List Value}, exR d lo hi w t cs → exR d lo' hi' w' t cs
  | 0, _, _, h => h
  | d + 1, t, cs, ⟨A, c, e, h3, h4, h5⟩ => ⟨A, c, e, RdL.keep h3 (fun _ _ h => exR.keep hk h1 h2 h) (fun hn a ha => hk _ (h4 hn a ha).1 (h4 hn a ha).2), fun hn a ha => ⟨by have := (h4 hn a ha).1; omega, by have := (h4 hn a ha).2; omega⟩, h5⟩
theorem exS.keep (h : exS d lo hi w A l) (hk : ∀ k, lo ≤ k → k < hi → w'.heap[k]? = w.heap[k]?) (h1 : lo' ≤ lo) (h2 : hi ≤ hi') : exS d lo' hi' w' A l :=
  ⟨RdL.keep h.1 (fun _ _ h => exR.keep hk h1 h2 h) (fun hn a ha => hk _ (h.2 hn a ha).1 (h.2 hn a ha).2), fun hn a ha => ⟨by have := (h.2 hn a ha).1; omega, by have := (h.2 hn a ha).2; omega⟩⟩
theorem exS.below (h : exS d lo hi w A l) (hB : hi ≤ B) (hb : Below B w w') : exS d lo hi w' A l := h.keep (fun k _ hk => hb.block k (by omega)) (Nat.le_refl _) (Nat.le_refl _)
theorem exR.below (h : exR d lo hi w t cs) (hB : hi ≤ B) (hb : Below B w w') : exR d lo hi w' t cs := h.keep (fun k _ hk => hb.block k (by omega)) (Nat.le_refl _) (Nat.le_refl _)
theorem exS.wide (h : exS d lo hi w A l) (h1 : lo' ≤ lo) (h2 : hi ≤ hi') : exS d lo' hi' w A l := h.keep (fun _ _ _ => rfl) h1 h2
theorem exR.deeper : ∀ {d d' : Nat} {t : Ex} {cs : List Value}, d ≤ d' → exR d lo hi w t cs → exR d' lo hi w t cs
  | 0, _, _, _, _, h => h.elim
  | d + 1, 0, _, _, hd, _ => by omega
  | d + 1, d' + 1, t, cs, hd, ⟨A, c, e, h3, h4⟩ => ⟨A, c, e, RdL.keep h3 (fun _ _ h => exR.deeper (by omega) h) (fun _ _ _ => rfl), h4⟩
theorem exS.deeper (h : exS d lo hi w A l) (hd : d ≤ d') : exS d' lo hi w A l := ⟨RdL.keep h.1 (fun _ _ h => exR.deeper hd h) (fun _ _ _ => rfl), h.2⟩
theorem exS.nil : exS d lo hi w A [] := ⟨RdL.nil A, fun h => by simp at h⟩
theorem exS.len (h : exS d lo hi w A l) : l.length ≤ 9223372036854775807 := h.1.1
theorem exS.zero (h : exS 0 lo hi w A l) : l = [] := by
  cases l with
  | nil => rfl
  | cons x l =>
    obtain ⟨_, _, _, hc⟩ := h.1.2 (by simp)
    obtain ⟨_, _, h2, _⟩ := hc 0 (by simp)
    exact h2.elim
theorem exS.cells (h : exS (d + 1) lo hi w A l) (hn : 0 < l.length) : ∃ b off, A = some ⟨b, off, none⟩ ∧ (lo ≤ b ∧ b < hi) ∧ ∀ k, k < l.length → ∃ A' c', exS d lo hi w A' (exAt l k).ps ∧ (exAt l k).s.size ≤ 9223372036854775807 ∧
    w.cell? ⟨b, off + k * 4, none⟩ = some (.int .i64 (exAt l k).k) ∧ w.cell? ⟨b, off + k * 4 + 1, none⟩ = some (.int .i64 (exAt l k).n) ∧ w.cell? ⟨b, off + k * 4 + 2, none⟩ = some (.string (exAt l k).s) ∧ w.cell? ⟨b, off + k * 4 + 3, none⟩ = some (.slice A' (exAt l k).ps.length c') := by
  obtain ⟨b, off, e, hc⟩ := h.1.2 hn
  refine ⟨b, off, e, h.2 hn _ e, fun k hk => ?_⟩
  obtain ⟨cs, _, ⟨A', c', rfl, h2, h4, h5⟩, hv⟩ := hc k hk
  have e : l[k] = exAt l k := (exAt_eq hk).symm
  rw [e] at h2 hv h4 h5
  exact ⟨A', c', ⟨h2, h4⟩, h5, hv 0 _ rfl, hv 1 _ rfl, hv 2 _ rfl, hv 3 _ rfl⟩
end
/-- Whether two are alike. -/
noncomputable def sameX {α : Type} (a b : α) : Bool := @decide (a = b) (Classical.propDecidable _)
theorem sameX_true {α : Type} {a b : α} : sameX a b = true ↔ a = b := by simp [sameX]
theorem sameX_false {α : Type} {a b : α} : sameX a b = false ↔ a ≠ b := by simp [sameX]
theorem sameX_self {α : Type} (a : α) : sameX a a = true := sameX_true.2 rfl
end Go.Proofs.YtodjokdaofefdaaGreat
/- Names with kinds, numbers: how a slice of them reads; schemas. -/
namespace Go.Proofs.YtodjokdaofefdaaGreat
set_option linter.unusedSimpArgs false
set_option linter.unusedVariables false
open Go.RowKit

def kdD : ByteArray × Int := (ByteArray.empty, 0)
def kd0 (l : List (ByteArray × Int)) (k : Nat) : ByteArray := (l.getD k kdD).1
def kd1 (l : List (ByteArray × Int)) (k : Nat) : Int := (l.getD k kdD).2
def kdEnc (u : ByteArray × Int) : List Value := [.string u.1, .int .i64 u.2]
def kdR (w : World) (A : Option Addr) (l : List (ByteArray × Int)) : Prop := RdL (Flat kdEnc) 2 w A l
section
variable {w w' : World} {A : Option Addr} {l : List (ByteArray × Int)}
theorem kdR.below (h : kdR w A l) (hb : Below w.heap.size w w') : kdR w' A l := RdL.below (Flat.mono _) h hb
theorem kdR.regrown (h : kdR w A l) (d : Nat) (os : Array Obj) : kdR (Sort.grow (redrawn w d) os) A l := RdL.regrown (Flat.mono _) h d os
theorem kdR.keep (h : kdR w A l) (hk : ∀ a, A = some a → w'.heap[a.block]? = w.heap[a.block]?) : kdR w' A l := RdL.keep h (fun _ _ h => h) (fun _ a ha => hk a ha)
theorem kdR.len (h : kdR w A l) : l.length ≤ 9223372036854775807 := h.1
theorem kdR.cells (h : kdR w A l) (hn : 0 < l.length) : ∃ b off, A = some ⟨b, off, none⟩ ∧ ∀ k, k < l.length →
    w.cell? ⟨b, off + k * 2, none⟩ = some (.string (kd0 l k)) ∧ w.cell? ⟨b, off + k * 2 + 1, none⟩ = some (.int .i64 (kd1 l k)) := by
  obtain ⟨b, off, e, hc⟩ := h.2 hn
  refine ⟨b, off, e, fun k hk => ?_⟩
  obtain ⟨cs, _, rfl, hv⟩ := hc k hk
  have e : l.getD k kdD = l[k] := by simp [hk]
  simp only [kd0, kd1, e]
  exact ⟨hv 0 _ rfl, hv 1 _ rfl⟩
theorem kdR.own {B n c : Nat} {e : TypeId} (hl : l.length = n) (hb : n ≤ 4194304) (h : w.ownsRow B e 2 (.slice A n c) n (l.flatMap kdEnc)) : kdR w A l :=
  RdL.of_own (fun _ => rfl) hl (by omega) h
theorem kd_elem {k : Nat} (hk : k < l.length) : (kd0 l k, kd1 l k) = l[k] := by
  have e : l.getD k kdD = l[k] := by simp [hk]
  simp only [kd0, kd1, e]
end
def ilD : Int := 0
def il0 (l : List (Int)) (k : Nat) : Int := (l.getD k ilD)
def ilEnc (u : Int) : List Value := [.int .i64 u]
def ilR (w : World) (A : Option Addr) (l : List (Int)) : Prop := RdL (Flat ilEnc) 1 w A l
section
variable {w w' : World} {A : Option Addr} {l : List (Int)}
theorem ilR.below (h : ilR w A l) (hb : Below w.heap.size w w') : ilR w' A l := RdL.below (Flat.mono _) h hb
theorem ilR.regrown (h : ilR w A l) (d : Nat) (os : Array Obj) : ilR (Sort.grow (redrawn w d) os) A l := RdL.regrown (Flat.mono _) h d os
theorem ilR.len (h : ilR w A l) : l.length ≤ 9223372036854775807 := h.1
theorem ilR.cells (h : ilR w A l) (hn : 0 < l.length) : ∃ b off, A = some ⟨b, off, none⟩ ∧ ∀ k, k < l.length →
    w.cell? ⟨b, off + k, none⟩ = some (.int .i64 (il0 l k)) := by
  obtain ⟨b, off, e, hc⟩ := h.2 hn
  refine ⟨b, off, e, fun k hk => ?_⟩
  obtain ⟨cs, _, rfl, hv⟩ := hc k hk
  have e : l.getD k ilD = l[k] := by simp [hk]
  simp only [il0, e]
  have := hv 0 _ rfl
  simpa using this
theorem ilR.own {B n c : Nat} {e : TypeId} (hl : l.length = n) (hb : n ≤ 4194304) (h : w.ownsRow B e 1 (.slice A n c) n (l.flatMap ilEnc)) : ilR w A l :=
  RdL.of_own (fun _ => rfl) hl (by omega) h
theorem ilEnc_one (a : Int) : ∀ u ∈ ilEnc a, u.oneCell' = true := by intro u hu; simp [ilEnc] at hu; subst hu; rfl
theorem il_elem {k : Nat} (hk : k < l.length) : il0 l k = l[k] := by
  have e : l.getD k ilD = l[k] := by simp [hk]
  simp only [il0, e]
end
theorem Tryz.infoInt : (Tryz.prog.info? 3).map (fun i => (i.zero, i.size, i.bytes)) = some (some (.int .i64 0), 1, 8) := by kernel_rfl
abbrev Kd2 := ByteArray × Int
abbrev KdL := List Kd2
/-- A schema: names of things, names of requests. -/
abbrev Sc := KdL × KdL
def scV (s : Sc) (A0 : Option Addr) (c0 : Nat) (A1 : Option Addr) (c1 : Nat) : Value := .agg #[.slice A0 s.1.length c0, .slice A1 s.2.length c1]
/-- A schema reads. -/
def scR (w : World) (A0 A1 : Option Addr) (s : Sc) : Prop := kdR w A0 s.1 ∧ kdR w A1 s.2
theorem scR.below {w w' : World} {A0 A1 : Option Addr} {s : Sc} (h : scR w A0 A1 s) (hb : Below w.heap.size w w') : scR w' A0 A1 s := ⟨h.1.below hb, h.2.below hb⟩
theorem cells2 {w : World} {g : Nat} {T : TypeId} {a b : Value} (h : w.heap[g]? = some (.cells #[a, b] T (0, 0))) : w.cell? ⟨g, 0, none⟩ = some a ∧ w.cell? ⟨g, 1, none⟩ = some b :=
  ⟨(cell_of_row w g 0 _ _ _ h).trans rfl, (cell_of_row w g 1 _ _ _ h).trans rfl⟩
theorem froz2 {w : World} {g : Nat} {T : TypeId} {cs : Array Value} (h : w.heap[g]? = some (.cells cs T (0, 0))) : w.frozen? ⟨g, 0, none⟩ = false ∧ w.frozen? ⟨g, 1, none⟩ = false :=
  ⟨frozen_of_row w g 0 _ _ h, frozen_of_row w g 1 _ _ h⟩
theorem block_in {w w' : World} {g : Nat} {o : Obj} (h : w.heap[g]? = some o) (hb : Below w.heap.size w w') : w'.heap[g]? = some o := (hb.block g (Array.getElem?_eq_some_iff.1 h).1).trans h
def WfKd (l : KdL) : Prop := ∀ f ∈ l, f.1.size ≤ 9223372036854775807
theorem WfKd.at {l : KdL} (h : WfKd l) {k : Nat} (hk : k < l.length) : (kd0 l k).size ≤ 9223372036854775807 := by
  have := h _ (List.getElem_mem hk)
  rwa [← kd_elem hk] at this
end Go.Proofs.YtodjokdaofefdaaGreat
/- Numbers that ascend. -/
namespace Go.Proofs.YtodjokdaofefdaaGreat
set_option linter.unusedSimpArgs false
set_option linter.unusedVariables false
open Go.RowKit

abbrev IL := List Int
def ascAt (l : IL) (hi : Int) (k : Nat) : Bool := inB (il0 l k) 0 hi && decide (0 < k → il0 l (k - 1) < il0 l k)
def ascB (l : IL) (hi : Int) : Bool := decide (∀ k, k < l.length → ascAt l hi k = true)
theorem ascAt_iff {l : IL} {hi : Int} {k : Nat} : ascAt l hi k = true ↔ (0 ≤ il0 l k ∧ il0 l k ≤ hi) ∧ (0 < k → il0 l (k - 1) < il0 l k) := by
  simp only [ascAt, inB, Bool.and_eq_true, decide_eq_true_eq]
theorem ascB_iff {l : IL} {hi : Int} : ascB l hi = true ↔ ∀ k, k < l.length → ascAt l hi k = true := by simp [ascB]
theorem ascB_no {l : IL} {hi : Int} {k : Nat} (hk : k < l.length) (h : ascAt l hi k = false) : false = ascB l hi := by
  rw [eq_comm]
  simp only [ascB, decide_eq_false_iff_not]
  exact fun hh => by rw [hh k hk] at h; cases h
theorem ascB_yes {l : IL} {hi : Int} (h : ∀ k, k < l.length → ascAt l hi k = true) : true = ascB l hi := (ascB_iff.2 h).symm
/-- The least that may come next. -/
def ascLow (l : IL) : Nat → Int
  | 0 => 0
  | k + 1 => il0 l k + 1
theorem ascLow_bounds {l : IL} {hi : Int} (h0 : -1 ≤ hi) {k : Nat} (h : ∀ j, j < k → ascAt l hi j = true) : 0 ≤ ascLow l k ∧ ascLow l k ≤ hi + 1 := by
  cases k with
  | zero => simp [ascLow]; omega
  | succ k =>
    have := (ascAt_iff.1 (h k (by omega))).1
    simp only [ascLow]; omega
theorem ascLow_at {l : IL} {hi : Int} {k : Nat} (h : ∀ j, j < k → ascAt l hi j = true) : inB (il0 l k) (ascLow l k) hi = ascAt l hi k := by
  rw [Bool.eq_iff_iff, ascAt_iff, inB_true]
  cases k with
  | zero => simp [ascLow]
  | succ k =>
    have := (ascAt_iff.1 (h k (by omega))).1
    simp only [ascLow, Nat.add_sub_cancel]
    constructor
    · intro h; exact ⟨by omega, fun _ => by omega⟩
    · intro h; have := h.2 (by omega); exact ⟨by omega, by omega⟩
set_option maxHeartbeats 1000000 in
theorem ascends_any {A : Option Addr} {l : IL} {c : Nat} {hi : Int} {w : World} (hU : ilR w A l) (h0 : -1 ≤ hi) (h1 : hi ≤ 4194304) :
    Calls Tryz.prog 73 #[.slice A l.length c, .int .i64 0, .int .i64 hi] w fun e w' => e = .returned (.bool (ascB l hi)) ∧ Below w.heap.size w w' := by
  have hl := hU.len
  go_enter Tryz.func73, Tryz.ntmps73
  go_wp2
  go_loopw [1, 11] (fun lo i wr => ∃ k : Nat, k ≤ l.length ∧ i = .int .i64 k ∧ lo = .int .i64 (ascLow l k) ∧ (∀ j, j < k → ascAt l hi j = true) ∧ Below w.heap.size w wr) (fun _ i _ => l.length - (intOf i).toNat)
  case atStart => exact ⟨0, Nat.zero_le _, rfl, rfl, fun j h => by omega, Below.refl _ _⟩
  case round =>
    obtain ⟨k, hk, rfl, rfl, hgood, hB⟩ := hrel
    have HG := Lib.hid hgood
    obtain ⟨b1, b2⟩ := ascLow_bounds h0 hgood
    have HA := Lib.hid (ascLow_at hgood)
    have HS : Hid (ascLow l (k + 1) = il0 l k + 1) := Lib.hid rfl
    clear hgood
    by_cases hlt : k < l.length
    · obtain ⟨b, off, rfl, hc⟩ := hU.cells (by omega)
      have c0 := hc k hlt
      have m0 := below_cell hB c0
      clear c0 hc
      cases g : ascAt l hi k
      · go_wp2_with fail
        refine (in_any _ _ _ _).mono ?_
        rintro e w2 ⟨rfl, hB2⟩
        rw [HA.out, g]
        go_wp2
        go_ret
        exact ⟨ret_bool (ascB_no hlt g), ext_trans hB hB2⟩
      · have gb := (ascAt_iff.1 g).1
        go_wp2_with fail
        refine (in_any _ _ _ _).mono ?_
        rintro e w2 ⟨rfl, hB2⟩
        rw [HA.out, g]
        go_wp2
        go_roundw
        case rel => exact ⟨k + 1, by omega, by go_num, by rw [HS.out], all_succ HG.out g, ext_trans hB hB2⟩
        case measure => simp [intOf]; omega
    · obtain rfl : k = l.length := by omega
      go_wp2
      go_ret
      exact ⟨ret_bool (ascB_yes HG.out), hB⟩
end Go.Proofs.YtodjokdaofefdaaGreat
/- Fields, things, worlds, requests: how they read. -/
namespace Go.Proofs.YtodjokdaofefdaaGreat
set_option linter.unusedSimpArgs false
set_option linter.unusedVariables false
open Go.RowKit

abbrev Fd := ByteArray × Int × Int
abbrev FdL := List Fd
def fdD : ByteArray × Int × Int := (ByteArray.empty, 0, 0)
def fd0 (l : List (ByteArray × Int × Int)) (k : Nat) : ByteArray := (l.getD k fdD).1
def fd1 (l : List (ByteArray × Int × Int)) (k : Nat) : Int := (l.getD k fdD).2.1
def fd2 (l : List (ByteArray × Int × Int)) (k : Nat) : Int := (l.getD k fdD).2.2
def fdEnc (u : ByteArray × Int × Int) : List Value := [.string u.1, .int .i64 u.2.1, .int .i64 u.2.2]
def fdR (w : World) (A : Option Addr) (l : List (ByteArray × Int × Int)) : Prop := RdL (Flat fdEnc) 3 w A l
section
variable {w w' : World} {A : Option Addr} {l : List (ByteArray × Int × Int)}
theorem fdR.below (h : fdR w A l) (hb : Below w.heap.size w w') : fdR w' A l := RdL.below (Flat.mono _) h hb
theorem fdR.regrown (h : fdR w A l) (d : Nat) (os : Array Obj) : fdR (Sort.grow (redrawn w d) os) A l := RdL.regrown (Flat.mono _) h d os
theorem fdR.len (h : fdR w A l) : l.length ≤ 9223372036854775807 := h.1
theorem fdR.cells (h : fdR w A l) (hn : 0 < l.length) : ∃ b off, A = some ⟨b, off, none⟩ ∧ ∀ k, k < l.length →
    w.cell? ⟨b, off + k * 3, none⟩ = some (.string (fd0 l k)) ∧ w.cell? ⟨b, off + k * 3 + 1, none⟩ = some (.int .i64 (fd1 l k)) ∧ w.cell? ⟨b, off + k * 3 + 2, none⟩ = some (.int .i64 (fd2 l k)) := by
  obtain ⟨b, off, e, hc⟩ := h.2 hn
  refine ⟨b, off, e, fun k hk => ?_⟩
  obtain ⟨cs, _, rfl, hv⟩ := hc k hk
  have e : l.getD k fdD = l[k] := by simp [hk]
  simp only [fd0, fd1, fd2, e]
  exact ⟨hv 0 _ rfl, hv 1 _ rfl, hv 2 _ rfl⟩
theorem fdR.own {B n c : Nat} {e : TypeId} (hl : l.length = n) (hb : n ≤ 4194304) (h : w.ownsRow B e 3 (.slice A n c) n (l.flatMap fdEnc)) : fdR w A l :=
  RdL.of_own (fun _ => rfl) hl (by omega) h
theorem fd_elem {k : Nat} (hk : k < l.length) : (fd0 l k, fd1 l k, fd2 l k) = l[k] := by
  have e : l.getD k fdD = l[k] := by simp [hk]
  simp only [fd0, fd1, fd2, e]
end
theorem fdR.keep {w w' : World} {A : Option Addr} {l : FdL} (h : fdR w A l) (hk : ∀ a, A = some a → w'.heap[a.block]? = w.heap[a.block]?) : fdR w' A l := RdL.keep h (fun _ _ h => h) (fun _ a ha => hk a ha)
def WfFd (l : FdL) : Prop := ∀ f ∈ l, f.1.size ≤ 9223372036854775807
theorem WfFd.at {l : FdL} (h : WfFd l) {k : Nat} (hk : k < l.length) : (fd0 l k).size ≤ 9223372036854775807 := by
  have := h _ (List.getElem_mem hk)
  rwa [← fd_elem hk] at this
/-- A thing. -/
structure Th where
  gs : List Int
  fs : FdL
abbrev WL := List Th
def thD : Th := ⟨[], []⟩
def thAt (W : WL) (k : Nat) : Th := W.getD k thD
theorem thAt_eq {W : WL} {k : Nat} (hk : k < W.length) : thAt W k = W[k] := by simp [thAt, hk]
def ThR (w : World) (t : Th) (cs : List Value) : Prop := ∃ A c B c', cs = [.slice A t.gs.length c, .slice B t.fs.length c'] ∧ ilR w A t.gs ∧ fdR w B t.fs
theorem ThR.mono : Mono ThR := fun w w' t cs hb ⟨A, c, B, c', e, h1, h2⟩ => ⟨A, c, B, c', e, h1.below hb, h2.below hb⟩
/-- A world that reads. -/
def wlR (w : World) (A : Option Addr) (W : WL) : Prop := RdL ThR 2 w A W
section
variable {w w' : World} {A : Option Addr} {W : WL}
theorem wlR.below (h : wlR w A W) (hb : Below w.heap.size w w') : wlR w' A W := RdL.below ThR.mono h hb
theorem wlR.len (h : wlR w A W) : W.length ≤ 9223372036854775807 := h.1
theorem wlR.cells (h : wlR w A W) (hn : 0 < W.length) : ∃ b off, A = some ⟨b, off, none⟩ ∧ ∀ k, k < W.length → ∃ A1 c1 A2 c2, ilR w A1 (thAt W k).gs ∧ fdR w A2 (thAt W k).fs ∧
    w.cell? ⟨b, off + k * 2, none⟩ = some (.slice A1 (thAt W k).gs.length c1) ∧ w.cell? ⟨b, off + k * 2 + 1, none⟩ = some (.slice A2 (thAt W k).fs.length c2) := by
  obtain ⟨b, off, e, hc⟩ := h.2 hn
  refine ⟨b, off, e, fun k hk => ?_⟩
  obtain ⟨cs, _, ⟨A1, c1, A2, c2, rfl, h1, h2⟩, hv⟩ := hc k hk
  have e : W[k] = thAt W k := (thAt_eq hk).symm
  rw [e] at h1 h2 hv
  exact ⟨A1, c1, A2, c2, h1, h2, hv 0 _ rfl, hv 1 _ rfl⟩
end
def WfW (W : WL) : Prop := ∀ k, k < W.length → WfFd (thAt W k).fs
/-- A request. -/
structure Rq where
  who : Int
  act : Int
  what : Int
  fs : FdL
def rqV (r : Rq) (A : Option Addr) (c : Nat) : Value := .agg #[.int .i64 r.who, .int .i64 r.act, .int .i64 r.what, .slice A r.fs.length c]
end Go.Proofs.YtodjokdaofefdaaGreat
/- Expressions: comparison by the laws. -/
namespace Go.Proofs.YtodjokdaofefdaaGreat
set_option linter.unusedSimpArgs false
set_option linter.unusedVariables false
open Go.RowKit

def exW (d : Nat) (w : World) (A : Option Addr) (l : ExL) : Prop := exS d 0 w.heap.size w A l
theorem exW.below {d : Nat} {w w' : World} {A : Option Addr} {l : ExL} (h : exW d w A l) (hb : Below w.heap.size w w') : exW d w' A l := (exS.below h (Nat.le_refl _) hb).wide (Nat.le_refl _) hb.size
theorem exW.regrown {m : Nat} {w : World} {A : Option Addr} {l : ExL} (h : exW m w A l) (d : Nat) (os : Array Obj) : exW m (Sort.grow (redrawn w d) os) A l := h.below (below_regrown w d os)
theorem exW.cells {d : Nat} {w : World} {A : Option Addr} {l : ExL} (h : exW (d + 1) w A l) (hn : 0 < l.length) : ∃ b off, A = some ⟨b, off, none⟩ ∧ ∀ k, k < l.length → ∃ A' c', exW d w A' (exAt l k).ps ∧ (exAt l k).s.size ≤ 9223372036854775807 ∧
    w.cell? ⟨b, off + k * 4, none⟩ = some (.int .i64 (exAt l k).k) ∧ w.cell? ⟨b, off + k * 4 + 1, none⟩ = some (.int .i64 (exAt l k).n) ∧ w.cell? ⟨b, off + k * 4 + 2, none⟩ = some (.string (exAt l k).s) ∧ w.cell? ⟨b, off + k * 4 + 3, none⟩ = some (.slice A' (exAt l k).ps.length c') := by
  obtain ⟨b, off, e, _, hc⟩ := exS.cells h hn
  exact ⟨b, off, e, hc⟩
theorem ex_same {us vs : ExL} (h : us.length = vs.length) (h2 : ∀ k, k < us.length → exAt us k = exAt vs k) : true = sameX us vs := by
  rw [eq_comm, sameX_true]
  apply List.ext_getElem h
  intro k h3 h4
  rw [← exAt_eq h3, ← exAt_eq h4]
  exact h2 k h3
end Go.Proofs.YtodjokdaofefdaaGreat
/- Expressions: sizes, copies for a call. -/
namespace Go.Proofs.YtodjokdaofefdaaGreat
set_option linter.unusedSimpArgs false
set_option linter.unusedVariables false
open Go.RowKit

/-- How many parts, parts of parts, and so on. -/
def cntR : Nat → Ex → Nat
  | 0, _ => 0
  | d + 1, t => t.ps.length + (t.ps.map (cntR d)).sum
def cntS (d : Nat) (l : ExL) : Nat := l.length + (l.map (cntR d)).sum
theorem cnt_take {d : Nat} {l : ExL} {k : Nat} (hk : k < l.length) : ((l.take (k + 1)).map (cntR d)).sum = ((l.take k).map (cntR d)).sum + cntR d (exAt l k) := by
  rw [List.take_succ_eq_append_getElem hk, List.map_append, List.sum_append, exAt_eq hk]; simp
end Go.Proofs.YtodjokdaofefdaaGreat
/- Expressions: how many parts and which numbers a kind has. -/
namespace Go.Proofs.YtodjokdaofefdaaGreat
set_option linter.unusedSimpArgs false
set_option linter.unusedVariables false
open Go.RowKit

def arK (k : Int) : Nat := if k = 8 ∨ k = 9 ∨ k = 13 then 1 else if k = 10 ∨ k = 11 ∨ k = 12 ∨ k = 14 ∨ k = 15 then 2 else 0
def nmK (k : Int) : Bool := decide (k = 7 ∨ k = 8 ∨ k = 9)
theorem partsOf_any (k : Int) (w : World) :
    Calls Tryz.prog 95 #[.int .i64 k] w fun e w' => e = .returned (.tuple #[.int .i64 (arK k), .bool (nmK k)]) ∧ Below w.heap.size w w' := by
  by_cases h : k = 7 ∨ k = 8 ∨ k = 9 ∨ k = 10 ∨ k = 11 ∨ k = 12 ∨ k = 13 ∨ k = 14 ∨ k = 15
  · rcases h with rfl | rfl | rfl | rfl | rfl | rfl | rfl | rfl | rfl
    all_goals
      go_enter Tryz.func95, Tryz.ntmps95
      go_wp2
      go_ret2
      exact ⟨rfl, Below.refl _ _⟩
  · have n7 : (k == 7) = false := by simp; omega
    have n8 : (k == 8) = false := by simp; omega
    have n9 : (k == 9) = false := by simp; omega
    have n10 : (k == 10) = false := by simp; omega
    have n11 : (k == 11) = false := by simp; omega
    have n12 : (k == 12) = false := by simp; omega
    have n13 : (k == 13) = false := by simp; omega
    have n14 : (k == 14) = false := by simp; omega
    have n15 : (k == 15) = false := by simp; omega
    have HA : Hid (arK k = 0) := Lib.hid (by unfold arK; rw [if_neg (by omega), if_neg (by omega)])
    have HN : Hid (nmK k = false) := Lib.hid (by unfold nmK; simp only [decide_eq_false_iff_not]; omega)
    clear h
    go_enter Tryz.func95, Tryz.ntmps95
    go_wp2
    go_ret2
    refine ⟨?_, Below.refl _ _⟩
    rw [HA.out, HN.out]; rfl
def mostK (k : Int) : Int := if k = 1 then 1 else if k = 2 then 99 else if k = 3 then 6 else 0
theorem greatestNumber_any (k : Int) (w : World) :
    Calls Tryz.prog 96 #[.int .i64 k] w fun e w' => e = .returned (.int .i64 (mostK k)) ∧ Below w.heap.size w w' := by
  by_cases h : k = 1 ∨ k = 2 ∨ k = 3
  · rcases h with rfl | rfl | rfl
    all_goals
      go_enter Tryz.func96, Tryz.ntmps96
      go_wp2
      go_ret
      exact ⟨rfl, Below.refl _ _⟩
  · have n1 : (k == 1) = false := by simp; omega
    have n2 : (k == 2) = false := by simp; omega
    have n3 : (k == 3) = false := by simp; omega
    have HA : Hid (mostK k = 0) := Lib.hid (by unfold mostK; rw [if_neg (by omega), if_neg (by omega), if_neg (by omega)])
    clear h
    go_enter Tryz.func96, Tryz.ntmps96
    go_wp2
    go_ret
    refine ⟨?_, Below.refl _ _⟩
    rw [HA.out]; rfl
/-- How many parts a kind has, by the reference: -1 for what is no kind. -/
def arS (k : Int) : Int := if inB k 1 15 then arK k else -1
set_option maxHeartbeats 4000000 in
set_option maxRecDepth 100000 in
theorem l4Parts_any (k : Int) (w : World) :
    Calls Tryz.prog 78 #[.int .i64 k] w fun e w' => e = .returned (.int .i64 (arS k)) ∧ Below w.heap.size w w' := by
  cases g : inB k 1 15
  · have HE : Hid (arS k = -1) := Lib.hid (by rw [arS, g]; rfl)
    have HG := Lib.hid g
    clear g
    go_enter Tryz.func78, Tryz.ntmps78
    go_wp2_with fail
    refine (l1In_any _ _ _ _).mono ?_
    rintro e w1 ⟨rfl, hB⟩
    rw [HG.out]
    go_wp2
    go_ret
    exact ⟨by rw [HE.out]; rfl, hB⟩
  · have hk := inB_true.1 g
    have h : k = 1 ∨ k = 2 ∨ k = 3 ∨ k = 4 ∨ k = 5 ∨ k = 6 ∨ k = 7 ∨ k = 8 ∨ k = 9 ∨ k = 10 ∨ k = 11 ∨ k = 12 ∨ k = 13 ∨ k = 14 ∨ k = 15 := by omega
    clear hk
    rcases h with rfl | rfl | rfl | rfl | rfl | rfl | rfl | rfl | rfl | rfl | rfl | rfl | rfl | rfl | rfl
    all_goals
      clear g
      go_enter Tryz.func78, Tryz.ntmps78
      go_wp2_with fail
      refine (l1In_any _ _ _ _).mono ?_
      rintro e w1 ⟨rfl, hB⟩
      rw [show inB _ 1 15 = true by decide]
      go_wp2
      go_ret
      exact ⟨rfl, ext_trans hB (by (repeat (first | exact Below.refl _ _ | refine ext_alloc ?_ _ | refine Below.setCell ?_ (by simp) _)))⟩
end Go.Proofs.YtodjokdaofefdaaGreat
/- impl.NameValid of any text; alive. -/
namespace Go.Proofs.YtodjokdaofefdaaGreat
set_option linter.unusedSimpArgs false
set_option linter.unusedVariables false
open Go.RowKit

def byteAt (s : ByteArray) (k : Nat) : Int := if h : k < s.size then (s[k]'h).toNat else 0
theorem byteAt_of {s : ByteArray} {k : Nat} (h : k < s.size) : byteAt s k = ((s[k]'h).toNat : Int) := dif_pos h
def nmGood (s : ByteArray) (k : Nat) : Bool := inB (byteAt s k) 97 122
def nmOk (s : ByteArray) : Bool := decide (∀ k, k < s.size → nmGood s k = true) && inB s.size 1 8
theorem nmOk_no {s : ByteArray} {k : Nat} (hk : k < s.size) (h : nmGood s k = false) : false = nmOk s := by
  have : ¬ ∀ k, k < s.size → nmGood s k = true := fun hh => by rw [hh k hk] at h; cases h
  simp [nmOk, this]
theorem nmOk_yes {s : ByteArray} (h : ∀ k, k < s.size → nmGood s k = true) : nmOk s = inB s.size 1 8 := by
  unfold nmOk
  rw [decide_eq_true h, Bool.true_and]

set_option maxHeartbeats 1000000 in
theorem implNameValid (s : ByteArray) (hs : s.size ≤ 9223372036854775807) (w : World) :
    Calls Tryz.prog 31 #[.string s] w fun e w' => e = .returned (.bool (nmOk s)) ∧ Below w.heap.size w w' := by
  go_enter Tryz.func31, Tryz.ntmps31
  go_wp2
  go_loopw [6] (fun i wr => ∃ k : Nat, k ≤ s.size ∧ i = .int .i64 k ∧ (∀ j, j < k → nmGood s j = true) ∧ Below w.heap.size w wr) (fun i _ => s.size - (intOf i).toNat)
  case atStart => exact ⟨0, Nat.zero_le _, rfl, fun j h => by omega, Below.refl _ _⟩
  case round =>
    obtain ⟨k, hk, rfl, hgood, hB⟩ := hrel
    have HG := Lib.hid hgood
    clear hgood
    by_cases hlt : k < s.size
    · have hx := byteAt_of hlt
      by_cases h1 : ((s[k]'hlt).toNat : Int) < 97
      · go_wp2
        go_ret
        exact ⟨ret_bool (nmOk_no hlt (by rw [nmGood, inB_false]; omega)), hB⟩
      · by_cases h2 : 122 < ((s[k]'hlt).toNat : Int)
        · go_wp2
          go_ret
          exact ⟨ret_bool (nmOk_no hlt (by rw [nmGood, inB_false]; omega)), hB⟩
        · go_wp2
          go_roundw
          case rel => exact ⟨k + 1, by omega, by go_num, all_succ HG.out (by rw [nmGood, inB_true]; omega), hB⟩
          case measure => simp [intOf]; omega
    · obtain rfl : k = s.size := by omega
      go_wp2_with fail
      refine (in_any _ _ _ _).mono ?_
      rintro e w2 ⟨rfl, hB2⟩
      go_wp2
      go_ret
      exact ⟨ret_bool (nmOk_yes HG.out).symm, ext_trans hB hB2⟩
def sA : ByteArray := ⟨#[97]⟩
theorem alive_any (w : World) : Calls Tryz.prog 11 #[] w fun e w' => e = .returned (.bool true) ∧ Below w.heap.size w w' := by
  go_enter Tryz.func11, Tryz.ntmps11
  go_wp2_with fail
  refine (implNameValid sA (by decide) _).mono ?_
  rintro e w2 ⟨rfl, hB2⟩
  go_wp2
  go_ret
  exact ⟨ret_bool (by decide), hB2⟩
end Go.Proofs.YtodjokdaofefdaaGreat
/- Expressions: sizes of valid ones, by the program. -/
namespace Go.Proofs.YtodjokdaofefdaaGreat
set_option linter.unusedSimpArgs false
set_option linter.unusedVariables false
open Go.RowKit

def headB (t : Ex) : Bool := inB t.k 1 15 && (inB t.n 0 (mostK t.k) && (decide (t.ps.length = arK t.k) && ((nmK t.k == !decide (t.s = ByteArray.empty)) && (!nmK t.k || nmOk t.s))))
/-- How many expressions are in a valid one at most so deep; 0 for others. -/
def szE : Nat → Ex → Nat
  | 0, _ => 0
  | m + 1, t => if (headB t && t.ps.all (fun p => decide (szE m p ≠ 0))) = true then 1 + (t.ps.map (szE m)).sum else 0
theorem arK_le (k : Int) : arK k ≤ 2 := by
  unfold arK
  split
  · omega
  · split <;> omega
theorem headB_len {t : Ex} (h : headB t = true) : t.ps.length ≤ 2 := by
  simp only [headB, Bool.and_eq_true, decide_eq_true_eq] at h
  have := arK_le t.k
  omega
theorem szE_lt : ∀ (m : Nat) (t : Ex), szE m t < 2 ^ m
  | 0, _ => by simp [szE]
  | m + 1, t => by
    rw [szE]
    split
    · rename_i h
      have hl := headB_len (Bool.and_eq_true_iff.1 h).1
      have ih := szE_lt m
      have hs : ∀ l : ExL, (l.map (szE m)).sum ≤ l.length * (2 ^ m - 1) := by
        intro l
        induction l with
        | nil => simp
        | cons a l ihl =>
          have := ih a
          simp only [List.map_cons, List.sum_cons, List.length_cons, Nat.succ_mul]
          omega
      have h1 := hs t.ps
      have h2 : t.ps.length * (2 ^ m - 1) ≤ 2 * (2 ^ m - 1) := Nat.mul_le_mul_right _ hl
      have h3 := Nat.two_pow_pos m
      rw [Nat.pow_succ]
      omega
    · exact Nat.two_pow_pos _
/-- Where a head stops being a valid one. -/
theorem headCases (t : Ex) : (inB t.k 1 15 = false ∧ headB t = false) ∨ (inB t.k 1 15 = true ∧ inB t.n 0 (mostK t.k) = false ∧ headB t = false) ∨
    (inB t.k 1 15 = true ∧ inB t.n 0 (mostK t.k) = true ∧ t.ps.length ≠ arK t.k ∧ headB t = false) ∨
    (inB t.k 1 15 = true ∧ inB t.n 0 (mostK t.k) = true ∧ t.ps.length = arK t.k ∧ (nmK t.k = decide (t.s = ByteArray.empty)) ∧ headB t = false) ∨
    (inB t.k 1 15 = true ∧ inB t.n 0 (mostK t.k) = true ∧ t.ps.length = arK t.k ∧ (nmK t.k = true ∧ decide (t.s = ByteArray.empty) = false) ∧ nmOk t.s = false ∧ headB t = false) ∨
    (inB t.k 1 15 = true ∧ inB t.n 0 (mostK t.k) = true ∧ t.ps.length = arK t.k ∧ (nmK t.k = true ∧ decide (t.s = ByteArray.empty) = false) ∧ nmOk t.s = true ∧ headB t = true) ∨
    (inB t.k 1 15 = true ∧ inB t.n 0 (mostK t.k) = true ∧ t.ps.length = arK t.k ∧ (nmK t.k = false ∧ decide (t.s = ByteArray.empty) = true) ∧ headB t = true) := by
  unfold headB
  cases inB t.k 1 15
  · simp
  · cases inB t.n 0 (mostK t.k)
    · simp
    · by_cases h : t.ps.length = arK t.k
      · cases nmK t.k <;> cases decide (t.s = ByteArray.empty) <;> cases nmOk t.s <;> simp [h]
      · simp [h]
end Go.Proofs.YtodjokdaofefdaaGreat
/- Expressions: sizes, by the reference. -/
namespace Go.Proofs.YtodjokdaofefdaaGreat
set_option linter.unusedSimpArgs false
set_option linter.unusedVariables false
open Go.RowKit

theorem cnt_le {d : Nat} {l : ExL} {k : Nat} (hk : k ≤ l.length) : ((l.take k).map (cntR d)).sum ≤ (l.map (cntR d)).sum := by
  have h : l.map (cntR d) = (l.take k).map (cntR d) ++ (l.drop k).map (cntR d) := by rw [← List.map_append, List.take_append_drop]
  rw [h, List.sum_append]; omega
def SsQ (d : Nat) : Prop := ∀ (A : Option Addr) (r : Ex) (c : Nat) (w : World), exW d w A r.ps → cntS d r.ps ≤ 2097152 →
  Calls Tryz.prog 62 #[.agg #[.int .i64 r.k, .int .i64 r.n, .string r.s, .slice A r.ps.length c]] w fun e w' => e = .returned (.int .i64 ((1 + cntS d r.ps : Nat) : Int)) ∧ Below w.heap.size w w'
set_option maxRecDepth 100000 in
set_option maxHeartbeats 4000000 in
theorem ssQ_of {d : Nat} (hQ : ∀ m, d = m + 1 → SsQ m) : SsQ d := by
  intro A r c w hU hcnt
  have hl := exS.len hU
  have HQ := Lib.hid hQ
  have HCN := Lib.hid hcnt
  clear hQ
  obtain ⟨W, hW⟩ : ∃ W, W = w.alloc (.cells #[.int .i64 r.k, .int .i64 r.n, .string r.s, .slice A r.ps.length c] 36) := ⟨_, rfl⟩
  have hBW : Below w.heap.size w W := by rw [hW]; (repeat (first | exact Below.refl _ _ | refine ext_alloc ?_ _ | refine Below.setCell ?_ (by simp) _))
  have b3 : W.cell? ⟨w.heap.size, 3, none⟩ = some (.slice A r.ps.length c) := by rw [hW]; exact box_cell w _ _ 3 _ rfl
  have HW := Lib.hid hW
  have HB3 := Lib.hid b3
  have HBW := Lib.hid hBW
  have hlc : r.ps.length ≤ 2097152 := by unfold cntS at hcnt; omega
  clear hW b3 hBW hcnt
  go_enter Tryz.func62, Tryz.ntmps62
  go_wp2
  go_loopw [3, 4] (fun ov kv wr => ∃ (k s : Nat), k ≤ r.ps.length ∧ kv = .int .i64 k ∧ ov = .int .i64 (s : Int) ∧ Hid (s = 1 + k + ((r.ps.take k).map (cntR d)).sum) ∧ s ≤ 2097153 ∧ Below W.heap.size W wr) (fun _ kv _ => r.ps.length - (intOf kv).toNat)
  case atStart => exact ⟨0, 1, Nat.zero_le _, rfl, rfl, Lib.hid (by simp), by omega, by rw [HW.out]; exact Below.refl _ _⟩
  case round =>
    obtain ⟨k, s, hk, rfl, rfl, HS, hs, hB⟩ := hrel
    have b3 := below_cell hB HB3.out
    by_cases hlt : k < r.ps.length
    · have hd : ∃ m, d = m + 1 := by
        cases d with
        | zero => have := exS.zero hU; rw [this] at hlt; simp at hlt
        | succ m => exact ⟨m, rfl⟩
      obtain ⟨m, hm⟩ := hd
      subst hm
      have HQ1 := Lib.hid (HQ.out m rfl)
      obtain ⟨b, off, rfl, hc⟩ := (hU.below HBW.out).cells (by omega)
      obtain ⟨A1, c1, hfd, hs1, p0, p1, p2, p3⟩ := hc k hlt
      replace p0 := below_cell hB p0
      replace p1 := below_cell hB p1
      replace p2 := below_cell hB p2
      replace p3 := below_cell hB p3
      replace hfd := hfd.below hB
      clear hc
      have HT := Lib.hid (cnt_take (d := m + 1) hlt)
      have HL := Lib.hid (cnt_le (d := m + 1) (l := r.ps) (k := k + 1) (by omega))
      obtain ⟨z, hz⟩ : ∃ z, cntS m (exAt r.ps k).ps = z := ⟨_, rfl⟩
      have hz2 : cntR (m + 1) (exAt r.ps k) = z := hz
      have hall : s + (1 + z) ≤ 2097153 ∧ s + (1 + z) = 1 + (k + 1) + ((r.ps.take (k + 1)).map (cntR (m + 1))).sum := by
        have h1 := HL.out
        have h2 := HT.out
        have h3 := HCN.out
        have h4 := HS.out
        unfold cntS at h3
        rw [hz2] at h2
        omega
      have hzl : z ≤ 2097152 := by omega
      have HZ := Lib.hid hz
      have HALL := Lib.hid hall.2
      have hall1 := hall.1
      clear hz hz2 hall
      go_wp2_with fail
      refine (HQ1.out _ _ _ _ hfd (by rw [HZ.out]; exact hzl)).mono ?_
      rintro e w4 ⟨rfl, hb⟩
      rw [HZ.out]
      replace hB := ext_trans hB hb
      clear hb p0 p1 p2 p3 hfd b3
      go_wp2
      go_roundw
      case rel => exact ⟨k + 1, s + (1 + z), by omega, by go_num, by go_num, Lib.hid HALL.out, hall1, hB⟩
      case measure => simp [intOf]; omega
    · obtain rfl : k = r.ps.length := by omega
      have HE : Hid (s = 1 + cntS d r.ps) := Lib.hid (by have := HS.out; rw [List.take_length] at this; unfold cntS; omega)
      go_wp2
      go_ret
      exact ⟨by rw [← HE.out]; rfl, ext_trans HBW.out hB⟩
theorem ssQ_all : ∀ d, SsQ d
  | 0 => ssQ_of (fun m h => by cases h)
  | d + 1 => ssQ_of (fun m h => by cases h; exact ssQ_all d)
end Go.Proofs.YtodjokdaofefdaaGreat

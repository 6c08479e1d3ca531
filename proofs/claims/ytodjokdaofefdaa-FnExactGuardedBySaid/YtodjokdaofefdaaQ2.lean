/- General lemmas, continued: slices of one's own that grow. -/
import Derived.Test.YtodjokdaofefdaaQ1
import Derived.Deep.DeepMust
import Derived.Lib.SliceRun
import Derived.ArgAppend
namespace Go.Proofs.Ytodjokdaofefdaa
set_option linter.unusedSimpArgs false
set_option linter.unusedVariables false
open Go.RowKit

/-- What a function that hands back a list of its own leaves. -/
def SlPost {α : Type} (e : TypeId) (sz : Nat) (enc : α → List Value) (w : World) (l : List α) (en : Ending) (w' : World) : Prop :=
  ∃ A c, en = .returned (.slice A l.length c) ∧ w'.ownsRow w.heap.size e sz (.slice A l.length c) l.length (l.flatMap enc) ∧ Below w.heap.size w w'
section
variable {α : Type} {B B' : Nat} {e : TypeId} {sz : Nat} {enc : α → List Value} {w w' : World} {v : Value} {l l' : List α}
theorem SlPost.of (hl : l = l') (ho : OwnA w.heap.size e sz enc w' v l') (hB : Below w.heap.size w w') : SlPost e sz enc w l (.returned v) w' := by
  subst hl
  obtain ⟨A, c, rfl, ho⟩ := ho
  exact ⟨A, c, rfl, ho, hB⟩
theorem TupPost.ofA {b b' : Bool} (hl : l = l') (hb : b = b') (ho : OwnA w.heap.size e sz enc w' v l') (hB : Below w.heap.size w w') : TupPost e sz enc w l b (.returned (.tuple #[v, .bool b'])) w' := by
  obtain ⟨A, c, rfl, ho⟩ := ho
  exact TupPost.of hl hb ho hB
theorem OwnA.nil : OwnA B e sz enc w (.slice Option.none 0 0) ([] : List α) := ⟨_, 0, rfl, World.ownsRow_nil _ _ _ _⟩
theorem OwnA.empty (hB : B ≤ w.heap.size) : OwnA B e sz enc (w.alloc (.cells #[] e)) (.slice (some ⟨w.heap.size, 0, Option.none⟩) 0 0) ([] : List α) :=
  ⟨_, 0, rfl, by simp, .inr ⟨w.heap.size, 0, #[], rfl, hB, heap_alloc_new w _, Nat.le_refl _, by simp [maxLen], by simp, by simp⟩⟩
theorem OwnA.grown {row : Option Nat} (h : OwnA B e sz enc w v l) (hg : w.grownBy w' row) (hr : ∀ k, row = some k → k < B) : OwnA B e sz enc w' v l := by
  obtain ⟨A, c, rfl, ho⟩ := h
  exact ⟨A, c, rfl, own_apart_ ho hg (fun k hk e => by have := (ho.lt k hk).1; have := hr k e; omega)⟩
theorem OwnA.apart {row : Option Nat} (h : OwnA B e sz enc w v l) (hg : w.grownBy w' row) (hr : ∀ k, v.ownBlock = some k → row ≠ some k) : OwnA B e sz enc w' v l := by
  obtain ⟨A, c, rfl, ho⟩ := h
  exact ⟨A, c, rfl, own_apart_ ho hg hr⟩
theorem OwnA.ge (h : OwnA B e sz enc w v l) (k : Nat) (hk : v.ownBlock = some k) : B ≤ k ∧ k < w.heap.size := by
  obtain ⟨A, c, rfl, ho⟩ := h
  exact ho.lt k hk
theorem OwnA.eq {l2 : List α} (h : OwnA B e sz enc w v l) (he : l = l2) : OwnA B e sz enc w v l2 := he ▸ h
/-- A slice of one's own, as it reads. -/
theorem OwnA.rd (hs : ∀ a, (enc a).length = sz) (hb : l.length ≤ 9223372036854775807) (h : OwnA B e sz enc w v l) : ∃ A c, v = .slice A l.length c ∧ RdL (Flat enc) sz w A l := by
  obtain ⟨A, c, rfl, ho⟩ := h
  exact ⟨A, c, rfl, RdL.of_own hs rfl hb ho⟩
end
theorem heap_alloc_at {w : World} {o : Obj} {n : Nat} (h : n = w.heap.size) : (w.alloc o).heap[n]? = some o := by subst h; exact heap_alloc_new w o
theorem box_cell_at {w : World} {cs : Array Value} {t : TypeId} {i n : Nat} {v : Value} (hn : n = w.heap.size) (h : cs[i]? = some v) : (w.alloc (.cells cs t)).cell? ⟨n, i, none⟩ = some v := by subst hn; exact box_cell w cs t i v h
/-- append of one element, that stands in a block of its own, to a row of one's own. -/
theorem wpList_push {α : Type} {enc : α → List Value} {P : Program} {w : World} {ops : Array Oper} {rest : List Oper} {o : Oper} {a : Act} {Q0 : Exit → Act → World → Prop} (q : α) (hgd : o.guard = Option.none) (s x : Operand) (t e : TypeId) (z : Value) (sz bytes : Nat)
    (ho : o.op = .call { callee := .builtin .append, args := #[s, x], argTypes := #[t, t] }) (ht : P.underlying t = some (.slice e)) (hinfo : (P.info? e).map (fun i => (i.zero, i.size, i.bytes)) = some (some z, sz, bytes))
    (hzs : z.cells.size = sz) (hsz : 0 < sz) (henc : ∀ a, (enc a).length = sz) (hone : ∀ a, ∀ u ∈ enc a, u.oneCell' = true)
    {B g c : Nat} {l : List α} {cs : Array Value} {T : TypeId} (hd : OwnA B e sz enc w (a.eval s) l) (hx : a.eval x = .slice (some ⟨g, 0, Option.none⟩) 1 c) (hblk : w.heap[g]? = some (.cells cs T (0, 0))) (hcs : [q].flatMap enc = cs.toList)
    (hbytes : (l.length + 1) * bytes ≤ 140737488355328) (h63 : l.length + 1 ≤ 9223372036854775807) (hbase : B ≤ w.heap.size)
    (h : ∀ v' w', OwnA B e sz enc w' v' (l ++ [q]) → Below B w w' → w.grownBy w' (a.eval s).ownBlock → wpList P ops Q0 rest (a.put o.dst v') w') : wpList P ops Q0 (o :: rest) a w := by
  obtain ⟨A, c', hv, hown⟩ := hd
  refine wpList_append_rd (enc := enc) (l := [q]) hgd s x B t e z sz bytes ho ht hinfo hzs hsz henc hone hv hown hx (rd_block henc hblk hcs) (by simpa using hbytes) (by simpa using h63) hbase ?_
  intro v' w' ho' hg _
  have ho2 : w'.ownsRow B e sz v' (l ++ [q]).length ((l ++ [q]).flatMap enc) := by simpa using ho'
  refine h v' w' (OwnA.of ho2) (grown_below hg hbase (fun k hk => (hown.lt k hk).1)) (by rw [hv]; exact hg)
/-- append of a slice that reads as a list, to a row of one's own. -/
theorem wpList_pushes {α : Type} {enc : α → List Value} {P : Program} {w : World} {ops : Array Oper} {rest : List Oper} {o : Oper} {a : Act} {Q0 : Exit → Act → World → Prop} (hgd : o.guard = Option.none) (s x : Operand) (t e : TypeId) (z : Value) (sz bytes : Nat)
    (ho : o.op = .call { callee := .builtin .append, args := #[s, x], argTypes := #[t, t] }) (ht : P.underlying t = some (.slice e)) (hinfo : (P.info? e).map (fun i => (i.zero, i.size, i.bytes)) = some (some z, sz, bytes))
    (hzs : z.cells.size = sz) (hsz : 0 < sz) (henc : ∀ a, (enc a).length = sz) (hone : ∀ a, ∀ u ∈ enc a, u.oneCell' = true)
    {B c : Nat} {A : Option Addr} {l l2 : List α} (hd : OwnA B e sz enc w (a.eval s) l) (hx : a.eval x = .slice A l2.length c) (hr : RdL (Flat enc) sz w A l2)
    (hbytes : (l.length + l2.length) * bytes ≤ 140737488355328) (h63 : l.length + l2.length ≤ 9223372036854775807) (hbase : B ≤ w.heap.size)
    (h : ∀ v' w', OwnA B e sz enc w' v' (l ++ l2) → Below B w w' → w.grownBy w' (a.eval s).ownBlock → wpList P ops Q0 rest (a.put o.dst v') w') : wpList P ops Q0 (o :: rest) a w := by
  obtain ⟨A, c', hv, hown⟩ := hd
  refine wpList_append_rd (enc := enc) (l := l2) hgd s x B t e z sz bytes ho ht hinfo hzs hsz henc hone hv hown hx hr hbytes h63 hbase ?_
  intro v' w' ho' hg _
  have ho2 : w'.ownsRow B e sz v' (l ++ l2).length ((l ++ l2).flatMap enc) := by simpa using ho'
  refine h v' w' (OwnA.of ho2) (grown_below hg hbase (fun k hk => (hown.lt k hk).1)) (by rw [hv]; exact hg)
/-- The cells of one element of a row of one's own are written. -/
theorem own_put {α : Type} {enc : α → List Value} {B g n c sz k : Nat} {e : TypeId} {w : World} {l : List α} (u : α) (henc : ∀ a, (enc a).length = sz) (h : w.ownsRow B e sz (.slice (some ⟨g, 0, Option.none⟩) n c) n (l.flatMap enc)) (hl : l.length = n) (hk : k < n) :
    (setCells w g (k * sz) (enc u)).ownsRow B e sz (.slice (some ⟨g, 0, Option.none⟩) n c) n ((l.set k u).flatMap enc) := by
  have hb : (k + 1) * sz ≤ n * sz := Nat.mul_le_mul_right _ hk
  have hb' : (k + 1) * sz = k * sz + sz := by rw [Nat.add_mul]; omega
  have h1 := own_stores (enc u) (k * sz) h (by rw [henc]; omega)
  have e1 : (l.flatMap enc).take (k * sz) = (l.take k).flatMap enc := by
    have : l.flatMap enc = (l.take k).flatMap enc ++ (l.drop k).flatMap enc := by rw [← List.flatMap_append, List.take_append_drop]
    rw [this, List.take_append_of_le_length (by rw [flatMap_length enc sz henc, List.length_take, Nat.min_eq_left (by omega)]; exact Nat.le_refl _), List.take_of_length_le (by rw [flatMap_length enc sz henc, List.length_take, Nat.min_eq_left (by omega)]; exact Nat.le_refl _)]
  have e2 : (l.flatMap enc).drop (k * sz + (enc u).length) = (l.drop (k + 1)).flatMap enc := by
    have : l.flatMap enc = (l.take (k + 1)).flatMap enc ++ (l.drop (k + 1)).flatMap enc := by rw [← List.flatMap_append, List.take_append_drop]
    rw [this, List.drop_append_of_le_length (by rw [flatMap_length enc sz henc, List.length_take, Nat.min_eq_left (by omega), henc]; omega), List.drop_eq_nil_of_le (by rw [flatMap_length enc sz henc, List.length_take, Nat.min_eq_left (by omega), henc]; omega)]
    rfl
  rw [e1, e2] at h1
  have e3 : (l.set k u).flatMap enc = (l.take k).flatMap enc ++ enc u ++ (l.drop (k + 1)).flatMap enc := by
    rw [List.set_eq_take_append_cons_drop, if_pos (by omega), List.flatMap_append, List.flatMap_cons, List.append_assoc]
  rw [e3]; exact h1
section
variable {P : Program} {ops : Array Oper} {a0 : Act} {T : Nat → World → Value → Prop} {Inv : Nat → World → Prop} {Rel : Nat → World → World → Prop} {gc : Option Nat} {G : World → Prop}
theorem yielded_of {ops : Array Oper} {a : Act} {j : Nat} {d : Tmp} {b : Bool} (hd : dstOf ops j = some d) (h : a.eval (.tmp d) = .bool b) : yielded ops a.tmps j = some b := by
  have hd' : (ops[j]?).bind (·.dst) = some d := hd
  unfold yielded
  rw [hd']
  simp only [Option.bind_some]
  simp only [Act.eval, Array.getD_eq_getD_getElem?] at h
  cases ht : a.tmps[d]? with
  | none => rw [ht] at h; simp [undef] at h
  | some v => rw [ht] at h; simp only [Option.getD_some] at h; subst h; rfl
theorem depSlot_dst {ops : Array Oper} {i j : Nat} {d : Tmp} (h : depSlot ops i d j = true) : dstOf ops j = some d := by
  simp only [depSlot, Bool.and_eq_true, beq_iff_eq] at h
  exact h.2
/-- An operation under a guard that holds. -/
theorem RAll.guarded {o : Oper} {l : List Oper} {i : Nat} (j : Nat) (d : Tmp) (want : Bool) (hg : o.guard = some (j, want)) (hdep : depSlot ops i d j = true) (hT : ∀ w v, T j w v → v = .bool want)
    (h : ∀ (a : Act) (k : Nat) (w : World) (K : Act → World → Prop) (Q : Exit → Act → World → Prop), k < ops.size → Inv k w → RPre ops a0 T gc G i a w →
      (∀ v w', T i w' v → Rel i w w' → Inv (k + 1) w' → K (a.put o.dst v) w') → o.wp P a w K Q) (hl : RAll P ops a0 T Inv Rel gc G l (i + 1)) : RAll P ops a0 T Inv Rel gc G (o :: l) i :=
  ⟨fun a k w K Q h1 h2 h3 h4 => by
    have : Region.wanted o (yielded ops a.tmps) = true := by
      simp [Region.wanted, hg, yielded_of (depSlot_dst hdep) (hT w _ (h3.dep j d hdep))]
    rw [if_pos this]
    exact h a k w K Q h1 h2 h3 h4, hl⟩
/-- An operation under a guard that does not hold. -/
theorem RAll.skipped {o : Oper} {l : List Oper} {i : Nat} (j : Nat) (d : Tmp) (want : Bool) (hg : o.guard = some (j, want)) (hdep : depSlot ops i d j = true) (hT : ∀ w v, T j w v → v = .bool (!want))
    (h : ∀ (k : Nat) (w : World), Inv k w → T i w undef ∧ Rel i w w ∧ Inv (k + 1) w) (hl : RAll P ops a0 T Inv Rel gc G l (i + 1)) : RAll P ops a0 T Inv Rel gc G (o :: l) i :=
  ⟨fun a k w K Q h1 h2 h3 h4 => by
    have : Region.wanted o (yielded ops a.tmps) = false := by
      have e := yielded_of (depSlot_dst hdep) (hT w _ (h3.dep j d hdep))
      cases want <;> simp [Region.wanted, hg, e]
    rw [if_neg (by rw [this]; simp)]
    obtain ⟨t1, t2, t3⟩ := h k w h2
    exact h4 _ _ t1 t2 t3, hl⟩
theorem op_pick_t {P : Program} {w : World} {o : Oper} {a : Act} {K : Act → World → Prop} {Q : Exit → Act → World → Prop} (c x y : Operand) (ho : o.op = .pick c x y) (hc : a.eval c = .bool true) (h : K (a.put o.dst (a.eval x)) w) : o.wp P a w K Q := by
  unfold Oper.wp execOp
  simp only [ho, hc]
  first | exact h | (go_simp; exact h)
theorem op_pick_f {P : Program} {w : World} {o : Oper} {a : Act} {K : Act → World → Prop} {Q : Exit → Act → World → Prop} (c x y : Operand) (ho : o.op = .pick c x y) (hc : a.eval c = .bool false) (h : K (a.put o.dst (a.eval y)) w) : o.wp P a w K Q := by
  unfold Oper.wp execOp
  simp only [ho, hc]
  first | exact h | (go_simp; exact h)
end
end Go.Proofs.Ytodjokdaofefdaa
/- General lemmas, continued: a row of one's own, cut and cleared. -/
namespace Go.Proofs.Ytodjokdaofefdaa
set_option linter.unusedSimpArgs false
set_option linter.unusedVariables false
open Go.RowKit

theorem setCells_eq (g : Nat) (vs : List Value) : ∀ (w : World) (o : Nat), setCells w g o vs = w.setCells g o vs := by
  induction vs with
  | nil => intro w o; rfl
  | cons v vs ih => intro w o; exact ih _ _
theorem own_prefix {B sz n c m g : Nat} {e : TypeId} {w : World} {xs : List Value} (h : w.ownsRow B e sz (.slice (some ⟨g, 0, Option.none⟩) n c) n xs) (hm : m ≤ n) : w.ownsRow B e sz (.slice (some ⟨g, 0, Option.none⟩) m c) m (xs.take (m * sz)) := by
  have hmul : m * sz ≤ n * sz := Nat.mul_le_mul_right _ hm
  refine ⟨by rw [List.length_take, h.1]; omega, .inr ?_⟩
  rcases h.2 with ⟨h0, _⟩ | ⟨g', cap, cur, hv, hB, hx, h1, h2, h3, h4⟩
  · cases h0
  · simp only [Value.slice.injEq, true_and, Option.some.injEq, Addr.mk.injEq, and_true] at hv
    obtain ⟨rfl, rfl⟩ := hv
    exact ⟨g, c, cur, rfl, hB, hx, by omega, h2, h3, by rw [← h4, List.take_take, Nat.min_eq_left hmul]⟩
theorem zeroCells_spec (zs : Array Value) (n : Nat) : (Builtin.zeroCells zs n).toList.length = n * zs.size ∧ ∀ u ∈ (Builtin.zeroCells zs n).toList, 0 < zs.size → u ∈ zs.toList := by
  refine ⟨by simp [Builtin.zeroCells], fun u hu h0 => ?_⟩
  simp only [Builtin.zeroCells, Array.toList_map, List.mem_map] at hu
  obtain ⟨i, _, rfl⟩ := hu
  have hlt : i % zs.size < zs.size := Nat.mod_lt _ h0
  rw [getElem!_pos zs (i % zs.size) hlt]
  simp
/-- clear(s[i:]), s a row of one's own. -/
theorem run_clear_own {P : Program} {B sz n c i g : Nat} {e t : TypeId} {w : World} {xs : List Value} {z : Value} (ht : P.underlying t = some (.slice e)) (hv : ∀ w, (zeroValue e).run P w = .ok z w) (hz : z.cells.size = sz) (hone : ∀ u ∈ z.cells.toList, u.oneCell' = true)
    (ho : w.ownsRow B e sz (.slice (some ⟨g, 0, Option.none⟩) n c) n xs) (hi : i < n) (hsz : 0 < sz) :
    ∃ w' ys, (∀ ty c', (Builtin.clear_ #[t] ty #[.slice (some ⟨g, i * sz, Option.none⟩) (n - i) c']).run P w = .ok (.tuple #[]) w') ∧ w'.ownsRow B e sz (.slice (some ⟨g, 0, Option.none⟩) n c) n ys ∧ ys.take (i * sz) = xs.take (i * sz) ∧ w.grownBy w' (some g) := by
  obtain ⟨vs, hvs⟩ : ∃ vs, vs = (Builtin.zeroCells z.cells (n - i)).toList := ⟨_, rfl⟩
  obtain ⟨s1, s2⟩ := zeroCells_spec z.cells (n - i)
  rw [← hvs] at s1 s2
  have hmul : i * sz + (n - i) * sz = n * sz := by rw [← Nat.add_mul]; congr 1; omega
  have hmem : ∀ j, j < vs.length → i * sz + j < n * sz := fun j hj => by rw [s1, hz] at hj; omega
  have hst := run_storeCells_cells (P := P) g (i * sz) vs 0 w (fun j hj => by
    obtain ⟨v, hv⟩ := own_cell ho (j := i * sz + j) (hmem j hj)
    rw [Nat.add_zero, hv]; rfl) (fun j hj => by rw [Nat.add_zero]; exact ho.frozenAt (i * sz + j)) (fun u hu => hone u (s2 u hu (by omega)))
  have hown := own_stores vs (i * sz) ho (by rw [s1, hz]; omega)
  refine ⟨setCells w g (i * sz) vs, _, ?_, hown, ?_, setCells_grown g vs w _⟩
  · obtain ⟨m, hm⟩ : ∃ m, n - i = m + 1 := ⟨n - i - 1, by omega⟩
    intro ty c'
    rw [hm] at hvs ⊢
    rw [setCells_eq]
    simp [Builtin.clear_, run_underlying ht, hv, ← hvs, hst]
  · have hl := ho.1
    rw [List.append_assoc, List.take_append_of_le_length (by simp; omega), List.take_take, Nat.min_self]
theorem flatMap_take {α : Type} {enc : α → List Value} {sz : Nat} (henc : ∀ a, (enc a).length = sz) (l : List α) (m : Nat) (hm : m ≤ l.length) : (l.flatMap enc).take (m * sz) = (l.take m).flatMap enc := by
  have : l.flatMap enc = (l.take m).flatMap enc ++ (l.drop m).flatMap enc := by rw [← List.flatMap_append, List.take_append_drop]
  rw [this, List.take_append_of_le_length (by rw [flatMap_length enc sz henc, List.length_take, Nat.min_eq_left hm]; exact Nat.le_refl _), List.take_of_length_le (by rw [flatMap_length enc sz henc, List.length_take, Nat.min_eq_left hm]; exact Nat.le_refl _)]
theorem own_split2 {w : World} {B sz n c : Nat} {e : TypeId} {A : Option Addr} {xs : List Value} (h : w.ownsRow B e sz (.slice A n c) n xs) : (A = Option.none ∧ n = 0 ∧ c = 0) ∨ ∃ g, A = some ⟨g, 0, Option.none⟩ ∧ n ≤ c ∧ c ≤ 9223372036854775807 := by
  rcases h.2 with ⟨h1, h2⟩ | ⟨g, cap, _, h1, _, _, h3, h4, _⟩
  · simp only [Value.slice.injEq] at h1
    exact .inl ⟨h1.1, h2, h1.2.2⟩
  · simp only [Value.slice.injEq, true_and] at h1
    obtain ⟨rfl, rfl⟩ := h1
    exact .inr ⟨g, rfl, h3, by simpa [maxLen] using h4⟩
theorem own_of_block {w : World} {B sz n g : Nat} {e : TypeId} {cs : Array Value} (hB : B ≤ g) (h : w.heap[g]? = some (.cells cs e (0, 0))) (hs : cs.size = n * sz) (hn : n ≤ 1048576) : w.ownsRow B e sz (.slice (some ⟨g, 0, Option.none⟩) n n) n cs.toList :=
  ⟨by simpa using hs, .inr ⟨g, n, cs, rfl, hB, h, Nat.le_refl _, by simp only [maxLen]; omega, hs, List.take_of_length_le (by simp; omega)⟩⟩
/-- A row that was written out, in a block of its own. -/
def FrB (B : Nat) (T : TypeId) (n : Nat) (cs : Array Value) (w : World) (v : Value) : Prop := ∃ g, v = .slice (some ⟨g, 0, Option.none⟩) n n ∧ B ≤ g ∧ w.heap[g]? = some (.cells cs T (0, 0))
theorem FrB.below {B : Nat} {T : TypeId} {n : Nat} {cs : Array Value} {w w' : World} {v : Value} (h : FrB B T n cs w v) (hb : Below w.heap.size w w') : FrB B T n cs w' v :=
  let ⟨g, h1, h2, h3⟩ := h; ⟨g, h1, h2, (hb.block g (Array.getElem?_eq_some_iff.1 h3).1).trans h3⟩
end Go.Proofs.Ytodjokdaofefdaa
/- General lemmas, continued: append that must make a new row; slices cut in front. -/
namespace Go.Proofs.Ytodjokdaofefdaa
set_option linter.unusedSimpArgs false
set_option linter.unusedVariables false
open Go.RowKit

theorem RdL.news {α : Type} {enc : α → List Value} {sz : Nat} {w : World} {b off : Nat} {l : List α} (henc : ∀ a, (enc a).length = sz) (hsz : 0 < sz) (h : RdL (Flat enc) sz w (some ⟨b, off, none⟩) l) (j : Nat) (u : Value) (hu : (l.flatMap enc)[j]? = some u) : w.cell? ((⟨b, off, none⟩ : Addr).add j) = some u := by
  have hl : (l.flatMap enc).length = l.length * sz := flatMap_length enc sz henc l
  have hj : j < l.length * sz := by rw [← hl]; exact (List.getElem?_eq_some_iff.1 hu).1
  have h0 : 0 < l.length := by
    rcases Nat.eq_zero_or_pos l.length with e | e
    · rw [e, Nat.zero_mul] at hj; omega
    · exact e
  obtain ⟨b', off', e, hc⟩ := h.2 h0
  simp only [Option.some.injEq, Addr.mk.injEq, and_true] at e
  obtain ⟨rfl, rfl⟩ := e
  have hk : j / sz < l.length := Nat.div_lt_of_lt_mul (by rwa [Nat.mul_comm] at hj)
  obtain ⟨cs, h1, rfl, h3⟩ := hc (j / sz) hk
  have hm : j % sz < sz := Nat.mod_lt _ hsz
  have e1 := flatMap_get enc sz henc l (j / sz) (j % sz) hk hm
  rw [Nat.div_add_mod' j sz, hu] at e1
  have := h3 (j % sz) u e1.symm
  rw [Nat.add_assoc, Nat.div_add_mod' j sz] at this
  simpa [Addr.add_lit] using this
/-- append to a slice without capacity: a new row. -/
theorem op_append_fresh {α : Type} {enc : α → List Value} {P : Program} {w : World} {o : Oper} {a : Act} {K : Act → World → Prop} {Q : Exit → Act → World → Prop} (s x : Operand) (t e : TypeId) (z : Value) (sz bytes : Nat)
    (ho : o.op = .call { callee := .builtin .append, args := #[s, x], argTypes := #[t, t] }) (ht : P.underlying t = some (.slice e)) (hinfo : (P.info? e).map (fun i => (i.zero, i.size, i.bytes)) = some (some z, sz, bytes))
    (hzs : z.cells.size = sz) (hsz : 0 < sz) (henc : ∀ a, (enc a).length = sz)
    {g : Nat} (hs : a.eval s = .slice (some ⟨g, 0, Option.none⟩) 0 0) {A : Option Addr} {l : List α} {c : Nat} (hx : a.eval x = .slice A l.length c) (hr : RdL (Flat enc) sz w A l) (hpos : 0 < l.length)
    (hbytes : l.length * bytes ≤ 140737488355328) (h63 : l.length ≤ 9223372036854775807)
    (h : ∀ v' w', OwnA w.heap.size e sz enc w' v' l → Below w.heap.size w w' → K (a.put o.dst v') w') : o.wp P a w K Q := by
  obtain ⟨i, hi, hz, hsize, hby⟩ := info_parts hinfo
  obtain ⟨b, off, rfl, _⟩ := hr.2 hpos
  obtain ⟨v', w', h1, h2, h3⟩ := run_append_arg_grows (P := P) w t o.type e i z sz bytes ht hi hz hsize hby hzs hsz ⟨g, 0, Option.none⟩ 0 0 [] (by simp) (fun j u hj => by simp at hj) ⟨b, off, none⟩ l.length c (l.flatMap enc) (flatMap_length enc sz henc l) (RdL.news henc hsz hr) (by omega) (by simp only [maxLen]; omega) (by rw [Nat.zero_add]; exact hbytes)
  unfold Oper.wp execOp
  simp only [ho, resolve, invoke, builtin, Sem.run_bind, Sem.run_pure, Result.andThen_ok, List.map_toArray, List.map_cons, List.map_nil, hs, hx, h1]
  refine h v' w' (OwnA.of (by simpa using h2)) ⟨h3.os, h3.tape, h3.output, h3.size, fun k hk => h3.block k hk (fun e => by cases e)⟩
end Go.Proofs.Ytodjokdaofefdaa
/- General lemmas, continued: slices of one's own whose elements hold more than their own cells. -/
namespace Go.Proofs.Ytodjokdaofefdaa
set_option linter.unusedSimpArgs false
set_option linter.unusedVariables false
open Go.RowKit

/-- The cells of a list's elements, one behind the other. -/
def Chunks {α : Type} (R : α → List Value → Prop) (sz : Nat) : List α → List Value → Prop
  | [], xs => xs = []
  | a :: l, xs => ∃ c r, xs = c ++ r ∧ c.length = sz ∧ R a c ∧ Chunks R sz l r
section
variable {α : Type} {R R' : α → List Value → Prop} {sz : Nat}
theorem Chunks.length {l : List α} {xs : List Value} (h : Chunks R sz l xs) : xs.length = l.length * sz := by
  induction l generalizing xs with
  | nil => rw [h]; simp
  | cons a l ih =>
    obtain ⟨c, r, rfl, h1, _, h2⟩ := h
    rw [List.length_append, ih h2, h1, List.length_cons, Nat.add_mul]; omega
theorem Chunks.mono {l : List α} {xs : List Value} (hR : ∀ a cs, R a cs → R' a cs) (h : Chunks R sz l xs) : Chunks R' sz l xs := by
  induction l generalizing xs with
  | nil => exact h
  | cons a l ih => obtain ⟨c, r, rfl, h1, h2, h3⟩ := h; exact ⟨c, r, rfl, h1, hR _ _ h2, ih h3⟩
theorem Chunks.append {l l2 : List α} {xs ys : List Value} (h : Chunks R sz l xs) (h2 : Chunks R sz l2 ys) : Chunks R sz (l ++ l2) (xs ++ ys) := by
  induction l generalizing xs with
  | nil => rw [show xs = [] from h]; exact h2
  | cons a l ih =>
    obtain ⟨c, r, rfl, h1, h3, h4⟩ := h
    exact ⟨c, r ++ ys, by rw [List.append_assoc], h1, h3, ih h4⟩
theorem Chunks.one {a : α} {c : List Value} (h1 : c.length = sz) (h : R a c) : Chunks R sz [a] c := ⟨c, [], by simp, h1, h, rfl⟩
theorem Chunks.at {l : List α} {xs : List Value} (h : Chunks R sz l xs) : ∀ k (hk : k < l.length), ∃ c : List Value, c.length = sz ∧ R l[k] c ∧ ∀ j v, c[j]? = some v → xs[k * sz + j]? = some v := by
  induction l generalizing xs with
  | nil => intro k hk; simp at hk
  | cons a l ih =>
    obtain ⟨c, r, rfl, h1, h2, h3⟩ := h
    intro k hk
    cases k with
    | zero =>
      refine ⟨c, h1, h2, fun j v hv => ?_⟩
      have hj := (List.getElem?_eq_some_iff.1 hv).1
      rw [Nat.zero_mul, Nat.zero_add, List.getElem?_append_left hj]; exact hv
    | succ k =>
      obtain ⟨c', h4, h5, h6⟩ := ih h3 k (by simpa using hk)
      refine ⟨c', h4, h5, fun j v hv => ?_⟩
      rw [List.getElem?_append_right (by rw [h1, Nat.add_mul]; omega), show (k + 1) * sz + j - c.length = k * sz + j by rw [h1, Nat.add_mul]; omega]
      exact h6 j v hv
theorem Chunks.all {l : List α} {xs : List Value} {p : Value → Prop} (h : Chunks R sz l xs) (hp : ∀ a cs, R a cs → ∀ u ∈ cs, p u) : ∀ u ∈ xs, p u := by
  induction l generalizing xs with
  | nil => rw [show xs = [] from h]; simp
  | cons a l ih =>
    obtain ⟨c, r, rfl, _, h2, h3⟩ := h
    intro u hu
    rcases List.mem_append.1 hu with hu | hu
    · exact hp _ _ h2 u hu
    · exact ih h3 u hu
/-- What reads as a list has its cells one behind the other. -/
theorem chunks_of {w : World} {b : Nat} (l : List α) : ∀ off, (∀ k (hk : k < l.length), ∃ cs : List Value, cs.length = sz ∧ R l[k] cs ∧ ∀ j v, cs[j]? = some v → w.cell? ⟨b, off + k * sz + j, none⟩ = some v) →
    ∃ xs, Chunks R sz l xs ∧ ∀ j v, xs[j]? = some v → w.cell? ⟨b, off + j, none⟩ = some v := by
  induction l with
  | nil => exact fun _ _ => ⟨[], rfl, by simp⟩
  | cons a l ih =>
    intro off h
    obtain ⟨c, h1, h2, h3⟩ := h 0 (by simp)
    obtain ⟨r, h4, h5⟩ := ih (off + sz) (fun k hk => by
      obtain ⟨cs, g1, g2, g3⟩ := h (k + 1) (by simpa using hk)
      refine ⟨cs, g1, g2, fun j v hv => ?_⟩
      have := g3 j v hv
      rwa [Nat.add_mul, Nat.one_mul, show off + (k * sz + sz) + j = off + sz + k * sz + j by omega] at this)
    refine ⟨c ++ r, ⟨c, r, rfl, h1, h2, h4⟩, fun j v hv => ?_⟩
    by_cases hj : j < c.length
    · rw [List.getElem?_append_left hj] at hv
      have := h3 j v hv
      simpa using this
    · rw [List.getElem?_append_right (by omega), h1] at hv
      have := h5 (j - sz) v hv
      rwa [show off + sz + (j - sz) = off + j by omega] at this
end
/-- A slice of one's own whose elements read as the list l, in the sense of R. -/
def OwnG {α : Type} (R : World → α → List Value → Prop) (B : Nat) (e : TypeId) (sz : Nat) (w : World) (v : Value) (l : List α) : Prop :=
  ∃ A c xs, v = .slice A l.length c ∧ w.ownsRow B e sz (.slice A l.length c) l.length xs ∧ Chunks (R w) sz l xs
section
variable {α : Type} {R R' : World → α → List Value → Prop} {B B' : Nat} {e : TypeId} {sz : Nat} {w w' : World} {v : Value} {l : List α}
theorem OwnG.of {xs : List Value} (h : w.ownsRow B e sz v l.length xs) (hc : Chunks (R w) sz l xs) : OwnG R B e sz w v l := by
  obtain ⟨A, c, rfl⟩ := own_slice_ h
  exact ⟨A, c, xs, rfl, h, hc⟩
theorem OwnG.kept {row : Option Nat} (h : OwnG R B e sz w v l) (hg : w.grownBy w' row) (hr : ∀ k, v.ownBlock = some k → row ≠ some k) (hR : ∀ a cs, R w a cs → R w' a cs) : OwnG R B e sz w' v l := by
  obtain ⟨A, c, xs, rfl, ho, hc⟩ := h
  exact ⟨A, c, xs, rfl, own_apart_ ho hg hr, hc.mono hR⟩
theorem OwnG.grown {row : Option Nat} (h : OwnG R B e sz w v l) (hg : w.grownBy w' row) (hr : ∀ k, row = some k → k < B) (hR : ∀ a cs, R w a cs → R w' a cs) : OwnG R B e sz w' v l := by
  obtain ⟨A, c, xs, rfl, ho, hc⟩ := h
  exact ⟨A, c, xs, rfl, own_apart_ ho hg (fun k hk e => by have := (ho.lt k hk).1; have := hr k e; omega), hc.mono hR⟩
theorem OwnG.below (h : OwnG R B e sz w v l) (hb : Below w.heap.size w w') (hR : ∀ a cs, R w a cs → R w' a cs) : OwnG R B e sz w' v l := by
  obtain ⟨A, c, xs, rfl, ho, hc⟩ := h
  exact ⟨A, c, xs, rfl, own_below ho hb, hc.mono hR⟩
theorem OwnG.lower (h : OwnG R B e sz w v l) (hB : B' ≤ B) (hR : ∀ a cs, R w a cs → R' w a cs) : OwnG R' B' e sz w v l := by
  obtain ⟨A, c, xs, rfl, ho, hc⟩ := h
  exact ⟨A, c, xs, rfl, own_lower ho hB, hc.mono hR⟩
theorem OwnG.ge (h : OwnG R B e sz w v l) (k : Nat) (hk : v.ownBlock = some k) : B ≤ k ∧ k < w.heap.size := by
  obtain ⟨A, c, xs, rfl, ho, _⟩ := h
  exact ho.lt k hk
theorem OwnG.nil : OwnG R B e sz w (.slice Option.none 0 0) ([] : List α) := ⟨_, 0, [], rfl, World.ownsRow_nil _ _ _ _, rfl⟩
theorem OwnG.empty (hB : B ≤ w.heap.size) : OwnG R B e sz (w.alloc (.cells #[] e)) (.slice (some ⟨w.heap.size, 0, Option.none⟩) 0 0) ([] : List α) :=
  ⟨_, 0, [], rfl, ⟨by simp, .inr ⟨w.heap.size, 0, #[], rfl, hB, heap_alloc_new w _, Nat.le_refl _, by simp [maxLen], by simp, by simp⟩⟩, rfl⟩
/-- As it reads. -/
theorem OwnG.rd (hb : l.length ≤ 9223372036854775807) (h : OwnG R B e sz w v l) : ∃ A c, v = .slice A l.length c ∧ RdL R sz w A l := by
  obtain ⟨A, c, xs, rfl, ho, hc⟩ := h
  refine ⟨A, c, rfl, hb, fun hn => ?_⟩
  obtain ⟨g, cap, hv, _, _⟩ := ho.form hn
  simp only [Value.slice.injEq, true_and] at hv
  obtain ⟨rfl, rfl⟩ := hv
  refine ⟨g, 0, rfl, fun k hk => ?_⟩
  obtain ⟨cs, h1, h2, h3⟩ := hc.at k hk
  refine ⟨cs, h1, h2, fun j u hu => ?_⟩
  have h4 := h3 j u hu
  have hlt : k * sz + j < l.length * sz := by rw [← hc.length]; exact (List.getElem?_eq_some_iff.1 h4).1
  rw [Nat.zero_add, ho.cellAt _ hlt]; exact h4
end
theorem RdL.chunks {α : Type} {R : World → α → List Value → Prop} {sz : Nat} {w : World} {b off : Nat} {l : List α} (h : RdL R sz w (some ⟨b, off, none⟩) l) : ∃ xs, Chunks (R w) sz l xs ∧ ∀ j u, xs[j]? = some u → w.cell? ((⟨b, off, none⟩ : Addr).add j) = some u := by
  rcases Nat.eq_zero_or_pos l.length with h0 | h0
  · obtain rfl := List.eq_nil_of_length_eq_zero h0
    exact ⟨[], rfl, by simp⟩
  · obtain ⟨b', off', e, hc⟩ := h.2 h0
    simp only [Option.some.injEq, Addr.mk.injEq, and_true] at e
    obtain ⟨rfl, rfl⟩ := e
    obtain ⟨xs, h1, h2⟩ := chunks_of l off hc
    exact ⟨xs, h1, fun j u hu => by rw [Addr.add_lit]; exact h2 j u hu⟩
theorem rd_blockG {α : Type} {R : World → α → List Value → Prop} {sz : Nat} {w : World} {g : Nat} {cs : Array Value} {t : TypeId} {q : α} (hg : w.heap[g]? = some (.cells cs t (0, 0))) (hl : cs.size = sz) (hq : R w q cs.toList) : RdL R sz w (some ⟨g, 0, Option.none⟩) [q] :=
  ⟨by simp, fun _ => ⟨g, 0, rfl, fun k hk => by
    obtain rfl : k = 0 := by simp at hk; omega
    exact ⟨cs.toList, by simpa using hl, hq, fun j v hv => by
      simp only [Nat.zero_mul, Nat.zero_add]
      rw [cell_of_row w g _ cs t (0, 0) hg, ← Array.getElem?_toList, hv]⟩⟩⟩
theorem run_appendG {α : Type} {R : World → α → List Value → Prop} {P : Program} (w : World) (B : Nat) (t ty e : TypeId) (i : TypeInfo) (z : Value) (sz bytes : Nat) (ht : P.underlying t = some (.slice e)) (hi : P.info? e = some i) (hz : i.zero = some z)
    (hsize : i.size = sz) (hby : i.bytes = bytes) (hzs : z.cells.size = sz) (hsz : 0 < sz) (hone : ∀ a cs, R w a cs → ∀ u ∈ cs, u.oneCell' = true)
    (v : Value) (l : List α) (hown : OwnG R B e sz w v l) (A : Option Addr) (l2 : List α) (c : Nat) (hr : RdL R sz w A l2) (hR : ∀ w', w.grownBy w' v.ownBlock → ∀ a cs, R w a cs → R w' a cs)
    (hbytes : (l.length + l2.length) * bytes ≤ 140737488355328) (h63 : l.length + l2.length ≤ 9223372036854775807) (hbase : B ≤ w.heap.size) :
    ∃ v' w', (Builtin.append_ #[t, t] ty #[v, .slice A l2.length c]).run P w = .ok v' w' ∧ OwnG R B e sz w' v' (l ++ l2) ∧ w.grownBy w' v.ownBlock ∧ (v'.ownBlock = v.ownBlock ∨ v'.ownBlock = some w.heap.size) := by
  obtain ⟨A0, c0, xs, rfl, ho, hc⟩ := hown
  rcases Nat.eq_zero_or_pos l2.length with h0 | h0
  · obtain rfl := List.eq_nil_of_length_eq_zero h0
    refine ⟨.slice A0 l.length c0, w, ?_, ⟨A0, c0, xs, by simp, by simpa using ho, by simpa using hc⟩, World.grownBy.refl w _, .inl rfl⟩
    rcases ho.2 with ⟨h1, h2⟩ | ⟨g, cap, cur, h1, _, _, hnc, _⟩
    · rw [h1]; cases A <;> simp [Builtin.append_, run_underlying ht, sizeOf, typeInfo, hi, Builtin.lenOf, Builtin.firstCells, loadCells, loadCellsFrom]
    · rw [h1]; cases A <;> simp [Builtin.append_, run_underlying ht, sizeOf, typeInfo, hi, Builtin.lenOf, Builtin.firstCells, hnc, storeCells, loadCells, loadCellsFrom]
  · obtain ⟨b, off, rfl, _⟩ := hr.2 h0
    obtain ⟨ys, h1, h2⟩ := hr.chunks
    obtain ⟨v', w', g1, g2, g3, _, g5⟩ := run_append_own_at (P := P) w B t ty e i z sz bytes ht hi hz hsize hby hzs hsz (.slice A0 l.length c0) l.length xs ho ⟨b, off, none⟩ l2.length c ys h1.length h2 (h1.all hone) (by simp only [maxLen]; omega) hbytes hbase
    exact ⟨v', w', g1, OwnG.of (by simpa using g2) ((hc.append h1).mono (hR w' g3)), g3, g5⟩
theorem op_appendG {α : Type} {R : World → α → List Value → Prop} {P : Program} {w : World} {o : Oper} {a : Act} {K : Act → World → Prop} {Q : Exit → Act → World → Prop} (s x : Operand) (t e : TypeId) (z : Value) (sz bytes : Nat)
    (ho : o.op = .call { callee := .builtin .append, args := #[s, x], argTypes := #[t, t] }) (ht : P.underlying t = some (.slice e)) (hinfo : (P.info? e).map (fun i => (i.zero, i.size, i.bytes)) = some (some z, sz, bytes))
    (hzs : z.cells.size = sz) (hsz : 0 < sz) (hone : ∀ a cs, R w a cs → ∀ u ∈ cs, u.oneCell' = true)
    {B c : Nat} {A : Option Addr} {l l2 : List α} {v : Value} (hs : a.eval s = v) (hown : OwnG R B e sz w v l) (hx : a.eval x = .slice A l2.length c) (hr : RdL R sz w A l2) (hR : ∀ w', w.grownBy w' v.ownBlock → ∀ a cs, R w a cs → R w' a cs)
    (hbytes : (l.length + l2.length) * bytes ≤ 140737488355328) (h63 : l.length + l2.length ≤ 9223372036854775807) (hbase : B ≤ w.heap.size)
    (h : ∀ v' w', OwnG R B e sz w' v' (l ++ l2) → Below B w w' → w.grownBy w' v.ownBlock → (v'.ownBlock = v.ownBlock ∨ v'.ownBlock = some w.heap.size) → K (a.put o.dst v') w') : o.wp P a w K Q := by
  obtain ⟨i, hi, hz, hsize, hby⟩ := info_parts hinfo
  obtain ⟨v', w', h1, h2, h3, h4⟩ := run_appendG (P := P) w B t o.type e i z sz bytes ht hi hz hsize hby hzs hsz hone v l hown A l2 c hr hR hbytes h63 hbase
  unfold Oper.wp execOp
  simp only [ho, resolve, invoke, builtin, Sem.run_bind, Sem.run_pure, Result.andThen_ok, List.map_toArray, List.map_cons, List.map_nil, hs, hx, h1]
  exact h v' w' h2 (grown_below h3 hbase (fun k hk => (hown.ge k hk).1)) h3 h4
theorem wpList_appendG {α : Type} {R : World → α → List Value → Prop} {P : Program} {w : World} {ops : Array Oper} {rest : List Oper} {o : Oper} {a : Act} {Q : Exit → Act → World → Prop} (hgd : o.guard = Option.none) (s x : Operand) (t e : TypeId) (z : Value) (sz bytes : Nat)
    (ho : o.op = .call { callee := .builtin .append, args := #[s, x], argTypes := #[t, t] }) (ht : P.underlying t = some (.slice e)) (hinfo : (P.info? e).map (fun i => (i.zero, i.size, i.bytes)) = some (some z, sz, bytes))
    (hzs : z.cells.size = sz) (hsz : 0 < sz) (hone : ∀ a cs, R w a cs → ∀ u ∈ cs, u.oneCell' = true)
    {B c : Nat} {A : Option Addr} {l l2 : List α} (hown : OwnG R B e sz w (a.eval s) l) (hx : a.eval x = .slice A l2.length c) (hr : RdL R sz w A l2) (hR : ∀ w', w.grownBy w' (a.eval s).ownBlock → ∀ a cs, R w a cs → R w' a cs)
    (hbytes : (l.length + l2.length) * bytes ≤ 140737488355328) (h63 : l.length + l2.length ≤ 9223372036854775807) (hbase : B ≤ w.heap.size)
    (h : ∀ v' w', OwnG R B e sz w' v' (l ++ l2) → Below B w w' → w.grownBy w' (a.eval s).ownBlock → (v'.ownBlock = (a.eval s).ownBlock ∨ v'.ownBlock = some w.heap.size) → wpList P ops Q rest (a.put o.dst v') w') : wpList P ops Q (o :: rest) a w :=
  wpList_plain hgd fun _ hK => op_appendG s x t e z sz bytes ho ht hinfo hzs hsz hone rfl hown hx hr hR hbytes h63 hbase fun v' w' h2 h3 h4 h5 => hK _ _ (h v' w' h2 h3 h4 h5)
end Go.Proofs.Ytodjokdaofefdaa
/- Expressions: trees; how they read, in which blocks they stand. -/
namespace Go.Proofs.Ytodjokdaofefdaa
set_option linter.unusedSimpArgs false
set_option linter.unusedVariables false
open Go.RowKit

inductive Ex where
  | nd (k n : Int) (s : ByteArray) (ps : List Ex)
def Ex.k : Ex → Int | .nd k _ _ _ => k
def Ex.n : Ex → Int | .nd _ n _ _ => n
def Ex.s : Ex → ByteArray | .nd _ _ s _ => s
def Ex.ps : Ex → List Ex | .nd _ _ _ ps => ps
theorem Ex.ext {a b : Ex} (h1 : a.k = b.k) (h2 : a.n = b.n) (h3 : a.s = b.s) (h4 : a.ps = b.ps) : a = b := by
  cases a; cases b
  simp only [Ex.k, Ex.n, Ex.s, Ex.ps] at h1 h2 h3 h4
  subst h1; subst h2; subst h3; subst h4; rfl
abbrev ExL := List Ex
def exD : Ex := .nd 0 0 ByteArray.empty []
def exAt (l : ExL) (k : Nat) : Ex := l.getD k exD
theorem exAt_eq {l : ExL} {k : Nat} (hk : k < l.length) : exAt l k = l[k] := by simp [exAt, hk]
def exHead (t : Ex) (v : Value) : List Value := [.int .i64 t.k, .int .i64 t.n, .string t.s, v]
/-- An expression at most d deep; its parts stand in blocks from lo on, below hi. -/
def exR : Nat → Nat → Nat → World → Ex → List Value → Prop
  | 0, _, _, _, _, _ => False
  | d + 1, lo, hi, w, t, cs => ∃ A c, cs = exHead t (.slice A t.ps.length c) ∧ RdL (exR d lo hi) 4 w A t.ps ∧ (0 < t.ps.length → ∀ a, A = some a → lo ≤ a.block ∧ a.block < hi) ∧ t.s.size ≤ 9223372036854775807
def exS (d lo hi : Nat) (w : World) (A : Option Addr) (l : ExL) : Prop := RdL (exR d lo hi) 4 w A l ∧ (0 < l.length → ∀ a, A = some a → lo ≤ a.block ∧ a.block < hi)
section
variable {d d' lo hi lo' hi' B : Nat} {w w' : World} {A : Option Addr} {l : ExL} {t : Ex} {cs : List Value}
theorem RdL.keep {α : Type} {R R' : World → α → List Value → Prop} {sz : Nat} {l : List α} (h : RdL R sz w A l) (hR : ∀ a cs, R w a cs → R' w' a cs) (hA : 0 < l.length → ∀ a, A = some a → w'.heap[a.block]? = w.heap[a.block]?) : RdL R' sz w' A l := by
  refine ⟨h.1, fun hn => ?_⟩
  obtain ⟨b, off, e, hc⟩ := h.2 hn
  refine ⟨b, off, e, fun k hk => ?_⟩
  obtain ⟨cs, h1, h2, h3⟩ := hc k hk
  refine ⟨cs, h1, hR _ _ h2, fun j v hv => ?_⟩
  have hb := hA hn _ e
  rw [World.cell?_of_block (by exact hb)]
  exact h3 j v hv
theorem exR.keep (hk : ∀ k, lo ≤ k → k < hi → w'.heap[k]? = w.heap[k]?) (h1 : lo' ≤ lo) (h2 : hi ≤ hi') : ∀ {d : Nat} {t : Ex} {cs : List Value}, exR d lo hi w t cs → exR d lo' hi' w' t cs
  | 0, _, _, h => h
  | d + 1, t, cs, ⟨A, c, e, h3, h4, h5⟩ => ⟨A, c, e, RdL.keep h3 (fun _ _ h => exR.keep hk h1 h2 h) (fun hn a ha => hk _ (h4 hn a ha).1 (h4 hn a ha).2), fun hn a ha => ⟨by have := (h4 hn a ha).1; omega, by have := (h4 hn a ha).2; omega⟩, h5⟩
theorem exS.keep (h : exS d lo hi w A l) (hk : ∀ k, lo ≤ k → k < hi → w'.heap[k]? = w.heap[k]?) (h1 : lo' ≤ lo) (h2 : hi ≤ hi') : exS d lo' hi' w' A l :=
  ⟨RdL.keep h.1 (fun _ _ h => exR.keep hk h1 h2 h) (fun hn a ha => hk _ (h.2 hn a ha).1 (h.2 hn a ha).2), fun hn a ha => ⟨by have := (h.2 hn a ha).1; omega, by have := (h.2 hn a ha).2; omega⟩⟩
theorem exS.below (h : exS d lo hi w A l) (hB : hi ≤ B) (hb : Below B w w') : exS d lo hi w' A l := h.keep (fun k _ hk => hb.block k (by omega)) (Nat.le_refl _) (Nat.le_refl _)
theorem exR.below (h : exR d lo hi w t cs) (hB : hi ≤ B) (hb : Below B w w') : exR d lo hi w' t cs := h.keep (fun k _ hk => hb.block k (by omega)) (Nat.le_refl _) (Nat.le_refl _)
theorem exS.wide (h : exS d lo hi w A l) (h1 : lo' ≤ lo) (h2 : hi ≤ hi') : exS d lo' hi' w A l := h.keep (fun _ _ _ => rfl) h1 h2
theorem exR.deeper : ∀ {d d' : Nat} {t : Ex} {cs : List Value}, d ≤ d' → exR d lo hi w t cs → exR d' lo hi w t cs
  | 0, _, _, _, _, h => h.elim
  | d + 1, 0, _, _, hd, _ => by omega
  | d + 1, d' + 1, t, cs, hd, ⟨A, c, e, h3, h4⟩ => ⟨A, c, e, RdL.keep h3 (fun _ _ h => exR.deeper (by omega) h) (fun _ _ _ => rfl), h4⟩
theorem exS.deeper (h : exS d lo hi w A l) (hd : d ≤ d') : exS d' lo hi w A l := ⟨RdL.keep h.1 (fun _ _ h => exR.deeper hd h) (fun _ _ _ => rfl), h.2⟩
theorem exS.nil : exS d lo hi w A [] := ⟨RdL.nil A, fun h => by simp at h⟩
theorem exS.len (h : exS d lo hi w A l) : l.length ≤ 9223372036854775807 := h.1.1
theorem exS.zero (h : exS 0 lo hi w A l) : l = [] := by
  cases l with
  | nil => rfl
  | cons x l =>
    obtain ⟨_, _, _, hc⟩ := h.1.2 (by simp)
    obtain ⟨_, _, h2, _⟩ := hc 0 (by simp)
    exact h2.elim
theorem exS.cells (h : exS (d + 1) lo hi w A l) (hn : 0 < l.length) : ∃ b off, A = some ⟨b, off, none⟩ ∧ (lo ≤ b ∧ b < hi) ∧ ∀ k, k < l.length → ∃ A' c', exS d lo hi w A' (exAt l k).ps ∧ (exAt l k).s.size ≤ 9223372036854775807 ∧
    w.cell? ⟨b, off + k * 4, none⟩ = some (.int .i64 (exAt l k).k) ∧ w.cell? ⟨b, off + k * 4 + 1, none⟩ = some (.int .i64 (exAt l k).n) ∧ w.cell? ⟨b, off + k * 4 + 2, none⟩ = some (.string (exAt l k).s) ∧ w.cell? ⟨b, off + k * 4 + 3, none⟩ = some (.slice A' (exAt l k).ps.length c') := by
  obtain ⟨b, off, e, hc⟩ := h.1.2 hn
  refine ⟨b, off, e, h.2 hn _ e, fun k hk => ?_⟩
  obtain ⟨cs, _, ⟨A', c', rfl, h2, h4, h5⟩, hv⟩ := hc k hk
  have e : l[k] = exAt l k := (exAt_eq hk).symm
  rw [e] at h2 hv h4 h5
  exact ⟨A', c', ⟨h2, h4⟩, h5, hv 0 _ rfl, hv 1 _ rfl, hv 2 _ rfl, hv 3 _ rfl⟩
end
/-- Whether two are alike. -/
noncomputable def sameX {α : Type} (a b : α) : Bool := @decide (a = b) (Classical.propDecidable _)
theorem sameX_true {α : Type} {a b : α} : sameX a b = true ↔ a = b := by simp [sameX]
theorem sameX_false {α : Type} {a b : α} : sameX a b = false ↔ a ≠ b := by simp [sameX]
theorem sameX_self {α : Type} (a : α) : sameX a a = true := sameX_true.2 rfl
end Go.Proofs.Ytodjokdaofefdaa
/- Structs with one slice of flat elements: how slices of them read; rows of one's own. -/
namespace Go.Proofs.Ytodjokdaofefdaa
set_option linter.unusedSimpArgs false
set_option linter.unusedVariables false
open Go.RowKit

/-- A type of structs with one slice field: its cells (the slice's value apart), the slice's elements. -/
structure Nst (α β : Type) where
  cells : α → Value → List Value
  inner : α → List β
  enc : β → List Value
  isz : Nat
  iT : TypeId
structure Nst.Good {α β : Type} (N : Nst α β) (oT : TypeId) : Prop where
  one : ∀ r v, v.oneCell' = true → ∀ u ∈ N.cells r v, u.oneCell' = true
  encl : ∀ b, (N.enc b).length = N.isz
  ipos : 0 < N.isz
  ne : N.iT ≠ oT
section
variable {α β : Type} {N : Nst α β} {oT : TypeId} {osz B B' B0 B1 : Nat} {w w' : World} {A : Option Addr} {l : List α} {r : α} {cs : List Value}
theorem rdl_lt {enc : β → List Value} {sz : Nat} {l : List β} (hp : 0 < sz) (h : RdL (Flat enc) sz w A l) (hn : 0 < l.length) (a : Addr) (ha : A = some a) : a.block < w.heap.size := by
  obtain ⟨b, off, e, hc⟩ := h.2 hn
  subst ha
  simp only [Option.some.injEq] at e
  subst e
  obtain ⟨cs, h1, _, h3⟩ := hc 0 hn
  have h4 := h3 0 (cs[0]'(by omega)) (List.getElem?_eq_getElem _)
  have h5 := block_lt_of_cell h4
  simpa using h5
theorem rdl_belowB {enc : β → List Value} {sz : Nat} {l : List β} (h : RdL (Flat enc) sz w A l) (hlt : 0 < l.length → ∀ a, A = some a → a.block < B0) (hb : ∀ k, k < B0 → w'.heap[k]? = w.heap[k]?) : RdL (Flat enc) sz w' A l := by
  refine ⟨h.1, fun hn => ?_⟩
  obtain ⟨b, off, e, hc⟩ := h.2 hn
  refine ⟨b, off, e, fun k hk => ?_⟩
  obtain ⟨cs, h1, h2, h3⟩ := hc k hk
  refine ⟨cs, h1, h2, fun j v hv => ?_⟩
  have h4 := h3 j v hv
  have h5 := hlt hn _ e
  rw [← h4]
  exact World.cell?_of_block (hb _ h5)
def Nst.R (N : Nst α β) (B0 : Nat) (w : World) (r : α) (cs : List Value) : Prop := ∃ A c, cs = N.cells r (.slice A (N.inner r).length c) ∧ RdL (Flat N.enc) N.isz w A (N.inner r) ∧ (0 < (N.inner r).length → ∀ a, A = some a → a.block < B0)
def Nst.O (N : Nst α β) (B : Nat) (w : World) (r : α) (cs : List Value) : Prop := ∃ v, cs = N.cells r v ∧ OwnA B N.iT N.isz N.enc w v (N.inner r)
theorem Nst.R.belowB (h : N.R B0 w r cs) (hb : ∀ k, k < B0 → w'.heap[k]? = w.heap[k]?) : N.R B0 w' r cs := by
  obtain ⟨A, c, h1, h2, h3⟩ := h
  exact ⟨A, c, h1, rdl_belowB h2 h3 hb, h3⟩
theorem Nst.R.up (h : N.R B0 w r cs) (hB : B0 ≤ B1) : N.R B1 w r cs := by
  obtain ⟨A, c, h1, h2, h3⟩ := h
  exact ⟨A, c, h1, h2, fun hn a ha => Nat.lt_of_lt_of_le (h3 hn a ha) hB⟩
theorem Nst.R.mono (hB : B0 ≤ w.heap.size) (hb : Below w.heap.size w w') (h : N.R B0 w r cs) : N.R B0 w' r cs := h.belowB (fun k hk => hb.block k (by omega))
theorem Nst.O.one (hN : N.Good oT) (h : N.O B w r cs) : ∀ u ∈ cs, u.oneCell' = true := by
  obtain ⟨v, rfl, A, c, rfl, _⟩ := h
  exact hN.one r _ rfl
theorem Nst.R.one (hN : N.Good oT) (h : N.R B w r cs) : ∀ u ∈ cs, u.oneCell' = true := by
  obtain ⟨A, c, rfl, _⟩ := h
  exact hN.one r _ rfl
theorem Nst.O.rd (hN : N.Good oT) (h : N.O B w r cs) (hn : (N.inner r).length ≤ 9223372036854775807) : N.R w.heap.size w r cs := by
  obtain ⟨v, rfl, ho⟩ := h
  obtain ⟨A, c, rfl, hr⟩ := OwnA.rd hN.encl hn ho
  exact ⟨A, c, rfl, hr, fun h0 a ha => rdl_lt hN.ipos hr h0 a ha⟩
theorem Nst.O.below (hb : Below w.heap.size w w') (h : N.O B w r cs) : N.O B w' r cs := let ⟨v, h1, h2⟩ := h; ⟨v, h1, h2.below hb⟩
theorem Nst.O.lower (hB : B' ≤ B) (h : N.O B w r cs) : N.O B' w r cs := let ⟨v, h1, h2⟩ := h; ⟨v, h1, h2.lower hB⟩
/-- Only rows of the structs turn: what is in them stays. -/
theorem Nst.O.row (hN : N.Good oT) {row : Option Nat} (hg : w.grownBy w' row) (hrow : ∀ k, row = some k → ∃ cs fr, w.heap[k]? = some (.cells cs oT fr)) (h : N.O B w r cs) : N.O B w' r cs := by
  obtain ⟨v, h1, A, c, rfl, ho⟩ := h
  refine ⟨_, h1, A, c, rfl, own_apart_ ho hg (fun k hk e => ?_)⟩
  obtain ⟨cs, fr, hx⟩ := hrow k e
  rcases ho.2 with ⟨h1, _⟩ | ⟨g2, cap, cur, hv, _, hx2, _⟩
  · rw [h1] at hk; cases hk
  · rw [hv] at hk
    simp only [Value.ownBlock, Option.some.injEq] at hk
    subst hk
    rw [hx] at hx2
    simp only [Option.some.injEq, Obj.cells.injEq] at hx2
    exact absurd hx2.2.1 (fun h => hN.ne h.symm)
/-- The slice with the address A reads as l. -/
def Nst.rdl (N : Nst α β) (osz : Nat) (w : World) (A : Option Addr) (l : List α) : Prop := RdL (N.R w.heap.size) osz w A l
theorem RdL.mono {α : Type} {R R' : World → α → List Value → Prop} {sz : Nat} {w w' : World} {A : Option Addr} {l : List α} (h : RdL R sz w A l) (hb : Below w.heap.size w w') (hR : ∀ a cs, R w a cs → R' w' a cs) : RdL R' sz w' A l :=
  ⟨h.1, fun hn => let ⟨b, off, e, hc⟩ := h.2 hn; ⟨b, off, e, fun k hk => let ⟨cs, h1, h2, h3⟩ := hc k hk; ⟨cs, h1, hR _ _ h2, fun j v hv => below_cell hb (h3 j v hv)⟩⟩⟩
theorem chunks_mem {α : Type} {R : α → List Value → Prop} {p : α → Prop} {sz : Nat} {l : List α} {xs : List Value} (hp : ∀ a ∈ l, p a) (h : Chunks R sz l xs) : Chunks (fun a cs => R a cs ∧ p a) sz l xs := by
  induction l generalizing xs with
  | nil => exact h
  | cons a l ih =>
    obtain ⟨c, r, rfl, h1, h2, h3⟩ := h
    exact ⟨c, r, rfl, h1, ⟨h2, hp a (by simp)⟩, ih (fun b hb => hp b (by simp [hb])) h3⟩
theorem Nst.rdl.below (h : N.rdl osz w A l) (hb : Below w.heap.size w w') : N.rdl osz w' A l := RdL.mono h hb (fun a cs h => (Nst.R.mono (Nat.le_refl _) hb h).up hb.size)
theorem Nst.rdl.regrown (h : N.rdl osz w A l) (d : Nat) (os : Array Obj) : N.rdl osz (Sort.grow (redrawn w d) os) A l := h.below (below_regrown w d os)
theorem Nst.rdl.len (h : N.rdl osz w A l) : l.length ≤ 9223372036854775807 := h.1
theorem Nst.rdl.own (hN : N.Good oT) {c : Nat} (hl : l.length ≤ 9223372036854775807) (hf : ∀ r ∈ l, (N.inner r).length ≤ 9223372036854775807) (h : OwnG (N.O B) B oT osz w (.slice A l.length c) l) : N.rdl osz w A l := by
  obtain ⟨A', c', xs, e, ho, hc⟩ := h
  have h2 : OwnG (fun w r cs => N.O B w r cs ∧ (N.inner r).length ≤ 9223372036854775807) B oT osz w (.slice A l.length c) l := ⟨A', c', xs, e, ho, chunks_mem hf hc⟩
  obtain ⟨A1, c1, e1, hr⟩ := h2.rd hl
  simp only [Value.slice.injEq, true_and] at e1
  obtain ⟨rfl, rfl⟩ := e1
  exact ⟨hr.1, fun hn => let ⟨b, off, e, hc⟩ := hr.2 hn; ⟨b, off, e, fun k hk => let ⟨cs, g1, g2, g3⟩ := hc k hk; ⟨cs, g1, Nst.O.rd hN g2.1 g2.2, g3⟩⟩⟩
end
theorem own_setCell {w : World} {B sz n : Nat} {e : TypeId} {v : Value} {xs : List Value} {a : Addr} {x : Value} (h : w.ownsRow B e sz v n xs) (hne : ∀ k, v.ownBlock = some k → k ≠ a.block) : (w.setCell a x).ownsRow B e sz v n xs :=
  own_apart_ (row := some a.block) h ⟨rfl, rfl, rfl, by simp [World.setCell], fun k _ hk => Below.heap_setCell w a x k (fun e => hk (by simp [e]))⟩ (fun k hk e => hne k hk (by simpa using e.symm))
theorem chunks_elem {α : Type} {R : α → List Value → Prop} {sz B g n c k : Nat} {e : TypeId} {w : World} {xs : List Value} {l : List α} {q : α} (vs : List Value) (h : w.ownsRow B e sz (.slice (some ⟨g, 0, none⟩) n c) n xs) (hk : k < n) (hv : vs.length = sz) (hp : Chunks R sz l (xs.take (k * sz))) (hq : R q vs) :
    ∃ xs', (setCells w g (k * sz) vs).ownsRow B e sz (.slice (some ⟨g, 0, none⟩) n c) n xs' ∧ Chunks R sz (l ++ [q]) (xs'.take ((k + 1) * sz)) := by
  obtain ⟨xs', h1, h2⟩ := own_elem vs h hk hv rfl
  exact ⟨xs', h1, by rw [h2]; exact hp.append (Chunks.one hv hq)⟩
theorem str_eq {x y : ByteArray} : x.toList = y.toList ↔ x = y := by
  constructor
  · intro h
    rw [Go.ByteArray.toList_eq, Go.ByteArray.toList_eq] at h
    exact ByteArray.ext (Array.toList_inj.1 h)
  · rintro rfl; rfl
theorem str_beq (x y : ByteArray) : (x.toList == y.toList) = decide (x = y) := by
  rw [Bool.eq_iff_iff]
  simp [str_eq]
def SzPost (left : Int) (n : Nat) (w : World) (e : Ending) (w' : World) : Prop := ∃ x : Int, e = .returned (.int .i64 x) ∧ (x = -1 ∨ (0 ≤ x ∧ x + n ≤ left)) ∧ Below w.heap.size w w'
theorem bcell {W w1 : World} (hb : Below W.heap.size W w1) : (∀ b o, b < W.heap.size → w1.cell? ⟨b, o, none⟩ = W.cell? ⟨b, o, none⟩) ∧ (∀ b o, b < W.heap.size → w1.frozen? ⟨b, o, none⟩ = W.frozen? ⟨b, o, none⟩) :=
  ⟨fun b o h => hb.cell (p := ⟨b, o, none⟩) h, fun b o h => hb.frozen (p := ⟨b, o, none⟩) h⟩
end Go.Proofs.Ytodjokdaofefdaa
/- Expressions: comparison by the laws. -/
namespace Go.Proofs.Ytodjokdaofefdaa
set_option linter.unusedSimpArgs false
set_option linter.unusedVariables false
open Go.RowKit

def exW (d : Nat) (w : World) (A : Option Addr) (l : ExL) : Prop := exS d 0 w.heap.size w A l
theorem exW.below {d : Nat} {w w' : World} {A : Option Addr} {l : ExL} (h : exW d w A l) (hb : Below w.heap.size w w') : exW d w' A l := (exS.below h (Nat.le_refl _) hb).wide (Nat.le_refl _) hb.size
theorem exW.regrown {m : Nat} {w : World} {A : Option Addr} {l : ExL} (h : exW m w A l) (d : Nat) (os : Array Obj) : exW m (Sort.grow (redrawn w d) os) A l := h.below (below_regrown w d os)
theorem exW.cells {d : Nat} {w : World} {A : Option Addr} {l : ExL} (h : exW (d + 1) w A l) (hn : 0 < l.length) : ∃ b off, A = some ⟨b, off, none⟩ ∧ ∀ k, k < l.length → ∃ A' c', exW d w A' (exAt l k).ps ∧ (exAt l k).s.size ≤ 9223372036854775807 ∧
    w.cell? ⟨b, off + k * 4, none⟩ = some (.int .i64 (exAt l k).k) ∧ w.cell? ⟨b, off + k * 4 + 1, none⟩ = some (.int .i64 (exAt l k).n) ∧ w.cell? ⟨b, off + k * 4 + 2, none⟩ = some (.string (exAt l k).s) ∧ w.cell? ⟨b, off + k * 4 + 3, none⟩ = some (.slice A' (exAt l k).ps.length c') := by
  obtain ⟨b, off, e, _, hc⟩ := exS.cells h hn
  exact ⟨b, off, e, hc⟩
theorem ex_sameX (r r' : Ex) : sameX r r' = (!(r.k != r'.k) && (!(r.n != r'.n) && (!(!(r.s.toList == r'.s.toList)) && !(!sameX r.ps r'.ps)))) := by
  rw [Bool.eq_iff_iff]
  simp only [sameX_true, Bool.and_eq_true, Bool.not_not, Bool.not_eq_true', bne_eq_false_iff_eq]
  constructor
  · rintro rfl; simp
  · rintro ⟨h0, h1, h2, h3⟩
    exact Ex.ext h0 h1 (by first | exact h2 | simpa using h2 | exact str_eq.1 (by simpa using h2)) h3
theorem ex_same {us vs : ExL} (h : us.length = vs.length) (h2 : ∀ k, k < us.length → exAt us k = exAt vs k) : true = sameX us vs := by
  rw [eq_comm, sameX_true]
  apply List.ext_getElem h
  intro k h3 h4
  rw [← exAt_eq h3, ← exAt_eq h4]
  exact h2 k h3
/-- What two calls of each comparison give, at parts at most d deep. -/
def EqQ (d : Nat) : Prop := ∀ (A A' : Option Addr) (r r' : Ex) (c c' : Nat) (w : World), exW d w A r.ps → exW d w A' r'.ps →
  Calls Try.prog 23 #[.agg #[.int .i64 r.k, .int .i64 r.n, .string r.s, .slice A r.ps.length c], .agg #[.int .i64 r'.k, .int .i64 r'.n, .string r'.s, .slice A' r'.ps.length c']] w fun e w' => e = .returned (.bool (sameX r r')) ∧ Below w.heap.size w w'
def EqP (d : Nat) : Prop := ∀ (A A' : Option Addr) (us vs : ExL) (c c' : Nat) (w : World), exW d w A us → exW d w A' vs →
  Calls Try.prog 75 #[.slice A us.length c, .slice A' vs.length c'] w fun e w' => e = .returned (.bool (sameX us vs)) ∧ Below w.heap.size w w'
set_option maxRecDepth 100000 in
set_option maxHeartbeats 2000000 in
theorem eqQ_of {d : Nat} (hP : EqP d) : EqQ d := by
  intro A A' r r' c c' w hU hV
  have hl := exS.len hU
  have hl' := exS.len hV
  have HP := Lib.hid hP
  clear hP
  go_enter Try.func23, Try.ntmps23
  go_wp2_with (go_at_call 75; refine (HP.out _ _ _ _ _ _ _ (hU.below (by (repeat (first | exact Below.refl _ _ | refine ext_alloc ?_ _ | refine Below.setCell ?_ (by simp) _)))) (hV.below (by (repeat (first | exact Below.refl _ _ | refine ext_alloc ?_ _ | refine Below.setCell ?_ (by simp) _))))).mono ?_; rintro e w1 ⟨rfl, hb⟩; obtain ⟨hc1, hf1⟩ := bcell hb; have hz1 := hb.size; simp at hz1)
  all_goals
    go_ret
    refine ⟨ret_bool ?_, ?_⟩
    · rw [ex_sameX]
      simp only [*, Bool.not_true, Bool.not_false, Bool.false_and, Bool.and_false, Bool.true_and, Bool.and_self]
    · first
        | ((repeat (first | exact Below.refl _ _ | refine ext_alloc ?_ _)); done)
        | (refine ext_trans ?_ ‹Below _ _ _›; (repeat (first | exact Below.refl _ _ | refine ext_alloc ?_ _)); done)
set_option maxRecDepth 100000 in
set_option maxHeartbeats 4000000 in
theorem eqP_zero : EqP 0 := by
  intro A A' us vs c c' w hU hV
  obtain rfl := exS.zero hU
  obtain rfl := exS.zero hV
  have hs : sameX ([] : ExL) [] = true := sameX_self _
  go_enter Try.func75, Try.ntmps75
  go_wp2
  go_loopw [5] (fun i wr => i = .int .i64 0 ∧ Below w.heap.size w wr) (fun _ _ => 0)
  case atStart => exact ⟨rfl, Below.refl _ _⟩
  case round =>
    obtain ⟨rfl, hB⟩ := hrel
    go_wp2
    go_ret
    exact ⟨ret_bool hs.symm, hB⟩
set_option maxRecDepth 100000 in
set_option maxHeartbeats 4000000 in
theorem eqP_succ {d : Nat} (hQ : EqQ d) : EqP (d + 1) := by
  intro A A' us vs c c' w hU hV
  have hl := exS.len hU
  have hl' := exS.len hV
  have HQ := Lib.hid hQ
  clear hQ
  by_cases hlen : us.length = vs.length
  · have HL := Lib.hid hlen
    have hlen1 : ((us.length : Int) != vs.length) = false := by simp [hlen]
    clear hlen
    go_enter Try.func75, Try.ntmps75
    go_wp2
    go_loopw [5] (fun i wr => ∃ k : Nat, k ≤ us.length ∧ i = .int .i64 k ∧ Below w.heap.size w wr ∧ (∀ j, j < k → exAt us j = exAt vs j)) (fun i _ => us.length - (intOf i).toNat)
    case atStart => exact ⟨0, Nat.zero_le _, rfl, Below.refl _ _, fun j h => by omega⟩
    case round =>
      obtain ⟨k, hk, rfl, hB, hgood⟩ := hrel
      have HG := Lib.hid hgood
      clear hgood
      by_cases hlt : k < us.length
      · have hlt' : k < vs.length := by rw [← HL.out]; exact hlt
        obtain ⟨b, off, rfl, hc⟩ := hU.cells (by omega)
        obtain ⟨b', off', rfl, hc'⟩ := hV.cells (by omega)
        obtain ⟨A1, c1, hfd, _, p0, p1, p2, p3⟩ := hc k hlt
        obtain ⟨A2, c2, hfd2, _, q0, q1, q2, q3⟩ := hc' k hlt'
        replace p0 := cell_regrown (below_cell hB p0)
        replace p1 := cell_regrown (below_cell hB p1)
        replace p2 := cell_regrown (below_cell hB p2)
        replace p3 := cell_regrown (below_cell hB p3)
        replace q0 := cell_regrown (below_cell hB q0)
        replace q1 := cell_regrown (below_cell hB q1)
        replace q2 := cell_regrown (below_cell hB q2)
        replace q3 := cell_regrown (below_cell hB q3)
        replace hfd := hfd.below hB
        replace hfd2 := hfd2.below hB
        clear hc hc'
        have HE := Lib.hid (fun (m : Nat) (os : Array Obj) => HQ.out _ _ _ _ c1 c2 _ (hfd.regrown m os) (hfd2.regrown m os))
        cases g : sameX (exAt us k) (exAt vs k)
        all_goals
          rw [g] at HE
          go_wp2
          refine wp_region_quiet_below (by kernel_rfl) (by kernel_rfl) ?_
          repeat (go_big_quiet_step ((go_at_call 23; (with_reducible exact Calls.regrown_of (HE.out _ _)))))
          refine wpQuiet_nil ?_
          intro w2 hw'regrown
          replace hB := ext_trans hB (below_of_regrown hw'regrown (Nat.le_refl _))
          clear hw'regrown p0 q0 p1 q1 p2 q2 p3 q3
          go_wp2
        · go_ret
          exact ⟨ret_bool (by rw [eq_comm, sameX_false]; rintro rfl; rw [sameX_self] at g; cases g), hB⟩
        · go_roundw
          case rel => exact ⟨k + 1, by omega, by go_num, hB, all_succ HG.out (sameX_true.1 g)⟩
          case measure => simp [intOf]; omega
      · obtain rfl : k = us.length := by omega
        go_wp2
        go_ret
        exact ⟨ret_bool (ex_same HL.out HG.out), hB⟩
  · have hlen1 : ((us.length : Int) != vs.length) = true := by simp; omega
    have HL := Lib.hid hlen
    clear hlen
    go_enter Try.func75, Try.ntmps75
    go_wp2
    go_ret
    exact ⟨ret_bool (by rw [eq_comm, sameX_false]; rintro rfl; exact HL.out rfl), Below.refl _ _⟩
theorem eqP_all : ∀ d, EqP d
  | 0 => eqP_zero
  | d + 1 => eqP_succ (eqQ_of (eqP_all d))
theorem eqExpr_any {d : Nat} {A A' : Option Addr} {r r' : Ex} {c c' : Nat} {w : World} (h1 : exW d w A r.ps) (h2 : exW d w A' r'.ps) :
    Calls Try.prog 23 #[.agg #[.int .i64 r.k, .int .i64 r.n, .string r.s, .slice A r.ps.length c], .agg #[.int .i64 r'.k, .int .i64 r'.n, .string r'.s, .slice A' r'.ps.length c']] w fun e w' => e = .returned (.bool (sameX r r')) ∧ Below w.heap.size w w' := eqQ_of (eqP_all d) A A' r r' c c' w h1 h2
end Go.Proofs.Ytodjokdaofefdaa

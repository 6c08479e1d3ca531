/- General lemmas, continued: slices of one's own that grow. -/
import Derived.Test.YtdpiaiblpafglaaReg
import Derived.Deep.DeepMust
namespace Go.Proofs.Ytdpiaiblpafglaa
set_option linter.unusedSimpArgs false
set_option linter.unusedVariables false
open Go.RowKit

/-- What a function that hands back a list of its own leaves. -/
def SlPost {α : Type} (e : TypeId) (sz : Nat) (enc : α → List Value) (w : World) (l : List α) (en : Ending) (w' : World) : Prop :=
  ∃ A c, en = .returned (.slice A l.length c) ∧ w'.ownsRow w.heap.size e sz (.slice A l.length c) l.length (l.flatMap enc) ∧ Below w.heap.size w w'
section
variable {α : Type} {B B' : Nat} {e : TypeId} {sz : Nat} {enc : α → List Value} {w w' : World} {v : Value} {l l' : List α}
theorem SlPost.of (hl : l = l') (ho : OwnA w.heap.size e sz enc w' v l') (hB : Below w.heap.size w w') : SlPost e sz enc w l (.returned v) w' := by
  subst hl
  obtain ⟨A, c, rfl, ho⟩ := ho
  exact ⟨A, c, rfl, ho, hB⟩
theorem TupPost.ofA {b b' : Bool} (hl : l = l') (hb : b = b') (ho : OwnA w.heap.size e sz enc w' v l') (hB : Below w.heap.size w w') : TupPost e sz enc w l b (.returned (.tuple #[v, .bool b'])) w' := by
  obtain ⟨A, c, rfl, ho⟩ := ho
  exact TupPost.of hl hb ho hB
theorem OwnA.nil : OwnA B e sz enc w (.slice Option.none 0 0) ([] : List α) := ⟨_, 0, rfl, World.ownsRow_nil _ _ _ _⟩
theorem OwnA.empty (hB : B ≤ w.heap.size) : OwnA B e sz enc (w.alloc (.cells #[] e)) (.slice (some ⟨w.heap.size, 0, Option.none⟩) 0 0) ([] : List α) :=
  ⟨_, 0, rfl, by simp, .inr ⟨w.heap.size, 0, #[], rfl, hB, heap_alloc_new w _, Nat.le_refl _, by simp [maxLen], by simp, by simp⟩⟩
theorem OwnA.grown {row : Option Nat} (h : OwnA B e sz enc w v l) (hg : w.grownBy w' row) (hr : ∀ k, row = some k → k < B) : OwnA B e sz enc w' v l := by
  obtain ⟨A, c, rfl, ho⟩ := h
  exact ⟨A, c, rfl, own_apart_ ho hg (fun k hk e => by have := (ho.lt k hk).1; have := hr k e; omega)⟩
theorem OwnA.apart {row : Option Nat} (h : OwnA B e sz enc w v l) (hg : w.grownBy w' row) (hr : ∀ k, v.ownBlock = some k → row ≠ some k) : OwnA B e sz enc w' v l := by
  obtain ⟨A, c, rfl, ho⟩ := h
  exact ⟨A, c, rfl, own_apart_ ho hg hr⟩
theorem OwnA.ge (h : OwnA B e sz enc w v l) (k : Nat) (hk : v.ownBlock = some k) : B ≤ k ∧ k < w.heap.size := by
  obtain ⟨A, c, rfl, ho⟩ := h
  exact ho.lt k hk
theorem OwnA.eq {l2 : List α} (h : OwnA B e sz enc w v l) (he : l = l2) : OwnA B e sz enc w v l2 := he ▸ h
/-- A slice of one's own, as it reads. -/
theorem OwnA.rd (hs : ∀ a, (enc a).length = sz) (hb : l.length ≤ 9223372036854775807) (h : OwnA B e sz enc w v l) : ∃ A c, v = .slice A l.length c ∧ RdL (Flat enc) sz w A l := by
  obtain ⟨A, c, rfl, ho⟩ := h
  exact ⟨A, c, rfl, RdL.of_own hs rfl hb ho⟩
end
theorem heap_alloc_at {w : World} {o : Obj} {n : Nat} (h : n = w.heap.size) : (w.alloc o).heap[n]? = some o := by subst h; exact heap_alloc_new w o
theorem box_cell_at {w : World} {cs : Array Value} {t : TypeId} {i n : Nat} {v : Value} (hn : n = w.heap.size) (h : cs[i]? = some v) : (w.alloc (.cells cs t)).cell? ⟨n, i, none⟩ = some v := by subst hn; exact box_cell w cs t i v h
/-- append of one element, that stands in a block of its own, to a row of one's own. -/
theorem wpList_push {α : Type} {enc : α → List Value} {P : Program} {w : World} {ops : Array Oper} {rest : List Oper} {o : Oper} {a : Act} {Q0 : Exit → Act → World → Prop} (q : α) (hgd : o.guard = Option.none) (s x : Operand) (t e : TypeId) (z : Value) (sz bytes : Nat)
    (ho : o.op = .call { callee := .builtin .append, args := #[s, x], argTypes := #[t, t] }) (ht : P.underlying t = some (.slice e)) (hinfo : (P.info? e).map (fun i => (i.zero, i.size, i.bytes)) = some (some z, sz, bytes))
    (hzs : z.cells.size = sz) (hsz : 0 < sz) (henc : ∀ a, (enc a).length = sz) (hone : ∀ a, ∀ u ∈ enc a, u.oneCell' = true)
    {B g c : Nat} {l : List α} {cs : Array Value} {T : TypeId} (hd : OwnA B e sz enc w (a.eval s) l) (hx : a.eval x = .slice (some ⟨g, 0, Option.none⟩) 1 c) (hblk : w.heap[g]? = some (.cells cs T (0, 0))) (hcs : [q].flatMap enc = cs.toList)
    (hbytes : (l.length + 1) * bytes ≤ 140737488355328) (h63 : l.length + 1 ≤ 9223372036854775807) (hbase : B ≤ w.heap.size)
    (h : ∀ v' w', OwnA B e sz enc w' v' (l ++ [q]) → Below B w w' → w.grownBy w' (a.eval s).ownBlock → wpList P ops Q0 rest (a.put o.dst v') w') : wpList P ops Q0 (o :: rest) a w := by
  obtain ⟨A, c', hv, hown⟩ := hd
  refine wpList_append_rd (enc := enc) (l := [q]) hgd s x B t e z sz bytes ho ht hinfo hzs hsz henc hone hv hown hx (rd_block henc hblk hcs) (by simpa using hbytes) (by simpa using h63) hbase ?_
  intro v' w' ho' hg _
  have ho2 : w'.ownsRow B e sz v' (l ++ [q]).length ((l ++ [q]).flatMap enc) := by simpa using ho'
  refine h v' w' (OwnA.of ho2) (grown_below hg hbase (fun k hk => (hown.lt k hk).1)) (by rw [hv]; exact hg)
/-- append of a slice that reads as a list, to a row of one's own. -/
theorem wpList_pushes {α : Type} {enc : α → List Value} {P : Program} {w : World} {ops : Array Oper} {rest : List Oper} {o : Oper} {a : Act} {Q0 : Exit → Act → World → Prop} (hgd : o.guard = Option.none) (s x : Operand) (t e : TypeId) (z : Value) (sz bytes : Nat)
    (ho : o.op = .call { callee := .builtin .append, args := #[s, x], argTypes := #[t, t] }) (ht : P.underlying t = some (.slice e)) (hinfo : (P.info? e).map (fun i => (i.zero, i.size, i.bytes)) = some (some z, sz, bytes))
    (hzs : z.cells.size = sz) (hsz : 0 < sz) (henc : ∀ a, (enc a).length = sz) (hone : ∀ a, ∀ u ∈ enc a, u.oneCell' = true)
    {B c : Nat} {A : Option Addr} {l l2 : List α} (hd : OwnA B e sz enc w (a.eval s) l) (hx : a.eval x = .slice A l2.length c) (hr : RdL (Flat enc) sz w A l2)
    (hbytes : (l.length + l2.length) * bytes ≤ 140737488355328) (h63 : l.length + l2.length ≤ 9223372036854775807) (hbase : B ≤ w.heap.size)
    (h : ∀ v' w', OwnA B e sz enc w' v' (l ++ l2) → Below B w w' → w.grownBy w' (a.eval s).ownBlock → wpList P ops Q0 rest (a.put o.dst v') w') : wpList P ops Q0 (o :: rest) a w := by
  obtain ⟨A, c', hv, hown⟩ := hd
  refine wpList_append_rd (enc := enc) (l := l2) hgd s x B t e z sz bytes ho ht hinfo hzs hsz henc hone hv hown hx hr hbytes h63 hbase ?_
  intro v' w' ho' hg _
  have ho2 : w'.ownsRow B e sz v' (l ++ l2).length ((l ++ l2).flatMap enc) := by simpa using ho'
  refine h v' w' (OwnA.of ho2) (grown_below hg hbase (fun k hk => (hown.lt k hk).1)) (by rw [hv]; exact hg)
/-- The cells of one element of a row of one's own are written. -/
theorem own_put {α : Type} {enc : α → List Value} {B g n c sz k : Nat} {e : TypeId} {w : World} {l : List α} (u : α) (henc : ∀ a, (enc a).length = sz) (h : w.ownsRow B e sz (.slice (some ⟨g, 0, Option.none⟩) n c) n (l.flatMap enc)) (hl : l.length = n) (hk : k < n) :
    (setCells w g (k * sz) (enc u)).ownsRow B e sz (.slice (some ⟨g, 0, Option.none⟩) n c) n ((l.set k u).flatMap enc) := by
  have hb : (k + 1) * sz ≤ n * sz := Nat.mul_le_mul_right _ hk
  have hb' : (k + 1) * sz = k * sz + sz := by rw [Nat.add_mul]; omega
  have h1 := own_stores (enc u) (k * sz) h (by rw [henc]; omega)
  have e1 : (l.flatMap enc).take (k * sz) = (l.take k).flatMap enc := by
    have : l.flatMap enc = (l.take k).flatMap enc ++ (l.drop k).flatMap enc := by rw [← List.flatMap_append, List.take_append_drop]
    rw [this, List.take_append_of_le_length (by rw [flatMap_length enc sz henc, List.length_take, Nat.min_eq_left (by omega)]; exact Nat.le_refl _), List.take_of_length_le (by rw [flatMap_length enc sz henc, List.length_take, Nat.min_eq_left (by omega)]; exact Nat.le_refl _)]
  have e2 : (l.flatMap enc).drop (k * sz + (enc u).length) = (l.drop (k + 1)).flatMap enc := by
    have : l.flatMap enc = (l.take (k + 1)).flatMap enc ++ (l.drop (k + 1)).flatMap enc := by rw [← List.flatMap_append, List.take_append_drop]
    rw [this, List.drop_append_of_le_length (by rw [flatMap_length enc sz henc, List.length_take, Nat.min_eq_left (by omega), henc]; omega), List.drop_eq_nil_of_le (by rw [flatMap_length enc sz henc, List.length_take, Nat.min_eq_left (by omega), henc]; omega)]
    rfl
  rw [e1, e2] at h1
  have e3 : (l.set k u).flatMap enc = (l.take k).flatMap enc ++ enc u ++ (l.drop (k + 1)).flatMap enc := by
    rw [List.set_eq_take_append_cons_drop, if_pos (by omega), List.flatMap_append, List.flatMap_cons, List.append_assoc]
  rw [e3]; exact h1
section
variable {P : Program} {ops : Array Oper} {a0 : Act} {T : Nat → World → Value → Prop} {Inv : Nat → World → Prop} {Rel : Nat → World → World → Prop} {gc : Option Nat} {G : World → Prop}
theorem yielded_of {ops : Array Oper} {a : Act} {j : Nat} {d : Tmp} {b : Bool} (hd : dstOf ops j = some d) (h : a.eval (.tmp d) = .bool b) : yielded ops a.tmps j = some b := by
  have hd' : (ops[j]?).bind (·.dst) = some d := hd
  unfold yielded
  rw [hd']
  simp only [Option.bind_some]
  simp only [Act.eval, Array.getD_eq_getD_getElem?] at h
  cases ht : a.tmps[d]? with
  | none => rw [ht] at h; simp [undef] at h
  | some v => rw [ht] at h; simp only [Option.getD_some] at h; subst h; rfl
theorem depSlot_dst {ops : Array Oper} {i j : Nat} {d : Tmp} (h : depSlot ops i d j = true) : dstOf ops j = some d := by
  simp only [depSlot, Bool.and_eq_true, beq_iff_eq] at h
  exact h.2
/-- An operation under a guard that holds. -/
theorem RAll.guarded {o : Oper} {l : List Oper} {i : Nat} (j : Nat) (d : Tmp) (want : Bool) (hg : o.guard = some (j, want)) (hdep : depSlot ops i d j = true) (hT : ∀ w v, T j w v → v = .bool want)
    (h : ∀ (a : Act) (k : Nat) (w : World) (K : Act → World → Prop) (Q : Exit → Act → World → Prop), k < ops.size → Inv k w → RPre ops a0 T gc G i a w →
      (∀ v w', T i w' v → Rel i w w' → Inv (k + 1) w' → K (a.put o.dst v) w') → o.wp P a w K Q) (hl : RAll P ops a0 T Inv Rel gc G l (i + 1)) : RAll P ops a0 T Inv Rel gc G (o :: l) i :=
  ⟨fun a k w K Q h1 h2 h3 h4 => by
    have : Region.wanted o (yielded ops a.tmps) = true := by
      simp [Region.wanted, hg, yielded_of (depSlot_dst hdep) (hT w _ (h3.dep j d hdep))]
    rw [if_pos this]
    exact h a k w K Q h1 h2 h3 h4, hl⟩
/-- An operation under a guard that does not hold. -/
theorem RAll.skipped {o : Oper} {l : List Oper} {i : Nat} (j : Nat) (d : Tmp) (want : Bool) (hg : o.guard = some (j, want)) (hdep : depSlot ops i d j = true) (hT : ∀ w v, T j w v → v = .bool (!want))
    (h : ∀ (k : Nat) (w : World), Inv k w → T i w undef ∧ Rel i w w ∧ Inv (k + 1) w) (hl : RAll P ops a0 T Inv Rel gc G l (i + 1)) : RAll P ops a0 T Inv Rel gc G (o :: l) i :=
  ⟨fun a k w K Q h1 h2 h3 h4 => by
    have : Region.wanted o (yielded ops a.tmps) = false := by
      have e := yielded_of (depSlot_dst hdep) (hT w _ (h3.dep j d hdep))
      cases want <;> simp [Region.wanted, hg, e]
    rw [if_neg (by rw [this]; simp)]
    obtain ⟨t1, t2, t3⟩ := h k w h2
    exact h4 _ _ t1 t2 t3, hl⟩
theorem op_pick_t {P : Program} {w : World} {o : Oper} {a : Act} {K : Act → World → Prop} {Q : Exit → Act → World → Prop} (c x y : Operand) (ho : o.op = .pick c x y) (hc : a.eval c = .bool true) (h : K (a.put o.dst (a.eval x)) w) : o.wp P a w K Q := by
  unfold Oper.wp execOp
  simp only [ho, hc]
  first | exact h | (go_simp; exact h)
theorem op_pick_f {P : Program} {w : World} {o : Oper} {a : Act} {K : Act → World → Prop} {Q : Exit → Act → World → Prop} (c x y : Operand) (ho : o.op = .pick c x y) (hc : a.eval c = .bool false) (h : K (a.put o.dst (a.eval y)) w) : o.wp P a w K Q := by
  unfold Oper.wp execOp
  simp only [ho, hc]
  first | exact h | (go_simp; exact h)
end
end Go.Proofs.Ytdpiaiblpafglaa

/- Draws: kinds of drawn values, and what becomes of them while the draw goes on. -/
import Derived.Test.YtodjokdaofefdaaQ7
import Derived.Test.YtodjokdaofefdaaQ1
import Derived.Tactics
namespace Go.Proofs.Ytodjokdaofefdaa
set_option linter.unusedSimpArgs false
set_option linter.unusedVariables false
open Go.RowKit

theorem Rdr.grown {w w' : World} {br cb : Nat} {p : Int} {row : Option Nat} (h : Rdr w br cb p) (hg : w.grownBy w' row) (hr : ∀ k, row = some k → k ≠ br ∧ cb ≤ k) : Rdr w' br cb p := by
  have hlt := h.lt
  obtain ⟨h0, A, n, c, h1, h2, h3⟩ := h
  refine ⟨h0, A, n, c, (hg.block br hlt (fun e => (hr br e.symm).1 rfl)).trans h1, h2, fun hn => ?_⟩
  obtain ⟨b, off, e, hne, hc⟩ := h3 hn
  exact ⟨b, off, e, hne, fun k hk => let ⟨u, hu, hcu⟩ := hc k hk; ⟨u, hu, hg.cell hcu (fun e => by have := (hr b e.symm).2; omega)⟩⟩
/-- The reader at br has drawn at most N times. -/
def RdrT (w : World) (br cb N : Nat) : Prop := ∃ p : Int, 0 ≤ p ∧ p ≤ N ∧ Rdr w br cb p
section
variable {w w' : World} {br cb N N' : Nat}
theorem RdrT.mono (h : RdrT w br cb N) (hN : N ≤ N') : RdrT w br cb N' := let ⟨p, h1, h2, h3⟩ := h; ⟨p, h1, by omega, h3⟩
theorem RdrT.below (h : RdrT w br cb N) (hb : Below w.heap.size w w') : RdrT w' br cb N := let ⟨p, h1, h2, h3⟩ := h; ⟨p, h1, h2, h3.below hb⟩
theorem RdrT.grown {row : Option Nat} (h : RdrT w br cb N) (hg : w.grownBy w' row) (hr : ∀ k, row = some k → k ≠ br ∧ cb ≤ k) : RdrT w' br cb N := let ⟨p, h1, h2, h3⟩ := h; ⟨p, h1, h2, h3.grown hg hr⟩
theorem RdrT.cb_ (h : RdrT w br cb N) : cb ≤ br := let ⟨_, _, _, h3⟩ := h; h3.1
theorem RdrT.lt (h : RdrT w br cb N) : br < w.heap.size := let ⟨_, _, _, h3⟩ := h; h3.lt
end
theorem grown_drew {a w : World} {row : Option Nat} (h : a.grownBy w row) : a.grownBy w.drew row := ⟨h.os, h.tape, h.output, h.size, h.block⟩
theorem grown_of_below {w w' : World} (h : Below w.heap.size w w') (row : Option Nat) : w.grownBy w' row := ⟨h.os, h.tape, h.output, h.size, fun k hk _ => h.block k hk⟩
theorem grown_alloc_ (w : World) (o : Obj) (row : Option Nat) : w.grownBy (w.alloc o) row := grown_of_below (below_alloc w o) row
/-- A change of a row that is not yet there at first. -/
theorem grown_new {a b c : World} {row row' : Option Nat} (h : a.grownBy b row) (k : b.grownBy c row') (hr : ∀ g, row' = some g → a.heap.size ≤ g) : a.grownBy c row :=
  ⟨k.os.trans h.os, k.tape.trans h.tape, k.output.trans h.output, Nat.le_trans h.size k.size, fun i hi hne => (k.block i (Nat.lt_of_lt_of_le hi h.size) (fun e => by have := hr i e.symm; omega)).trans (h.block i hi hne)⟩

theorem pick_d {br cb N : Nat} {n : Int} {w : World} (hR : RdrT w br cb N) (hN : N ≤ 1000000000) (h1 : 1 ≤ n) (hn : n ≤ 1000000) :
    Calls Try.prog 51 #[.pointer (some ⟨br, 0, Option.none⟩), .int .i64 n] w fun e w' => ∃ x : Int, e = .returned (.int .i64 x) ∧ 0 ≤ x ∧ x < n ∧ RdrT w' br cb (N + 1) ∧ w.grownBy w' (some br) := by
  obtain ⟨p, hp0, hp1, hR⟩ := hR
  refine (pick_any hR hp0 (by omega) hn).mono ?_
  rintro e w' ⟨x, rfl, h2, h3, _, h4, h5⟩
  exact ⟨x, rfl, h2, h3 h1, ⟨p + 1, by omega, by omega, h4⟩, h5⟩
theorem odd_d {br cb N : Nat} {n : Int} {w : World} (hR : RdrT w br cb N) (hN : N ≤ 1000000000) (h1 : 0 ≤ n) (hn : n ≤ 1000000) :
    Calls Try.prog 52 #[.pointer (some ⟨br, 0, Option.none⟩), .int .i64 n] w fun e w' => ∃ x : Bool, e = .returned (.bool x) ∧ RdrT w' br cb (N + 1) ∧ w.grownBy w' (some br) := by
  obtain ⟨p, hp0, hp1, hR⟩ := hR
  refine (odd_any hR hp0 (by omega) h1 hn).mono ?_
  rintro e w' ⟨x, p', rfl, h2, h3, h4, h5⟩
  exact ⟨x, rfl, ⟨p', by omega, by omega, h4⟩, h5⟩

/-! ### Kinds -/
def IsI (lo hi : Int) (v : Value) : Prop := ∃ x : Int, v = .int .i64 x ∧ lo ≤ x ∧ x ≤ hi
def IsB (v : Value) : Prop := ∃ x : Bool, v = .bool x
def IsS (n : Nat) (v : Value) : Prop := ∃ s : ByteArray, v = .string s ∧ s.size ≤ n
theorem IsI.mono {lo hi lo' hi' : Int} {v : Value} (h : IsI lo hi v) (h1 : lo' ≤ lo) (h2 : hi ≤ hi') : IsI lo' hi' v := let ⟨x, e, a, b⟩ := h; ⟨x, e, by omega, by omega⟩
/-- The blocks from B on that are there stay as they are. -/
def Above (B : Nat) (w w' : World) : Prop := w.heap.size ≤ w'.heap.size ∧ ∀ k, B ≤ k → k < w.heap.size → w'.heap[k]? = w.heap[k]?
theorem above_of {B : Nat} {w w' : World} {row : Option Nat} (h : w.grownBy w' row) (hr : ∀ k, row = some k → k < B) : Above B w w' :=
  ⟨h.size, fun k h1 h2 => h.block k h2 (fun e => by have := hr k e.symm; omega)⟩
def CellsP (P : List Value → Prop) (w : World) (g o : Nat) : Prop := ∃ cs, P cs ∧ ∀ (j : Nat) u, cs[j]? = some u → w.cell? ⟨g, o + j, Option.none⟩ = some u
def PtrP (B : Nat) (P : List Value → Prop) (w : World) (v : Value) : Prop := ∃ g o, v = .pointer (some ⟨g, o, Option.none⟩) ∧ B ≤ g ∧ CellsP P w g o
def SlP (B sz n : Nat) (P : List Value → Prop) (w : World) (v : Value) : Prop := n ≤ 9223372036854775807 ∧ ∃ g c, v = .slice (some ⟨g, 0, Option.none⟩) n c ∧ B ≤ g ∧ ∀ k, k < n → CellsP P w g (k * sz)
section
variable {B sz n : Nat} {P : List Value → Prop} {w w' : World} {v : Value} {g o : Nat}
theorem CellsP.above (h : CellsP P w g o) (hB : B ≤ g) (ha : Above B w w') : CellsP P w' g o :=
  let ⟨cs, h1, h2⟩ := h; ⟨cs, h1, fun j u hu => (World.cell?_of_block (ha.2 g hB (by have := block_lt_of_cell (h2 j u hu); simpa using this))).trans (h2 j u hu)⟩
theorem PtrP.above (h : PtrP B P w v) (ha : Above B w w') : PtrP B P w' v := let ⟨g, o, e, hB, hc⟩ := h; ⟨g, o, e, hB, hc.above hB ha⟩
theorem SlP.above (h : SlP B sz n P w v) (ha : Above B w w') : SlP B sz n P w' v := let ⟨hn, g, c, e, hB, hc⟩ := h; ⟨hn, g, c, e, hB, fun k hk => (hc k hk).above hB ha⟩
end
def AllP (P : List Value → Prop) : List (List Value) → Prop
  | [] => True
  | x :: l => P x ∧ AllP P l
theorem AllP.at {P : List Value → Prop} : ∀ {l : List (List Value)}, AllP P l → ∀ k (h : k < l.length), P l[k]
  | _ :: _, h, 0, _ => h.1
  | _ :: l, h, k + 1, hk => AllP.at (l := l) h.2 k (by simpa using hk)
theorem sl_new {B sz n : Nat} {P : List Value → Prop} {w : World} {cs : Array Value} {T : TypeId} (hB : B ≤ w.heap.size) (l : List (List Value)) (hl : l.flatMap (fun x => x) = cs.toList) (hn : l.length = n) (hn63 : n ≤ 9223372036854775807) (hsz : l.all (fun x => x.length == sz) = true) (hP : AllP P l) :
    SlP B sz n P (w.alloc (.cells cs T)) (.slice (some ⟨w.heap.size, 0, Option.none⟩) n n) := by
  refine ⟨hn63, _, _, rfl, hB, fun k hk => ?_⟩
  subst hn
  have hs : ∀ (l : List (List Value)), l.all (fun x => x.length == sz) = true → ∀ k (hk : k < l.length) j u, l[k][j]? = some u → (l.flatMap (fun x => x))[k * sz + j]? = some u := by
    intro l
    induction l with
    | nil => intro _ k hk; simp at hk
    | cons x l ih =>
      intro hall k hk j u hu
      simp only [List.all_cons, Bool.and_eq_true, beq_iff_eq] at hall
      rw [List.flatMap_cons]
      cases k with
      | zero =>
        simp only [List.getElem_cons_zero] at hu
        rw [List.getElem?_append_left (by have := (List.getElem?_eq_some_iff.1 hu).1; omega)]
        simpa using hu
      | succ k =>
        simp only [List.getElem_cons_succ] at hu
        rw [List.getElem?_append_right (by rw [hall.1, Nat.add_mul]; omega), hall.1]
        have e : (k + 1) * sz + j - sz = k * sz + j := by rw [Nat.add_mul]; omega
        rw [e]
        exact ih hall.2 k (by simpa using hk) j u hu
  refine ⟨l[k], hP.at k hk, fun j u hu => ?_⟩
  rw [cell_of_row _ w.heap.size _ cs T (0, 0) (heap_alloc_new w _), ← Array.getElem?_toList, ← hl]
  exact hs l hsz k hk j u hu
/-- A row as a list of flat elements. -/
theorem SlP.rd {α : Type} {enc : α → List Value} {B sz n : Nat} {P : List Value → Prop} {w : World} {v : Value} (h : SlP B sz n P w v) (hsz : ∀ a, (enc a).length = sz) (Q : α → Prop) (hP : ∀ cs, P cs → ∃ a, Q a ∧ cs = enc a) :
    ∃ (l : List α) (A : Option Addr) (c : Nat), v = .slice A l.length c ∧ l.length = n ∧ (∀ a ∈ l, Q a) ∧ RdL (Flat enc) sz w A l := by
  obtain ⟨hn, g, c, rfl, hB, hc⟩ := h
  have hch : ∀ n, n ≤ 9223372036854775807 → (∀ k, k < n → CellsP P w g (k * sz)) → ∃ l : List α, l.length = n ∧ (∀ a ∈ l, Q a) ∧ ∀ k (hk : k < l.length) j u, (enc l[k])[j]? = some u → w.cell? ⟨g, k * sz + j, Option.none⟩ = some u := by
    intro n
    induction n with
    | zero => intro _ _; exact ⟨[], rfl, by simp, by simp⟩
    | succ n ih =>
      intro hn hc
      obtain ⟨l, h1, h2, h3⟩ := ih (by omega) (fun k hk => hc k (by omega))
      obtain ⟨cs, hp, hcs⟩ := hc n (by omega)
      obtain ⟨a, ha, rfl⟩ := hP cs hp
      refine ⟨l ++ [a], by simp [h1], fun b hb => ?_, fun k hk j u hu => ?_⟩
      · rcases List.mem_append.1 hb with hb | hb
        · exact h2 b hb
        · rw [List.mem_singleton.1 hb]; exact ha
      · by_cases e : k < l.length
        · rw [List.getElem_append_left e] at hu; exact h3 k e j u hu
        · have e2 : k = n := by simp at hk; omega
          subst e2
          rw [List.getElem_append_right (by omega)] at hu
          simp [h1] at hu
          exact hcs j u hu
  obtain ⟨l, h1, h2, h3⟩ := hch n hn hc
  refine ⟨l, some ⟨g, 0, Option.none⟩, c, by rw [h1], h1, h2, by omega, fun _ => ⟨g, 0, rfl, fun k hk => ⟨enc l[k], hsz _, rfl, fun j u hu => by rw [Nat.zero_add]; exact h3 k hk j u hu⟩⟩⟩

/-- A row of one's own, drawn: at most n elements of the kind Q. -/
def DrS {α : Type} (B : Nat) (e : TypeId) (sz : Nat) (enc : α → List Value) (n : Nat) (Q : α → Prop) (w : World) (v : Value) : Prop := ∃ l : List α, l.length ≤ n ∧ (∀ a ∈ l, Q a) ∧ OwnA B e sz enc w v l
def Top (B : Nat) (v : Value) : Prop := ∀ k, v.ownBlock = some k → k < B
section
variable {α : Type} {B B' : Nat} {e : TypeId} {sz n n' : Nat} {enc : α → List Value} {Q : α → Prop} {w w' : World} {v : Value}
theorem DrS.grown {row : Option Nat} (h : DrS B e sz enc n Q w v) (hg : w.grownBy w' row) (hr : ∀ k, row = some k → k < B) : DrS B e sz enc n Q w' v := by
  obtain ⟨l, h1, h2, A, c, rfl, ho⟩ := h
  exact ⟨l, h1, h2, A, c, rfl, own_apart_ ho hg (fun k hk e => by have := (ho.lt k hk).1; have := hr k e; omega)⟩
theorem DrS.below (h : DrS B e sz enc n Q w v) (hb : Below w.heap.size w w') : DrS B e sz enc n Q w' v := h.grown (grown_of_below hb Option.none) (fun k e => by cases e)
theorem DrS.lower (h : DrS B e sz enc n Q w v) (hB : B' ≤ B) : DrS B' e sz enc n Q w v := let ⟨l, h1, h2, h3⟩ := h; ⟨l, h1, h2, h3.lower hB⟩
theorem DrS.mono (h : DrS B e sz enc n Q w v) (hn : n ≤ n') : DrS B e sz enc n' Q w v := let ⟨l, h1, h2, h3⟩ := h; ⟨l, by omega, h2, h3⟩
theorem DrS.top (h : DrS B e sz enc n Q w v) : Top w.heap.size v := by
  obtain ⟨l, _, _, A, c, rfl, ho⟩ := h
  exact fun k hk => (ho.lt k hk).2
theorem DrS.apart {row : Option Nat} (h : DrS B e sz enc n Q w v) (hg : w.grownBy w' row) (hr : ∀ k, v.ownBlock = some k → row ≠ some k) : DrS B e sz enc n Q w' v := by
  obtain ⟨l, h1, h2, A, c, rfl, ho⟩ := h
  exact ⟨l, h1, h2, A, c, rfl, own_apart_ ho hg hr⟩
theorem DrS.ge (h : DrS B e sz enc n Q w v) (k : Nat) (hk : v.ownBlock = some k) : B ≤ k := by
  obtain ⟨l, _, _, A, c, rfl, ho⟩ := h
  exact (ho.lt k hk).1
theorem DrS.empty (hB : B ≤ w.heap.size) : DrS B e sz enc 0 Q (w.alloc (.cells #[] e)) (.slice (some ⟨w.heap.size, 0, Option.none⟩) 0 0) :=
  ⟨[], by simp, by simp, _, 0, rfl, by simp, .inr ⟨w.heap.size, 0, #[], rfl, hB, heap_alloc_new w _, Nat.le_refl _, by simp [maxLen], by simp, by simp⟩⟩
theorem DrS.nil : DrS B e sz enc n Q w (.slice Option.none 0 0) := ⟨[], by simp, by simp, _, 0, rfl, World.ownsRow_nil _ _ _ _⟩
end
/-- Only rows of the kind R have turned. -/
def GrownP (R : Nat → Prop) (w w' : World) : Prop := w'.os = w.os ∧ w'.tape = w.tape ∧ w'.output = w.output ∧ w.heap.size ≤ w'.heap.size ∧ ∀ k, k < w.heap.size → ¬ R k → w'.heap[k]? = w.heap[k]?
section
variable {R : Nat → Prop} {a b c : World} {row : Option Nat}
theorem GrownP.refl (R : Nat → Prop) (w : World) : GrownP R w w := ⟨rfl, rfl, rfl, Nat.le_refl _, fun _ _ _ => rfl⟩
theorem GrownP.drew (h : GrownP R a b) : GrownP R a b.drew := h
theorem GrownP.step (h : GrownP R a b) (hg : b.grownBy c row) (hr : ∀ k, row = some k → R k ∨ a.heap.size ≤ k) : GrownP R a c :=
  ⟨hg.os.trans h.1, hg.tape.trans h.2.1, hg.output.trans h.2.2.1, Nat.le_trans h.2.2.2.1 hg.size, fun k hk hn => (hg.block k (Nat.lt_of_lt_of_le hk h.2.2.2.1) (fun e => by rcases hr k e.symm with h | h; exact hn h; omega)).trans (h.2.2.2.2 k hk hn)⟩
theorem GrownP.size (h : GrownP R a b) : a.heap.size ≤ b.heap.size := h.2.2.2.1
theorem GrownP.to (h : a.grownBy b row) (hp : GrownP R b c) (hr : ∀ k, R k → some k = row ∨ a.heap.size ≤ k) : a.grownBy c row :=
  ⟨hp.1.trans h.os, hp.2.1.trans h.tape, hp.2.2.1.trans h.output, Nat.le_trans h.size hp.size, fun k hk hn => (hp.2.2.2.2 k (Nat.lt_of_lt_of_le hk h.size) (fun hR => by rcases hr k hR with e | e; exact hn e; omega)).trans (h.block k hk hn)⟩
theorem DrS.grownP {α : Type} {B : Nat} {e : TypeId} {sz n : Nat} {enc : α → List Value} {Q : α → Prop} {v : Value} (h : DrS B e sz enc n Q a v) (hp : GrownP R a b) (hr : ∀ k, R k → v.ownBlock ≠ some k) : DrS B e sz enc n Q b v := by
  obtain ⟨l, h1, h2, A, c, rfl, ho⟩ := h
  cases hk : (Value.slice A l.length c).ownBlock with
  | none =>
    refine ⟨l, h1, h2, A, c, rfl, ?_⟩
    rcases ho.2 with h0 | ⟨g, cap, cur, hv, _⟩
    · exact ⟨ho.1, .inl h0⟩
    · rw [hv] at hk; cases hk
  | some g =>
    have hlt := (ho.lt g hk).2
    have hb := hp.2.2.2.2 g hlt (fun hR => hr g hR hk)
    refine ⟨l, h1, h2, A, c, rfl, ho.1, ?_⟩
    rcases ho.2 with h0 | ⟨g2, cap, cur, hv, hB, hx, hrest⟩
    · exact .inl h0
    · rw [hv] at hk
      simp only [Value.ownBlock, Option.some.injEq] at hk
      subst hk
      exact .inr ⟨g2, cap, cur, hv, hB, hb.trans hx, hrest⟩
end
/-- A variable of its own, in block g. -/
def BoxP (P : List Value → Prop) (T : TypeId) (g : Nat) (w : World) : Prop := ∃ cs : List Value, P cs ∧ w.heap[g]? = some (.cells cs.toArray T (0, 0))
section
variable {P P' : List Value → Prop} {T : TypeId} {g : Nat} {w w' : World} {row : Option Nat}
theorem BoxP.lt (h : BoxP P T g w) : g < w.heap.size := let ⟨_, _, h2⟩ := h; (Array.getElem?_eq_some_iff.1 h2).1
theorem BoxP.grown (h : BoxP P T g w) (hg : w.grownBy w' row) (hr : row ≠ some g) : BoxP P T g w' := let ⟨cs, h1, h2⟩ := h; ⟨cs, h1, (hg.block g (Array.getElem?_eq_some_iff.1 h2).1 (fun e => hr e.symm)).trans h2⟩
theorem BoxP.below (h : BoxP P T g w) (hb : Below w.heap.size w w') : BoxP P T g w' := let ⟨cs, h1, h2⟩ := h; ⟨cs, h1, (hb.block g (Array.getElem?_eq_some_iff.1 h2).1).trans h2⟩
theorem BoxP.new (w : World) (cs : List Value) (h : P cs) : BoxP P T w.heap.size (w.alloc (.cells cs.toArray T)) := ⟨cs, h, heap_alloc_new w _⟩
theorem setCells_at {g : Nat} {T : TypeId} {fr : Nat × Nat} (vs : List Value) : ∀ {w : World} {cs : List Value} (o : Nat), w.heap[g]? = some (.cells cs.toArray T fr) → o + vs.length ≤ cs.length → (setCells w g o vs).heap[g]? = some (.cells (cs.take o ++ vs ++ cs.drop (o + vs.length)).toArray T fr) := by
  induction vs with
  | nil => intro w cs o h _; simpa [setCells] using h
  | cons v vs ih =>
    intro w cs o h ho
    simp only [List.length_cons] at ho
    have h1 : (w.setCell ⟨g, o, Option.none⟩ v).heap[g]? = some (.cells (cs.set o v).toArray T fr) := by
      simp [World.setCell, Array.getElem?_modify, h]
    have h2 := ih (o + 1) h1 (by simp; omega)
    rw [setCells, h2]
    congr 3
    rw [List.drop_set_of_lt (by omega), List.take_succ_eq_append_getElem (by rw [List.length_set]; omega)]
    simp only [List.getElem_set_self, List.length_cons]
    rw [List.take_set_of_le (Nat.le_refl _), show o + 1 + vs.length = o + (vs.length + 1) by omega]
    simp
theorem BoxP.put (vs : List Value) (h : BoxP P T g w) (hl : ∀ cs, P cs → cs.length = vs.length) (hP : P' vs) : BoxP P' T g (setCells w g 0 vs) := by
  obtain ⟨cs, h1, h2⟩ := h
  have hlen := hl cs h1
  refine ⟨vs, hP, ?_⟩
  rw [setCells_at vs 0 h2 (by omega)]
  simp [List.drop_of_length_le, hlen]
end
def relOf (app : Option Nat) (B1 br i : Nat) (w w' : World) : Prop := if app = some i then Above B1 w w' else w.grownBy w' (some br)
section
variable {app : Option Nat} {B1 br i : Nat} {w w' : World}
theorem relOf_no (h : app ≠ some i) (hg : w.grownBy w' (some br)) : relOf app B1 br i w w' := by rw [relOf, if_neg h]; exact hg
theorem relOf_yes (h : app = some i) (hg : Above B1 w w') : relOf app B1 br i w w' := by rw [relOf, if_pos h]; exact hg
theorem relOf_grown (h : app ≠ some i) (hr : relOf app B1 br i w w') : w.grownBy w' (some br) := by rwa [relOf, if_neg h] at hr
theorem relOf_above (hbr : br < B1) (hr : relOf app B1 br i w w') : Above B1 w w' := by
  unfold relOf at hr
  split at hr
  · exact hr
  · exact above_of hr (fun k e => by cases e; exact hbr)
end
theorem op_append_dr {α : Type} {enc : α → List Value} {P : Program} {w : World} {o : Oper} {a : Act} {K : Act → World → Prop} {Q0 : Exit → Act → World → Prop} (s x : Operand) (t e : TypeId) (z : Value) (sz bytes : Nat)
    (ho : o.op = .call { callee := .builtin .append, args := #[s, x], argTypes := #[t, t] }) (ht : P.underlying t = some (.slice e)) (hinfo : (P.info? e).map (fun i => (i.zero, i.size, i.bytes)) = some (some z, sz, bytes))
    (hzs : z.cells.size = sz) (hsz : 0 < sz) (henc : ∀ a, (enc a).length = sz) (hone : ∀ a, ∀ u ∈ enc a, u.oneCell' = true)
    {B B1 n m : Nat} {Q : α → Prop} {PX : List Value → Prop} (hd : DrS B e sz enc n Q w (a.eval s)) (hx : SlP B1 sz m PX w (a.eval x)) (hP : ∀ cs, PX cs → ∃ q, Q q ∧ cs = enc q)
    (hbytes : (n + m) * bytes ≤ 140737488355328) (h63 : n + m ≤ 9223372036854775807) (hbase : B ≤ w.heap.size)
    (h : ∀ v' w', DrS B e sz enc (n + m) Q w' v' → w.grownBy w' (a.eval s).ownBlock → (∀ k, (a.eval s).ownBlock = some k → B ≤ k) → K (a.put o.dst v') w') : o.wp P a w K Q0 := by
  obtain ⟨l, h1, h2, A, c, hv, hown⟩ := hd
  obtain ⟨lx, Ax, cx, hvx, h3, h4, hrd⟩ := hx.rd henc Q hP
  have hb2 : (l.length + lx.length) * bytes ≤ (n + m) * bytes := Nat.mul_le_mul_right _ (by omega)
  refine op_append_rd (enc := enc) s x B t e z sz bytes ho ht hinfo hzs hsz henc hone hv hown hvx hrd (by omega) (by omega) hbase ?_
  intro v' w' ho' hg _
  rw [← hv] at hg
  have ho2 : w'.ownsRow B e sz v' (l ++ lx).length ((l ++ lx).flatMap enc) := by simpa using ho'
  refine h v' w' ⟨l ++ lx, by simp; omega, fun b hb => ?_, OwnA.of ho2⟩ hg (fun k hk => ?_)
  · rcases List.mem_append.1 hb with hb | hb
    · exact h2 b hb
    · exact h4 b hb
  · rw [hv] at hk
    exact (hown.lt k hk).1
/-- append of one element, that stands in a block of its own. -/
theorem wpList_append_dr {α : Type} {enc : α → List Value} {P : Program} {w : World} {ops : Array Oper} {rest : List Oper} {o : Oper} {a : Act} {Q0 : Exit → Act → World → Prop} (q : α) (hgd : o.guard = Option.none) (s x : Operand) (t e : TypeId) (z : Value) (sz bytes : Nat)
    (ho : o.op = .call { callee := .builtin .append, args := #[s, x], argTypes := #[t, t] }) (ht : P.underlying t = some (.slice e)) (hinfo : (P.info? e).map (fun i => (i.zero, i.size, i.bytes)) = some (some z, sz, bytes))
    (hzs : z.cells.size = sz) (hsz : 0 < sz) (henc : ∀ a, (enc a).length = sz) (hone : ∀ a, ∀ u ∈ enc a, u.oneCell' = true)
    {B n g c : Nat} {Q : α → Prop} {cs : Array Value} {T : TypeId} (hd : DrS B e sz enc n Q w (a.eval s)) (hx : a.eval x = .slice (some ⟨g, 0, Option.none⟩) 1 c) (hblk : w.heap[g]? = some (.cells cs T (0, 0))) (hcs : [q].flatMap enc = cs.toList) (hq : Q q)
    (hbytes : (n + 1) * bytes ≤ 140737488355328) (h63 : n + 1 ≤ 9223372036854775807) (hbase : B ≤ w.heap.size)
    (h : ∀ v' w', DrS B e sz enc (n + 1) Q w' v' → w.grownBy w' (a.eval s).ownBlock → (∀ k, (a.eval s).ownBlock = some k → B ≤ k) → wpList P ops Q0 rest (a.put o.dst v') w') : wpList P ops Q0 (o :: rest) a w := by
  obtain ⟨l, h1, h2, A, c', hv, hown⟩ := hd
  have hb2 : (l.length + 1) * bytes ≤ (n + 1) * bytes := Nat.mul_le_mul_right _ (by omega)
  refine wpList_append_rd (enc := enc) (l := [q]) hgd s x B t e z sz bytes ho ht hinfo hzs hsz henc hone hv hown hx (rd_block henc hblk hcs) (by simpa using (by omega : (l.length + 1) * bytes ≤ 140737488355328)) (by simp; omega) hbase ?_
  intro v' w' ho' hg _
  rw [← hv] at hg
  have ho2 : w'.ownsRow B e sz v' (l ++ [q]).length ((l ++ [q]).flatMap enc) := by simpa using ho'
  refine h v' w' ⟨l ++ [q], by simp; omega, fun b hb => ?_, OwnA.of ho2⟩ hg (fun k hk => ?_)
  · rcases List.mem_append.1 hb with hb | hb
    · exact h2 b hb
    · rw [List.mem_singleton.1 hb]; exact hq
  · rw [hv] at hk
    exact (hown.lt k hk).1
end Go.Proofs.Ytodjokdaofefdaa
/- Kinds of values, for drawn arguments: a value's kind stays whatever typed writes come. -/
namespace Go.Proofs.Ytodjokdaofefdaa
set_option linter.unusedSimpArgs false
set_option linter.unusedVariables false
open Go.RowKit

/-- A kind of values. -/
abbrev VK := World → Value → Prop
def IntK (lo hi : Int) : VK := fun _ v => ∃ n : Int, v = .int .i64 n ∧ lo ≤ n ∧ n ≤ hi
def BoolK : VK := fun _ v => ∃ b, v = .bool b
def StrK (m : Nat) : VK := fun _ v => ∃ s : ByteArray, v = .string s ∧ s.size ≤ m
section
variable (B br : Nat)
/-- A block of one's own: elements of the type e; room for m; the cells of the first t are of the kinds ks. -/
def BlkK (e : TypeId) (ks : List VK) (t m : Nat) (w : World) (g : Nat) : Prop := B ≤ g ∧ g ≠ br ∧ ∃ cs, w.heap[g]? = some (.cells cs e (0, 0)) ∧ m * ks.length ≤ cs.size ∧ ∀ (q f : Nat) k u, q < t → ks[f]? = some k → cs[q * ks.length + f]? = some u → k w u
/-- A slice of at most m elements. -/
def SlK (e : TypeId) (ks : List VK) (m : Nat) : VK := fun w v => v = .slice Option.none 0 0 ∨ ∃ g o n c, v = .slice (some ⟨g, o * ks.length, Option.none⟩) n c ∧ n ≤ m ∧ n ≤ c ∧ c ≤ 9223372036854775807 ∧ BlkK B br e ks (o + n) (o + c) w g
/-- A slice that was written out, of n elements. -/
def LitK (e : TypeId) (ks : List VK) (n : Nat) : VK := fun w v => ∃ g, v = .slice (some ⟨g, 0, Option.none⟩) n n ∧ BlkK B br e ks n n w g
/-- A pointer to an element, or to a variable. -/
def PtrK (e : TypeId) (ks : List VK) : VK := fun w v => ∃ g q, v = .pointer (some ⟨g, q * ks.length, Option.none⟩) ∧ BlkK B br e ks (q + 1) (q + 1) w g
/-- What an operation may do to memory: blocks of types in S may get cells of their kinds; the reader turns; nothing else does. -/
def RelK (S : TypeId → Bool) (sh : TypeId → List VK) (w w' : World) : Prop := w.heap.size ≤ w'.heap.size ∧ ∀ g cs T, B ≤ g → g ≠ br → w.heap[g]? = some (.cells cs T (0, 0)) →
  ∃ cs', w'.heap[g]? = some (.cells cs' T (0, 0)) ∧ cs'.size = cs.size ∧ (S T = false → cs' = cs) ∧ (S T = true → ∀ (q f : Nat) k u, (sh T)[f]? = some k → cs'[q * (sh T).length + f]? = some u → cs[q * (sh T).length + f]? = some u ∨ k w u)
def StabK (S : TypeId → Bool) (sh : TypeId → List VK) (k : VK) : Prop := ∀ w w' v, RelK B br S sh w w' → k w v → k w' v
end
section
variable {B br : Nat} {S : TypeId → Bool} {sh : TypeId → List VK} {w w' w'' : World} {v : Value} {g n m t : Nat} {e : TypeId} {ks : List VK}
theorem stab_int {lo hi : Int} : StabK B br S sh (IntK lo hi) := fun _ _ _ _ h => h
theorem stab_bool : StabK B br S sh BoolK := fun _ _ _ _ h => h
theorem stab_str {m : Nat} : StabK B br S sh (StrK m) := fun _ _ _ _ h => h
theorem BlkK.rel (hks : ∀ k ∈ ks, StabK B br S sh k) (hS : S e = true → sh e = ks) (hr : RelK B br S sh w w') (h : BlkK B br e ks t m w g) : BlkK B br e ks t m w' g := by
  obtain ⟨h1, h2, cs, h3, h4, h5⟩ := h
  obtain ⟨cs', g1, g2, g3, g4⟩ := hr.2 g cs e h1 h2 h3
  refine ⟨h1, h2, cs', g1, by omega, fun q f k u hq hk hu => ?_⟩
  have hst := hks k (List.mem_of_getElem? hk)
  cases hSe : S e with
  | false =>
    rw [g3 hSe] at hu
    exact hst w w' u hr (h5 q f k u hq hk hu)
  | true =>
    have he := hS hSe
    rcases g4 hSe q f k u (by rw [he]; exact hk) (by rw [he]; exact hu) with h6 | h6
    · rw [he] at h6; exact hst w w' u hr (h5 q f k u hq hk h6)
    · exact hst w w' u hr h6
theorem stab_sl (hks : ∀ k ∈ ks, StabK B br S sh k) (hS : S e = true → sh e = ks) : StabK B br S sh (SlK B br e ks m) := fun w w' v hr h => by
  rcases h with h | ⟨g, o, n, c, h1, h2, h3, h4, h5⟩
  · exact .inl h
  · exact .inr ⟨g, o, n, c, h1, h2, h3, h4, h5.rel hks hS hr⟩
theorem stab_lit (hks : ∀ k ∈ ks, StabK B br S sh k) (hS : S e = true → sh e = ks) : StabK B br S sh (LitK B br e ks n) := fun w w' v hr h => by
  obtain ⟨g, h1, h2⟩ := h
  exact ⟨g, h1, h2.rel hks hS hr⟩
theorem stab_ptr (hks : ∀ k ∈ ks, StabK B br S sh k) (hS : S e = true → sh e = ks) : StabK B br S sh (PtrK B br e ks) := fun w w' v hr h => by
  obtain ⟨g, q, h1, h2⟩ := h
  exact ⟨g, q, h1, h2.rel hks hS hr⟩
theorem BlkK.le {m' t' : Nat} (h : BlkK B br e ks t m w g) (ht : t' ≤ t) (hm : m' ≤ m) : BlkK B br e ks t' m' w g := by
  obtain ⟨h1, h2, cs, h3, h4, h5⟩ := h
  exact ⟨h1, h2, cs, h3, Nat.le_trans (Nat.mul_le_mul_right _ hm) h4, fun q f k u hq hk hu => h5 q f k u (by omega) hk hu⟩
theorem BlkK.lower {B' : Nat} (hB : B' ≤ B) (hks : ∀ k ∈ ks, True) (h : BlkK B br e ks t m w g) : BlkK B' br e ks t m w g := by
  obtain ⟨h1, h2, h3⟩ := h
  exact ⟨Nat.le_trans hB h1, h2, h3⟩
/-- The cells of an element. -/
theorem BlkK.cell (h : BlkK B br e ks t m w g) (htm : t ≤ m) {q f : Nat} (hq : q < t) {k : VK} (hk : ks[f]? = some k) : ∃ u, w.cell? ⟨g, q * ks.length + f, Option.none⟩ = some u ∧ k w u := by
  obtain ⟨h1, h2, cs, h3, h4, h5⟩ := h
  have hf : f < ks.length := (List.getElem?_eq_some_iff.1 hk).1
  have h6 := Nat.mul_le_mul_right ks.length (show q + 1 ≤ m by omega)
  rw [Nat.succ_mul] at h6
  have hlt : q * ks.length + f < cs.size := by omega
  refine ⟨cs[q * ks.length + f], ?_, h5 q f k _ hq hk (by rw [Array.getElem?_eq_getElem hlt])⟩
  rw [cell_of_row w g _ cs e (0, 0) h3, Array.getElem?_eq_getElem hlt]
theorem BlkK.free (h : BlkK B br e ks t m w g) (j : Nat) : w.frozen? ⟨g, j, Option.none⟩ = false := by
  obtain ⟨h1, h2, cs, h3, _⟩ := h
  exact frozen_of_row w g j _ _ h3
theorem RelK.refl (w : World) : RelK B br S sh w w := ⟨Nat.le_refl _, fun _ cs _ _ _ h => ⟨cs, h, rfl, fun _ => rfl, fun _ _ _ _ _ _ hu => .inl hu⟩⟩
theorem RelK.grown {row : Option Nat} (hg : w.grownBy w' row) (hr : ∀ k, row = some k → k = br ∨ k < B) : RelK B br S sh w w' :=
  ⟨hg.size, fun g cs T h1 h2 h3 => ⟨cs, (hg.block g (Array.getElem?_eq_some_iff.1 h3).1 (fun e => by rcases hr g e.symm with h | h; exact h2 h; omega)).trans h3, rfl, fun _ => rfl, fun _ _ _ _ _ _ hu => .inl hu⟩⟩
theorem RelK.below (hb : Below w.heap.size w w') : RelK B br S sh w w' := RelK.grown (grown_of_below hb Option.none) (fun k e => by cases e)
theorem RelK.alloc (w : World) (o : Obj) : RelK B br S sh w (w.alloc o) := RelK.below (below_alloc w o)
theorem RelK.drew (w : World) : RelK B br S sh w w.drew := RelK.refl w
/-- A new block. -/
theorem BlkK.new {cs : Array Value} (hB : B ≤ w.heap.size) (hbr : br < w.heap.size) (hm : m * ks.length ≤ cs.size) (hc : ∀ (q f : Nat) k u, q < t → ks[f]? = some k → cs[q * ks.length + f]? = some u → k (w.alloc (.cells cs e)) u) : BlkK B br e ks t m (w.alloc (.cells cs e)) w.heap.size :=
  ⟨hB, by omega, cs, heap_alloc_new w _, hm, hc⟩
theorem setCells_other (g : Nat) (vs : List Value) (w : World) (o k : Nat) (hk : k ≠ g) : (setCells w g o vs).heap[k]? = w.heap[k]? := by
  by_cases hlt : k < w.heap.size
  · exact (setCells_grown g vs w o).block k hlt (by simpa using hk)
  · rw [Array.getElem?_eq_none (by rw [setCells_size]; omega), Array.getElem?_eq_none (by omega)]
/-- Cells are stored, each of its kind. -/
theorem RelK.storeAt {start : Nat} {vs : List Value} (h : BlkK B br e ks t m w g) (hS : S e = true) (he : sh e = ks) (hl0 : start + vs.length ≤ m * ks.length)
    (hv : ∀ (q f : Nat) k u, ks[f]? = some k → start ≤ q * ks.length + f → vs[q * ks.length + f - start]? = some u → k w u) : RelK B br S sh w (setCells w g start vs) := by
  obtain ⟨h1, h2, cs, h3, h4, h5⟩ := h
  have hl : start + vs.length ≤ cs.toList.length := by simp; omega
  have hat := setCells_at (T := e) (fr := (0, 0)) vs (cs := cs.toList) start (by simpa using h3) hl
  refine ⟨by rw [setCells_size]; exact Nat.le_refl _, fun k cs1 T g1 g2 g3 => ?_⟩
  by_cases ek : k = g
  · subst ek
    rw [h3] at g3
    simp only [Option.some.injEq, Obj.cells.injEq, and_true] at g3
    obtain ⟨rfl, rfl⟩ := g3
    refine ⟨_, hat, (by simp; simp at hl; omega), (fun hn => by rw [hS] at hn; cases hn), fun _ q' f' k' u hk hu => ?_⟩
    rw [he] at hk hu ⊢
    simp only [List.getElem?_toArray, List.append_assoc] at hu
    by_cases a1 : q' * ks.length + f' < start
    · rw [List.getElem?_append_left (by simp at hl ⊢; omega), List.getElem?_take_of_lt a1] at hu
      exact .inl (by simpa using hu)
    · rw [List.getElem?_append_right (by simp; omega)] at hu
      have e1 : (cs.toList.take start).length = start := by simp at hl ⊢; omega
      rw [e1] at hu
      by_cases a2 : q' * ks.length + f' - start < vs.length
      · rw [List.getElem?_append_left a2] at hu
        exact .inr (hv q' f' k' u hk (by omega) hu)
      · rw [List.getElem?_append_right (by omega), List.getElem?_drop] at hu
        rw [show start + vs.length + (q' * ks.length + f' - start - vs.length) = q' * ks.length + f' by omega] at hu
        exact .inl (by simpa using hu)
  · exact ⟨cs1, by rw [setCells_other g vs w _ k ek]; exact g3, rfl, fun _ => rfl, fun _ _ _ _ _ _ hu => .inl hu⟩
theorem one_elem {q q' f f' len n : Nat} (hf' : f' < len) (hfn : f + n ≤ len) (h1 : q * len + f ≤ q' * len + f') (h2 : q' * len + f' - (q * len + f) < n) : q' = q := by
  rcases Nat.lt_trichotomy q' q with c | c | c
  · have := Nat.mul_le_mul_right len c
    rw [Nat.succ_mul] at this
    omega
  · exact c
  · have := Nat.mul_le_mul_right len c
    rw [Nat.succ_mul] at this
    omega
/-- Cells of an element are stored. -/
theorem RelK.store {q f : Nat} {vs : List Value} (h : BlkK B br e ks t m w g) (hS : S e = true) (he : sh e = ks) (hq : q < m) (hf : f + vs.length ≤ ks.length)
    (hv : ∀ (i : Nat) k u, ks[f + i]? = some k → vs[i]? = some u → k w u) : RelK B br S sh w (setCells w g (q * ks.length + f) vs) := by
  have h6 := Nat.mul_le_mul_right ks.length hq
  rw [Nat.succ_mul] at h6
  refine RelK.storeAt h hS he (by omega) (fun q' f' k u hk hs hu => ?_)
  have hf' : f' < ks.length := (List.getElem?_eq_some_iff.1 hk).1
  have hlt := (List.getElem?_eq_some_iff.1 hu).1
  obtain rfl := one_elem hf' hf hs hlt
  refine hv (f' - f) k u ?_ ?_
  · rwa [show f + (f' - f) = f' by omega]
  · rwa [show q' * ks.length + f' - (q' * ks.length + f) = f' - f by omega] at hu
/-- More elements are stored behind those that are there. -/
theorem BlkK.storeAt {c : Nat} {vs : List Value} (h : BlkK B br e ks t m w g) (hS : S e = true) (he : sh e = ks) (hst : ∀ k ∈ ks, StabK B br S sh k) (hlen : vs.length = c * ks.length) (htc : t + c ≤ m)
    (hv : ∀ (i f : Nat) k u, i < c → ks[f]? = some k → vs[i * ks.length + f]? = some u → k w u) : RelK B br S sh w (setCells w g (t * ks.length) vs) ∧ BlkK B br e ks (t + c) m (setCells w g (t * ks.length) vs) g := by
  have hm := Nat.mul_le_mul_right ks.length htc
  rw [Nat.add_mul] at hm
  have key : ∀ (q f : Nat) k u, ks[f]? = some k → t * ks.length ≤ q * ks.length + f → vs[q * ks.length + f - t * ks.length]? = some u → k w u := fun q f k u hk hs hu => by
    have hf : f < ks.length := (List.getElem?_eq_some_iff.1 hk).1
    have hlt := (List.getElem?_eq_some_iff.1 hu).1
    have hqt : t ≤ q := by
      rcases Nat.lt_or_ge q t with c1 | c1
      · have := Nat.mul_le_mul_right ks.length c1
        rw [Nat.succ_mul] at this
        omega
      · exact c1
    obtain ⟨i, rfl⟩ : ∃ i, q = t + i := ⟨q - t, by omega⟩
    rw [Nat.add_mul, show t * ks.length + i * ks.length + f - t * ks.length = i * ks.length + f by omega] at hu hlt
    have hic : i < c := by
      rcases Nat.lt_or_ge i c with c1 | c1
      · exact c1
      · have := Nat.mul_le_mul_right ks.length c1
        omega
    exact hv i f k u hic hk hu
  have hr := RelK.storeAt (S := S) (sh := sh) h hS he (by omega) key
  refine ⟨hr, ?_⟩
  obtain ⟨h1, h2, cs, h3, h4, h5⟩ := h
  have hl : t * ks.length + vs.length ≤ cs.toList.length := by simp; omega
  have hat := setCells_at (T := e) (fr := (0, 0)) vs (cs := cs.toList) (t * ks.length) (by simpa using h3) hl
  refine ⟨h1, h2, _, hat, (by simp; simp at hl; omega), fun q f k u hq hk hu => ?_⟩
  have hf : f < ks.length := (List.getElem?_eq_some_iff.1 hk).1
  refine hst k (List.mem_of_getElem? hk) _ _ _ hr ?_
  simp only [List.getElem?_toArray, List.append_assoc] at hu
  by_cases a1 : q < t
  · have := Nat.mul_le_mul_right ks.length a1
    rw [Nat.succ_mul] at this
    rw [List.getElem?_append_left (by simp at hl ⊢; omega), List.getElem?_take_of_lt (by omega)] at hu
    exact h5 q f k u a1 hk (by simpa using hu)
  · have hge := Nat.mul_le_mul_right ks.length (show t ≤ q by omega)
    have hle := Nat.mul_le_mul_right ks.length (show q + 1 ≤ t + c by omega)
    rw [Nat.succ_mul, Nat.add_mul] at hle
    rw [List.getElem?_append_right (by simp; omega)] at hu
    have e1 : (cs.toList.take (t * ks.length)).length = t * ks.length := by simp at hl ⊢; omega
    rw [e1, List.getElem?_append_left (by omega)] at hu
    exact key q f k u hk (by omega) hu
end
end Go.Proofs.Ytodjokdaofefdaa
/- Kinds of values: append. -/
namespace Go.Proofs.Ytodjokdaofefdaa
set_option linter.unusedSimpArgs false
set_option linter.unusedVariables false
open Go.RowKit

/-- The cells of n elements, of their kinds. -/
def TypL (ks : List VK) (w : World) (n : Nat) (xs : List Value) : Prop := ∀ (q f : Nat) k u, q < n → ks[f]? = some k → xs[q * ks.length + f]? = some u → k w u
section
variable {B br : Nat} {S : TypeId → Bool} {sh : TypeId → List VK} {w w' : World} {v : Value} {g n m t : Nat} {e : TypeId} {ks : List VK} {xs ys : List Value}
theorem TypL.append (h : TypL ks w n xs) (hl : xs.length = n * ks.length) (h2 : TypL ks w m ys) : TypL ks w (n + m) (xs ++ ys) := by
  intro q f k u hq hk hu
  have hf : f < ks.length := (List.getElem?_eq_some_iff.1 hk).1
  by_cases hlt : q < n
  · have := Nat.mul_le_mul_right ks.length hlt
    rw [Nat.succ_mul] at this
    rw [List.getElem?_append_left (by omega)] at hu
    exact h q f k u hlt hk hu
  · obtain ⟨i, rfl⟩ : ∃ i, q = n + i := ⟨q - n, by omega⟩
    rw [List.getElem?_append_right (by rw [hl, Nat.add_mul]; omega), hl, Nat.add_mul, show n * ks.length + i * ks.length + f - n * ks.length = i * ks.length + f by omega] at hu
    exact h2 i f k u (by omega) hk hu
theorem TypL.one (hone : ∀ k ∈ ks, ∀ w u, k w u → u.oneCell' = true) (h : TypL ks w n xs) (hl : xs.length = n * ks.length) : ∀ u ∈ xs, u.oneCell' = true := by
  intro u hu
  obtain ⟨j, hj, rfl⟩ := List.getElem_of_mem hu
  rcases Nat.eq_zero_or_pos ks.length with h0 | h0
  · rw [h0, Nat.mul_zero] at hl; omega
  · have hm := Nat.mod_lt j h0
    have hk : ks[j % ks.length]? = some ks[j % ks.length] := List.getElem?_eq_getElem hm
    refine hone _ (List.getElem_mem hm) w _ (h (j / ks.length) (j % ks.length) _ _ ?_ hk ?_)
    · exact Nat.div_lt_of_lt_mul (by rw [Nat.mul_comm]; omega)
    · rw [Nat.div_add_mod' j ks.length]; exact List.getElem?_eq_getElem hj
theorem BlkK.list {o : Nat} (h : BlkK B br e ks t m w g) (hn : o + n ≤ t) (htm : t ≤ m) : ∃ xs : List Value, xs.length = n * ks.length ∧ TypL ks w n xs ∧ ∀ j u, xs[j]? = some u → w.cell? ⟨g, o * ks.length + j, Option.none⟩ = some u := by
  obtain ⟨h1, h2, cs, h3, h4, h5⟩ := h
  have hle := Nat.mul_le_mul_right ks.length (Nat.le_trans hn htm)
  rw [Nat.add_mul] at hle
  have hat : ∀ j, j < n * ks.length → ((cs.toList.drop (o * ks.length)).take (n * ks.length))[j]? = cs[o * ks.length + j]? := fun j hj => by
    rw [List.getElem?_take_of_lt hj, List.getElem?_drop]; simp
  refine ⟨(cs.toList.drop (o * ks.length)).take (n * ks.length), by simp; omega, fun q f k u hq hk hu => ?_, fun j u hu => ?_⟩
  · have hf : f < ks.length := (List.getElem?_eq_some_iff.1 hk).1
    have := Nat.mul_le_mul_right ks.length hq
    rw [Nat.succ_mul] at this
    rw [hat _ (by omega), show o * ks.length + (q * ks.length + f) = (o + q) * ks.length + f by rw [Nat.add_mul]; omega] at hu
    exact h5 (o + q) f k u (by omega) hk hu
  · have hj : j < n * ks.length := by
      have := (List.getElem?_eq_some_iff.1 hu).1
      simp at this; omega
    rw [hat j hj] at hu
    rw [cell_of_row w g _ cs e (0, 0) h3]; exact hu
/-- A row of one's own, of kinds. -/
theorem SlK.of_own {B0 sz M : Nat} (ho : w'.ownsRow B0 e sz v n xs) (hks : ks.length = sz) (hB : B ≤ B0) (hbr : br < B0) (hn : n ≤ M) (ht : TypL ks w' n xs) : SlK B br e ks M w' v := by
  subst hks
  rcases ho.2 with ⟨h1, _⟩ | ⟨g, cap, cur, h1, h2, h3, h4, h5, h6, h7⟩
  · exact .inl h1
  · refine .inr ⟨g, 0, n, cap, by rw [Nat.zero_mul]; exact h1, hn, h4, by simpa [maxLen] using h5, by omega, by omega, cur, h3, by rw [Nat.zero_add]; omega, fun q f k u hq hk hu => ?_⟩
    have hf : f < ks.length := (List.getElem?_eq_some_iff.1 hk).1
    have := Nat.mul_le_mul_right ks.length (show q + 1 ≤ n by omega)
    rw [Nat.succ_mul] at this
    refine ht q f k u (by omega) hk ?_
    rw [← h7, List.getElem?_take_of_lt (by omega)]
    simpa using hu
theorem TypL.rel (h : TypL ks w n xs) (hst : ∀ k ∈ ks, StabK B br S sh k) (hr : RelK B br S sh w w') : TypL ks w' n xs := fun q f k u hq hk hu => hst k (List.mem_of_getElem? hk) _ _ _ hr (h q f k u hq hk hu)
theorem SlK.mono {M M' : Nat} (h : SlK B br e ks M w v) (hM : M ≤ M') : SlK B br e ks M' w v := by
  rcases h with h | ⟨g, o, n, c, h1, h2, h3⟩
  · exact .inl h
  · exact .inr ⟨g, o, n, c, h1, by omega, h3⟩
/-- append. -/
theorem op_append_K {P : Program} {o : Oper} {a : Act} {K : Act → World → Prop} {Q : Exit → Act → World → Prop} (s x : Operand) (T : TypeId) (z : Value) (sz bytes : Nat)
    (ho : o.op = .call { callee := .builtin .append, args := #[s, x], argTypes := #[T, T] }) (ht : P.underlying T = some (.slice e)) (hinfo : (P.info? e).map (fun i => (i.zero, i.size, i.bytes)) = some (some z, sz, bytes))
    (hzs : z.cells.size = sz) (hsz : 0 < sz) (hks : ks.length = sz) (hone : ∀ k ∈ ks, ∀ w u, k w u → u.oneCell' = true) (hS : S e = true) (he : sh e = ks) (hst : ∀ k ∈ ks, StabK B br S sh k)
    {M N : Nat} (hs : SlK B br e ks M w (a.eval s)) (hx : SlK B br e ks N w (a.eval x)) (hB : B ≤ w.heap.size) (hbr : br < w.heap.size) (hbytes : (M + N) * bytes ≤ 140737488355328) (hMN : M + N ≤ 1000000)
    (h : ∀ v' w', SlK B br e ks (M + N) w' v' → RelK B br S sh w w' → (∃ row, w.grownBy w' row ∧ ∀ k, row = some k → B ≤ k ∧ k ≠ br) → (∀ A1 n1 c1 A2 n2 c2, a.eval s = .slice A1 n1 c1 → a.eval x = .slice A2 n2 c2 → ∃ A c, v' = .slice A (n1 + n2) c) → K (a.put o.dst v') w') : o.wp P a w K Q := by
  obtain ⟨i, hi, hz, hsize, hby⟩ := info_parts hinfo
  have same : ∀ Ax cx, a.eval x = .slice Ax 0 cx → o.wp P a w K Q := fun Ax cx hxv => by
    have h1 : (Builtin.append_ #[T, T] o.type #[a.eval s, .slice Ax 0 cx]).run P w = .ok (a.eval s) w := by
      rcases hs with h1 | ⟨g, q, n, c, h1, _, h2, _⟩
      · rw [h1]; cases Ax <;> simp [Builtin.append_, run_underlying ht, sizeOf, typeInfo, hi, Builtin.lenOf, Builtin.firstCells, loadCells, loadCellsFrom]
      · rw [h1]; cases Ax <;> simp [Builtin.append_, run_underlying ht, sizeOf, typeInfo, hi, Builtin.lenOf, Builtin.firstCells, h2, storeCells, loadCells, loadCellsFrom]
    unfold Oper.wp execOp
    simp only [ho, resolve, invoke, builtin, Sem.run_bind, Sem.run_pure, Result.andThen_ok, List.map_toArray, List.map_cons, List.map_nil, hxv, h1]
    exact h _ _ (hs.mono (by omega)) (RelK.refl w) ⟨Option.none, World.grownBy.refl w _, fun k e => by cases e⟩ (fun A1 n1 c1 A2 n2 c2 e1 e2 => by rw [hxv] at e2; cases e2; exact ⟨A1, c1, e1⟩)
  rcases hx with hxv | ⟨gx, ox, nx, cx, hxv, hxn, hxc, _, hxb⟩
  · exact same _ _ hxv
  · rcases Nat.eq_zero_or_pos nx with h0 | hpos
    · subst h0; exact same _ _ hxv
    obtain ⟨news, hl2, ht2, hc2⟩ := hxb.list (o := ox) (n := nx) (Nat.le_refl _) (by omega)
    have hone2 := ht2.one hone hl2
    have hcx : ∀ j u, news[j]? = some u → w.cell? ((⟨gx, ox * ks.length, Option.none⟩ : Addr).add j) = some u := fun j u hu => by rw [Addr.add_lit]; exact hc2 j u hu
    have hby2 : ∀ n, n ≤ M → (n + nx) * bytes ≤ 140737488355328 := fun n hn => Nat.le_trans (Nat.mul_le_mul_right _ (by omega)) hbytes
    rcases hs with hsv | ⟨g, q, n, c, hsv, hn, hnc, hcm, hb⟩
    · obtain ⟨v', w', h1, h2, h3, _⟩ := run_append_own (P := P) w w.heap.size T o.type e i z sz bytes ht hi hz hsize hby hzs hsz (.slice Option.none 0 0) 0 [] (World.ownsRow_nil w _ e sz) ⟨gx, ox * ks.length, Option.none⟩ nx cx news (by rw [hl2, hks]) hcx hone2 (by simp only [maxLen]; omega) (hby2 0 (by omega)) (Nat.le_refl _)
      have hr : RelK B br S sh w w' := RelK.grown (row := Option.none) h3 (fun k e => by cases e)
      unfold Oper.wp execOp
      simp only [ho, resolve, invoke, builtin, Sem.run_bind, Sem.run_pure, Result.andThen_ok, List.map_toArray, List.map_cons, List.map_nil, hsv, hxv, h1]
      exact h _ _ (SlK.of_own (n := 0 + nx) h2 hks hB hbr (by omega) (by simpa using ht2.rel hst hr)) hr ⟨Option.none, h3, fun k e => by cases e⟩ (fun A1 n1 c1 A2 n2 c2 e1 e2 => by rw [hsv] at e1; rw [hxv] at e2; cases e1; cases e2; obtain ⟨g, cap, hv, _⟩ := h2.form (by omega); exact ⟨_, _, hv⟩)
    · by_cases hroom : n + nx ≤ c
      · obtain ⟨hr, hb2⟩ := (hb.le (t' := q + n) (m' := q + c) (Nat.le_refl _) (Nat.le_refl _)).storeAt (S := S) (sh := sh) (c := nx) (vs := news) hS he hst hl2 (by omega) (fun i f k u hi hk hu => ht2 i f k u hi hk hu)
        have hcell : ∀ j, j < news.length → (w.cell? ⟨g, q * ks.length + n * sz + j, Option.none⟩).isSome = true := fun j hj => by
          obtain ⟨_, _, cs, h3, h4, _⟩ := hb
          rw [cell_of_row w g _ cs e (0, 0) h3, Array.getElem?_eq_getElem (by
            have := Nat.mul_le_mul_right ks.length (show q + (n + nx) ≤ q + c by omega)
            rw [Nat.add_mul, Nat.add_mul] at this
            rw [hks] at this h4 ⊢
            rw [hl2, hks] at hj
            omega)]
          rfl
        subst hsize
        have hrun := run_append_room_cells (P := P) w T o.type e i ht hi g (q * ks.length) n c ⟨gx, ox * ks.length, Option.none⟩ nx cx news (by rw [hl2, hks]) hcx hone2 hroom (fun j hj => hcell j hj) (fun j hj => hb.free _)
        rw [← setCells_eq] at hrun
        have e1 : q * ks.length + n * i.size = (q + n) * ks.length := by rw [Nat.add_mul, hks]
        rw [e1] at hrun
        unfold Oper.wp execOp
        simp only [ho, resolve, invoke, builtin, Sem.run_bind, Sem.run_pure, Result.andThen_ok, List.map_toArray, List.map_cons, List.map_nil, hsv, hxv, hrun]
        refine h _ _ (.inr ⟨g, q, n + nx, c, rfl, by omega, hroom, hcm, by rw [← Nat.add_assoc]; exact hb2⟩) hr ⟨some g, setCells_grown g news w _, fun k e => by cases e; exact ⟨hb.1, hb.2.1⟩⟩ (fun A1 n1 c1 A2 n2 c2 e1 e2 => by rw [hsv] at e1; rw [hxv] at e2; cases e1; cases e2; exact ⟨_, _, rfl⟩)
      · obtain ⟨olds, hl1, ht1, hc1⟩ := hb.list (o := q) (n := n) (Nat.le_refl _) (by omega)
        obtain ⟨v', w', h1, h2, h3⟩ := run_append_arg_grows (P := P) w T o.type e i z sz bytes ht hi hz hsize hby hzs hsz ⟨g, q * ks.length, Option.none⟩ n c olds (by rw [hl1, hks]) (fun j u hj => by rw [Addr.add_lit]; exact hc1 j u hj) ⟨gx, ox * ks.length, Option.none⟩ nx cx news (by rw [hl2, hks]) hcx (by omega) (by simp only [maxLen]; omega) (hby2 n hn)
        have hr : RelK B br S sh w w' := RelK.grown (row := Option.none) h3 (fun k e => by cases e)
        unfold Oper.wp execOp
        simp only [ho, resolve, invoke, builtin, Sem.run_bind, Sem.run_pure, Result.andThen_ok, List.map_toArray, List.map_cons, List.map_nil, hsv, hxv, h1]
        exact h _ _ (SlK.of_own h2 hks hB hbr (by omega) ((ht1.append hl1 ht2).rel hst hr)) hr ⟨Option.none, h3, fun k e => by cases e⟩ (fun A1 n1 c1 A2 n2 c2 e1 e2 => by rw [hsv] at e1; rw [hxv] at e2; cases e1; cases e2; obtain ⟨g, cap, hv, _⟩ := h2.form (by omega); exact ⟨_, _, hv⟩)
end
end Go.Proofs.Ytodjokdaofefdaa
/- A region in its own order, by the same obligations as one that draws its order. -/
namespace Go.Proofs.Ytodjokdaofefdaa
set_option linter.unusedSimpArgs false
set_option linter.unusedVariables false
open Go.RowKit

theorem seq_of_any {P : Program} {ops : Array Oper} {n : Nat} (hok : okRegion ops n = true) {Q : Exit → Act → World → Prop} :
    ∀ (fuel k : Nat) (listed : Array Bool) (a : Act) (w : World), k + fuel = ops.size → listed.size = ops.size → (∀ j, j < k → listed.getD j true = true) → (∀ j, k ≤ j → j < ops.size → listed.getD j true = false) →
      wpAny P .any ops Q fuel listed a w → wpList P ops Q (ops.toList.drop k) a w := by
  intro fuel
  induction fuel with
  | zero =>
    intro k listed a w hk _ _ _ h
    rw [List.drop_eq_nil_of_le (by simp; omega)]
    exact h.2
  | succ fuel ih =>
    intro k listed a w hk hls h1 h2 h
    have hkl : k < ops.size := by omega
    have hr := ready_first hok hls hkl (h2 k (Nat.le_refl _) hkl) h1
    have h3 := h.2 k hr
    have h4 := wpOp_mono (K' := wpList P ops Q (ops.toList.drop (k + 1))) (fun a' w' h5 => ih (k + 1) (listed.setIfInBounds k true) a' w' (by omega) (by simpa using hls) (fun j hj => by
      simp only [Array.getD_eq_getD_getElem?, Array.getElem?_setIfInBounds]
      by_cases e : k = j
      · subst e; simp [hls, hkl]
      · rw [if_neg e]
        have := h1 j (by omega)
        rwa [Array.getD_eq_getD_getElem?] at this) (fun j hj1 hj2 => by
      simp only [Array.getD_eq_getD_getElem?, Array.getElem?_setIfInBounds]
      rw [if_neg (by omega)]
      have := h2 j (by omega) hj2
      rwa [Array.getD_eq_getD_getElem?] at this) h5) h3
    rw [List.drop_eq_getElem_cons (by simpa using hkl)]
    unfold wpOp at h4
    rw [Array.getElem?_eq_getElem hkl] at h4
    simp only [wpList, Array.getElem_toList]
    exact h4
theorem wp_region_seq {P : Program} {a0 : Act} (T : Nat → World → Value → Prop) (Inv : Nat → World → Prop) (Rel : Nat → World → World → Prop) {id : Nat} {Q : Exit → Act → World → Prop} {w : World} {l : List Oper}
    (hok : okRegion l.toArray a0.tmps.size = true) (hstab : ∀ i j w w' v, Rel i w w' → j ≠ i → T j w v → T j w' v) (hI : Inv 0 w) (hone : RAll P l.toArray a0 T Inv Rel Option.none (fun _ => True) l 0)
    (hQ : ∀ (f : Nat → Value) (w' : World), (∀ i, i < l.length → (dstOf l.toArray i).isSome = true → T i w' (f i)) → Inv l.length w' → Q .normal (putAll f l 0 a0) w') : (Code.region id l.toArray false).wp P Q a0 w := by
  have hlen : l.toArray.size = l.length := by simp
  refine wp_region_list ?_
  have h0 := seq_of_any (P := P) hok (Q := Q) l.toArray.size 0 (Array.replicate l.toArray.size false) a0 w (by omega) (by simp) (fun j hj => by omega) (fun j _ hj => by simp only [List.size_toArray] at hj; simp [Array.getD_eq_getD_getElem?, hj]) ?_
  · rw [List.drop_zero] at h0; exact h0
  refine region_any_step (a0 := a0) (T := T) (Inv := Inv) (Rel := Rel) (kill := fun _ => Option.none) (gc := Option.none) (G := fun _ => True) hok (by simp [okKill]) (fun i j w w' v h1 _ h3 _ _ _ h7 => hstab i j w w' v h1 h3 h7) (fun _ _ _ _ _ _ => trivial) (fun i o ho => by
    have := RAll.at hone i o (by simpa using ho)
    simpa using this) ?_ _ 0 _ a0 _ (by simp) ?_ ?_
  · intro listed a w' hall hg
    have hlist : ∀ i, i < l.length → listed.getD i false = true := fun i hi => by
      have := hall i (by simpa using hi)
      rw [Array.getD_eq_getD_getElem?, Array.getElem?_eq_getElem (by rw [hg.lsize]; simpa using hi)] at this ⊢
      exact this
    have hlt : ∀ i d, dstOf l.toArray i = some d → i < l.length := fun i d hd => by
      unfold dstOf at hd
      cases ho : l.toArray[i]? with
      | none => simp [ho] at hd
      | some o => simpa using (Array.getElem?_eq_some_iff.1 ho).1
    have he : a = putAll (fun i => a.eval (.tmp ((dstOf l.toArray i).getD 0))) l 0 a0 := by
      have hp := putAll_defers (fun i => a.eval (.tmp ((dstOf l.toArray i).getD 0))) l 0 a0
      refine act_ext (hg.size.trans hp.2.symm) (hg.defers.trans hp.1.symm) (fun s hs => ?_)
      by_cases h : ∃ i, dstOf l.toArray i = some s
      · obtain ⟨i, hi⟩ := h
        have hi' := hi
        unfold dstOf at hi'
        cases ho : l.toArray[i]? with
        | none => simp [ho] at hi'
        | some o =>
          simp only [ho, Option.bind_some] at hi'
          rw [putAll_some _ l 0 a0 s i o (by simpa using ho) hi' (fun j o' ho' hd' => okRegion_uniq hok (d := s) (by simp [dstOf, ho', hd']) hi) (by rw [← hg.size]; exact hs)]
          simp [hi]
      · rw [putAll_none _ l 0 a0 s (fun j o ho hd => h ⟨j, by simp [dstOf, ho, hd]⟩)]
        exact hg.todo s (fun i hi => absurd ⟨i, hi⟩ h)
    rw [he]
    refine hQ _ _ (fun i hi hs => ?_) (by simpa using hg.inv)
    obtain ⟨d, hd⟩ := Option.isSome_iff_exists.1 hs
    simp only [hd, Option.getD_some]
    exact hg.done i d hd (hlist i hi) (fun c hc => by cases hc)
  · have : ∀ N, unl N (fun i => !(Array.replicate N false).getD i true) = N := by
      intro N
      unfold unl
      rw [List.filter_eq_self.2]
      · simp
      · intro i hi
        simp [Array.getD_eq_getD_getElem?, List.mem_range.1 hi]
    exact this _
  · refine ⟨rfl, rfl, hI, by simp, ?_, ?_, fun _ _ => rfl, fun _ => trivial⟩
    · intro i j h
      simp [Array.getD_eq_getD_getElem?, Array.getElem?_replicate] at h
      split at h <;> simp at h
    · intro i d _ h _
      simp [Array.getD_eq_getD_getElem?, Array.getElem?_replicate] at h
      split at h <;> simp at h
end Go.Proofs.Ytodjokdaofefdaa
/- Kinds of values: what the operations of a region make of them. -/
namespace Go.Proofs.Ytodjokdaofefdaa
set_option linter.unusedSimpArgs false
set_option linter.unusedVariables false
open Go.RowKit

/-- Cell by cell. -/
def RowK : List VK → World → List Value → Prop
  | [], _, cs => cs = []
  | k :: ks, w, cs => ∃ c r, cs = c :: r ∧ k w c ∧ RowK ks w r
def AggK (ks : List VK) : VK := fun w v => ∃ cs : List Value, v = .agg cs.toArray ∧ RowK ks w cs
def TupK (ks : List VK) : VK := fun w v => ∃ cs : List Value, v = .tuple cs.toArray ∧ RowK ks w cs
def RowsK (ks : List VK) (w : World) : List (List Value) → Prop
  | [] => True
  | r :: rs => RowK ks w r ∧ RowsK ks w rs
theorem all_nil {P : VK → Prop} : ∀ k ∈ ([] : List VK), P k := fun _ h => absurd h (by simp)
theorem all_cons {P : VK → Prop} {k : VK} {ks : List VK} (h : P k) (h2 : ∀ k ∈ ks, P k) : ∀ x ∈ k :: ks, P x := fun x hx => by
  rcases List.mem_cons.1 hx with rfl | hx
  · exact h
  · exact h2 x hx
section
variable {B br : Nat} {S : TypeId → Bool} {sh : TypeId → List VK} {w w' : World} {v : Value} {g n m t : Nat} {e : TypeId} {ks : List VK}
theorem RowK.rel (hks : ∀ k ∈ ks, StabK B br S sh k) (hr : RelK B br S sh w w') : ∀ {cs : List Value}, RowK ks w cs → RowK ks w' cs := by
  induction ks with
  | nil => exact fun h => h
  | cons k ks ih =>
    rintro cs ⟨c, r, rfl, h1, h2⟩
    exact ⟨c, r, rfl, hks k (by simp) _ _ _ hr h1, ih (fun k hk => hks k (by simp [hk])) h2⟩
theorem stab_agg (hks : ∀ k ∈ ks, StabK B br S sh k) : StabK B br S sh (AggK ks) := fun _ _ _ hr ⟨cs, h1, h2⟩ => ⟨cs, h1, h2.rel hks hr⟩
theorem stab_tup (hks : ∀ k ∈ ks, StabK B br S sh k) : StabK B br S sh (TupK ks) := fun _ _ _ hr ⟨cs, h1, h2⟩ => ⟨cs, h1, h2.rel hks hr⟩
theorem RowK.length : ∀ {ks : List VK} {cs : List Value}, RowK ks w cs → cs.length = ks.length
  | [], cs, h => by rw [show cs = [] from h]; rfl
  | k :: ks, cs, ⟨c, r, h, _, h2⟩ => by rw [h, List.length_cons, List.length_cons, h2.length]
theorem RowK.at : ∀ {ks : List VK} {cs : List Value}, RowK ks w cs → ∀ (f : Nat) (k : VK) (u : Value), ks[f]? = some k → cs[f]? = some u → k w u
  | [], _, _, f, k, u, h, _ => by simp at h
  | k0 :: ks, cs, ⟨c, r, e, h1, h2⟩, f, k, u, hk, hu => by
    subst e
    cases f with
    | zero => simp at hk hu; subst hk; subst hu; exact h1
    | succ f => exact h2.at f k u (by simpa using hk) (by simpa using hu)
theorem RowsK.typ {rs : List (List Value)} (h : RowsK ks w rs) : TypL ks w rs.length rs.flatten := by
  induction rs with
  | nil => intro q f k u hq; simp at hq
  | cons r rs ih =>
    intro q f k u hq hk hu
    have hf : f < ks.length := (List.getElem?_eq_some_iff.1 hk).1
    have hl := h.1.length
    cases q with
    | zero =>
      rw [Nat.zero_mul, Nat.zero_add, List.flatten_cons, List.getElem?_append_left (by omega)] at hu
      exact h.1.at f k u hk hu
    | succ q =>
      rw [List.flatten_cons, List.getElem?_append_right (by rw [hl, Nat.succ_mul]; omega), hl, Nat.succ_mul, show q * ks.length + ks.length + f - ks.length = q * ks.length + f by omega] at hu
      exact ih h.2 q f k u (by simpa using hq) hk hu
theorem RowsK.length {rs : List (List Value)} (h : RowsK ks w rs) : rs.flatten.length = rs.length * ks.length := by
  induction rs with
  | nil => simp
  | cons r rs ih => rw [List.flatten_cons, List.length_append, ih h.2, h.1.length, List.length_cons, Nat.succ_mul]; omega
/-- A slice that is written out. -/
theorem lit_new {cs : Array Value} (rs : List (List Value)) (hB : B ≤ w.heap.size) (hbr : br < w.heap.size) (hcs : cs = rs.flatten.toArray) (hn : rs.length = n) (h : RowsK ks w rs) (hst : ∀ k ∈ ks, StabK B br (fun _ => false) (fun _ => []) k) :
    LitK B br e ks n (w.alloc (.cells cs e)) (.slice (some ⟨w.heap.size, 0, Option.none⟩) n n) := by
  subst hcs; subst hn
  refine ⟨_, rfl, BlkK.new hB hbr (by simp [h.length]) (fun q f k u hq hk hu => ?_)⟩
  exact hst k (List.mem_of_getElem? hk) _ _ _ (RelK.alloc w _) (h.typ q f k u hq hk (by simpa using hu))
/-- A variable. -/
theorem box_new {cs : Array Value} {r : List Value} (hB : B ≤ w.heap.size) (hbr : br < w.heap.size) (hcs : cs = r.toArray) (h : RowK ks w r) (hst : ∀ k ∈ ks, StabK B br (fun _ => false) (fun _ => []) k) :
    PtrK B br e ks (w.alloc (.cells cs e)) (.pointer (some ⟨w.heap.size, 0, Option.none⟩)) := by
  subst hcs
  refine ⟨w.heap.size, 0, by simp, BlkK.new hB hbr (by simp [h.length]) (fun q f k u hq hk hu => ?_)⟩
  obtain rfl : q = 0 := by omega
  exact hst k (List.mem_of_getElem? hk) _ _ _ (RelK.alloc w _) (h.at f k u hk (by simpa using hu))
theorem LitK.sl (h : LitK B br e ks n w v) (hn : n ≤ 1000000) : SlK B br e ks n w v := by
  obtain ⟨g, rfl, hb⟩ := h
  exact .inr ⟨g, 0, n, n, by simp, Nat.le_refl _, Nat.le_refl _, by omega, by simpa using hb⟩
theorem SlK.nil : SlK B br e ks m w (.slice Option.none 0 0) := .inl rfl
theorem SlK.shape (h : SlK B br e ks m w v) : ∃ A n c, v = .slice A n c ∧ n ≤ m ∧ n ≤ c ∧ c ≤ 9223372036854775807 ∧ (0 < n → ∃ g o, A = some ⟨g, o * ks.length, Option.none⟩ ∧ BlkK B br e ks (o + n) (o + c) w g) := by
  rcases h with rfl | ⟨g, o, n, c, rfl, h1, h2, h3, h4⟩
  · exact ⟨_, 0, 0, rfl, Nat.zero_le _, Nat.le_refl _, by omega, fun h => absurd h (by omega)⟩
  · exact ⟨_, n, c, rfl, h1, h2, h3, fun _ => ⟨g, o, rfl, h4⟩⟩
/-- The address of an element. -/
theorem LitK.at (h : LitK B br e ks n w v) {q : Nat} (hq : q < n) : ∃ g, v = .slice (some ⟨g, 0, Option.none⟩) n n ∧ BlkK B br e ks (q + 1) (q + 1) w g := by
  obtain ⟨g, rfl, hb⟩ := h
  exact ⟨g, rfl, hb.le (by omega) (by omega)⟩
end
end Go.Proofs.Ytodjokdaofefdaa
/- Kinds of values, written down: what they mean, which are within which, how they meet, and that they stay. -/
namespace Go.Proofs.Ytodjokdaofefdaa
set_option linter.unusedSimpArgs false
set_option linter.unusedVariables false
open Go.RowKit

/-- A kind of one cell. sl i lo hi: a slice of elements of shape i; ptr i off: a pointer into an element of shape i. -/
inductive CK where
  | any | rdr | code | nil
  | int (k : IntKind) (lo hi : Int)
  | intx (k : IntKind)
  | bool (b : Option Bool)
  | str (m : Nat)
  | sl (i lo hi : Nat)
  | sl0 (lo hi : Nat)
  | ptr (i off : Nat)
  deriving DecidableEq
/-- Shapes of elements: the type, the cells' kinds; a shape speaks of those behind it alone. The number of a shape is how many stand behind it. -/
abbrev Tab := List (TypeId × List CK)
structure Ctx where
  B : Nat
  br : Nat
  cb : Nat
  cv : Value
  N0 : Nat
def CK.den (c : Ctx) (tb : Nat → TypeId × List VK) : CK → VK
  | .any => fun _ _ => True
  | .rdr => fun _ v => v = .pointer (some ⟨c.br, 0, Option.none⟩)
  | .code => fun _ v => v = c.cv
  | .nil => fun _ v => v = .slice Option.none 0 0
  | .int k lo hi => fun _ v => ∃ n : Int, v = .int k n ∧ lo ≤ n ∧ n ≤ hi
  | .intx k => fun _ v => ∃ n : Int, v = .int k n
  | .bool b => fun _ v => ∃ x, v = .bool x ∧ ∀ y, b = some y → x = y
  | .str m => fun _ v => ∃ s : ByteArray, v = .string s ∧ s.size ≤ m
  | .sl i lo hi => fun w v => SlK c.B c.br (tb i).1 (tb i).2 hi w v ∧ ∃ A n q, v = .slice A n q ∧ lo ≤ n
  | .sl0 lo hi => fun _ v => ∃ A n q, v = .slice A n q ∧ lo ≤ n ∧ n ≤ hi
  | .ptr i off => fun w v => ∃ g q, v = .pointer (some ⟨g, q * (tb i).2.length + off, Option.none⟩) ∧ BlkK c.B c.br (tb i).1 (tb i).2 (q + 1) (q + 1) w g
def tabOf (c : Ctx) : Tab → Nat → TypeId × List VK
  | [], _ => (0, [])
  | (T, ks) :: r, i => if i = r.length then (T, ks.map (CK.den c (tabOf c r))) else tabOf c r i
def shp : Tab → Nat → TypeId × List CK
  | [], _ => (0, [])
  | (T, ks) :: r, i => if i = r.length then (T, ks) else shp r i
def CK.below (n : Nat) : CK → Bool
  | .sl i _ _ => decide (i < n)
  | .ptr i _ => decide (i < n)
  | _ => true
def okTab : Tab → Bool
  | [] => true
  | (_, ks) :: r => ks.all (CK.below r.length) && okTab r
theorem tabOf_cons {c : Ctx} {x : TypeId × List CK} {r : Tab} {i : Nat} (h : i < r.length) : tabOf c (x :: r) i = tabOf c r i := by
  obtain ⟨T, ks⟩ := x
  rw [tabOf, if_neg (by omega)]
theorem den_cons {c : Ctx} {x : TypeId × List CK} {r : Tab} {k : CK} (h : k.below r.length = true) : k.den c (tabOf c (x :: r)) = k.den c (tabOf c r) := by
  cases k <;> simp only [CK.below, decide_eq_true_eq] at h <;> simp only [CK.den, tabOf_cons, h]
theorem tab_den {c : Ctx} : ∀ {tab : Tab}, okTab tab = true → ∀ i, tabOf c tab i = ((shp tab i).1, (shp tab i).2.map (CK.den c (tabOf c tab))) ∧ ∀ k ∈ (shp tab i).2, k.below tab.length = true
  | [], _, i => by simp [tabOf, shp]
  | (T, ks) :: r, h, i => by
    simp only [okTab, Bool.and_eq_true, List.all_eq_true] at h
    have hb : ∀ k : CK, k.below r.length = true → k.below (r.length + 1) = true := fun k hk => by
      cases k <;> simp_all [CK.below] <;> omega
    by_cases e : i = r.length
    · subst e
      refine ⟨?_, fun k hk => hb k (h.1 k (by simpa [shp] using hk))⟩
      rw [tabOf, if_pos rfl, shp, if_pos rfl]
      refine Prod.ext rfl (List.map_congr_left fun k hk => (den_cons (x := (T, ks)) (h.1 k hk)).symm)
    · have ih := tab_den (c := c) h.2 i
      refine ⟨?_, fun k hk => hb k (ih.2 k (by simpa [shp, e] using hk))⟩
      rw [tabOf, if_neg e, shp, if_neg e, ih.1]
      refine Prod.ext rfl (List.map_congr_left fun k hk => (den_cons (x := (T, ks)) (ih.2 k hk)).symm)

/-! ### What stays -/
/-- The types whose cells are written, each with its shape. -/
abbrev Sto := List (TypeId × Nat)
def sto (S : Sto) (T : TypeId) : Bool := (S.lookup T).isSome
def stoShape (c : Ctx) (tab : Tab) (S : Sto) (T : TypeId) : List VK := match S.lookup T with | some i => (tabOf c tab i).2 | Option.none => []
def okSto (tab : Tab) (S : Sto) : Bool := (List.range tab.length).all (fun i => match S.lookup (shp tab i).1 with | some j => j == i | Option.none => true) && (S.lookup 0).isNone
abbrev Rel (c : Ctx) (tab : Tab) (S : Sto) (w w' : World) : Prop := RelK c.B c.br (sto S) (stoShape c tab S) w w'
abbrev Stab (c : Ctx) (tab : Tab) (S : Sto) (k : VK) : Prop := StabK c.B c.br (sto S) (stoShape c tab S) k
theorem tabOf_ge {c : Ctx} : ∀ {tab : Tab} {i : Nat}, tab.length ≤ i → tabOf c tab i = (0, [])
  | [], _, _ => rfl
  | (T, ks) :: r, i, h => by
    simp only [List.length_cons] at h
    rw [tabOf, if_neg (by omega), tabOf_ge (by omega)]
section
variable {c : Ctx} {tab : Tab} {S : Sto}
theorem sto_shape (ht : okTab tab = true) (hS : okSto tab S = true) (i : Nat) (h : sto S (tabOf c tab i).1 = true) : stoShape c tab S (tabOf c tab i).1 = (tabOf c tab i).2 := by
  simp only [okSto, Bool.and_eq_true, List.all_eq_true, List.mem_range] at hS
  have e := (tab_den (c := c) ht i).1
  by_cases hi : i < tab.length
  · have h1 := hS.1 i hi
    rw [show (shp tab i).1 = (tabOf c tab i).1 by rw [e]] at h1
    unfold sto at h
    unfold stoShape
    cases hl : S.lookup (tabOf c tab i).1 with
    | none => simp [hl] at h
    | some j =>
      simp only [hl, beq_iff_eq] at h1
      subst h1
      rfl
  · rw [tabOf_ge (by omega)] at h ⊢
    unfold sto at h
    have := hS.2
    simp only [Option.isNone_iff_eq_none] at this
    simp [this] at h
theorem den_stab (ht : okTab tab = true) (hS : okSto tab S = true) : ∀ k : CK, Stab c tab S (k.den c (tabOf c tab)) := by
  have key : ∀ n i, i < n → ∀ k ∈ (tabOf c tab i).2, Stab c tab S k := by
    intro n
    induction n with
    | zero => intro i hi; omega
    | succ n ih =>
      intro i hi k hk
      rw [(tab_den (c := c) ht i).1] at hk
      obtain ⟨k0, hk0, rfl⟩ := List.mem_map.1 hk
      by_cases hil : i < tab.length
      · -- the cells of a shape speak of smaller ones
        have hsm : ∀ (tab' : Tab) (i : Nat), okTab tab' = true → ∀ k0 ∈ (shp tab' i).2, k0.below i = true := by
          intro tab'
          induction tab' with
          | nil => intro i _ k0 h; simp [shp] at h
          | cons x r ihr =>
            intro i ho k0 h
            obtain ⟨T, ks⟩ := x
            simp only [okTab, Bool.and_eq_true, List.all_eq_true] at ho
            rw [shp] at h
            split at h
            · rename_i e; subst e; exact ho.1 k0 h
            · exact ihr i ho.2 k0 h
        have hb := hsm tab i ht k0 hk0
        cases k0 with
        | sl j lo hi' =>
          have hj : j < i := by simpa [CK.below] using hb
          rintro w w' v hr ⟨h1, h2⟩
          exact ⟨stab_sl (ih j (by omega)) (fun hT => sto_shape ht hS j hT) w w' v hr h1, h2⟩
        | ptr j off =>
          have hj : j < i := by simpa [CK.below] using hb
          rintro w w' v hr ⟨g, q, h1, h2⟩
          exact ⟨g, q, h1, h2.rel (ih j (by omega)) (fun hT => sto_shape ht hS j hT) hr⟩
        | _ => exact fun w w' v _ h => h
      · have e := tabOf_ge (c := c) (tab := tab) (i := i) (by omega)
        rw [(tab_den (c := c) ht i).1] at e
        simp only [Prod.mk.injEq, List.map_eq_nil_iff] at e
        rw [e.2] at hk0
        simp at hk0
  intro k
  cases k with
  | sl j lo hi' =>
    rintro w w' v hr ⟨h1, h2⟩
    exact ⟨stab_sl (key (j + 1) j (by omega)) (fun hT => sto_shape ht hS j hT) w w' v hr h1, h2⟩
  | ptr j off =>
    rintro w w' v hr ⟨g, q, h1, h2⟩
    exact ⟨g, q, h1, h2.rel (key (j + 1) j (by omega)) (fun hT => sto_shape ht hS j hT) hr⟩
  | _ => exact fun w w' v _ h => h
theorem shape_stab (ht : okTab tab = true) (hS : okSto tab S = true) (i : Nat) : ∀ k ∈ (tabOf c tab i).2, Stab c tab S k := by
  intro k hk
  rw [(tab_den (c := c) ht i).1] at hk
  obtain ⟨k0, _, rfl⟩ := List.mem_map.1 hk
  exact den_stab ht hS k0

/-! ### Which are within which -/
def all2 {α : Type} (f : α → α → Bool) : List α → List α → Bool
  | [], [] => true
  | x :: l, y :: r => f x y && all2 f l r
  | _, _ => false
theorem all2_at {α : Type} {f : α → α → Bool} : ∀ {l r : List α}, all2 f l r = true → l.length = r.length ∧ ∀ (j : Nat) x y, l[j]? = some x → r[j]? = some y → f x y = true
  | [], [], _ => ⟨rfl, fun j x y h => by simp at h⟩
  | x :: l, y :: r, h => by
    simp only [all2, Bool.and_eq_true] at h
    obtain ⟨h1, h2⟩ := all2_at h.2
    refine ⟨by simp [h1], fun j a b ha hb => ?_⟩
    cases j with
    | zero => simp at ha hb; subst ha; subst hb; exact h.1
    | succ j => exact h2 j a b (by simpa using ha) (by simpa using hb)
  | [], _ :: _, h => by simp [all2] at h
  | _ :: _, [], h => by simp [all2] at h
def CK.le (tab : Tab) : Nat → CK → CK → Bool
  | _, _, .any => true
  | _, .rdr, .rdr => true
  | _, .code, .code => true
  | _, .nil, .nil => true
  | _, .nil, .sl _ lo _ => lo == 0
  | _, .nil, .sl0 lo _ => lo == 0
  | _, .int k lo hi, .int k' lo' hi' => decide (k = k') && decide (lo' ≤ lo) && decide (hi ≤ hi')
  | _, .int k _ _, .intx k' => decide (k = k')
  | _, .intx k, .intx k' => decide (k = k')
  | _, .bool b, .bool b' => b'.isNone || decide (b = b')
  | _, .str m, .str m' => decide (m ≤ m')
  | 0, .sl i lo hi, .sl j lo' hi' => decide (i = j) && decide (lo' ≤ lo) && decide (hi ≤ hi')
  | f + 1, .sl i lo hi, .sl j lo' hi' => decide (lo' ≤ lo) && decide (hi ≤ hi') && (decide (i = j) || ((shp tab i).1 == (shp tab j).1 && all2 (CK.le tab f) (shp tab i).2 (shp tab j).2))
  | _, .sl _ lo hi, .sl0 lo' hi' => decide (lo' ≤ lo) && decide (hi ≤ hi')
  | _, .sl0 lo hi, .sl0 lo' hi' => decide (lo' ≤ lo) && decide (hi ≤ hi')
  | _, .ptr i off, .ptr j off' => decide (i = j) && decide (off = off')
  | _, _, _ => false
theorem BlkK.weaken {B br t m : Nat} {e : TypeId} {ks ks' : List VK} {w : World} {g : Nat} (hl : ks.length = ks'.length) (h : ∀ (f : Nat) k k', ks[f]? = some k → ks'[f]? = some k' → ∀ u, k w u → k' w u) (hb : BlkK B br e ks t m w g) : BlkK B br e ks' t m w g := by
  obtain ⟨h1, h2, cs, h3, h4, h5⟩ := hb
  refine ⟨h1, h2, cs, h3, by rw [← hl]; exact h4, fun q f k u hq hk hu => ?_⟩
  have hf : f < ks.length := by rw [hl]; exact (List.getElem?_eq_some_iff.1 hk).1
  exact h f ks[f] k (List.getElem?_eq_getElem hf) hk u (h5 q f ks[f] u hq (List.getElem?_eq_getElem hf) (by rw [hl]; exact hu))
theorem SlK.weaken {B br m : Nat} {e : TypeId} {ks ks' : List VK} {w : World} {v : Value} (hl : ks.length = ks'.length) (h : ∀ (f : Nat) k k', ks[f]? = some k → ks'[f]? = some k' → ∀ u, k w u → k' w u) (hb : SlK B br e ks m w v) : SlK B br e ks' m w v := by
  rcases hb with rfl | ⟨g, o, n, q, rfl, h1, h2, h3, h4⟩
  · exact .inl rfl
  · exact .inr ⟨g, o, n, q, by rw [hl], h1, h2, h3, h4.weaken hl h⟩
theorem le_den (ht : okTab tab = true) {w : World} : ∀ (f : Nat) (a b : CK), CK.le tab f a b = true → ∀ v, a.den c (tabOf c tab) w v → b.den c (tabOf c tab) w v := by
  have hsl : ∀ i j lo hi lo' hi' v, lo' ≤ lo → hi ≤ hi' → (∀ v, SlK c.B c.br (tabOf c tab i).1 (tabOf c tab i).2 hi w v → SlK c.B c.br (tabOf c tab j).1 (tabOf c tab j).2 hi w v) → (CK.sl i lo hi).den c (tabOf c tab) w v → (CK.sl j lo' hi').den c (tabOf c tab) w v := by
    rintro i j lo hi lo' hi' v h1 h2 h3 ⟨h4, A, n, q, rfl, h5⟩
    exact ⟨(h3 _ h4).mono h2, A, n, q, rfl, by omega⟩
  have hsl0 : ∀ i lo hi lo' hi' v, lo' ≤ lo → hi ≤ hi' → (CK.sl i lo hi).den c (tabOf c tab) w v → (CK.sl0 lo' hi').den c (tabOf c tab) w v := by
    rintro i lo hi lo' hi' v h1 h2 ⟨h4, A, n, q, rfl, h5⟩
    refine ⟨A, n, q, rfl, by omega, ?_⟩
    obtain ⟨A', n', q', h6, h7, _⟩ := h4.shape
    simp only [Value.slice.injEq] at h6
    obtain ⟨_, rfl, _⟩ := h6
    omega
  intro f
  induction f with
  | zero =>
    intro a b h v hv
    cases a <;> cases b <;> simp only [CK.le, Bool.and_eq_true, Bool.or_eq_true, decide_eq_true_eq, beq_iff_eq, Bool.false_eq_true, Option.isNone_iff_eq_none] at h
    all_goals first
      | exact trivial
      | exact hv
      | (obtain ⟨⟨rfl, h1⟩, h2⟩ := h; obtain ⟨n, rfl, h3, h4⟩ := hv; exact ⟨n, rfl, by omega, by omega⟩)
      | (obtain rfl := h; obtain ⟨n, rfl, h3, h4⟩ := hv; exact ⟨n, rfl⟩)
      | (obtain rfl := h; obtain ⟨n, rfl⟩ := hv; exact ⟨n, rfl⟩)
      | (obtain ⟨x, rfl, h3⟩ := hv; refine ⟨x, rfl, fun y hy => ?_⟩; rcases h with rfl | rfl; exact absurd hy (by simp); exact h3 y hy)
      | (obtain ⟨s, rfl, h3⟩ := hv; exact ⟨s, rfl, by omega⟩)
      | (obtain ⟨⟨rfl, h1⟩, h2⟩ := h; exact hsl _ _ _ _ _ _ _ h1 h2 (fun _ h => h) hv)
      | (obtain ⟨rfl, rfl⟩ := h; exact hv)
      | (exact hsl0 _ _ _ _ _ _ h.1 h.2 hv)
      | (obtain ⟨A, n, q, rfl, h3, h4⟩ := hv; exact ⟨A, n, q, rfl, by omega, by omega⟩)
      | (subst h; obtain rfl := hv; exact ⟨SlK.nil, _, _, _, rfl, Nat.zero_le _⟩)
      | (subst h; obtain rfl := hv; exact ⟨_, _, _, rfl, Nat.zero_le _, Nat.zero_le _⟩)
  | succ f ih =>
    have hsh : ∀ i j hi, (i = j ∨ (shp tab i).1 = (shp tab j).1 ∧ all2 (CK.le tab f) (shp tab i).2 (shp tab j).2 = true) → ∀ v, SlK c.B c.br (tabOf c tab i).1 (tabOf c tab i).2 hi w v → SlK c.B c.br (tabOf c tab j).1 (tabOf c tab j).2 hi w v := by
      intro i j hi h3 v hv
      rcases h3 with rfl | ⟨h3, h4⟩
      · exact hv
      · obtain ⟨h5, h6⟩ := all2_at h4
        rw [(tab_den (c := c) ht i).1] at hv
        rw [(tab_den (c := c) ht j).1]
        simp only at hv ⊢
        rw [← h3]
        refine hv.weaken (by simpa using h5) (fun f' k k' hk hk' u hu => ?_)
        rw [List.getElem?_map] at hk hk'
        obtain ⟨k1, e1, rfl⟩ := Option.map_eq_some_iff.1 hk
        obtain ⟨k2, e2, rfl⟩ := Option.map_eq_some_iff.1 hk'
        exact ih _ _ (h6 f' k1 k2 e1 e2) u hu
    intro a b h v hv
    cases a <;> cases b <;> simp only [CK.le, Bool.and_eq_true, Bool.or_eq_true, decide_eq_true_eq, beq_iff_eq, Bool.false_eq_true, Option.isNone_iff_eq_none] at h
    all_goals first
      | exact trivial
      | exact hv
      | (obtain ⟨⟨rfl, h1⟩, h2⟩ := h; obtain ⟨n, rfl, h3, h4⟩ := hv; exact ⟨n, rfl, by omega, by omega⟩)
      | (obtain rfl := h; obtain ⟨n, rfl, h3, h4⟩ := hv; exact ⟨n, rfl⟩)
      | (obtain rfl := h; obtain ⟨n, rfl⟩ := hv; exact ⟨n, rfl⟩)
      | (obtain ⟨x, rfl, h3⟩ := hv; refine ⟨x, rfl, fun y hy => ?_⟩; rcases h with rfl | rfl; exact absurd hy (by simp); exact h3 y hy)
      | (obtain ⟨s, rfl, h3⟩ := hv; exact ⟨s, rfl, by omega⟩)
      | exact hsl _ _ _ _ _ _ _ h.1.1 h.1.2 (hsh _ _ _ h.2) hv
      | (obtain ⟨rfl, rfl⟩ := h; exact hv)
      | (exact hsl0 _ _ _ _ _ _ h.1 h.2 hv)
      | (obtain ⟨A, n, q, rfl, h3, h4⟩ := hv; exact ⟨A, n, q, rfl, by omega, by omega⟩)
      | (obtain rfl := h; obtain rfl := hv; exact ⟨SlK.nil, _, _, _, rfl, Nat.zero_le _⟩)
      | (subst h; obtain rfl := hv; exact ⟨_, _, _, rfl, Nat.zero_le _, Nat.zero_le _⟩)
end
end Go.Proofs.Ytodjokdaofefdaa

/- Draws: kinds of drawn values, and what becomes of them while the draw goes on. -/
import Derived.Test.YtdpiaiblpafglaaDro
import Derived.Test.YtdpiaiblpafglaaReg
namespace Go.Proofs.Ytdpiaiblpafglaa
set_option linter.unusedSimpArgs false
set_option linter.unusedVariables false
open Go.RowKit

theorem Rdr.grown {w w' : World} {br cb : Nat} {p : Int} {row : Option Nat} (h : Rdr w br cb p) (hg : w.grownBy w' row) (hr : ∀ k, row = some k → k ≠ br ∧ cb ≤ k) : Rdr w' br cb p := by
  have hlt := h.lt
  obtain ⟨h0, A, n, c, h1, h2, h3⟩ := h
  refine ⟨h0, A, n, c, (hg.block br hlt (fun e => (hr br e.symm).1 rfl)).trans h1, h2, fun hn => ?_⟩
  obtain ⟨b, off, e, hne, hc⟩ := h3 hn
  exact ⟨b, off, e, hne, fun k hk => let ⟨u, hu, hcu⟩ := hc k hk; ⟨u, hu, hg.cell hcu (fun e => by have := (hr b e.symm).2; omega)⟩⟩
/-- The reader at br has drawn at most N times. -/
def RdrT (w : World) (br cb N : Nat) : Prop := ∃ p : Int, 0 ≤ p ∧ p ≤ N ∧ Rdr w br cb p
section
variable {w w' : World} {br cb N N' : Nat}
theorem RdrT.mono (h : RdrT w br cb N) (hN : N ≤ N') : RdrT w br cb N' := let ⟨p, h1, h2, h3⟩ := h; ⟨p, h1, by omega, h3⟩
theorem RdrT.below (h : RdrT w br cb N) (hb : Below w.heap.size w w') : RdrT w' br cb N := let ⟨p, h1, h2, h3⟩ := h; ⟨p, h1, h2, h3.below hb⟩
theorem RdrT.grown {row : Option Nat} (h : RdrT w br cb N) (hg : w.grownBy w' row) (hr : ∀ k, row = some k → k ≠ br ∧ cb ≤ k) : RdrT w' br cb N := let ⟨p, h1, h2, h3⟩ := h; ⟨p, h1, h2, h3.grown hg hr⟩
theorem RdrT.cb_ (h : RdrT w br cb N) : cb ≤ br := let ⟨_, _, _, h3⟩ := h; h3.1
theorem RdrT.lt (h : RdrT w br cb N) : br < w.heap.size := let ⟨_, _, _, h3⟩ := h; h3.lt
end
theorem grown_drew {a w : World} {row : Option Nat} (h : a.grownBy w row) : a.grownBy w.drew row := ⟨h.os, h.tape, h.output, h.size, h.block⟩
theorem grown_of_below {w w' : World} (h : Below w.heap.size w w') (row : Option Nat) : w.grownBy w' row := ⟨h.os, h.tape, h.output, h.size, fun k hk _ => h.block k hk⟩
theorem grown_alloc_ (w : World) (o : Obj) (row : Option Nat) : w.grownBy (w.alloc o) row := grown_of_below (below_alloc w o) row
/-- A change of a row that is not yet there at first. -/
theorem grown_new {a b c : World} {row row' : Option Nat} (h : a.grownBy b row) (k : b.grownBy c row') (hr : ∀ g, row' = some g → a.heap.size ≤ g) : a.grownBy c row :=
  ⟨k.os.trans h.os, k.tape.trans h.tape, k.output.trans h.output, Nat.le_trans h.size k.size, fun i hi hne => (k.block i (Nat.lt_of_lt_of_le hi h.size) (fun e => by have := hr i e.symm; omega)).trans (h.block i hi hne)⟩

theorem pick_d {br cb N : Nat} {n : Int} {w : World} (hR : RdrT w br cb N) (hN : N ≤ 1000000000) (h1 : 1 ≤ n) (hn : n ≤ 1000000) :
    Calls Try.prog 39 #[.pointer (some ⟨br, 0, Option.none⟩), .int .i64 n] w fun e w' => ∃ x : Int, e = .returned (.int .i64 x) ∧ 0 ≤ x ∧ x < n ∧ RdrT w' br cb (N + 1) ∧ w.grownBy w' (some br) := by
  obtain ⟨p, hp0, hp1, hR⟩ := hR
  refine (pick_any hR hp0 (by omega) hn).mono ?_
  rintro e w' ⟨x, rfl, h2, h3, _, h4, h5⟩
  exact ⟨x, rfl, h2, h3 h1, ⟨p + 1, by omega, by omega, h4⟩, h5⟩
theorem odd_d {br cb N : Nat} {n : Int} {w : World} (hR : RdrT w br cb N) (hN : N ≤ 1000000000) (h1 : 0 ≤ n) (hn : n ≤ 1000000) :
    Calls Try.prog 58 #[.pointer (some ⟨br, 0, Option.none⟩), .int .i64 n] w fun e w' => ∃ x : Bool, e = .returned (.bool x) ∧ RdrT w' br cb (N + 1) ∧ w.grownBy w' (some br) := by
  obtain ⟨p, hp0, hp1, hR⟩ := hR
  refine (odd_any hR hp0 (by omega) h1 hn).mono ?_
  rintro e w' ⟨x, p', rfl, h2, h3, h4, h5⟩
  exact ⟨x, rfl, ⟨p', by omega, by omega, h4⟩, h5⟩

/-! ### Kinds -/
def IsI (lo hi : Int) (v : Value) : Prop := ∃ x : Int, v = .int .i64 x ∧ lo ≤ x ∧ x ≤ hi
def IsB (v : Value) : Prop := ∃ x : Bool, v = .bool x
def IsS (n : Nat) (v : Value) : Prop := ∃ s : ByteArray, v = .string s ∧ s.size ≤ n
theorem IsI.mono {lo hi lo' hi' : Int} {v : Value} (h : IsI lo hi v) (h1 : lo' ≤ lo) (h2 : hi ≤ hi') : IsI lo' hi' v := let ⟨x, e, a, b⟩ := h; ⟨x, e, by omega, by omega⟩
/-- The blocks from B on that are there stay as they are. -/
def Above (B : Nat) (w w' : World) : Prop := w.heap.size ≤ w'.heap.size ∧ ∀ k, B ≤ k → k < w.heap.size → w'.heap[k]? = w.heap[k]?
theorem above_of {B : Nat} {w w' : World} {row : Option Nat} (h : w.grownBy w' row) (hr : ∀ k, row = some k → k < B) : Above B w w' :=
  ⟨h.size, fun k h1 h2 => h.block k h2 (fun e => by have := hr k e.symm; omega)⟩
def CellsP (P : List Value → Prop) (w : World) (g o : Nat) : Prop := ∃ cs, P cs ∧ ∀ (j : Nat) u, cs[j]? = some u → w.cell? ⟨g, o + j, Option.none⟩ = some u
def PtrP (B : Nat) (P : List Value → Prop) (w : World) (v : Value) : Prop := ∃ g o, v = .pointer (some ⟨g, o, Option.none⟩) ∧ B ≤ g ∧ CellsP P w g o
def SlP (B sz n : Nat) (P : List Value → Prop) (w : World) (v : Value) : Prop := n ≤ 9223372036854775807 ∧ ∃ g c, v = .slice (some ⟨g, 0, Option.none⟩) n c ∧ B ≤ g ∧ ∀ k, k < n → CellsP P w g (k * sz)
section
variable {B sz n : Nat} {P : List Value → Prop} {w w' : World} {v : Value} {g o : Nat}
theorem CellsP.above (h : CellsP P w g o) (hB : B ≤ g) (ha : Above B w w') : CellsP P w' g o :=
  let ⟨cs, h1, h2⟩ := h; ⟨cs, h1, fun j u hu => (World.cell?_of_block (ha.2 g hB (by have := block_lt_of_cell (h2 j u hu); simpa using this))).trans (h2 j u hu)⟩
theorem PtrP.above (h : PtrP B P w v) (ha : Above B w w') : PtrP B P w' v := let ⟨g, o, e, hB, hc⟩ := h; ⟨g, o, e, hB, hc.above hB ha⟩
theorem SlP.above (h : SlP B sz n P w v) (ha : Above B w w') : SlP B sz n P w' v := let ⟨hn, g, c, e, hB, hc⟩ := h; ⟨hn, g, c, e, hB, fun k hk => (hc k hk).above hB ha⟩
end
def AllP (P : List Value → Prop) : List (List Value) → Prop
  | [] => True
  | x :: l => P x ∧ AllP P l
theorem AllP.at {P : List Value → Prop} : ∀ {l : List (List Value)}, AllP P l → ∀ k (h : k < l.length), P l[k]
  | _ :: _, h, 0, _ => h.1
  | _ :: l, h, k + 1, hk => AllP.at (l := l) h.2 k (by simpa using hk)
theorem sl_new {B sz n : Nat} {P : List Value → Prop} {w : World} {cs : Array Value} {T : TypeId} (hB : B ≤ w.heap.size) (l : List (List Value)) (hl : l.flatMap (fun x => x) = cs.toList) (hn : l.length = n) (hn63 : n ≤ 9223372036854775807) (hsz : l.all (fun x => x.length == sz) = true) (hP : AllP P l) :
    SlP B sz n P (w.alloc (.cells cs T)) (.slice (some ⟨w.heap.size, 0, Option.none⟩) n n) := by
  refine ⟨hn63, _, _, rfl, hB, fun k hk => ?_⟩
  subst hn
  have hs : ∀ (l : List (List Value)), l.all (fun x => x.length == sz) = true → ∀ k (hk : k < l.length) j u, l[k][j]? = some u → (l.flatMap (fun x => x))[k * sz + j]? = some u := by
    intro l
    induction l with
    | nil => intro _ k hk; simp at hk
    | cons x l ih =>
      intro hall k hk j u hu
      simp only [List.all_cons, Bool.and_eq_true, beq_iff_eq] at hall
      rw [List.flatMap_cons]
      cases k with
      | zero =>
        simp only [List.getElem_cons_zero] at hu
        rw [List.getElem?_append_left (by have := (List.getElem?_eq_some_iff.1 hu).1; omega)]
        simpa using hu
      | succ k =>
        simp only [List.getElem_cons_succ] at hu
        rw [List.getElem?_append_right (by rw [hall.1, Nat.add_mul]; omega), hall.1]
        have e : (k + 1) * sz + j - sz = k * sz + j := by rw [Nat.add_mul]; omega
        rw [e]
        exact ih hall.2 k (by simpa using hk) j u hu
  refine ⟨l[k], hP.at k hk, fun j u hu => ?_⟩
  rw [cell_of_row _ w.heap.size _ cs T (0, 0) (heap_alloc_new w _), ← Array.getElem?_toList, ← hl]
  exact hs l hsz k hk j u hu
/-- A row as a list of flat elements. -/
theorem SlP.rd {α : Type} {enc : α → List Value} {B sz n : Nat} {P : List Value → Prop} {w : World} {v : Value} (h : SlP B sz n P w v) (hsz : ∀ a, (enc a).length = sz) (Q : α → Prop) (hP : ∀ cs, P cs → ∃ a, Q a ∧ cs = enc a) :
    ∃ (l : List α) (A : Option Addr) (c : Nat), v = .slice A l.length c ∧ l.length = n ∧ (∀ a ∈ l, Q a) ∧ RdL (Flat enc) sz w A l := by
  obtain ⟨hn, g, c, rfl, hB, hc⟩ := h
  have hch : ∀ n, n ≤ 9223372036854775807 → (∀ k, k < n → CellsP P w g (k * sz)) → ∃ l : List α, l.length = n ∧ (∀ a ∈ l, Q a) ∧ ∀ k (hk : k < l.length) j u, (enc l[k])[j]? = some u → w.cell? ⟨g, k * sz + j, Option.none⟩ = some u := by
    intro n
    induction n with
    | zero => intro _ _; exact ⟨[], rfl, by simp, by simp⟩
    | succ n ih =>
      intro hn hc
      obtain ⟨l, h1, h2, h3⟩ := ih (by omega) (fun k hk => hc k (by omega))
      obtain ⟨cs, hp, hcs⟩ := hc n (by omega)
      obtain ⟨a, ha, rfl⟩ := hP cs hp
      refine ⟨l ++ [a], by simp [h1], fun b hb => ?_, fun k hk j u hu => ?_⟩
      · rcases List.mem_append.1 hb with hb | hb
        · exact h2 b hb
        · rw [List.mem_singleton.1 hb]; exact ha
      · by_cases e : k < l.length
        · rw [List.getElem_append_left e] at hu; exact h3 k e j u hu
        · have e2 : k = n := by simp at hk; omega
          subst e2
          rw [List.getElem_append_right (by omega)] at hu
          simp [h1] at hu
          exact hcs j u hu
  obtain ⟨l, h1, h2, h3⟩ := hch n hn hc
  refine ⟨l, some ⟨g, 0, Option.none⟩, c, by rw [h1], h1, h2, by omega, fun _ => ⟨g, 0, rfl, fun k hk => ⟨enc l[k], hsz _, rfl, fun j u hu => by rw [Nat.zero_add]; exact h3 k hk j u hu⟩⟩⟩

/-- A row of one's own, drawn: at most n elements of the kind Q. -/
def DrS {α : Type} (B : Nat) (e : TypeId) (sz : Nat) (enc : α → List Value) (n : Nat) (Q : α → Prop) (w : World) (v : Value) : Prop := ∃ l : List α, l.length ≤ n ∧ (∀ a ∈ l, Q a) ∧ OwnA B e sz enc w v l
def Top (B : Nat) (v : Value) : Prop := ∀ k, v.ownBlock = some k → k < B
section
variable {α : Type} {B B' : Nat} {e : TypeId} {sz n n' : Nat} {enc : α → List Value} {Q : α → Prop} {w w' : World} {v : Value}
theorem DrS.grown {row : Option Nat} (h : DrS B e sz enc n Q w v) (hg : w.grownBy w' row) (hr : ∀ k, row = some k → k < B) : DrS B e sz enc n Q w' v := by
  obtain ⟨l, h1, h2, A, c, rfl, ho⟩ := h
  exact ⟨l, h1, h2, A, c, rfl, own_apart_ ho hg (fun k hk e => by have := (ho.lt k hk).1; have := hr k e; omega)⟩
theorem DrS.below (h : DrS B e sz enc n Q w v) (hb : Below w.heap.size w w') : DrS B e sz enc n Q w' v := h.grown (grown_of_below hb Option.none) (fun k e => by cases e)
theorem DrS.lower (h : DrS B e sz enc n Q w v) (hB : B' ≤ B) : DrS B' e sz enc n Q w v := let ⟨l, h1, h2, h3⟩ := h; ⟨l, h1, h2, h3.lower hB⟩
theorem DrS.mono (h : DrS B e sz enc n Q w v) (hn : n ≤ n') : DrS B e sz enc n' Q w v := let ⟨l, h1, h2, h3⟩ := h; ⟨l, by omega, h2, h3⟩
theorem DrS.top (h : DrS B e sz enc n Q w v) : Top w.heap.size v := by
  obtain ⟨l, _, _, A, c, rfl, ho⟩ := h
  exact fun k hk => (ho.lt k hk).2
theorem DrS.apart {row : Option Nat} (h : DrS B e sz enc n Q w v) (hg : w.grownBy w' row) (hr : ∀ k, v.ownBlock = some k → row ≠ some k) : DrS B e sz enc n Q w' v := by
  obtain ⟨l, h1, h2, A, c, rfl, ho⟩ := h
  exact ⟨l, h1, h2, A, c, rfl, own_apart_ ho hg hr⟩
theorem DrS.ge (h : DrS B e sz enc n Q w v) (k : Nat) (hk : v.ownBlock = some k) : B ≤ k := by
  obtain ⟨l, _, _, A, c, rfl, ho⟩ := h
  exact (ho.lt k hk).1
theorem DrS.empty (hB : B ≤ w.heap.size) : DrS B e sz enc 0 Q (w.alloc (.cells #[] e)) (.slice (some ⟨w.heap.size, 0, Option.none⟩) 0 0) :=
  ⟨[], by simp, by simp, _, 0, rfl, by simp, .inr ⟨w.heap.size, 0, #[], rfl, hB, heap_alloc_new w _, Nat.le_refl _, by simp [maxLen], by simp, by simp⟩⟩
theorem DrS.nil : DrS B e sz enc n Q w (.slice Option.none 0 0) := ⟨[], by simp, by simp, _, 0, rfl, World.ownsRow_nil _ _ _ _⟩
end
/-- Only rows of the kind R have turned. -/
def GrownP (R : Nat → Prop) (w w' : World) : Prop := w'.os = w.os ∧ w'.tape = w.tape ∧ w'.output = w.output ∧ w.heap.size ≤ w'.heap.size ∧ ∀ k, k < w.heap.size → ¬ R k → w'.heap[k]? = w.heap[k]?
section
variable {R : Nat → Prop} {a b c : World} {row : Option Nat}
theorem GrownP.refl (R : Nat → Prop) (w : World) : GrownP R w w := ⟨rfl, rfl, rfl, Nat.le_refl _, fun _ _ _ => rfl⟩
theorem GrownP.drew (h : GrownP R a b) : GrownP R a b.drew := h
theorem GrownP.step (h : GrownP R a b) (hg : b.grownBy c row) (hr : ∀ k, row = some k → R k ∨ a.heap.size ≤ k) : GrownP R a c :=
  ⟨hg.os.trans h.1, hg.tape.trans h.2.1, hg.output.trans h.2.2.1, Nat.le_trans h.2.2.2.1 hg.size, fun k hk hn => (hg.block k (Nat.lt_of_lt_of_le hk h.2.2.2.1) (fun e => by rcases hr k e.symm with h | h; exact hn h; omega)).trans (h.2.2.2.2 k hk hn)⟩
theorem GrownP.size (h : GrownP R a b) : a.heap.size ≤ b.heap.size := h.2.2.2.1
theorem GrownP.to (h : a.grownBy b row) (hp : GrownP R b c) (hr : ∀ k, R k → some k = row ∨ a.heap.size ≤ k) : a.grownBy c row :=
  ⟨hp.1.trans h.os, hp.2.1.trans h.tape, hp.2.2.1.trans h.output, Nat.le_trans h.size hp.size, fun k hk hn => (hp.2.2.2.2 k (Nat.lt_of_lt_of_le hk h.size) (fun hR => by rcases hr k hR with e | e; exact hn e; omega)).trans (h.block k hk hn)⟩
theorem DrS.grownP {α : Type} {B : Nat} {e : TypeId} {sz n : Nat} {enc : α → List Value} {Q : α → Prop} {v : Value} (h : DrS B e sz enc n Q a v) (hp : GrownP R a b) (hr : ∀ k, R k → v.ownBlock ≠ some k) : DrS B e sz enc n Q b v := by
  obtain ⟨l, h1, h2, A, c, rfl, ho⟩ := h
  cases hk : (Value.slice A l.length c).ownBlock with
  | none =>
    refine ⟨l, h1, h2, A, c, rfl, ?_⟩
    rcases ho.2 with h0 | ⟨g, cap, cur, hv, _⟩
    · exact ⟨ho.1, .inl h0⟩
    · rw [hv] at hk; cases hk
  | some g =>
    have hlt := (ho.lt g hk).2
    have hb := hp.2.2.2.2 g hlt (fun hR => hr g hR hk)
    refine ⟨l, h1, h2, A, c, rfl, ho.1, ?_⟩
    rcases ho.2 with h0 | ⟨g2, cap, cur, hv, hB, hx, hrest⟩
    · exact .inl h0
    · rw [hv] at hk
      simp only [Value.ownBlock, Option.some.injEq] at hk
      subst hk
      exact .inr ⟨g2, cap, cur, hv, hB, hb.trans hx, hrest⟩
end
/-- A variable of its own, in block g. -/
def BoxP (P : List Value → Prop) (T : TypeId) (g : Nat) (w : World) : Prop := ∃ cs : List Value, P cs ∧ w.heap[g]? = some (.cells cs.toArray T (0, 0))
section
variable {P P' : List Value → Prop} {T : TypeId} {g : Nat} {w w' : World} {row : Option Nat}
theorem BoxP.lt (h : BoxP P T g w) : g < w.heap.size := let ⟨_, _, h2⟩ := h; (Array.getElem?_eq_some_iff.1 h2).1
theorem BoxP.grown (h : BoxP P T g w) (hg : w.grownBy w' row) (hr : row ≠ some g) : BoxP P T g w' := let ⟨cs, h1, h2⟩ := h; ⟨cs, h1, (hg.block g (Array.getElem?_eq_some_iff.1 h2).1 (fun e => hr e.symm)).trans h2⟩
theorem BoxP.below (h : BoxP P T g w) (hb : Below w.heap.size w w') : BoxP P T g w' := let ⟨cs, h1, h2⟩ := h; ⟨cs, h1, (hb.block g (Array.getElem?_eq_some_iff.1 h2).1).trans h2⟩
theorem BoxP.new (w : World) (cs : List Value) (h : P cs) : BoxP P T w.heap.size (w.alloc (.cells cs.toArray T)) := ⟨cs, h, heap_alloc_new w _⟩
theorem setCells_at {g : Nat} {T : TypeId} {fr : Nat × Nat} (vs : List Value) : ∀ {w : World} {cs : List Value} (o : Nat), w.heap[g]? = some (.cells cs.toArray T fr) → o + vs.length ≤ cs.length → (setCells w g o vs).heap[g]? = some (.cells (cs.take o ++ vs ++ cs.drop (o + vs.length)).toArray T fr) := by
  induction vs with
  | nil => intro w cs o h _; simpa [setCells] using h
  | cons v vs ih =>
    intro w cs o h ho
    simp only [List.length_cons] at ho
    have h1 : (w.setCell ⟨g, o, Option.none⟩ v).heap[g]? = some (.cells (cs.set o v).toArray T fr) := by
      simp [World.setCell, Array.getElem?_modify, h]
    have h2 := ih (o + 1) h1 (by simp; omega)
    rw [setCells, h2]
    congr 3
    rw [List.drop_set_of_lt (by omega), List.take_succ_eq_append_getElem (by rw [List.length_set]; omega)]
    simp only [List.getElem_set_self, List.length_cons]
    rw [List.take_set_of_le (Nat.le_refl _), show o + 1 + vs.length = o + (vs.length + 1) by omega]
    simp
theorem BoxP.put (vs : List Value) (h : BoxP P T g w) (hl : ∀ cs, P cs → cs.length = vs.length) (hP : P' vs) : BoxP P' T g (setCells w g 0 vs) := by
  obtain ⟨cs, h1, h2⟩ := h
  have hlen := hl cs h1
  refine ⟨vs, hP, ?_⟩
  rw [setCells_at vs 0 h2 (by omega)]
  simp [List.drop_of_length_le, hlen]
end
def relOf (app : Option Nat) (B1 br i : Nat) (w w' : World) : Prop := if app = some i then Above B1 w w' else w.grownBy w' (some br)
section
variable {app : Option Nat} {B1 br i : Nat} {w w' : World}
theorem relOf_no (h : app ≠ some i) (hg : w.grownBy w' (some br)) : relOf app B1 br i w w' := by rw [relOf, if_neg h]; exact hg
theorem relOf_yes (h : app = some i) (hg : Above B1 w w') : relOf app B1 br i w w' := by rw [relOf, if_pos h]; exact hg
theorem relOf_grown (h : app ≠ some i) (hr : relOf app B1 br i w w') : w.grownBy w' (some br) := by rwa [relOf, if_neg h] at hr
theorem relOf_above (hbr : br < B1) (hr : relOf app B1 br i w w') : Above B1 w w' := by
  unfold relOf at hr
  split at hr
  · exact hr
  · exact above_of hr (fun k e => by cases e; exact hbr)
end
theorem op_append_dr {α : Type} {enc : α → List Value} {P : Program} {w : World} {o : Oper} {a : Act} {K : Act → World → Prop} {Q0 : Exit → Act → World → Prop} (s x : Operand) (t e : TypeId) (z : Value) (sz bytes : Nat)
    (ho : o.op = .call { callee := .builtin .append, args := #[s, x], argTypes := #[t, t] }) (ht : P.underlying t = some (.slice e)) (hinfo : (P.info? e).map (fun i => (i.zero, i.size, i.bytes)) = some (some z, sz, bytes))
    (hzs : z.cells.size = sz) (hsz : 0 < sz) (henc : ∀ a, (enc a).length = sz) (hone : ∀ a, ∀ u ∈ enc a, u.oneCell' = true)
    {B B1 n m : Nat} {Q : α → Prop} {PX : List Value → Prop} (hd : DrS B e sz enc n Q w (a.eval s)) (hx : SlP B1 sz m PX w (a.eval x)) (hP : ∀ cs, PX cs → ∃ q, Q q ∧ cs = enc q)
    (hbytes : (n + m) * bytes ≤ 140737488355328) (h63 : n + m ≤ 9223372036854775807) (hbase : B ≤ w.heap.size)
    (h : ∀ v' w', DrS B e sz enc (n + m) Q w' v' → w.grownBy w' (a.eval s).ownBlock → (∀ k, (a.eval s).ownBlock = some k → B ≤ k) → K (a.put o.dst v') w') : o.wp P a w K Q0 := by
  obtain ⟨l, h1, h2, A, c, hv, hown⟩ := hd
  obtain ⟨lx, Ax, cx, hvx, h3, h4, hrd⟩ := hx.rd henc Q hP
  have hb2 : (l.length + lx.length) * bytes ≤ (n + m) * bytes := Nat.mul_le_mul_right _ (by omega)
  refine op_append_rd (enc := enc) s x B t e z sz bytes ho ht hinfo hzs hsz henc hone hv hown hvx hrd (by omega) (by omega) hbase ?_
  intro v' w' ho' hg _
  rw [← hv] at hg
  have ho2 : w'.ownsRow B e sz v' (l ++ lx).length ((l ++ lx).flatMap enc) := by simpa using ho'
  refine h v' w' ⟨l ++ lx, by simp; omega, fun b hb => ?_, OwnA.of ho2⟩ hg (fun k hk => ?_)
  · rcases List.mem_append.1 hb with hb | hb
    · exact h2 b hb
    · exact h4 b hb
  · rw [hv] at hk
    exact (hown.lt k hk).1
/-- append of one element, that stands in a block of its own. -/
theorem wpList_append_dr {α : Type} {enc : α → List Value} {P : Program} {w : World} {ops : Array Oper} {rest : List Oper} {o : Oper} {a : Act} {Q0 : Exit → Act → World → Prop} (q : α) (hgd : o.guard = Option.none) (s x : Operand) (t e : TypeId) (z : Value) (sz bytes : Nat)
    (ho : o.op = .call { callee := .builtin .append, args := #[s, x], argTypes := #[t, t] }) (ht : P.underlying t = some (.slice e)) (hinfo : (P.info? e).map (fun i => (i.zero, i.size, i.bytes)) = some (some z, sz, bytes))
    (hzs : z.cells.size = sz) (hsz : 0 < sz) (henc : ∀ a, (enc a).length = sz) (hone : ∀ a, ∀ u ∈ enc a, u.oneCell' = true)
    {B n g c : Nat} {Q : α → Prop} {cs : Array Value} {T : TypeId} (hd : DrS B e sz enc n Q w (a.eval s)) (hx : a.eval x = .slice (some ⟨g, 0, Option.none⟩) 1 c) (hblk : w.heap[g]? = some (.cells cs T (0, 0))) (hcs : [q].flatMap enc = cs.toList) (hq : Q q)
    (hbytes : (n + 1) * bytes ≤ 140737488355328) (h63 : n + 1 ≤ 9223372036854775807) (hbase : B ≤ w.heap.size)
    (h : ∀ v' w', DrS B e sz enc (n + 1) Q w' v' → w.grownBy w' (a.eval s).ownBlock → (∀ k, (a.eval s).ownBlock = some k → B ≤ k) → wpList P ops Q0 rest (a.put o.dst v') w') : wpList P ops Q0 (o :: rest) a w := by
  obtain ⟨l, h1, h2, A, c', hv, hown⟩ := hd
  have hb2 : (l.length + 1) * bytes ≤ (n + 1) * bytes := Nat.mul_le_mul_right _ (by omega)
  refine wpList_append_rd (enc := enc) (l := [q]) hgd s x B t e z sz bytes ho ht hinfo hzs hsz henc hone hv hown hx (rd_block henc hblk hcs) (by simpa using (by omega : (l.length + 1) * bytes ≤ 140737488355328)) (by simp; omega) hbase ?_
  intro v' w' ho' hg _
  rw [← hv] at hg
  have ho2 : w'.ownsRow B e sz v' (l ++ [q]).length ((l ++ [q]).flatMap enc) := by simpa using ho'
  refine h v' w' ⟨l ++ [q], by simp; omega, fun b hb => ?_, OwnA.of ho2⟩ hg (fun k hk => ?_)
  · rcases List.mem_append.1 hb with hb | hb
    · exact h2 b hb
    · rw [List.mem_singleton.1 hb]; exact hq
  · rw [hv] at hk
    exact (hown.lt k hk).1
end Go.Proofs.Ytdpiaiblpafglaa

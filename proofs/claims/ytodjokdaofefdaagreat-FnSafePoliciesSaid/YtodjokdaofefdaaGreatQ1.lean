/- General lemmas of this seat's proofs: endings, worlds, regions that draw their order. -/
import Derived.Test.YtodjokdaofefdaaGreatRows
import Derived.WalkKit
import Derived.WalkSpells
import Derived.WalkLawsBesides
import Derived.Deep.QuietTactic
import Derived.BigQuiet
import Derived.IntWalk
import Derived.Lib.Hide
import Derived.Lib.QuietBelow
import Derived.Deep.OwnRows
import Derived.Deep.AppendLies
import Derived.RegionTactic
import Derived.Maps.AppendAt
import Derived.Deep.DeepMust
import Derived.ArgAppend
namespace Go.Proofs.YtodjokdaofefdaaGreat
set_option linter.unusedSimpArgs false
set_option linter.unusedVariables false
open Go.RowKit

theorem ret_bool {a b : Bool} (h : a = b) : Ending.returned (.bool a) = .returned (.bool b) := by rw [h]
theorem below_of_regrown {w w' : World} {B : Nat} (h : ∃ p : Regrown, w' = Sort.grow (redrawn w p.d) p.os) (hB : B ≤ w.heap.size) : Below B w w' := by
  obtain ⟨p, rfl⟩ := h
  exact (below_regrown _ _ _).mono hB

def inB (n lo hi : Int) : Bool := decide (lo ≤ n ∧ n ≤ hi)
theorem inB_true {n lo hi : Int} : inB n lo hi = true ↔ lo ≤ n ∧ n ≤ hi := by simp [inB]
theorem inB_false {n lo hi : Int} : inB n lo hi = false ↔ n < lo ∨ hi < n := by simp only [inB, decide_eq_false_iff_not]; omega
theorem below_cell {w w' : World} {a : Addr} {v : Value} (h : Below w.heap.size w w') (hc : w.cell? a = some v) : w'.cell? a = some v :=
  (h.cell (block_lt_of_cell hc)).trans hc
theorem below_alloc (w : World) (o : Obj) : Below w.heap.size w (w.alloc o) := (Below.refl _ _).alloc (Nat.le_refl _) o
theorem box_cell (w : World) (cs : Array Value) (t : TypeId) (i : Nat) (v : Value) (h : cs[i]? = some v) : (w.alloc (.cells cs t)).cell? ⟨w.heap.size, i, none⟩ = some v :=
  (cell_of_row (w.alloc (.cells cs t)) w.heap.size i cs t (0, 0) (heap_alloc_new w _)).trans h
theorem all_succ {p : Nat → Prop} {k : Nat} (h : ∀ j, j < k → p j) (hk : p k) : ∀ j, j < k + 1 → p j := fun j hj => by
  by_cases e : j = k
  · subst e; exact hk
  · exact h j (by omega)

/-- The slice with the address A reads as the list l, element by element: R says what the cells of one element read as. -/
def RdL {α : Type} (R : World → α → List Value → Prop) (sz : Nat) (w : World) (A : Option Addr) (l : List α) : Prop :=
  l.length ≤ 9223372036854775807 ∧ (0 < l.length → ∃ b off, A = some ⟨b, off, none⟩ ∧ ∀ k (hk : k < l.length), ∃ cs : List Value, cs.length = sz ∧ R w l[k] cs ∧
    ∀ j v, cs[j]? = some v → w.cell? ⟨b, off + k * sz + j, none⟩ = some v)
def Mono {α : Type} (R : World → α → List Value → Prop) : Prop := ∀ w w' a cs, Below w.heap.size w w' → R w a cs → R w' a cs
section
variable {α : Type} {R : World → α → List Value → Prop} {sz : Nat} {w w' : World} {A : Option Addr} {l : List α}
theorem RdL.below (hR : Mono R) (h : RdL R sz w A l) (hb : Below w.heap.size w w') : RdL R sz w' A l :=
  ⟨h.1, fun hn => let ⟨b, off, e, hc⟩ := h.2 hn; ⟨b, off, e, fun k hk => let ⟨cs, h1, h2, h3⟩ := hc k hk; ⟨cs, h1, hR _ _ _ _ hb h2, fun j v hv => below_cell hb (h3 j v hv)⟩⟩⟩
theorem RdL.regrown (hR : Mono R) (h : RdL R sz w A l) (d : Nat) (os : Array Obj) : RdL R sz (Sort.grow (redrawn w d) os) A l := h.below hR (below_regrown w d os)
theorem RdL.nil (A : Option Addr) : RdL R sz w A [] := ⟨by simp, fun h => absurd h (by simp)⟩
theorem RdL.take (h : RdL R sz w A l) (m : Nat) : RdL R sz w A (l.take m) := by
  refine ⟨Nat.le_trans (by simp; omega) h.1, fun hn => ?_⟩
  obtain ⟨b, off, e, hc⟩ := h.2 (by simp at hn; omega)
  refine ⟨b, off, e, fun k hk => ?_⟩
  obtain ⟨cs, h1, h2, h3⟩ := hc k (by simp at hk; omega)
  exact ⟨cs, h1, by simpa using h2, h3⟩
theorem RdL.dropAt {b off : Nat} (h : RdL R sz w (some ⟨b, off, none⟩) l) (m : Nat) : RdL R sz w (some ⟨b, off + m * sz, none⟩) (l.drop m) := by
  refine ⟨Nat.le_trans (by simp) h.1, fun hn => ?_⟩
  simp only [List.length_drop] at hn
  obtain ⟨b', off', e, hc⟩ := h.2 (by omega)
  simp only [Option.some.injEq, Addr.mk.injEq, and_true] at e
  obtain ⟨rfl, rfl⟩ := e
  refine ⟨b, off + m * sz, rfl, fun k hk => ?_⟩
  simp only [List.length_drop] at hk
  obtain ⟨cs, h1, h2, h3⟩ := hc (m + k) (by omega)
  refine ⟨cs, h1, by simpa using h2, fun j v hv => ?_⟩
  have := h3 j v hv
  rwa [Nat.add_mul, ← Nat.add_assoc] at this
end

/-- Flat elements: the cells of an element are written out. -/
def Flat {α : Type} (enc : α → List Value) : World → α → List Value → Prop := fun _ a cs => cs = enc a
theorem Flat.mono {α : Type} (enc : α → List Value) : Mono (Flat enc) := fun _ _ _ _ _ h => h
theorem flatMap_get {α : Type} (enc : α → List Value) (sz : Nat) (h : ∀ a, (enc a).length = sz) : ∀ (l : List α) (k j : Nat) (hk : k < l.length), j < sz → (l.flatMap enc)[k * sz + j]? = (enc l[k])[j]?
  | a :: l, 0, j, _, hj => by
    rw [List.flatMap_cons, List.getElem?_append_left (by simpa [h] using hj)]; simp
  | a :: l, k + 1, j, hk, hj => by
    rw [List.flatMap_cons, List.getElem?_append_right (by rw [h]; rw [Nat.add_mul]; omega), h]
    have e : (k + 1) * sz + j - sz = k * sz + j := by rw [Nat.add_mul]; omega
    rw [e, flatMap_get enc sz h l k j (by simpa using hk) hj]
    simp
theorem flatMap_length {α : Type} (enc : α → List Value) (sz : Nat) (h : ∀ a, (enc a).length = sz) (l : List α) : (l.flatMap enc).length = l.length * sz := by
  induction l with
  | nil => simp
  | cons a l ih => rw [List.flatMap_cons, List.length_append, ih, h, List.length_cons, Nat.add_mul]; omega
theorem RdL.of_own {α : Type} {enc : α → List Value} {sz B : Nat} {e : TypeId} {w : World} {A : Option Addr} {n c : Nat} {l : List α} (hs : ∀ a, (enc a).length = sz) (hl : l.length = n) (hb : n ≤ 9223372036854775807)
    (h : w.ownsRow B e sz (.slice A n c) n (l.flatMap enc)) : RdL (Flat enc) sz w A l := by
  subst hl
  refine ⟨hb, fun hn => ?_⟩
  obtain ⟨g, cap, hv, _, _⟩ := h.form hn
  simp only [Value.slice.injEq, true_and] at hv
  obtain ⟨rfl, rfl⟩ := hv
  refine ⟨g, 0, rfl, fun k hk => ⟨enc l[k], hs _, rfl, fun j v hv => ?_⟩⟩
  have hj : j < sz := by
    have := (List.getElem?_eq_some_iff.1 hv).1
    rwa [hs] at this
  have hlt : k * sz + j < l.length * sz := by
    have : (k + 1) * sz ≤ l.length * sz := Nat.mul_le_mul_right _ hk
    rw [Nat.add_mul] at this; omega
  rw [Nat.zero_add, h.cellAt _ hlt, flatMap_get enc sz hs l k j hk hj, hv]
theorem own_below {B sz n : Nat} {e : TypeId} {w w' : World} {v : Value} {xs : List Value} (h : w.ownsRow B e sz v n xs) (hb : Below w.heap.size w w') : w'.ownsRow B e sz v n xs :=
  h.kept (row := Option.none) ⟨hb.os, hb.tape, hb.output, hb.size, fun k hk _ => hb.block k hk⟩ (by cases h : v.ownBlock <;> simp)
theorem own_lower {B B' sz n : Nat} {e : TypeId} {w : World} {v : Value} {xs : List Value} (h : w.ownsRow B e sz v n xs) (hB : B' ≤ B) : w.ownsRow B' e sz v n xs :=
  ⟨h.1, h.2.imp_right fun ⟨g, cap, cur, h1, h2, h3⟩ => ⟨g, cap, cur, h1, Nat.le_trans hB h2, h3⟩⟩
theorem ext_alloc {a w : World} (h : Below a.heap.size a w) (o : Obj) : Below a.heap.size a (w.alloc o) := h.alloc h.size o
theorem ext_drew {a w : World} (h : Below a.heap.size a w) : Below a.heap.size a w.drew := h.drew
theorem ext_trans {a b c : World} (h : Below a.heap.size a b) (k : Below b.heap.size b c) : Below a.heap.size a c := h.trans (k.mono h.size)
theorem ext_grown {a b c : World} {row : Option Nat} (h : Below a.heap.size a b) (hg : b.grownBy c row) (hr : ∀ k, row = some k → a.heap.size ≤ k) : Below a.heap.size a c := h.grown hg h.size hr
/-- Cells are stored one behind the other. -/
def setCells (w : World) (g : Nat) : Nat → List Value → World
  | _, [] => w
  | o, v :: vs => setCells (w.setCell ⟨g, o, none⟩ v) g (o + 1) vs
theorem setCells_below {B g : Nat} (hg : B ≤ g) (vs : List Value) : ∀ {a w : World} (o : Nat), Below B a w → Below B a (setCells w g o vs) := by
  induction vs with
  | nil => intro a w o h; exact h
  | cons v vs ih => intro a w o h; exact ih (o + 1) (h.setCell hg v)
theorem setCells_size (g : Nat) (vs : List Value) : ∀ (w : World) (o : Nat), (setCells w g o vs).heap.size = w.heap.size := by
  induction vs with
  | nil => intro w o; rfl
  | cons v vs ih => intro w o; rw [setCells, ih]; simp [World.setCell]
/-- A whole block of cells, read as a list. -/
theorem rd_block {α : Type} {enc : α → List Value} {sz : Nat} {w : World} {g : Nat} {cs : Array Value} {t : TypeId} {l : List α} (henc : ∀ a, (enc a).length = sz) (hg : w.heap[g]? = some (.cells cs t (0, 0))) (hl : l.flatMap enc = cs.toList) (hb : l.length ≤ 9223372036854775807 := by simp) :
    RdL (Flat enc) sz w (some ⟨g, 0, Option.none⟩) l := by
  refine ⟨hb, fun _ => ⟨g, 0, rfl, fun k hk => ⟨enc l[k], henc _, rfl, fun j v hv => ?_⟩⟩⟩
  have hj : j < sz := by
    have := (List.getElem?_eq_some_iff.1 hv).1
    rwa [henc] at this
  rw [Nat.zero_add, cell_of_row w g _ cs t (0, 0) hg, ← Array.getElem?_toList, ← hl, flatMap_get enc sz henc l k j hk hj, hv]
theorem grown_trans_ {a b c : World} {row : Option Nat} (h : a.grownBy b row) (k : b.grownBy c row) : a.grownBy c row :=
  ⟨k.os.trans h.os, k.tape.trans h.tape, k.output.trans h.output, Nat.le_trans h.size k.size, fun i hi hne => (k.block i (Nat.lt_of_lt_of_le hi h.size) hne).trans (h.block i hi hne)⟩
theorem setCells_grown (g : Nat) (vs : List Value) : ∀ (w : World) (o : Nat), w.grownBy (setCells w g o vs) (some g) := by
  induction vs with
  | nil => intro w o; exact World.grownBy.refl w _
  | cons v vs ih =>
    intro w o
    have h1 : w.grownBy (w.setCell ⟨g, o, Option.none⟩ v) (some g) := ⟨rfl, rfl, rfl, by simp [World.setCell], fun k _ hk => Below.heap_setCell w ⟨g, o, Option.none⟩ v k (fun e => hk (by simp [e]))⟩
    exact grown_trans_ h1 (ih (w.setCell ⟨g, o, Option.none⟩ v) (o + 1))
/-- A slice of one's own that holds the list l. -/
def OwnA {α : Type} (B : Nat) (e : TypeId) (sz : Nat) (enc : α → List Value) (w : World) (v : Value) (l : List α) : Prop := ∃ A c, v = .slice A l.length c ∧ w.ownsRow B e sz (.slice A l.length c) l.length (l.flatMap enc)
section
variable {α : Type} {B B' : Nat} {e : TypeId} {sz : Nat} {enc : α → List Value} {w w' : World} {v : Value} {l : List α}
theorem own_slice_ {n : Nat} {xs : List Value} (h : w.ownsRow B e sz v n xs) : ∃ A c, v = .slice A n c := by
  rcases h.2 with ⟨rfl, rfl⟩ | ⟨g, cap, _, rfl, _⟩
  · exact ⟨_, _, rfl⟩
  · exact ⟨_, _, rfl⟩
theorem OwnA.of (h : w.ownsRow B e sz v l.length (l.flatMap enc)) : OwnA B e sz enc w v l := by
  obtain ⟨A, c, rfl⟩ := own_slice_ h
  exact ⟨A, c, rfl, h⟩
theorem OwnA.below (h : OwnA B e sz enc w v l) (hb : Below w.heap.size w w') : OwnA B e sz enc w' v l := let ⟨A, c, h1, h2⟩ := h; ⟨A, c, h1, own_below h2 hb⟩
theorem OwnA.lower (h : OwnA B e sz enc w v l) (hB : B' ≤ B) : OwnA B' e sz enc w v l := let ⟨A, c, h1, h2⟩ := h; ⟨A, c, h1, own_lower h2 hB⟩
end
/-- What a function that hands back a list of its own and a truth leaves. -/
def TupPost {α : Type} (e : TypeId) (sz : Nat) (enc : α → List Value) (w : World) (l : List α) (b : Bool) (en : Ending) (w' : World) : Prop :=
  ∃ A c, en = .returned (.tuple #[.slice A l.length c, .bool b]) ∧ w'.ownsRow w.heap.size e sz (.slice A l.length c) l.length (l.flatMap enc) ∧ Below w.heap.size w w'
def TupV {α : Type} (B : Nat) (e : TypeId) (sz : Nat) (enc : α → List Value) (l : List α) (b : Bool) (w : World) (v : Value) : Prop :=
  ∃ A c, v = .tuple #[.slice A l.length c, .bool b] ∧ w.ownsRow B e sz (.slice A l.length c) l.length (l.flatMap enc)
theorem TupV.below {α : Type} {B : Nat} {e : TypeId} {sz : Nat} {enc : α → List Value} {l : List α} {b : Bool} {w w' : World} {v : Value} (h : TupV B e sz enc l b w v) (hb : Below w.heap.size w w') : TupV B e sz enc l b w' v :=
  let ⟨A, c, h1, h2⟩ := h; ⟨A, c, h1, own_below h2 hb⟩
theorem TupPost.of {α : Type} {e : TypeId} {sz : Nat} {enc : α → List Value} {w w' : World} {l l' : List α} {b b' : Bool} {v : Value} (hl : l = l') (hb : b = b') (ho : w'.ownsRow w.heap.size e sz v l'.length (l'.flatMap enc)) (hB : Below w.heap.size w w') :
    TupPost e sz enc w l b (.returned (.tuple #[v, .bool b'])) w' := by
  subst hl; subst hb
  obtain ⟨A, c, rfl⟩ := own_slice_ ho
  exact ⟨A, c, rfl, ho, hB⟩
theorem own_apart_ {B sz n : Nat} {e : TypeId} {w w' : World} {v : Value} {xs : List Value} {row : Option Nat} (h : w.ownsRow B e sz v n xs) (hg : w.grownBy w' row) (hne : ∀ k, v.ownBlock = some k → row ≠ some k) : w'.ownsRow B e sz v n xs :=
  h.kept hg (by
    cases hv : v.ownBlock with
    | none => exact .inl rfl
    | some k => exact .inr (fun e => hne k hv e.symm))
end Go.Proofs.YtodjokdaofefdaaGreat
/- A region that draws its order, walked in every order at once: each operation keeps an invariant of the world and gives a value of its own kind; what is true of a value stays true. -/
namespace Go.Proofs.YtodjokdaofefdaaGreat
set_option linter.unusedSimpArgs false
set_option linter.unusedVariables false
open Go.RowKit

def depB (ops : Array Oper) (i j : Nat) : Bool := ((ops[i]?).map fun o => o.after.any fun e => Region.binds .any e && e.on == j).getD false
def readB (ops : Array Oper) (i j : Nat) : Bool := ((ops[i]?).map fun o => o.after.any fun e => (match e.ground with | .data => true | .guard => true | _ => false) && e.on == j).getD false
theorem readB_dep {ops : Array Oper} {i j : Nat} (h : readB ops i j = true) : depB ops i j = true := by
  unfold readB at h
  unfold depB
  cases ho : ops[i]? with
  | none => simp [ho] at h
  | some o =>
    simp only [ho, Option.map_some, Option.getD_some] at h ⊢
    obtain ⟨k, hk, hd⟩ := Array.any_eq_true.1 h
    refine Array.any_eq_true.2 ⟨k, hk, ?_⟩
    simp only [Bool.and_eq_true, beq_iff_eq] at hd ⊢
    refine ⟨?_, hd.2⟩
    have := hd.1
    unfold Region.binds
    split at this <;> simp_all
def dstOf (ops : Array Oper) (j : Nat) : Option Tmp := (ops[j]?).bind (·.dst)
def okRegion (ops : Array Oper) (n : Nat) : Bool := (List.range ops.size).all fun i => match ops[i]? with
  | some o => (o.after.all fun e => !Region.binds .any e || decide (e.on < i)) && (match o.dst with
    | some d => decide (d < n) && (List.range i).all (fun j => dstOf ops j != some d)
    | none => true)
  | none => true
/-- What operation c uses up: nobody else reads it behind c. -/
def okKill (ops : Array Oper) (kill : Nat → Option Nat) : Bool := (List.range ops.size).all fun i => (List.range ops.size).all fun j => !readB ops i j || (match kill j with | some c => i == c || depB ops c i | none => true)
def depSlot (ops : Array Oper) (i s j : Nat) : Bool := readB ops i j && (dstOf ops j == some s)
def keepSlot (ops : Array Oper) (i s : Nat) : Bool := (List.range ops.size).all fun j => dstOf ops j != some s || depB ops j i

section
variable {P : Program} {ops : Array Oper} {n : Nat} {a0 : Act} {T : Nat → World → Value → Prop} {Inv : Nat → World → Prop} {Rel : Nat → World → World → Prop} {kill : Nat → Option Nat} {gc : Option Nat} {G : World → Prop}

theorem okRegion_dep (h : okRegion ops n = true) {i j : Nat} (hd : depB ops i j = true) : j < i ∧ i < ops.size := by
  unfold depB at hd
  cases ho : ops[i]? with
  | none => simp [ho] at hd
  | some o =>
    have hi : i < ops.size := (Array.getElem?_eq_some_iff.1 ho).1
    simp only [ho, Option.map_some, Option.getD_some] at hd
    have h1 := List.all_eq_true.1 h i (List.mem_range.2 hi)
    simp only [ho, Bool.and_eq_true] at h1
    obtain ⟨k, hk, hd⟩ := Array.any_eq_true.1 hd
    have h2 := Array.all_eq_true.1 h1.1 k hk
    simp only [Bool.and_eq_true, beq_iff_eq] at hd
    simp only [hd.1, Bool.not_true, Bool.false_or, decide_eq_true_eq] at h2
    exact ⟨by rw [← hd.2]; exact h2, hi⟩
theorem okRegion_dst (h : okRegion ops n = true) {i d : Nat} (hd : dstOf ops i = some d) : d < n ∧ ∀ j, j < i → dstOf ops j ≠ some d := by
  unfold dstOf at hd
  cases ho : ops[i]? with
  | none => simp [ho] at hd
  | some o =>
    have hi : i < ops.size := (Array.getElem?_eq_some_iff.1 ho).1
    simp only [ho, Option.bind_some] at hd
    have h1 := List.all_eq_true.1 h i (List.mem_range.2 hi)
    simp only [ho, hd, Bool.and_eq_true, decide_eq_true_eq] at h1
    refine ⟨h1.2.1, fun j hj => ?_⟩
    have := List.all_eq_true.1 h1.2.2 j (List.mem_range.2 hj)
    simpa using this
theorem okRegion_uniq (h : okRegion ops n = true) {i j d : Nat} (hi : dstOf ops i = some d) (hj : dstOf ops j = some d) : i = j := by
  rcases Nat.lt_trichotomy i j with hlt | he | hgt
  · exact absurd hi ((okRegion_dst h hj).2 i hlt)
  · exact he
  · exact absurd hj ((okRegion_dst h hi).2 j hgt)

structure RGood (ops : Array Oper) (a0 : Act) (T : Nat → World → Value → Prop) (Inv : Nat → World → Prop) (kill : Nat → Option Nat) (gc : Option Nat) (G : World → Prop) (k : Nat) (listed : Array Bool) (a : Act) (w : World) : Prop where
  size : a.tmps.size = a0.tmps.size
  defers : a.defers = a0.defers
  inv : Inv k w
  lsize : listed.size = ops.size
  closed : ∀ i j, listed.getD i false = true → depB ops i j = true → listed.getD j false = true
  done : ∀ i d, dstOf ops i = some d → listed.getD i false = true → (∀ c, kill i = some c → listed.getD c false = false) → T i w (a.eval (.tmp d))
  todo : ∀ s, (∀ i, dstOf ops i = some s → listed.getD i false = false) → a.eval (.tmp s) = a0.eval (.tmp s)
  pre : (∀ c, gc = some c → listed.getD c false = false) → G w

/-- What an operation may lean on when it comes up. -/
structure RPre (ops : Array Oper) (a0 : Act) (T : Nat → World → Value → Prop) (gc : Option Nat) (G : World → Prop) (i : Nat) (a : Act) (w : World) : Prop where
  dep : ∀ j s, depSlot ops i s j = true → T j w (a.eval (.tmp s))
  keep : ∀ s, keepSlot ops i s = true → a.eval (.tmp s) = a0.eval (.tmp s)
  pre : (∀ c, gc = some c → (i == c || depB ops c i) = true) → G w

def ROne (P : Program) (ops : Array Oper) (a0 : Act) (T : Nat → World → Value → Prop) (Inv : Nat → World → Prop) (Rel : Nat → World → World → Prop) (gc : Option Nat) (G : World → Prop) (i : Nat) (o : Oper) : Prop :=
  ∀ (a : Act) (k : Nat) (w : World) (K : Act → World → Prop) (Q : Exit → Act → World → Prop), k < ops.size → Inv k w → RPre ops a0 T gc G i a w →
    (∀ v w', T i w' v → Rel i w w' → Inv (k + 1) w' → K (a.put o.dst v) w') → if Region.wanted o (yielded ops a.tmps) = true then o.wp P a w K Q else K (a.put o.dst undef) w

theorem eval_put (a : Act) (d s : Tmp) (v : Value) : (a.put (some d) v).eval (.tmp s) = if s = d ∧ d < a.tmps.size then v else a.eval (.tmp s) := by
  simp only [Act.put, Act.eval, Array.getD_eq_getD_getElem?, Array.getElem?_setIfInBounds]
  by_cases h : s = d
  · subst h
    by_cases h2 : s < a.tmps.size
    · simp [h2]
    · simp [h2]
  · rw [if_neg (fun hh => h hh.symm), if_neg (fun hh => h hh.1)]

def unl (N : Nat) (p : Nat → Bool) : Nat := ((List.range N).filter p).length
theorem unl_succ (N : Nat) (p : Nat → Bool) : unl (N + 1) p = unl N p + if p N then 1 else 0 := by
  simp only [unl, List.range_succ, List.filter_append, List.length_append]
  cases h : p N <;> simp [List.filter_cons, h]
theorem unl_zero {N : Nat} {p : Nat → Bool} (h : unl N p = 0) : ∀ i, i < N → p i = false := by
  intro i hi
  have : (List.range N).filter p = [] := List.eq_nil_of_length_eq_zero h
  rw [List.filter_eq_nil_iff] at this
  simpa using this i (List.mem_range.2 hi)
theorem unl_set {p p' : Nat → Bool} {i : Nat} (hp : p i = true) (hp' : p' i = false) (he : ∀ j, j ≠ i → p' j = p j) : ∀ N, unl N p = unl N p' + if i < N then 1 else 0
  | 0 => by simp [unl]
  | N + 1 => by
    rw [unl_succ, unl_succ, unl_set hp hp' he N]
    by_cases h : i = N
    · subst h; simp [hp, hp']
    · rw [he N (fun e => h e.symm)]
      by_cases h2 : i < N
      · have h3 : i < N + 1 := by omega
        simp only [h2, h3, if_true]; omega
      · have h3 : ¬ i < N + 1 := by omega
        simp only [h2, h3, if_false]; omega

theorem mem_ready_iff {listed : Array Bool} {i : Nat} : i ∈ Region.ready .any ops listed ↔ i < ops.size ∧ listed.getD i true = false ∧ ((ops[i]?).map (·.after.all fun e => !Region.binds .any e || listed.getD e.on false)).getD false = true := by
  simp only [Region.ready, List.mem_filter, List.mem_range, Bool.and_eq_true, Bool.not_eq_true']

/-- The first operation that has not come up may come up. -/
theorem ready_first (hok : okRegion ops n = true) {listed : Array Bool} (hls : listed.size = ops.size) {i : Nat} (hi : i < ops.size) (hl : listed.getD i true = false) (hmin : ∀ j, j < i → listed.getD j true = true) : i ∈ Region.ready .any ops listed := by
  refine mem_ready_iff.2 ⟨hi, hl, ?_⟩
  rw [Array.getElem?_eq_getElem hi]
  simp only [Option.map_some, Option.getD_some]
  rw [Array.all_eq_true]
  intro k hk
  cases hb : Region.binds .any (ops[i].after[k]) with
  | false => simp
  | true =>
    have hd : depB ops i (ops[i].after[k]).on = true := by
      simp only [depB, Array.getElem?_eq_getElem hi, Option.map_some, Option.getD_some]
      exact Array.any_eq_true.2 ⟨k, hk, by simp [hb]⟩
    have hlt := (okRegion_dep hok hd).1
    have := hmin _ hlt
    simp only [Bool.not_true, Bool.false_or]
    rw [Array.getD_eq_getD_getElem?, Array.getElem?_eq_getElem (by omega)] at this ⊢
    exact this

theorem region_any_step (hok : okRegion ops a0.tmps.size = true) (hkill : okKill ops kill = true) (hstab : ∀ i j w w' v, Rel i w w' → kill j ≠ some i → j ≠ i → depB ops j i = false → (∀ c, kill j = some c → depB ops i c = false) → (∀ m, depB ops j m = true → depB ops m i = false) → T j w v → T j w' v)
    (hstabG : ∀ i w w', Rel i w w' → gc ≠ some i → G w → G w') (hone : ∀ i o, ops[i]? = some o → ROne P ops a0 T Inv Rel gc G i o) {Q : Exit → Act → World → Prop}
    (hQ : ∀ listed a w, (∀ i, i < ops.size → listed.getD i true = true) → RGood ops a0 T Inv kill gc G ops.size listed a w → Q .normal a w) :
    ∀ (fuel k : Nat) (listed : Array Bool) (a : Act) (w : World), k + fuel = ops.size → unl ops.size (fun i => !listed.getD i true) = fuel → RGood ops a0 T Inv kill gc G k listed a w → wpAny P .any ops Q fuel listed a w := by
  intro fuel
  induction fuel with
  | zero =>
    intro k listed a w hk hu hg
    have hall := unl_zero hu
    have hr : Region.ready .any ops listed = [] := by
      apply List.eq_nil_iff_forall_not_mem.2
      intro i hi
      obtain ⟨h1, h2, _⟩ := mem_ready_iff.1 hi
      have := hall i h1
      simp [h2] at this
    obtain rfl : k = ops.size := by omega
    exact ⟨hr, hQ listed a w (fun i hi => by simpa using hall i hi) hg⟩
  | succ fuel ih =>
    intro k listed a w hk hu hg
    refine ⟨fun hr => ?_, fun i hi => ?_⟩
    · exfalso
      have hex : ∃ i, i < ops.size ∧ listed.getD i true = false := by
        by_cases h : ∃ i, i < ops.size ∧ listed.getD i true = false
        · exact h
        · exfalso
          have : unl ops.size (fun i => !listed.getD i true) = 0 := by
            unfold unl
            rw [List.filter_eq_nil_iff.2]
            · rfl
            · intro j hj
              simp only [Bool.not_eq_true', Bool.not_eq_false]
              cases hh : listed.getD j true with
              | true => rfl
              | false => exact absurd ⟨j, List.mem_range.1 hj, hh⟩ h
          omega
      have hmin : ∀ m, (∃ i, i < m ∧ i < ops.size ∧ listed.getD i true = false) → ∃ i, i < ops.size ∧ listed.getD i true = false ∧ ∀ j, j < i → listed.getD j true = true := by
        intro m
        induction m with
        | zero => rintro ⟨i, h, _⟩; omega
        | succ m ihm =>
          rintro ⟨i, h1, h2, h3⟩
          by_cases h : ∃ i, i < m ∧ i < ops.size ∧ listed.getD i true = false
          · exact ihm h
          · refine ⟨i, h2, h3, fun j hj => ?_⟩
            cases hh : listed.getD j true with
            | true => rfl
            | false => exact absurd ⟨j, by omega, by omega, hh⟩ h
      obtain ⟨i, h1, h2⟩ := hex
      obtain ⟨i, h1, h2, h3⟩ := hmin (i + 1) ⟨i, by omega, h1, h2⟩
      have := ready_first hok hg.lsize h1 h2 h3
      rw [hr] at this
      cases this
    · obtain ⟨h1, h2, h3⟩ := mem_ready_iff.1 hi
      have hli : listed.getD i false = false := by
        rw [Array.getD_eq_getD_getElem?, Array.getElem?_eq_getElem (by rw [hg.lsize]; exact h1)] at h2 ⊢
        exact h2
      have hdeps : ∀ j, depB ops i j = true → listed.getD j false = true := by
        intro j hd
        simp only [depB, Array.getElem?_eq_getElem h1, Option.map_some, Option.getD_some] at hd
        obtain ⟨e, he, hd⟩ := Array.any_eq_true.1 hd
        rw [Array.getElem?_eq_getElem h1] at h3
        simp only [Option.map_some, Option.getD_some] at h3
        have := Array.all_eq_true.1 h3 e he
        simp only [Bool.and_eq_true, beq_iff_eq] at hd
        rw [hd.1, hd.2] at this
        simpa using this
      have hpre : RPre ops a0 T gc G i a w := by
        refine ⟨fun j s hd => ?_, fun s hs => ?_, fun hpr => hg.pre fun c hc => ?_⟩
        · simp only [depSlot, Bool.and_eq_true, beq_iff_eq] at hd
          have hd1 := readB_dep hd.1
          refine hg.done j s hd.2 (hdeps j hd1) (fun c hc => ?_)
          have hji := okRegion_dep hok hd1
          have := List.all_eq_true.1 (List.all_eq_true.1 hkill i (List.mem_range.2 hji.2)) j (List.mem_range.2 (by omega))
          simp only [hd.1, hc, Bool.not_true, Bool.false_or, Bool.or_eq_true, beq_iff_eq] at this
          rcases this with rfl | hci
          · exact hli
          · cases hh : listed.getD c false with
            | false => rfl
            | true =>
              have := hg.closed c i hh hci
              rw [hli] at this
              cases this
        · refine hg.todo s (fun j hj => ?_)
          have hjs : j < ops.size := by
            unfold dstOf at hj
            cases ho : ops[j]? with
            | none => simp [ho] at hj
            | some o => exact (Array.getElem?_eq_some_iff.1 ho).1
          have := List.all_eq_true.1 hs j (List.mem_range.2 hjs)
          simp only [hj, bne_self_eq_false, Bool.false_or] at this
          cases hh : listed.getD j false with
          | false => rfl
          | true =>
            have := hg.closed j i hh this
            rw [hli] at this
            cases this
        · have := hpr c hc
          simp only [Bool.or_eq_true, beq_iff_eq] at this
          rcases this with rfl | hci
          · exact hli
          · cases hh : listed.getD c false with
            | false => rfl
            | true =>
              have := hg.closed c i hh hci
              rw [hli] at this
              cases this
      have hgood : ∀ v w', T i w' v → Rel i w w' → Inv (k + 1) w' → RGood ops a0 T Inv kill gc G (k + 1) (listed.setIfInBounds i true) (a.put ((ops[i]?).bind (·.dst)) v) w' := by
        intro v w' hT hR hI
        have hset : ∀ j, (listed.setIfInBounds i true).getD j false = if j = i then true else listed.getD j false := by
          intro j
          simp only [Array.getD_eq_getD_getElem?, Array.getElem?_setIfInBounds]
          by_cases hji : j = i
          · subst hji; simp [hg.lsize, h1]
          · rw [if_neg (fun e => hji e.symm), if_neg hji]
        refine ⟨?_, ?_, hI, by simpa using hg.lsize, ?_, ?_, ?_, fun hpr => hstabG i w w' hR (fun e => ?_) (hg.pre fun c hc => ?_)⟩
        · cases h : (ops[i]?).bind (·.dst) <;> simpa [Act.put] using hg.size
        · cases h : (ops[i]?).bind (·.dst) <;> simpa [Act.put] using hg.defers
        · intro x y hx hd
          rw [hset] at hx ⊢
          by_cases hyi : y = i
          · rw [if_pos hyi]
          · rw [if_neg hyi]
            by_cases hxi : x = i
            · subst hxi; exact hdeps y hd
            · rw [if_neg hxi] at hx; exact hg.closed x y hx hd
        · intro x d hd hx hkx
          rw [hset] at hx
          by_cases hxi : x = i
          · subst hxi
            have hd' : (ops[x]?).bind (·.dst) = some d := hd
            rw [hd', eval_put, if_pos ⟨rfl, by rw [hg.size]; exact (okRegion_dst hok hd).1⟩]
            exact hT
          · rw [if_neg hxi] at hx
            have hv : (a.put ((ops[i]?).bind (·.dst)) v).eval (.tmp d) = a.eval (.tmp d) := by
              cases h : (ops[i]?).bind (·.dst) with
              | none => rfl
              | some d' =>
                rw [eval_put, if_neg]
                rintro ⟨rfl, _⟩
                exact hxi (okRegion_uniq hok hd h)
            rw [hv]
            refine hstab _ _ _ _ _ hR (fun e => ?_) hxi ?_ (fun c hc => ?_) (fun m hm => ?_) (hg.done x d hd hx (fun c hc => ?_))
            · have := hkx i e
              rw [hset, if_pos rfl] at this
              cases this
            · cases hh : depB ops x i with
              | false => rfl
              | true =>
                have := hg.closed x i hx hh
                rw [hli] at this
                cases this
            · cases hh : depB ops i c with
              | false => rfl
              | true =>
                have hl1 := hdeps c hh
                have hl2 := hkx c hc
                rw [hset] at hl2
                by_cases hci : c = i
                · subst hci; exact Bool.noConfusion (hl1.symm.trans hli)
                · rw [if_neg hci, hl1] at hl2; cases hl2
            · cases hh : depB ops m i with
              | false => rfl
              | true =>
                have := hg.closed m i (hg.closed x m hx hm) hh
                rw [hli] at this
                cases this
            · have := hkx c hc
              rw [hset] at this
              by_cases hci : c = i
              · subst hci; exact hli
              · rwa [if_neg hci] at this
        · intro s hs
          have hsi : dstOf ops i ≠ some s := fun e => by
            have := hs i e
            rw [hset, if_pos rfl] at this
            cases this
          have hv : (a.put ((ops[i]?).bind (·.dst)) v).eval (.tmp s) = a.eval (.tmp s) := by
            cases h : (ops[i]?).bind (·.dst) with
            | none => rfl
            | some d' =>
              rw [eval_put, if_neg]
              rintro ⟨rfl, _⟩
              exact hsi h
          rw [hv]
          refine hg.todo s (fun j hj => ?_)
          have := hs j hj
          rw [hset] at this
          by_cases hji : j = i
          · subst hji; exact hli
          · rwa [if_neg hji] at this
        · have := hpr i e
          rw [hset, if_pos rfl] at this
          cases this
        · have := hpr c hc
          rw [hset] at this
          by_cases hji : c = i
          · subst hji; exact hli
          · rwa [if_neg hji] at this
      have hunl : unl ops.size (fun j => !(listed.setIfInBounds i true).getD j true) = fuel := by
        have := unl_set (p := fun j => !listed.getD j true) (p' := fun j => !(listed.setIfInBounds i true).getD j true) (i := i) (by simp [h2]) (by
          simp [Array.getD_eq_getD_getElem?, Array.getElem?_setIfInBounds, hg.lsize, h1]) (fun j hj => by
          simp only [Array.getD_eq_getD_getElem?, Array.getElem?_setIfInBounds]
          rw [if_neg (fun e => hj e.symm)]) ops.size
        rw [if_pos h1] at this
        omega
      have h := hone i ops[i] (Array.getElem?_eq_getElem h1) a k w (wpAny P .any ops Q fuel (listed.setIfInBounds i true)) Q (by omega) hg.inv hpre (fun v w' hT hR hI => by
        have := hgood v w' hT hR hI
        rw [Array.getElem?_eq_getElem h1] at this
        exact ih (k + 1) _ _ _ (by omega) hunl this)
      unfold wpOp
      rw [Array.getElem?_eq_getElem h1]
      simp only
      split
      · rename_i hw; rw [if_pos hw] at h; exact .inl h
      · rename_i hw; rw [if_neg hw] at h; exact h

def putAll (f : Nat → Value) : List Oper → Nat → Act → Act
  | [], _, a => a
  | o :: l, i, a => putAll f l (i + 1) (a.put o.dst (f i))
theorem putAll_defers (f : Nat → Value) : ∀ (l : List Oper) (i : Nat) (a : Act), (putAll f l i a).defers = a.defers ∧ (putAll f l i a).tmps.size = a.tmps.size
  | [], _, _ => ⟨rfl, rfl⟩
  | o :: l, i, a => by
    obtain ⟨h1, h2⟩ := putAll_defers f l (i + 1) (a.put o.dst (f i))
    simp only [putAll]
    rw [h1, h2]
    cases o.dst <;> simp [Act.put]
theorem putAll_none (f : Nat → Value) : ∀ (l : List Oper) (i : Nat) (a : Act) (s : Tmp), (∀ (j : Nat) (o : Oper), l[j]? = some o → o.dst ≠ some s) → (putAll f l i a).eval (.tmp s) = a.eval (.tmp s)
  | [], _, _, _, _ => rfl
  | o :: l, i, a, s, h => by
    simp only [putAll]
    rw [putAll_none f l (i + 1) _ s (fun j o' ho' => h (j + 1) o' (by simpa using ho'))]
    have := h 0 o rfl
    cases hd : o.dst with
    | none => rfl
    | some d => rw [eval_put, if_neg]; rintro ⟨rfl, _⟩; exact this hd
theorem putAll_some (f : Nat → Value) : ∀ (l : List Oper) (i : Nat) (a : Act) (s : Tmp) (j : Nat) (o : Oper), l[j]? = some o → o.dst = some s → (∀ (j' : Nat) (o' : Oper), l[j']? = some o' → o'.dst = some s → j' = j) → s < a.tmps.size → (putAll f l i a).eval (.tmp s) = f (i + j)
  | [], _, _, _, _, _, h, _, _, _ => by simp at h
  | o :: l, i, a, s, 0, o', h, hd, hu, hs => by
    obtain rfl : o = o' := by simpa using h
    simp only [putAll]
    rw [putAll_none f l (i + 1) _ s (fun j o'' ho'' hd'' => by have := hu (j + 1) o'' (by simpa using ho'') hd''; omega), hd, eval_put, if_pos ⟨rfl, hs⟩]
    rfl
  | o :: l, i, a, s, j + 1, o', h, hd, hu, hs => by
    simp only [putAll]
    rw [putAll_some f l (i + 1) _ s j o' (by simpa using h) hd (fun j' o'' ho'' hd'' => by have := hu (j' + 1) o'' (by simpa using ho'') hd''; omega) (by cases o.dst <;> simpa [Act.put] using hs)]
    congr 1; omega
theorem act_ext {a b : Act} (hs : a.tmps.size = b.tmps.size) (hd : a.defers = b.defers) (h : ∀ s : Nat, s < a.tmps.size → a.eval (.tmp s) = b.eval (.tmp s)) : a = b := by
  obtain ⟨ta, da⟩ := a
  obtain ⟨tb, db⟩ := b
  simp only at hs hd
  subst hd
  congr 1
  apply Array.ext hs
  intro i h1 h2
  have := h i h1
  simp only [Act.eval, Array.getD_eq_getD_getElem?, Array.getElem?_eq_getElem h1, Array.getElem?_eq_getElem h2, Option.getD_some] at this
  exact this

/-- The obligations, an operation at a time. -/
def RAll (P : Program) (ops : Array Oper) (a0 : Act) (T : Nat → World → Value → Prop) (Inv : Nat → World → Prop) (Rel : Nat → World → World → Prop) (gc : Option Nat) (G : World → Prop) : List Oper → Nat → Prop
  | [], _ => True
  | o :: l, i => ROne P ops a0 T Inv Rel gc G i o ∧ RAll P ops a0 T Inv Rel gc G l (i + 1)
theorem RAll.at {l : List Oper} {i : Nat} (h : RAll P ops a0 T Inv Rel gc G l i) : ∀ (j : Nat) (o : Oper), l[j]? = some o → ROne P ops a0 T Inv Rel gc G (i + j) o := by
  induction l generalizing i with
  | nil => intro j o hj; simp at hj
  | cons o' l ih =>
    intro j o hj
    cases j with
    | zero => obtain rfl : o' = o := by simpa using hj
              exact h.1
    | succ j =>
      have := ih h.2 j o (by simpa using hj)
      rwa [show i + 1 + j = i + (j + 1) by omega] at this

/-- THE LAW: every order at once. -/
theorem wp_region_draws2 (gc : Option Nat) (G : World → Prop) (T : Nat → World → Value → Prop) (Inv : Nat → World → Prop) (Rel : Nat → World → World → Prop) (kill : Nat → Option Nat) {id : Nat} {Q : Exit → Act → World → Prop} {w : World} {l : List Oper} (hm : P.follows .mixedOrders = true)
    (hok : okRegion l.toArray a0.tmps.size = true) (hkill : okKill l.toArray kill = true) (hstab : ∀ i j w w' v, Rel i w w' → kill j ≠ some i → j ≠ i → depB l.toArray j i = false → (∀ c, kill j = some c → depB l.toArray i c = false) → (∀ m, depB l.toArray j m = true → depB l.toArray m i = false) → T j w v → T j w' v) (hstabG : ∀ i w w', Rel i w w' → gc ≠ some i → G w → G w') (hI : Inv 0 w.drew) (hG : G w.drew) (hone : RAll P l.toArray a0 T Inv Rel gc G l 0)
    (hQ : ∀ (f : Nat → Value) (w' : World), (∀ i, i < l.length → (dstOf l.toArray i).isSome = true → (kill i).isNone = true → T i w' (f i)) → Inv l.length w' → Q .normal (putAll f l 0 a0) w') : (Code.region id l.toArray true).wp P Q a0 w := by
  refine wp_region_any hm (region_any_step (a0 := a0) (T := T) (Inv := Inv) (Rel := Rel) (kill := kill) (gc := gc) (G := G) hok hkill hstab hstabG (fun i o ho => by
    have := RAll.at hone i o (by simpa using ho)
    simpa using this) ?_ _ 0 _ a0 _ (by simp) ?_ ?_)
  · intro listed a w' hall hg
    have hlist : ∀ i, i < l.length → listed.getD i false = true := fun i hi => by
      have := hall i (by simpa using hi)
      rw [Array.getD_eq_getD_getElem?, Array.getElem?_eq_getElem (by rw [hg.lsize]; simpa using hi)] at this ⊢
      exact this
    have hlt : ∀ i d, dstOf l.toArray i = some d → i < l.length := fun i d hd => by
      unfold dstOf at hd
      cases ho : l.toArray[i]? with
      | none => simp [ho] at hd
      | some o => simpa using (Array.getElem?_eq_some_iff.1 ho).1
    have he : a = putAll (fun i => a.eval (.tmp ((dstOf l.toArray i).getD 0))) l 0 a0 := by
      have hp := putAll_defers (fun i => a.eval (.tmp ((dstOf l.toArray i).getD 0))) l 0 a0
      refine act_ext (hg.size.trans hp.2.symm) (hg.defers.trans hp.1.symm) (fun s hs => ?_)
      by_cases h : ∃ i, dstOf l.toArray i = some s
      · obtain ⟨i, hi⟩ := h
        have hi' := hi
        unfold dstOf at hi'
        cases ho : l.toArray[i]? with
        | none => simp [ho] at hi'
        | some o =>
          simp only [ho, Option.bind_some] at hi'
          rw [putAll_some _ l 0 a0 s i o (by simpa using ho) hi' (fun j o' ho' hd' => okRegion_uniq hok (d := s) (by simp [dstOf, ho', hd']) hi) (by rw [← hg.size]; exact hs)]
          simp [hi]
      · rw [putAll_none _ l 0 a0 s (fun j o ho hd => h ⟨j, by simp [dstOf, ho, hd]⟩)]
        exact hg.todo s (fun i hi => absurd ⟨i, hi⟩ h)
    rw [he]
    refine hQ _ _ (fun i hi hs hk => ?_) (by simpa using hg.inv)
    obtain ⟨d, hd⟩ := Option.isSome_iff_exists.1 hs
    simp only [hd, Option.getD_some]
    exact hg.done i d hd (hlist i hi) (fun c hc => by rw [hc] at hk; cases hk)
  · have : ∀ N, unl N (fun i => !(Array.replicate N false).getD i true) = N := by
      intro N
      unfold unl
      rw [List.filter_eq_self.2]
      · simp
      · intro i hi
        simp [Array.getD_eq_getD_getElem?, List.mem_range.1 hi]
    exact this _
  · refine ⟨rfl, rfl, hI, by simp, ?_, ?_, fun _ _ => rfl, fun _ => hG⟩
    · intro i j h
      simp [Array.getD_eq_getD_getElem?, Array.getElem?_replicate] at h
      split at h <;> simp at h
    · intro i d _ h _
      simp [Array.getD_eq_getD_getElem?, Array.getElem?_replicate] at h
      split at h <;> simp at h
theorem wp_region_kinds2 (T : Nat → World → Value → Prop) (Inv : Nat → World → Prop) (Rel : Nat → World → World → Prop) (kill : Nat → Option Nat) {id : Nat} {Q : Exit → Act → World → Prop} {w : World} {l : List Oper} (hm : P.follows .mixedOrders = true)
    (hok : okRegion l.toArray a0.tmps.size = true) (hkill : okKill l.toArray kill = true) (hstab : ∀ i j w w' v, Rel i w w' → kill j ≠ some i → j ≠ i → depB l.toArray j i = false → (∀ c, kill j = some c → depB l.toArray i c = false) → (∀ m, depB l.toArray j m = true → depB l.toArray m i = false) → T j w v → T j w' v) (hI : Inv 0 w.drew) (hone : RAll P l.toArray a0 T Inv Rel Option.none (fun _ => True) l 0)
    (hQ : ∀ (f : Nat → Value) (w' : World), (∀ i, i < l.length → (dstOf l.toArray i).isSome = true → (kill i).isNone = true → T i w' (f i)) → Inv l.length w' → Q .normal (putAll f l 0 a0) w') : (Code.region id l.toArray true).wp P Q a0 w :=
  wp_region_draws2 Option.none (fun _ => True) T Inv Rel kill hm hok hkill hstab (fun _ _ _ _ _ _ => trivial) hI trivial hone hQ

end

/-- append of a slice that reads as a list of flat elements, onto a row of one's own. -/
theorem run_append_rd {α : Type} {enc : α → List Value} {P : Program} (w : World) (B : Nat) (t ty e : TypeId) (i : TypeInfo) (z : Value) (sz bytes : Nat) (ht : P.underlying t = some (.slice e)) (hi : P.info? e = some i) (hz : i.zero = some z)
    (hsize : i.size = sz) (hby : i.bytes = bytes) (hzs : z.cells.size = sz) (hsz : 0 < sz) (henc : ∀ a, (enc a).length = sz) (hone : ∀ a, ∀ u ∈ enc a, u.oneCell' = true)
    (v : Value) (n : Nat) (xs : List Value) (hown : w.ownsRow B e sz v n xs) (A : Option Addr) (l : List α) (c : Nat) (hr : RdL (Flat enc) sz w A l)
    (hbytes : (n + l.length) * bytes ≤ 140737488355328) (h63 : n + l.length ≤ 9223372036854775807) (hbase : B ≤ w.heap.size) :
    ∃ v' w', (Builtin.append_ #[t, t] ty #[v, .slice A l.length c]).run P w = .ok v' w' ∧ w'.ownsRow B e sz v' (n + l.length) (xs ++ l.flatMap enc) ∧ w.grownBy w' v.ownBlock ∧ (v'.ownBlock = v.ownBlock ∨ v'.ownBlock = some w.heap.size) := by
  rcases Nat.eq_zero_or_pos l.length with h0 | h0
  · have hn : l = [] := List.eq_nil_of_length_eq_zero h0
    subst hn
    refine ⟨v, w, ?_, by simpa using hown, World.grownBy.refl w _, .inl rfl⟩
    rcases hown.2 with ⟨rfl, rfl⟩ | ⟨g, cap, cur, rfl, _, _, hnc, _⟩
    · cases A <;> simp [Builtin.append_, run_underlying ht, sizeOf, typeInfo, hi, Builtin.lenOf, Builtin.firstCells, loadCells, loadCellsFrom]
    · cases A <;> simp [Builtin.append_, run_underlying ht, sizeOf, typeInfo, hi, Builtin.lenOf, Builtin.firstCells, hnc, storeCells, loadCells, loadCellsFrom]
  · obtain ⟨b, off, rfl, hc⟩ := hr.2 h0
    have hl : (l.flatMap enc).length = l.length * sz := flatMap_length enc sz henc l
    have hnews : ∀ j u, (l.flatMap enc)[j]? = some u → w.cell? ((⟨b, off, none⟩ : Addr).add j) = some u := by
      intro j u hu
      have hj : j < l.length * sz := by rw [← hl]; exact (List.getElem?_eq_some_iff.1 hu).1
      have hk : j / sz < l.length := Nat.div_lt_of_lt_mul (by rwa [Nat.mul_comm] at hj)
      obtain ⟨cs, h1, rfl, h3⟩ := hc (j / sz) hk
      have hm : j % sz < sz := Nat.mod_lt _ hsz
      have e1 := flatMap_get enc sz henc l (j / sz) (j % sz) hk hm
      rw [Nat.div_add_mod' j sz, hu] at e1
      have := h3 (j % sz) u e1.symm
      rw [Nat.add_assoc, Nat.div_add_mod' j sz] at this
      simpa [Addr.add_lit] using this
    obtain ⟨v', w', h1, h2, h3, _, h5⟩ := run_append_own_at (P := P) w B t ty e i z sz bytes ht hi hz hsize hby hzs hsz v n xs hown ⟨b, off, none⟩ l.length c (l.flatMap enc) hl hnews (fun u hu => by
      obtain ⟨a, _, ha⟩ := List.mem_flatMap.1 hu
      exact hone a u ha) (by simp only [maxLen]; omega) hbytes hbase
    exact ⟨v', w', h1, h2, h3, h5⟩

theorem op_append_rd {α : Type} {enc : α → List Value} {P : Program} {w : World} {o : Oper} {a : Act} {K : Act → World → Prop} {Q : Exit → Act → World → Prop} (s x : Operand) (B : Nat) (t e : TypeId) (z : Value) (sz bytes : Nat)
    (ho : o.op = .call { callee := .builtin .append, args := #[s, x], argTypes := #[t, t] }) (ht : P.underlying t = some (.slice e)) (hinfo : (P.info? e).map (fun i => (i.zero, i.size, i.bytes)) = some (some z, sz, bytes))
    (hzs : z.cells.size = sz) (hsz : 0 < sz) (henc : ∀ a, (enc a).length = sz) (hone : ∀ a, ∀ u ∈ enc a, u.oneCell' = true)
    {v : Value} {n : Nat} {xs : List Value} (hs : a.eval s = v) (hown : w.ownsRow B e sz v n xs) {A : Option Addr} {l : List α} {c : Nat} (hx : a.eval x = .slice A l.length c) (hr : RdL (Flat enc) sz w A l)
    (hbytes : (n + l.length) * bytes ≤ 140737488355328) (h63 : n + l.length ≤ 9223372036854775807) (hbase : B ≤ w.heap.size)
    (h : ∀ v' w', w'.ownsRow B e sz v' (n + l.length) (xs ++ l.flatMap enc) → w.grownBy w' v.ownBlock → (v'.ownBlock = v.ownBlock ∨ v'.ownBlock = some w.heap.size) → K (a.put o.dst v') w') : o.wp P a w K Q := by
  obtain ⟨i, hi, hz, hsize, hby⟩ := info_parts hinfo
  obtain ⟨v', w', h1, h2, h3, h4⟩ := run_append_rd (P := P) w B t o.type e i z sz bytes ht hi hz hsize hby hzs hsz henc hone v n xs hown A l c hr hbytes h63 hbase
  unfold Oper.wp execOp
  simp only [ho, resolve, invoke, builtin, Sem.run_bind, Sem.run_pure, Result.andThen_ok, List.map_toArray, List.map_cons, List.map_nil, hs, hx, h1]
  exact h v' w' h2 h3 h4
theorem wpList_append_rd {α : Type} {enc : α → List Value} {P : Program} {w : World} {ops : Array Oper} {rest : List Oper} {o : Oper} {a : Act} {Q : Exit → Act → World → Prop} (hgd : o.guard = Option.none) (s x : Operand) (B : Nat) (t e : TypeId) (z : Value) (sz bytes : Nat)
    (ho : o.op = .call { callee := .builtin .append, args := #[s, x], argTypes := #[t, t] }) (ht : P.underlying t = some (.slice e)) (hinfo : (P.info? e).map (fun i => (i.zero, i.size, i.bytes)) = some (some z, sz, bytes))
    (hzs : z.cells.size = sz) (hsz : 0 < sz) (henc : ∀ a, (enc a).length = sz) (hone : ∀ a, ∀ u ∈ enc a, u.oneCell' = true)
    {v : Value} {n : Nat} {xs : List Value} (hs : a.eval s = v) (hown : w.ownsRow B e sz v n xs) {A : Option Addr} {l : List α} {c : Nat} (hx : a.eval x = .slice A l.length c) (hr : RdL (Flat enc) sz w A l)
    (hbytes : (n + l.length) * bytes ≤ 140737488355328) (h63 : n + l.length ≤ 9223372036854775807) (hbase : B ≤ w.heap.size)
    (h : ∀ v' w', w'.ownsRow B e sz v' (n + l.length) (xs ++ l.flatMap enc) → w.grownBy w' v.ownBlock → (v'.ownBlock = v.ownBlock ∨ v'.ownBlock = some w.heap.size) → wpList P ops Q rest (a.put o.dst v') w') : wpList P ops Q (o :: rest) a w :=
  wpList_plain hgd fun _ hK => op_append_rd s x B t e z sz bytes ho ht hinfo hzs hsz henc hone hs hown hx hr hbytes h63 hbase fun v' w' h2 h3 h4 => hK _ _ (h v' w' h2 h3 h4)
theorem op_move {P : Program} {w : World} {o : Oper} {a : Act} {K : Act → World → Prop} {Q : Exit → Act → World → Prop} (x : Operand) (ho : o.op = .move x ∨ o.op = .assign x) (h : K (a.put o.dst (a.eval x)) w) : o.wp P a w K Q := by
  unfold Oper.wp
  rcases ho with ho | ho
  · rw [BigFrame.run_move x ho]; exact h
  · rw [BigFrame.run_assign x ho]; exact h

section
variable {P : Program} {ops : Array Oper} {a0 : Act} {T : Nat → World → Value → Prop} {Inv : Nat → World → Prop} {Rel : Nat → World → World → Prop} {gc : Option Nat} {G : World → Prop}
theorem RAll.none_ {i : Nat} : RAll P ops a0 T Inv Rel gc G [] i := trivial
theorem RAll.cons {o : Oper} {l : List Oper} {i : Nat} (hg : o.guard = Option.none) (h : ∀ (a : Act) (k : Nat) (w : World) (K : Act → World → Prop) (Q : Exit → Act → World → Prop), k < ops.size → Inv k w → RPre ops a0 T gc G i a w →
    (∀ v w', T i w' v → Rel i w w' → Inv (k + 1) w' → K (a.put o.dst v) w') → o.wp P a w K Q) (hl : RAll P ops a0 T Inv Rel gc G l (i + 1)) : RAll P ops a0 T Inv Rel gc G (o :: l) i :=
  ⟨fun a k w K Q h1 h2 h3 h4 => by
    have : Region.wanted o (yielded ops a.tmps) = true := by simp [Region.wanted, hg]
    rw [if_pos this]
    exact h a k w K Q h1 h2 h3 h4, hl⟩
end
theorem grown_below {B : Nat} {w w' : World} {row : Option Nat} (hg : w.grownBy w' row) (hB : B ≤ w.heap.size) (hr : ∀ k, row = some k → B ≤ k) : Below B w w' := (Below.refl _ _).grown hg hB hr
theorem tmp_of {a : Act} {s : Tmp} {v : Value} (h : a.eval (.tmp s) = v) : a.tmps[s]?.getD undef = v := by simpa [Act.eval] using h
end Go.Proofs.YtodjokdaofefdaaGreat
/- General lemmas, continued: slices of one's own that grow. -/
namespace Go.Proofs.YtodjokdaofefdaaGreat
set_option linter.unusedSimpArgs false
set_option linter.unusedVariables false
open Go.RowKit

/-- What a function that hands back a list of its own leaves. -/
def SlPost {α : Type} (e : TypeId) (sz : Nat) (enc : α → List Value) (w : World) (l : List α) (en : Ending) (w' : World) : Prop :=
  ∃ A c, en = .returned (.slice A l.length c) ∧ w'.ownsRow w.heap.size e sz (.slice A l.length c) l.length (l.flatMap enc) ∧ Below w.heap.size w w'
section
variable {α : Type} {B B' : Nat} {e : TypeId} {sz : Nat} {enc : α → List Value} {w w' : World} {v : Value} {l l' : List α}
theorem SlPost.of (hl : l = l') (ho : OwnA w.heap.size e sz enc w' v l') (hB : Below w.heap.size w w') : SlPost e sz enc w l (.returned v) w' := by
  subst hl
  obtain ⟨A, c, rfl, ho⟩ := ho
  exact ⟨A, c, rfl, ho, hB⟩
theorem OwnA.nil : OwnA B e sz enc w (.slice Option.none 0 0) ([] : List α) := ⟨_, 0, rfl, World.ownsRow_nil _ _ _ _⟩
theorem OwnA.empty (hB : B ≤ w.heap.size) : OwnA B e sz enc (w.alloc (.cells #[] e)) (.slice (some ⟨w.heap.size, 0, Option.none⟩) 0 0) ([] : List α) :=
  ⟨_, 0, rfl, by simp, .inr ⟨w.heap.size, 0, #[], rfl, hB, heap_alloc_new w _, Nat.le_refl _, by simp [maxLen], by simp, by simp⟩⟩
theorem OwnA.grown {row : Option Nat} (h : OwnA B e sz enc w v l) (hg : w.grownBy w' row) (hr : ∀ k, row = some k → k < B) : OwnA B e sz enc w' v l := by
  obtain ⟨A, c, rfl, ho⟩ := h
  exact ⟨A, c, rfl, own_apart_ ho hg (fun k hk e => by have := (ho.lt k hk).1; have := hr k e; omega)⟩
theorem OwnA.apart {row : Option Nat} (h : OwnA B e sz enc w v l) (hg : w.grownBy w' row) (hr : ∀ k, v.ownBlock = some k → row ≠ some k) : OwnA B e sz enc w' v l := by
  obtain ⟨A, c, rfl, ho⟩ := h
  exact ⟨A, c, rfl, own_apart_ ho hg hr⟩
theorem OwnA.ge (h : OwnA B e sz enc w v l) (k : Nat) (hk : v.ownBlock = some k) : B ≤ k ∧ k < w.heap.size := by
  obtain ⟨A, c, rfl, ho⟩ := h
  exact ho.lt k hk
/-- A slice of one's own, as it reads. -/
theorem OwnA.rd (hs : ∀ a, (enc a).length = sz) (hb : l.length ≤ 9223372036854775807) (h : OwnA B e sz enc w v l) : ∃ A c, v = .slice A l.length c ∧ RdL (Flat enc) sz w A l := by
  obtain ⟨A, c, rfl, ho⟩ := h
  exact ⟨A, c, rfl, RdL.of_own hs rfl hb ho⟩
end
theorem heap_alloc_at {w : World} {o : Obj} {n : Nat} (h : n = w.heap.size) : (w.alloc o).heap[n]? = some o := by subst h; exact heap_alloc_new w o
theorem box_cell_at {w : World} {cs : Array Value} {t : TypeId} {i n : Nat} {v : Value} (hn : n = w.heap.size) (h : cs[i]? = some v) : (w.alloc (.cells cs t)).cell? ⟨n, i, none⟩ = some v := by subst hn; exact box_cell w cs t i v h
/-- append of one element, that stands in a block of its own, to a row of one's own. -/
theorem wpList_push {α : Type} {enc : α → List Value} {P : Program} {w : World} {ops : Array Oper} {rest : List Oper} {o : Oper} {a : Act} {Q0 : Exit → Act → World → Prop} (q : α) (hgd : o.guard = Option.none) (s x : Operand) (t e : TypeId) (z : Value) (sz bytes : Nat)
    (ho : o.op = .call { callee := .builtin .append, args := #[s, x], argTypes := #[t, t] }) (ht : P.underlying t = some (.slice e)) (hinfo : (P.info? e).map (fun i => (i.zero, i.size, i.bytes)) = some (some z, sz, bytes))
    (hzs : z.cells.size = sz) (hsz : 0 < sz) (henc : ∀ a, (enc a).length = sz) (hone : ∀ a, ∀ u ∈ enc a, u.oneCell' = true)
    {B g c : Nat} {l : List α} {cs : Array Value} {T : TypeId} (hd : OwnA B e sz enc w (a.eval s) l) (hx : a.eval x = .slice (some ⟨g, 0, Option.none⟩) 1 c) (hblk : w.heap[g]? = some (.cells cs T (0, 0))) (hcs : [q].flatMap enc = cs.toList)
    (hbytes : (l.length + 1) * bytes ≤ 140737488355328) (h63 : l.length + 1 ≤ 9223372036854775807) (hbase : B ≤ w.heap.size)
    (h : ∀ v' w', OwnA B e sz enc w' v' (l ++ [q]) → Below B w w' → w.grownBy w' (a.eval s).ownBlock → wpList P ops Q0 rest (a.put o.dst v') w') : wpList P ops Q0 (o :: rest) a w := by
  obtain ⟨A, c', hv, hown⟩ := hd
  refine wpList_append_rd (enc := enc) (l := [q]) hgd s x B t e z sz bytes ho ht hinfo hzs hsz henc hone hv hown hx (rd_block henc hblk hcs) (by simpa using hbytes) (by simpa using h63) hbase ?_
  intro v' w' ho' hg _
  have ho2 : w'.ownsRow B e sz v' (l ++ [q]).length ((l ++ [q]).flatMap enc) := by simpa using ho'
  refine h v' w' (OwnA.of ho2) (grown_below hg hbase (fun k hk => (hown.lt k hk).1)) (by rw [hv]; exact hg)
section
variable {P : Program} {ops : Array Oper} {a0 : Act} {T : Nat → World → Value → Prop} {Inv : Nat → World → Prop} {Rel : Nat → World → World → Prop} {gc : Option Nat} {G : World → Prop}
theorem yielded_of {ops : Array Oper} {a : Act} {j : Nat} {d : Tmp} {b : Bool} (hd : dstOf ops j = some d) (h : a.eval (.tmp d) = .bool b) : yielded ops a.tmps j = some b := by
  have hd' : (ops[j]?).bind (·.dst) = some d := hd
  unfold yielded
  rw [hd']
  simp only [Option.bind_some]
  simp only [Act.eval, Array.getD_eq_getD_getElem?] at h
  cases ht : a.tmps[d]? with
  | none => rw [ht] at h; simp [undef] at h
  | some v => rw [ht] at h; simp only [Option.getD_some] at h; subst h; rfl
theorem depSlot_dst {ops : Array Oper} {i j : Nat} {d : Tmp} (h : depSlot ops i d j = true) : dstOf ops j = some d := by
  simp only [depSlot, Bool.and_eq_true, beq_iff_eq] at h
  exact h.2
/-- An operation under a guard that holds. -/
theorem RAll.guarded {o : Oper} {l : List Oper} {i : Nat} (j : Nat) (d : Tmp) (want : Bool) (hg : o.guard = some (j, want)) (hdep : depSlot ops i d j = true) (hT : ∀ w v, T j w v → v = .bool want)
    (h : ∀ (a : Act) (k : Nat) (w : World) (K : Act → World → Prop) (Q : Exit → Act → World → Prop), k < ops.size → Inv k w → RPre ops a0 T gc G i a w →
      (∀ v w', T i w' v → Rel i w w' → Inv (k + 1) w' → K (a.put o.dst v) w') → o.wp P a w K Q) (hl : RAll P ops a0 T Inv Rel gc G l (i + 1)) : RAll P ops a0 T Inv Rel gc G (o :: l) i :=
  ⟨fun a k w K Q h1 h2 h3 h4 => by
    have : Region.wanted o (yielded ops a.tmps) = true := by
      simp [Region.wanted, hg, yielded_of (depSlot_dst hdep) (hT w _ (h3.dep j d hdep))]
    rw [if_pos this]
    exact h a k w K Q h1 h2 h3 h4, hl⟩
/-- An operation under a guard that does not hold. -/
theorem RAll.skipped {o : Oper} {l : List Oper} {i : Nat} (j : Nat) (d : Tmp) (want : Bool) (hg : o.guard = some (j, want)) (hdep : depSlot ops i d j = true) (hT : ∀ w v, T j w v → v = .bool (!want))
    (h : ∀ (k : Nat) (w : World), Inv k w → T i w undef ∧ Rel i w w ∧ Inv (k + 1) w) (hl : RAll P ops a0 T Inv Rel gc G l (i + 1)) : RAll P ops a0 T Inv Rel gc G (o :: l) i :=
  ⟨fun a k w K Q h1 h2 h3 h4 => by
    have : Region.wanted o (yielded ops a.tmps) = false := by
      have e := yielded_of (depSlot_dst hdep) (hT w _ (h3.dep j d hdep))
      cases want <;> simp [Region.wanted, hg, e]
    rw [if_neg (by rw [this]; simp)]
    obtain ⟨t1, t2, t3⟩ := h k w h2
    exact h4 _ _ t1 t2 t3, hl⟩
theorem op_pick_t {P : Program} {w : World} {o : Oper} {a : Act} {K : Act → World → Prop} {Q : Exit → Act → World → Prop} (c x y : Operand) (ho : o.op = .pick c x y) (hc : a.eval c = .bool true) (h : K (a.put o.dst (a.eval x)) w) : o.wp P a w K Q := by
  unfold Oper.wp execOp
  simp only [ho, hc]
  first | exact h | (go_simp; exact h)
theorem op_pick_f {P : Program} {w : World} {o : Oper} {a : Act} {K : Act → World → Prop} {Q : Exit → Act → World → Prop} (c x y : Operand) (ho : o.op = .pick c x y) (hc : a.eval c = .bool false) (h : K (a.put o.dst (a.eval y)) w) : o.wp P a w K Q := by
  unfold Oper.wp execOp
  simp only [ho, hc]
  first | exact h | (go_simp; exact h)
end
end Go.Proofs.YtodjokdaofefdaaGreat
/- General lemmas, continued: append that must make a new row; slices cut in front. -/
namespace Go.Proofs.YtodjokdaofefdaaGreat
set_option linter.unusedSimpArgs false
set_option linter.unusedVariables false
open Go.RowKit

theorem RdL.news {α : Type} {enc : α → List Value} {sz : Nat} {w : World} {b off : Nat} {l : List α} (henc : ∀ a, (enc a).length = sz) (hsz : 0 < sz) (h : RdL (Flat enc) sz w (some ⟨b, off, none⟩) l) (j : Nat) (u : Value) (hu : (l.flatMap enc)[j]? = some u) : w.cell? ((⟨b, off, none⟩ : Addr).add j) = some u := by
  have hl : (l.flatMap enc).length = l.length * sz := flatMap_length enc sz henc l
  have hj : j < l.length * sz := by rw [← hl]; exact (List.getElem?_eq_some_iff.1 hu).1
  have h0 : 0 < l.length := by
    rcases Nat.eq_zero_or_pos l.length with e | e
    · rw [e, Nat.zero_mul] at hj; omega
    · exact e
  obtain ⟨b', off', e, hc⟩ := h.2 h0
  simp only [Option.some.injEq, Addr.mk.injEq, and_true] at e
  obtain ⟨rfl, rfl⟩ := e
  have hk : j / sz < l.length := Nat.div_lt_of_lt_mul (by rwa [Nat.mul_comm] at hj)
  obtain ⟨cs, h1, rfl, h3⟩ := hc (j / sz) hk
  have hm : j % sz < sz := Nat.mod_lt _ hsz
  have e1 := flatMap_get enc sz henc l (j / sz) (j % sz) hk hm
  rw [Nat.div_add_mod' j sz, hu] at e1
  have := h3 (j % sz) u e1.symm
  rw [Nat.add_assoc, Nat.div_add_mod' j sz] at this
  simpa [Addr.add_lit] using this
end Go.Proofs.YtodjokdaofefdaaGreat

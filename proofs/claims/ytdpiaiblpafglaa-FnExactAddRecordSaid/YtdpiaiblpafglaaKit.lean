/- General lemmas of this seat's proofs: endings, worlds, regions that draw their order. -/
import Derived.Test.YtdpiaiblpafglaaRows
import Derived.WalkKit
import Derived.WalkSpells
import Derived.WalkLawsBesides
import Derived.Deep.QuietTactic
import Derived.BigQuiet
import Derived.IntWalk
import Derived.Lib.Hide
import Derived.Lib.QuietBelow
import Derived.Deep.OwnRows
import Derived.Deep.AppendLies
namespace Go.Proofs.Ytdpiaiblpafglaa
set_option linter.unusedSimpArgs false
set_option linter.unusedVariables false
open Go.RowKit

theorem ret_bool {a b : Bool} (h : a = b) : Ending.returned (.bool a) = .returned (.bool b) := by rw [h]
theorem ret_int {k : IntKind} {a b : Int} (h : a = b) : Ending.returned (.int k a) = .returned (.int k b) := by rw [h]
theorem below_of_regrown {w w' : World} {B : Nat} (h : ∃ p : Regrown, w' = Sort.grow (redrawn w p.d) p.os) (hB : B ≤ w.heap.size) : Below B w w' := by
  obtain ⟨p, rfl⟩ := h
  exact (below_regrown _ _ _).mono hB

def inB (n lo hi : Int) : Bool := decide (lo ≤ n ∧ n ≤ hi)
theorem inB_true {n lo hi : Int} : inB n lo hi = true ↔ lo ≤ n ∧ n ≤ hi := by simp [inB]
theorem inB_false {n lo hi : Int} : inB n lo hi = false ↔ n < lo ∨ hi < n := by simp only [inB, decide_eq_false_iff_not]; omega
theorem below_cell {w w' : World} {a : Addr} {v : Value} (h : Below w.heap.size w w') (hc : w.cell? a = some v) : w'.cell? a = some v :=
  (h.cell (block_lt_of_cell hc)).trans hc
theorem below_alloc (w : World) (o : Obj) : Below w.heap.size w (w.alloc o) := (Below.refl _ _).alloc (Nat.le_refl _) o
theorem box_cell (w : World) (cs : Array Value) (t : TypeId) (i : Nat) (v : Value) (h : cs[i]? = some v) : (w.alloc (.cells cs t)).cell? ⟨w.heap.size, i, none⟩ = some v :=
  (cell_of_row (w.alloc (.cells cs t)) w.heap.size i cs t (0, 0) (heap_alloc_new w _)).trans h
theorem all_succ {p : Nat → Prop} {k : Nat} (h : ∀ j, j < k → p j) (hk : p k) : ∀ j, j < k + 1 → p j := fun j hj => by
  by_cases e : j = k
  · subst e; exact hk
  · exact h j (by omega)

/-- The slice with the address A reads as the list l, element by element: R says what the cells of one element read as. -/
def RdL {α : Type} (R : World → α → List Value → Prop) (sz : Nat) (w : World) (A : Option Addr) (l : List α) : Prop :=
  l.length ≤ 9223372036854775807 ∧ (0 < l.length → ∃ b off, A = some ⟨b, off, none⟩ ∧ ∀ k (hk : k < l.length), ∃ cs : List Value, cs.length = sz ∧ R w l[k] cs ∧
    ∀ j v, cs[j]? = some v → w.cell? ⟨b, off + k * sz + j, none⟩ = some v)
def Mono {α : Type} (R : World → α → List Value → Prop) : Prop := ∀ w w' a cs, Below w.heap.size w w' → R w a cs → R w' a cs
section
variable {α : Type} {R : World → α → List Value → Prop} {sz : Nat} {w w' : World} {A : Option Addr} {l : List α}
theorem RdL.below (hR : Mono R) (h : RdL R sz w A l) (hb : Below w.heap.size w w') : RdL R sz w' A l :=
  ⟨h.1, fun hn => let ⟨b, off, e, hc⟩ := h.2 hn; ⟨b, off, e, fun k hk => let ⟨cs, h1, h2, h3⟩ := hc k hk; ⟨cs, h1, hR _ _ _ _ hb h2, fun j v hv => below_cell hb (h3 j v hv)⟩⟩⟩
theorem RdL.regrown (hR : Mono R) (h : RdL R sz w A l) (d : Nat) (os : Array Obj) : RdL R sz (Sort.grow (redrawn w d) os) A l := h.below hR (below_regrown w d os)
theorem RdL.nil (A : Option Addr) : RdL R sz w A [] := ⟨by simp, fun h => absurd h (by simp)⟩
theorem RdL.take (h : RdL R sz w A l) (m : Nat) : RdL R sz w A (l.take m) := by
  refine ⟨Nat.le_trans (by simp; omega) h.1, fun hn => ?_⟩
  obtain ⟨b, off, e, hc⟩ := h.2 (by simp at hn; omega)
  refine ⟨b, off, e, fun k hk => ?_⟩
  obtain ⟨cs, h1, h2, h3⟩ := hc k (by simp at hk; omega)
  exact ⟨cs, h1, by simpa using h2, h3⟩
theorem RdL.dropAt {b off : Nat} (h : RdL R sz w (some ⟨b, off, none⟩) l) (m : Nat) : RdL R sz w (some ⟨b, off + m * sz, none⟩) (l.drop m) := by
  refine ⟨Nat.le_trans (by simp) h.1, fun hn => ?_⟩
  simp only [List.length_drop] at hn
  obtain ⟨b', off', e, hc⟩ := h.2 (by omega)
  simp only [Option.some.injEq, Addr.mk.injEq, and_true] at e
  obtain ⟨rfl, rfl⟩ := e
  refine ⟨b, off + m * sz, rfl, fun k hk => ?_⟩
  simp only [List.length_drop] at hk
  obtain ⟨cs, h1, h2, h3⟩ := hc (m + k) (by omega)
  refine ⟨cs, h1, by simpa using h2, fun j v hv => ?_⟩
  have := h3 j v hv
  rwa [Nat.add_mul, ← Nat.add_assoc] at this
end

/-- Flat elements: the cells of an element are written out. -/
def Flat {α : Type} (enc : α → List Value) : World → α → List Value → Prop := fun _ a cs => cs = enc a
theorem Flat.mono {α : Type} (enc : α → List Value) : Mono (Flat enc) := fun _ _ _ _ _ h => h
theorem flatMap_get {α : Type} (enc : α → List Value) (sz : Nat) (h : ∀ a, (enc a).length = sz) : ∀ (l : List α) (k j : Nat) (hk : k < l.length), j < sz → (l.flatMap enc)[k * sz + j]? = (enc l[k])[j]?
  | a :: l, 0, j, _, hj => by
    rw [List.flatMap_cons, List.getElem?_append_left (by simpa [h] using hj)]; simp
  | a :: l, k + 1, j, hk, hj => by
    rw [List.flatMap_cons, List.getElem?_append_right (by rw [h]; rw [Nat.add_mul]; omega), h]
    have e : (k + 1) * sz + j - sz = k * sz + j := by rw [Nat.add_mul]; omega
    rw [e, flatMap_get enc sz h l k j (by simpa using hk) hj]
    simp
theorem flatMap_length {α : Type} (enc : α → List Value) (sz : Nat) (h : ∀ a, (enc a).length = sz) (l : List α) : (l.flatMap enc).length = l.length * sz := by
  induction l with
  | nil => simp
  | cons a l ih => rw [List.flatMap_cons, List.length_append, ih, h, List.length_cons, Nat.add_mul]; omega
theorem take_succ_enc {α : Type} (enc : α → List Value) (l : List α) (k : Nat) (hk : k < l.length) : (l.take (k + 1)).flatMap enc = (l.take k).flatMap enc ++ enc l[k] := by
  rw [List.take_succ_eq_append_getElem hk, List.flatMap_append]; simp
theorem RdL.of_own {α : Type} {enc : α → List Value} {sz B : Nat} {e : TypeId} {w : World} {A : Option Addr} {n c : Nat} {l : List α} (hs : ∀ a, (enc a).length = sz) (hl : l.length = n) (hb : n ≤ 9223372036854775807)
    (h : w.ownsRow B e sz (.slice A n c) n (l.flatMap enc)) : RdL (Flat enc) sz w A l := by
  subst hl
  refine ⟨hb, fun hn => ?_⟩
  obtain ⟨g, cap, hv, _, _⟩ := h.form hn
  simp only [Value.slice.injEq, true_and] at hv
  obtain ⟨rfl, rfl⟩ := hv
  refine ⟨g, 0, rfl, fun k hk => ⟨enc l[k], hs _, rfl, fun j v hv => ?_⟩⟩
  have hj : j < sz := by
    have := (List.getElem?_eq_some_iff.1 hv).1
    rwa [hs] at this
  have hlt : k * sz + j < l.length * sz := by
    have : (k + 1) * sz ≤ l.length * sz := Nat.mul_le_mul_right _ hk
    rw [Nat.add_mul] at this; omega
  rw [Nat.zero_add, h.cellAt _ hlt, flatMap_get enc sz hs l k j hk hj, hv]
theorem own_below {B sz n : Nat} {e : TypeId} {w w' : World} {v : Value} {xs : List Value} (h : w.ownsRow B e sz v n xs) (hb : Below w.heap.size w w') : w'.ownsRow B e sz v n xs :=
  h.kept (row := Option.none) ⟨hb.os, hb.tape, hb.output, hb.size, fun k hk _ => hb.block k hk⟩ (by cases h : v.ownBlock <;> simp)
theorem own_lower {B B' sz n : Nat} {e : TypeId} {w : World} {v : Value} {xs : List Value} (h : w.ownsRow B e sz v n xs) (hB : B' ≤ B) : w.ownsRow B' e sz v n xs :=
  ⟨h.1, h.2.imp_right fun ⟨g, cap, cur, h1, h2, h3⟩ => ⟨g, cap, cur, h1, Nat.le_trans hB h2, h3⟩⟩
theorem own_lt {B sz n c g off : Nat} {e : TypeId} {w : World} {s : Option _} {xs : List Value} (h : w.ownsRow B e sz (.slice (some ⟨g, off, s⟩) n c) n xs) : B ≤ g ∧ g < w.heap.size := h.lt g rfl
theorem ext_alloc {a w : World} (h : Below a.heap.size a w) (o : Obj) : Below a.heap.size a (w.alloc o) := h.alloc h.size o
theorem ext_drew {a w : World} (h : Below a.heap.size a w) : Below a.heap.size a w.drew := h.drew
theorem ext_trans {a b c : World} (h : Below a.heap.size a b) (k : Below b.heap.size b c) : Below a.heap.size a c := h.trans (k.mono h.size)
theorem ext_grown {a b c : World} {row : Option Nat} (h : Below a.heap.size a b) (hg : b.grownBy c row) (hr : ∀ k, row = some k → a.heap.size ≤ k) : Below a.heap.size a c := h.grown hg h.size hr
/-- Cells are stored one behind the other. -/
def setCells (w : World) (g : Nat) : Nat → List Value → World
  | _, [] => w
  | o, v :: vs => setCells (w.setCell ⟨g, o, none⟩ v) g (o + 1) vs
theorem own_stores {B g n c sz : Nat} {e : TypeId} (vs : List Value) : ∀ {w : World} {xs : List Value} (o : Nat), w.ownsRow B e sz (.slice (some ⟨g, 0, none⟩) n c) n xs → o + vs.length ≤ n * sz →
    (setCells w g o vs).ownsRow B e sz (.slice (some ⟨g, 0, none⟩) n c) n (xs.take o ++ vs ++ xs.drop (o + vs.length)) := by
  induction vs with
  | nil => intro w xs o h _; simpa [setCells] using h
  | cons v vs ih =>
    intro w xs o h ho
    have hl := h.1
    simp only [List.length_cons] at ho
    have h1 := ih (o + 1) (h.stored o v).1 (by omega)
    have e1 : (xs.set o v).take (o + 1) ++ vs ++ (xs.set o v).drop (o + 1 + vs.length) = xs.take o ++ (v :: vs) ++ xs.drop (o + (v :: vs).length) := by
      rw [List.drop_set_of_lt (by omega), List.take_succ_eq_append_getElem (by rw [List.length_set]; omega)]
      simp only [List.getElem_set_self, List.length_cons]
      rw [List.take_set_of_le (Nat.le_refl _), show o + 1 + vs.length = o + (vs.length + 1) by omega]
      simp
    rw [e1] at h1
    exact h1
theorem own_elem {B g n c sz k : Nat} {e : TypeId} {w : World} {xs pre : List Value} (vs : List Value) (h : w.ownsRow B e sz (.slice (some ⟨g, 0, none⟩) n c) n xs) (hk : k < n) (hv : vs.length = sz) (hp : xs.take (k * sz) = pre) :
    ∃ xs', (setCells w g (k * sz) vs).ownsRow B e sz (.slice (some ⟨g, 0, none⟩) n c) n xs' ∧ xs'.take ((k + 1) * sz) = pre ++ vs := by
  have hb : (k + 1) * sz ≤ n * sz := Nat.mul_le_mul_right _ hk
  have hb' : (k + 1) * sz = k * sz + sz := by rw [Nat.add_mul]; omega
  have hl := h.1
  refine ⟨_, own_stores vs (k * sz) h (by omega), ?_⟩
  subst hp
  rw [List.take_append_of_le_length (by simp; omega), List.take_of_length_le (by simp; omega)]
theorem setCells_below {B g : Nat} (hg : B ≤ g) (vs : List Value) : ∀ {a w : World} (o : Nat), Below B a w → Below B a (setCells w g o vs) := by
  induction vs with
  | nil => intro a w o h; exact h
  | cons v vs ih => intro a w o h; exact ih (o + 1) (h.setCell hg v)
theorem setCells_size (g : Nat) (vs : List Value) : ∀ (w : World) (o : Nat), (setCells w g o vs).heap.size = w.heap.size := by
  induction vs with
  | nil => intro w o; rfl
  | cons v vs ih => intro w o; rw [setCells, ih]; simp [World.setCell]
theorem own_cell {w : World} {B g n c sz j : Nat} {e : TypeId} {xs : List Value} (h : w.ownsRow B e sz (.slice (some ⟨g, 0, none⟩) n c) n xs) (hj : j < n * sz) : ∃ v, w.cell? ⟨g, j, none⟩ = some v := by
  rw [h.cellAt j hj]
  exact ⟨_, List.getElem?_eq_getElem (by rw [h.1]; exact hj)⟩
/-- Equality as a Bool that the walk does not take apart. -/
def sameB {α : Type} [DecidableEq α] (a b : α) : Bool := decide (a = b)
theorem sameB_true {α : Type} [DecidableEq α] {a b : α} : sameB a b = true ↔ a = b := by simp [sameB]
theorem sameB_false {α : Type} [DecidableEq α] {a b : α} : sameB a b = false ↔ a ≠ b := by simp [sameB]
theorem sameB_self {α : Type} [DecidableEq α] (a : α) : sameB a a = true := by simp [sameB]
/-- A whole block of cells, read as a list. -/
theorem rd_block {α : Type} {enc : α → List Value} {sz : Nat} {w : World} {g : Nat} {cs : Array Value} {t : TypeId} {l : List α} (henc : ∀ a, (enc a).length = sz) (hg : w.heap[g]? = some (.cells cs t (0, 0))) (hl : l.flatMap enc = cs.toList) (hb : l.length ≤ 9223372036854775807 := by simp) :
    RdL (Flat enc) sz w (some ⟨g, 0, Option.none⟩) l := by
  refine ⟨hb, fun _ => ⟨g, 0, rfl, fun k hk => ⟨enc l[k], henc _, rfl, fun j v hv => ?_⟩⟩⟩
  have hj : j < sz := by
    have := (List.getElem?_eq_some_iff.1 hv).1
    rwa [henc] at this
  rw [Nat.zero_add, cell_of_row w g _ cs t (0, 0) hg, ← Array.getElem?_toList, ← hl, flatMap_get enc sz henc l k j hk hj, hv]
theorem grown_trans_ {a b c : World} {row : Option Nat} (h : a.grownBy b row) (k : b.grownBy c row) : a.grownBy c row :=
  ⟨k.os.trans h.os, k.tape.trans h.tape, k.output.trans h.output, Nat.le_trans h.size k.size, fun i hi hne => (k.block i (Nat.lt_of_lt_of_le hi h.size) hne).trans (h.block i hi hne)⟩
theorem setCells_grown (g : Nat) (vs : List Value) : ∀ (w : World) (o : Nat), w.grownBy (setCells w g o vs) (some g) := by
  induction vs with
  | nil => intro w o; exact World.grownBy.refl w _
  | cons v vs ih =>
    intro w o
    have h1 : w.grownBy (w.setCell ⟨g, o, Option.none⟩ v) (some g) := ⟨rfl, rfl, rfl, by simp [World.setCell], fun k _ hk => Below.heap_setCell w ⟨g, o, Option.none⟩ v k (fun e => hk (by simp [e]))⟩
    exact grown_trans_ h1 (ih (w.setCell ⟨g, o, Option.none⟩ v) (o + 1))
/-- A slice of one's own that holds the list l. -/
def OwnA {α : Type} (B : Nat) (e : TypeId) (sz : Nat) (enc : α → List Value) (w : World) (v : Value) (l : List α) : Prop := ∃ A c, v = .slice A l.length c ∧ w.ownsRow B e sz (.slice A l.length c) l.length (l.flatMap enc)
section
variable {α : Type} {B B' : Nat} {e : TypeId} {sz : Nat} {enc : α → List Value} {w w' : World} {v : Value} {l : List α}
theorem own_slice_ {n : Nat} {xs : List Value} (h : w.ownsRow B e sz v n xs) : ∃ A c, v = .slice A n c := by
  rcases h.2 with ⟨rfl, rfl⟩ | ⟨g, cap, _, rfl, _⟩
  · exact ⟨_, _, rfl⟩
  · exact ⟨_, _, rfl⟩
theorem OwnA.of (h : w.ownsRow B e sz v l.length (l.flatMap enc)) : OwnA B e sz enc w v l := by
  obtain ⟨A, c, rfl⟩ := own_slice_ h
  exact ⟨A, c, rfl, h⟩
theorem OwnA.below (h : OwnA B e sz enc w v l) (hb : Below w.heap.size w w') : OwnA B e sz enc w' v l := let ⟨A, c, h1, h2⟩ := h; ⟨A, c, h1, own_below h2 hb⟩
theorem OwnA.lower (h : OwnA B e sz enc w v l) (hB : B' ≤ B) : OwnA B' e sz enc w v l := let ⟨A, c, h1, h2⟩ := h; ⟨A, c, h1, own_lower h2 hB⟩
end
/-- What a function that hands back a list of its own and a truth leaves. -/
def TupPost {α : Type} (e : TypeId) (sz : Nat) (enc : α → List Value) (w : World) (l : List α) (b : Bool) (en : Ending) (w' : World) : Prop :=
  ∃ A c, en = .returned (.tuple #[.slice A l.length c, .bool b]) ∧ w'.ownsRow w.heap.size e sz (.slice A l.length c) l.length (l.flatMap enc) ∧ Below w.heap.size w w'
def TupV {α : Type} (B : Nat) (e : TypeId) (sz : Nat) (enc : α → List Value) (l : List α) (b : Bool) (w : World) (v : Value) : Prop :=
  ∃ A c, v = .tuple #[.slice A l.length c, .bool b] ∧ w.ownsRow B e sz (.slice A l.length c) l.length (l.flatMap enc)
theorem TupV.below {α : Type} {B : Nat} {e : TypeId} {sz : Nat} {enc : α → List Value} {l : List α} {b : Bool} {w w' : World} {v : Value} (h : TupV B e sz enc l b w v) (hb : Below w.heap.size w w') : TupV B e sz enc l b w' v :=
  let ⟨A, c, h1, h2⟩ := h; ⟨A, c, h1, own_below h2 hb⟩
theorem TupPost.of {α : Type} {e : TypeId} {sz : Nat} {enc : α → List Value} {w w' : World} {l l' : List α} {b b' : Bool} {v : Value} (hl : l = l') (hb : b = b') (ho : w'.ownsRow w.heap.size e sz v l'.length (l'.flatMap enc)) (hB : Below w.heap.size w w') :
    TupPost e sz enc w l b (.returned (.tuple #[v, .bool b'])) w' := by
  subst hl; subst hb
  obtain ⟨A, c, rfl⟩ := own_slice_ ho
  exact ⟨A, c, rfl, ho, hB⟩
theorem own_apart {B sz n g : Nat} {e : TypeId} {w w' : World} {v : Value} {xs : List Value} (h : w.ownsRow B e sz v n xs) (hg : w.grownBy w' (some g)) (hne : ∀ k, v.ownBlock = some k → k ≠ g) : w'.ownsRow B e sz v n xs :=
  h.kept hg (.inr (fun e => hne g e rfl))
theorem below_grown_at {B g : Nat} {a w w' : World} (h : Below B a w) (hg : w.grownBy w' (some g)) (hB : B ≤ w.heap.size) (hBg : B ≤ g) : Below B a w' := h.grown hg hB (fun k hk => by cases hk; exact hBg)
theorem own_apart_ {B sz n : Nat} {e : TypeId} {w w' : World} {v : Value} {xs : List Value} {row : Option Nat} (h : w.ownsRow B e sz v n xs) (hg : w.grownBy w' row) (hne : ∀ k, v.ownBlock = some k → row ≠ some k) : w'.ownsRow B e sz v n xs :=
  h.kept hg (by
    cases hv : v.ownBlock with
    | none => exact .inl rfl
    | some k => exact .inr (fun e => hne k hv e.symm))
end Go.Proofs.Ytdpiaiblpafglaa

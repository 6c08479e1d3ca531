/- Kinds of values: what the operations of a region make of them. -/
import Derived.Test.YtodjokdaofefdaaGreatQ21
import Derived.Tactics
import Derived.IntWalk
namespace Go.Proofs.YtodjokdaofefdaaGreat
set_option linter.unusedSimpArgs false
set_option linter.unusedVariables false
open Go.RowKit

/-- Cell by cell. -/
def RowK : List VK → World → List Value → Prop
  | [], _, cs => cs = []
  | k :: ks, w, cs => ∃ c r, cs = c :: r ∧ k w c ∧ RowK ks w r
def AggK (ks : List VK) : VK := fun w v => ∃ cs : List Value, v = .agg cs.toArray ∧ RowK ks w cs
def TupK (ks : List VK) : VK := fun w v => ∃ cs : List Value, v = .tuple cs.toArray ∧ RowK ks w cs
def RowsK (ks : List VK) (w : World) : List (List Value) → Prop
  | [] => True
  | r :: rs => RowK ks w r ∧ RowsK ks w rs
theorem all_cons {P : VK → Prop} {k : VK} {ks : List VK} (h : P k) (h2 : ∀ k ∈ ks, P k) : ∀ x ∈ k :: ks, P x := fun x hx => by
  rcases List.mem_cons.1 hx with rfl | hx
  · exact h
  · exact h2 x hx
section
variable {B br : Nat} {S : TypeId → Bool} {sh : TypeId → List VK} {w w' : World} {v : Value} {g n m t : Nat} {e : TypeId} {ks : List VK}
theorem RowK.rel (hks : ∀ k ∈ ks, StabK B br S sh k) (hr : RelK B br S sh w w') : ∀ {cs : List Value}, RowK ks w cs → RowK ks w' cs := by
  induction ks with
  | nil => exact fun h => h
  | cons k ks ih =>
    rintro cs ⟨c, r, rfl, h1, h2⟩
    exact ⟨c, r, rfl, hks k (by simp) _ _ _ hr h1, ih (fun k hk => hks k (by simp [hk])) h2⟩
theorem stab_agg (hks : ∀ k ∈ ks, StabK B br S sh k) : StabK B br S sh (AggK ks) := fun _ _ _ hr ⟨cs, h1, h2⟩ => ⟨cs, h1, h2.rel hks hr⟩
theorem stab_tup (hks : ∀ k ∈ ks, StabK B br S sh k) : StabK B br S sh (TupK ks) := fun _ _ _ hr ⟨cs, h1, h2⟩ => ⟨cs, h1, h2.rel hks hr⟩
theorem RowK.length : ∀ {ks : List VK} {cs : List Value}, RowK ks w cs → cs.length = ks.length
  | [], cs, h => by rw [show cs = [] from h]; rfl
  | k :: ks, cs, ⟨c, r, h, _, h2⟩ => by rw [h, List.length_cons, List.length_cons, h2.length]
theorem RowK.at : ∀ {ks : List VK} {cs : List Value}, RowK ks w cs → ∀ (f : Nat) (k : VK) (u : Value), ks[f]? = some k → cs[f]? = some u → k w u
  | [], _, _, f, k, u, h, _ => by simp at h
  | k0 :: ks, cs, ⟨c, r, e, h1, h2⟩, f, k, u, hk, hu => by
    subst e
    cases f with
    | zero => simp at hk hu; subst hk; subst hu; exact h1
    | succ f => exact h2.at f k u (by simpa using hk) (by simpa using hu)
theorem RowsK.typ {rs : List (List Value)} (h : RowsK ks w rs) : TypL ks w rs.length rs.flatten := by
  induction rs with
  | nil => intro q f k u hq; simp at hq
  | cons r rs ih =>
    intro q f k u hq hk hu
    have hf : f < ks.length := (List.getElem?_eq_some_iff.1 hk).1
    have hl := h.1.length
    cases q with
    | zero =>
      rw [Nat.zero_mul, Nat.zero_add, List.flatten_cons, List.getElem?_append_left (by omega)] at hu
      exact h.1.at f k u hk hu
    | succ q =>
      rw [List.flatten_cons, List.getElem?_append_right (by rw [hl, Nat.succ_mul]; omega), hl, Nat.succ_mul, show q * ks.length + ks.length + f - ks.length = q * ks.length + f by omega] at hu
      exact ih h.2 q f k u (by simpa using hq) hk hu
theorem RowsK.length {rs : List (List Value)} (h : RowsK ks w rs) : rs.flatten.length = rs.length * ks.length := by
  induction rs with
  | nil => simp
  | cons r rs ih => rw [List.flatten_cons, List.length_append, ih h.2, h.1.length, List.length_cons, Nat.succ_mul]; omega
theorem LitK.sl (h : LitK B br e ks n w v) (hn : n ≤ 1000000) : SlK B br e ks n w v := by
  obtain ⟨g, rfl, hb⟩ := h
  exact .inr ⟨g, 0, n, n, by simp, Nat.le_refl _, Nat.le_refl _, by omega, by simpa using hb⟩
theorem SlK.nil : SlK B br e ks m w (.slice Option.none 0 0) := .inl rfl
theorem SlK.shape (h : SlK B br e ks m w v) : ∃ A n c, v = .slice A n c ∧ n ≤ m ∧ n ≤ c ∧ c ≤ 9223372036854775807 ∧ (0 < n → ∃ g o, A = some ⟨g, o * ks.length, Option.none⟩ ∧ BlkK B br e ks (o + n) (o + c) w g) := by
  rcases h with rfl | ⟨g, o, n, c, rfl, h1, h2, h3, h4⟩
  · exact ⟨_, 0, 0, rfl, Nat.zero_le _, Nat.le_refl _, by omega, fun h => absurd h (by omega)⟩
  · exact ⟨_, n, c, rfl, h1, h2, h3, fun _ => ⟨g, o, rfl, h4⟩⟩
/-- The address of an element. -/
theorem LitK.at (h : LitK B br e ks n w v) {q : Nat} (hq : q < n) : ∃ g, v = .slice (some ⟨g, 0, Option.none⟩) n n ∧ BlkK B br e ks (q + 1) (q + 1) w g := by
  obtain ⟨g, rfl, hb⟩ := h
  exact ⟨g, rfl, hb.le (by omega) (by omega)⟩
end
end Go.Proofs.YtodjokdaofefdaaGreat
/- Kinds of values, written down: what they mean, which are within which, how they meet, and that they stay. -/
namespace Go.Proofs.YtodjokdaofefdaaGreat
set_option linter.unusedSimpArgs false
set_option linter.unusedVariables false
open Go.RowKit

/-- A kind of one cell. sl i lo hi: a slice of elements of shape i; ptr i off: a pointer into an element of shape i. -/
inductive CK where
  | any | rdr | code | nil
  | int (k : IntKind) (lo hi : Int)
  | intx (k : IntKind)
  | bool (b : Option Bool)
  | str (m : Nat)
  | sl (i lo hi : Nat)
  | sl0 (lo hi : Nat)
  | ptr (i off : Nat)
  deriving DecidableEq
/-- Shapes of elements: the type, the cells' kinds; a shape speaks of those behind it alone. The number of a shape is how many stand behind it. -/
abbrev Tab := List (TypeId × List CK)
structure Ctx where
  B : Nat
  br : Nat
  cb : Nat
  cv : Value
  N0 : Nat
def CK.den (c : Ctx) (tb : Nat → TypeId × List VK) : CK → VK
  | .any => fun _ _ => True
  | .rdr => fun _ v => v = .pointer (some ⟨c.br, 0, Option.none⟩)
  | .code => fun _ v => v = c.cv
  | .nil => fun _ v => v = .slice Option.none 0 0
  | .int k lo hi => fun _ v => ∃ n : Int, v = .int k n ∧ lo ≤ n ∧ n ≤ hi
  | .intx k => fun _ v => ∃ n : Int, v = .int k n
  | .bool b => fun _ v => ∃ x, v = .bool x ∧ ∀ y, b = some y → x = y
  | .str m => fun _ v => ∃ s : ByteArray, v = .string s ∧ s.size ≤ m
  | .sl i lo hi => fun w v => SlK c.B c.br (tb i).1 (tb i).2 hi w v ∧ ∃ A n q, v = .slice A n q ∧ lo ≤ n
  | .sl0 lo hi => fun _ v => ∃ A n q, v = .slice A n q ∧ lo ≤ n ∧ n ≤ hi
  | .ptr i off => fun w v => ∃ g q, v = .pointer (some ⟨g, q * (tb i).2.length + off, Option.none⟩) ∧ BlkK c.B c.br (tb i).1 (tb i).2 (q + 1) (q + 1) w g
def tabOf (c : Ctx) : Tab → Nat → TypeId × List VK
  | [], _ => (0, [])
  | (T, ks) :: r, i => if i = r.length then (T, ks.map (CK.den c (tabOf c r))) else tabOf c r i
def shp : Tab → Nat → TypeId × List CK
  | [], _ => (0, [])
  | (T, ks) :: r, i => if i = r.length then (T, ks) else shp r i
def CK.below (n : Nat) : CK → Bool
  | .sl i _ _ => decide (i < n)
  | .ptr i _ => decide (i < n)
  | _ => true
def okTab : Tab → Bool
  | [] => true
  | (_, ks) :: r => ks.all (CK.below r.length) && okTab r
theorem tabOf_cons {c : Ctx} {x : TypeId × List CK} {r : Tab} {i : Nat} (h : i < r.length) : tabOf c (x :: r) i = tabOf c r i := by
  obtain ⟨T, ks⟩ := x
  rw [tabOf, if_neg (by omega)]
theorem den_cons {c : Ctx} {x : TypeId × List CK} {r : Tab} {k : CK} (h : k.below r.length = true) : k.den c (tabOf c (x :: r)) = k.den c (tabOf c r) := by
  cases k <;> simp only [CK.below, decide_eq_true_eq] at h <;> simp only [CK.den, tabOf_cons, h]
theorem tab_den {c : Ctx} : ∀ {tab : Tab}, okTab tab = true → ∀ i, tabOf c tab i = ((shp tab i).1, (shp tab i).2.map (CK.den c (tabOf c tab))) ∧ ∀ k ∈ (shp tab i).2, k.below tab.length = true
  | [], _, i => by simp [tabOf, shp]
  | (T, ks) :: r, h, i => by
    simp only [okTab, Bool.and_eq_true, List.all_eq_true] at h
    have hb : ∀ k : CK, k.below r.length = true → k.below (r.length + 1) = true := fun k hk => by
      cases k <;> simp_all [CK.below] <;> omega
    by_cases e : i = r.length
    · subst e
      refine ⟨?_, fun k hk => hb k (h.1 k (by simpa [shp] using hk))⟩
      rw [tabOf, if_pos rfl, shp, if_pos rfl]
      refine Prod.ext rfl (List.map_congr_left fun k hk => (den_cons (x := (T, ks)) (h.1 k hk)).symm)
    · have ih := tab_den (c := c) h.2 i
      refine ⟨?_, fun k hk => hb k (ih.2 k (by simpa [shp, e] using hk))⟩
      rw [tabOf, if_neg e, shp, if_neg e, ih.1]
      refine Prod.ext rfl (List.map_congr_left fun k hk => (den_cons (x := (T, ks)) (ih.2 k hk)).symm)

/-! ### What stays -/
/-- The types whose cells are written, each with its shape. -/
abbrev Sto := List (TypeId × Nat)
def sto (S : Sto) (T : TypeId) : Bool := (S.lookup T).isSome
def stoShape (c : Ctx) (tab : Tab) (S : Sto) (T : TypeId) : List VK := match S.lookup T with | some i => (tabOf c tab i).2 | Option.none => []
def okSto (tab : Tab) (S : Sto) : Bool := (List.range tab.length).all (fun i => match S.lookup (shp tab i).1 with | some j => j == i | Option.none => true) && (S.lookup 0).isNone
abbrev Rel (c : Ctx) (tab : Tab) (S : Sto) (w w' : World) : Prop := RelK c.B c.br (sto S) (stoShape c tab S) w w'
abbrev Stab (c : Ctx) (tab : Tab) (S : Sto) (k : VK) : Prop := StabK c.B c.br (sto S) (stoShape c tab S) k
theorem tabOf_ge {c : Ctx} : ∀ {tab : Tab} {i : Nat}, tab.length ≤ i → tabOf c tab i = (0, [])
  | [], _, _ => rfl
  | (T, ks) :: r, i, h => by
    simp only [List.length_cons] at h
    rw [tabOf, if_neg (by omega), tabOf_ge (by omega)]
section
variable {c : Ctx} {tab : Tab} {S : Sto}
theorem sto_shape (ht : okTab tab = true) (hS : okSto tab S = true) (i : Nat) (h : sto S (tabOf c tab i).1 = true) : stoShape c tab S (tabOf c tab i).1 = (tabOf c tab i).2 := by
  simp only [okSto, Bool.and_eq_true, List.all_eq_true, List.mem_range] at hS
  have e := (tab_den (c := c) ht i).1
  by_cases hi : i < tab.length
  · have h1 := hS.1 i hi
    rw [show (shp tab i).1 = (tabOf c tab i).1 by rw [e]] at h1
    unfold sto at h
    unfold stoShape
    cases hl : S.lookup (tabOf c tab i).1 with
    | none => simp [hl] at h
    | some j =>
      simp only [hl, beq_iff_eq] at h1
      subst h1
      rfl
  · rw [tabOf_ge (by omega)] at h ⊢
    unfold sto at h
    have := hS.2
    simp only [Option.isNone_iff_eq_none] at this
    simp [this] at h
theorem den_stab (ht : okTab tab = true) (hS : okSto tab S = true) : ∀ k : CK, Stab c tab S (k.den c (tabOf c tab)) := by
  have key : ∀ n i, i < n → ∀ k ∈ (tabOf c tab i).2, Stab c tab S k := by
    intro n
    induction n with
    | zero => intro i hi; omega
    | succ n ih =>
      intro i hi k hk
      rw [(tab_den (c := c) ht i).1] at hk
      obtain ⟨k0, hk0, rfl⟩ := List.mem_map.1 hk
      by_cases hil : i < tab.length
      · -- the cells of a shape speak of smaller ones
        have hsm : ∀ (tab' : Tab) (i : Nat), okTab tab' = true → ∀ k0 ∈ (shp tab' i).2, k0.below i = true := by
          intro tab'
          induction tab' with
          | nil => intro i _ k0 h; simp [shp] at h
          | cons x r ihr =>
            intro i ho k0 h
            obtain ⟨T, ks⟩ := x
            simp only [okTab, Bool.and_eq_true, List.all_eq_true] at ho
            rw [shp] at h
            split at h
            · rename_i e; subst e; exact ho.1 k0 h
            · exact ihr i ho.2 k0 h
        have hb := hsm tab i ht k0 hk0
        cases k0 with
        | sl j lo hi' =>
          have hj : j < i := by simpa [CK.below] using hb
          rintro w w' v hr ⟨h1, h2⟩
          exact ⟨stab_sl (ih j (by omega)) (fun hT => sto_shape ht hS j hT) w w' v hr h1, h2⟩
        | ptr j off =>
          have hj : j < i := by simpa [CK.below] using hb
          rintro w w' v hr ⟨g, q, h1, h2⟩
          exact ⟨g, q, h1, h2.rel (ih j (by omega)) (fun hT => sto_shape ht hS j hT) hr⟩
        | _ => exact fun w w' v _ h => h
      · have e := tabOf_ge (c := c) (tab := tab) (i := i) (by omega)
        rw [(tab_den (c := c) ht i).1] at e
        simp only [Prod.mk.injEq, List.map_eq_nil_iff] at e
        rw [e.2] at hk0
        simp at hk0
  intro k
  cases k with
  | sl j lo hi' =>
    rintro w w' v hr ⟨h1, h2⟩
    exact ⟨stab_sl (key (j + 1) j (by omega)) (fun hT => sto_shape ht hS j hT) w w' v hr h1, h2⟩
  | ptr j off =>
    rintro w w' v hr ⟨g, q, h1, h2⟩
    exact ⟨g, q, h1, h2.rel (key (j + 1) j (by omega)) (fun hT => sto_shape ht hS j hT) hr⟩
  | _ => exact fun w w' v _ h => h
theorem shape_stab (ht : okTab tab = true) (hS : okSto tab S = true) (i : Nat) : ∀ k ∈ (tabOf c tab i).2, Stab c tab S k := by
  intro k hk
  rw [(tab_den (c := c) ht i).1] at hk
  obtain ⟨k0, _, rfl⟩ := List.mem_map.1 hk
  exact den_stab ht hS k0

/-! ### Which are within which -/
def all2 {α : Type} (f : α → α → Bool) : List α → List α → Bool
  | [], [] => true
  | x :: l, y :: r => f x y && all2 f l r
  | _, _ => false
theorem all2_at {α : Type} {f : α → α → Bool} : ∀ {l r : List α}, all2 f l r = true → l.length = r.length ∧ ∀ (j : Nat) x y, l[j]? = some x → r[j]? = some y → f x y = true
  | [], [], _ => ⟨rfl, fun j x y h => by simp at h⟩
  | x :: l, y :: r, h => by
    simp only [all2, Bool.and_eq_true] at h
    obtain ⟨h1, h2⟩ := all2_at h.2
    refine ⟨by simp [h1], fun j a b ha hb => ?_⟩
    cases j with
    | zero => simp at ha hb; subst ha; subst hb; exact h.1
    | succ j => exact h2 j a b (by simpa using ha) (by simpa using hb)
  | [], _ :: _, h => by simp [all2] at h
  | _ :: _, [], h => by simp [all2] at h
def CK.le (tab : Tab) : Nat → CK → CK → Bool
  | _, _, .any => true
  | _, .rdr, .rdr => true
  | _, .code, .code => true
  | _, .nil, .nil => true
  | _, .nil, .sl _ lo _ => lo == 0
  | _, .nil, .sl0 lo _ => lo == 0
  | _, .int k lo hi, .int k' lo' hi' => decide (k = k') && decide (lo' ≤ lo) && decide (hi ≤ hi')
  | _, .int k _ _, .intx k' => decide (k = k')
  | _, .intx k, .intx k' => decide (k = k')
  | _, .bool b, .bool b' => b'.isNone || decide (b = b')
  | _, .str m, .str m' => decide (m ≤ m')
  | 0, .sl i lo hi, .sl j lo' hi' => decide (i = j) && decide (lo' ≤ lo) && decide (hi ≤ hi')
  | f + 1, .sl i lo hi, .sl j lo' hi' => decide (lo' ≤ lo) && decide (hi ≤ hi') && (decide (i = j) || ((shp tab i).1 == (shp tab j).1 && all2 (CK.le tab f) (shp tab i).2 (shp tab j).2))
  | _, .sl _ lo hi, .sl0 lo' hi' => decide (lo' ≤ lo) && decide (hi ≤ hi')
  | _, .sl0 lo hi, .sl0 lo' hi' => decide (lo' ≤ lo) && decide (hi ≤ hi')
  | _, .ptr i off, .ptr j off' => decide (i = j) && decide (off = off')
  | _, _, _ => false
theorem BlkK.weaken {B br t m : Nat} {e : TypeId} {ks ks' : List VK} {w : World} {g : Nat} (hl : ks.length = ks'.length) (h : ∀ (f : Nat) k k', ks[f]? = some k → ks'[f]? = some k' → ∀ u, k w u → k' w u) (hb : BlkK B br e ks t m w g) : BlkK B br e ks' t m w g := by
  obtain ⟨h1, h2, cs, h3, h4, h5⟩ := hb
  refine ⟨h1, h2, cs, h3, by rw [← hl]; exact h4, fun q f k u hq hk hu => ?_⟩
  have hf : f < ks.length := by rw [hl]; exact (List.getElem?_eq_some_iff.1 hk).1
  exact h f ks[f] k (List.getElem?_eq_getElem hf) hk u (h5 q f ks[f] u hq (List.getElem?_eq_getElem hf) (by rw [hl]; exact hu))
theorem SlK.weaken {B br m : Nat} {e : TypeId} {ks ks' : List VK} {w : World} {v : Value} (hl : ks.length = ks'.length) (h : ∀ (f : Nat) k k', ks[f]? = some k → ks'[f]? = some k' → ∀ u, k w u → k' w u) (hb : SlK B br e ks m w v) : SlK B br e ks' m w v := by
  rcases hb with rfl | ⟨g, o, n, q, rfl, h1, h2, h3, h4⟩
  · exact .inl rfl
  · exact .inr ⟨g, o, n, q, by rw [hl], h1, h2, h3, h4.weaken hl h⟩
theorem le_den (ht : okTab tab = true) {w : World} : ∀ (f : Nat) (a b : CK), CK.le tab f a b = true → ∀ v, a.den c (tabOf c tab) w v → b.den c (tabOf c tab) w v := by
  have hsl : ∀ i j lo hi lo' hi' v, lo' ≤ lo → hi ≤ hi' → (∀ v, SlK c.B c.br (tabOf c tab i).1 (tabOf c tab i).2 hi w v → SlK c.B c.br (tabOf c tab j).1 (tabOf c tab j).2 hi w v) → (CK.sl i lo hi).den c (tabOf c tab) w v → (CK.sl j lo' hi').den c (tabOf c tab) w v := by
    rintro i j lo hi lo' hi' v h1 h2 h3 ⟨h4, A, n, q, rfl, h5⟩
    exact ⟨(h3 _ h4).mono h2, A, n, q, rfl, by omega⟩
  have hsl0 : ∀ i lo hi lo' hi' v, lo' ≤ lo → hi ≤ hi' → (CK.sl i lo hi).den c (tabOf c tab) w v → (CK.sl0 lo' hi').den c (tabOf c tab) w v := by
    rintro i lo hi lo' hi' v h1 h2 ⟨h4, A, n, q, rfl, h5⟩
    refine ⟨A, n, q, rfl, by omega, ?_⟩
    obtain ⟨A', n', q', h6, h7, _⟩ := h4.shape
    simp only [Value.slice.injEq] at h6
    obtain ⟨_, rfl, _⟩ := h6
    omega
  intro f
  induction f with
  | zero =>
    intro a b h v hv
    cases a <;> cases b <;> simp only [CK.le, Bool.and_eq_true, Bool.or_eq_true, decide_eq_true_eq, beq_iff_eq, Bool.false_eq_true, Option.isNone_iff_eq_none] at h
    all_goals first
      | exact trivial
      | exact hv
      | (obtain ⟨⟨rfl, h1⟩, h2⟩ := h; obtain ⟨n, rfl, h3, h4⟩ := hv; exact ⟨n, rfl, by omega, by omega⟩)
      | (obtain rfl := h; obtain ⟨n, rfl, h3, h4⟩ := hv; exact ⟨n, rfl⟩)
      | (obtain rfl := h; obtain ⟨n, rfl⟩ := hv; exact ⟨n, rfl⟩)
      | (obtain ⟨x, rfl, h3⟩ := hv; refine ⟨x, rfl, fun y hy => ?_⟩; rcases h with rfl | rfl; exact absurd hy (by simp); exact h3 y hy)
      | (obtain ⟨s, rfl, h3⟩ := hv; exact ⟨s, rfl, by omega⟩)
      | (obtain ⟨⟨rfl, h1⟩, h2⟩ := h; exact hsl _ _ _ _ _ _ _ h1 h2 (fun _ h => h) hv)
      | (obtain ⟨rfl, rfl⟩ := h; exact hv)
      | (exact hsl0 _ _ _ _ _ _ h.1 h.2 hv)
      | (obtain ⟨A, n, q, rfl, h3, h4⟩ := hv; exact ⟨A, n, q, rfl, by omega, by omega⟩)
      | (subst h; obtain rfl := hv; exact ⟨SlK.nil, _, _, _, rfl, Nat.zero_le _⟩)
      | (subst h; obtain rfl := hv; exact ⟨_, _, _, rfl, Nat.zero_le _, Nat.zero_le _⟩)
  | succ f ih =>
    have hsh : ∀ i j hi, (i = j ∨ (shp tab i).1 = (shp tab j).1 ∧ all2 (CK.le tab f) (shp tab i).2 (shp tab j).2 = true) → ∀ v, SlK c.B c.br (tabOf c tab i).1 (tabOf c tab i).2 hi w v → SlK c.B c.br (tabOf c tab j).1 (tabOf c tab j).2 hi w v := by
      intro i j hi h3 v hv
      rcases h3 with rfl | ⟨h3, h4⟩
      · exact hv
      · obtain ⟨h5, h6⟩ := all2_at h4
        rw [(tab_den (c := c) ht i).1] at hv
        rw [(tab_den (c := c) ht j).1]
        simp only at hv ⊢
        rw [← h3]
        refine hv.weaken (by simpa using h5) (fun f' k k' hk hk' u hu => ?_)
        rw [List.getElem?_map] at hk hk'
        obtain ⟨k1, e1, rfl⟩ := Option.map_eq_some_iff.1 hk
        obtain ⟨k2, e2, rfl⟩ := Option.map_eq_some_iff.1 hk'
        exact ih _ _ (h6 f' k1 k2 e1 e2) u hu
    intro a b h v hv
    cases a <;> cases b <;> simp only [CK.le, Bool.and_eq_true, Bool.or_eq_true, decide_eq_true_eq, beq_iff_eq, Bool.false_eq_true, Option.isNone_iff_eq_none] at h
    all_goals first
      | exact trivial
      | exact hv
      | (obtain ⟨⟨rfl, h1⟩, h2⟩ := h; obtain ⟨n, rfl, h3, h4⟩ := hv; exact ⟨n, rfl, by omega, by omega⟩)
      | (obtain rfl := h; obtain ⟨n, rfl, h3, h4⟩ := hv; exact ⟨n, rfl⟩)
      | (obtain rfl := h; obtain ⟨n, rfl⟩ := hv; exact ⟨n, rfl⟩)
      | (obtain ⟨x, rfl, h3⟩ := hv; refine ⟨x, rfl, fun y hy => ?_⟩; rcases h with rfl | rfl; exact absurd hy (by simp); exact h3 y hy)
      | (obtain ⟨s, rfl, h3⟩ := hv; exact ⟨s, rfl, by omega⟩)
      | exact hsl _ _ _ _ _ _ _ h.1.1 h.1.2 (hsh _ _ _ h.2) hv
      | (obtain ⟨rfl, rfl⟩ := h; exact hv)
      | (exact hsl0 _ _ _ _ _ _ h.1 h.2 hv)
      | (obtain ⟨A, n, q, rfl, h3, h4⟩ := hv; exact ⟨A, n, q, rfl, by omega, by omega⟩)
      | (obtain rfl := h; obtain rfl := hv; exact ⟨SlK.nil, _, _, _, rfl, Nat.zero_le _⟩)
      | (subst h; obtain rfl := hv; exact ⟨_, _, _, rfl, Nat.zero_le _, Nat.zero_le _⟩)
end
end Go.Proofs.YtodjokdaofefdaaGreat
/- Kinds of values: whole values, the world's state, and what an operation makes of kinds: operations that leave memory alone. -/
namespace Go.Proofs.YtodjokdaofefdaaGreat
set_option linter.unusedSimpArgs false
set_option linter.unusedVariables false
open Go.RowKit

inductive K1 where
  | c (k : CK)
  | agg (ks : List CK)
inductive Kd where
  | one (k : K1)
  | tup (ks : List K1)
abbrev Kd.ck (k : CK) : Kd := .one (.c k)
abbrev Kd.ag (ks : List CK) : Kd := .one (.agg ks)
def cden (c : Ctx) (tab : Tab) : CK → VK := CK.den c (tabOf c tab)
def K1.den (c : Ctx) (tab : Tab) : K1 → VK
  | .c k => cden c tab k
  | .agg ks => AggK (ks.map (cden c tab))
def Kd.den (c : Ctx) (tab : Tab) : Kd → VK
  | .one k => k.den c tab
  | .tup ks => TupK (ks.map (K1.den c tab))
theorem any_den {c : Ctx} {tab : Tab} {w : World} {v : Value} : (Kd.ck .any).den c tab w v := trivial
section
variable {c : Ctx} {tab : Tab} {S : Sto} {w w' : World} {v : Value}
theorem K1.stab (ht : okTab tab = true) (hS : okSto tab S = true) : ∀ k : K1, Stab c tab S (k.den c tab)
  | .c k => den_stab ht hS k
  | .agg ks => stab_agg fun k hk => by obtain ⟨k0, _, rfl⟩ := List.mem_map.1 hk; exact den_stab ht hS k0
theorem Kd.stab (ht : okTab tab = true) (hS : okSto tab S = true) : ∀ k : Kd, Stab c tab S (k.den c tab)
  | .one k => k.stab ht hS
  | .tup ks => stab_tup fun k hk => by obtain ⟨k0, _, rfl⟩ := List.mem_map.1 hk; exact k0.stab ht hS
def K1.le (tab : Tab) (f : Nat) : K1 → K1 → Bool
  | _, .c .any => true
  | .c a, .c b => CK.le tab f a b
  | .agg a, .agg b => all2 (CK.le tab f) a b
  | _, _ => false
def Kd.le (tab : Tab) (f : Nat) : Kd → Kd → Bool
  | _, .one (.c .any) => true
  | .one a, .one b => K1.le tab f a b
  | .tup a, .tup b => all2 (K1.le tab f) a b
  | _, _ => false
theorem row_weaken {α : Type} {D : α → VK} {R : α → α → Bool} (h : ∀ a b, R a b = true → ∀ v, D a w v → D b w v) : ∀ {l r : List α} {cs : List Value}, all2 R l r = true → RowK (l.map D) w cs → RowK (r.map D) w cs
  | [], [], _, _, hr => hr
  | x :: l, y :: r, cs, hl, ⟨u, t, e, h1, h2⟩ => by
    simp only [all2, Bool.and_eq_true] at hl
    exact ⟨u, t, e, h _ _ hl.1 _ h1, row_weaken h hl.2 h2⟩
  | [], _ :: _, _, hl, _ => by simp [all2] at hl
  | _ :: _, [], _, hl, _ => by simp [all2] at hl
theorem K1.le_den (ht : okTab tab = true) {f : Nat} {a b : K1} (h : K1.le tab f a b = true) (hv : a.den c tab w v) : b.den c tab w v := by
  cases a with
  | c a => cases b with
    | c b => exact Proofs.YtodjokdaofefdaaGreat.le_den ht f a b (by cases b <;> first | exact h | (cases f <;> simp [CK.le])) v hv
    | agg b => simp [K1.le] at h
  | agg a => cases b with
    | c b => cases b <;> first | exact trivial | (simp [K1.le] at h)
    | agg b =>
      obtain ⟨cs, e, hr⟩ := hv
      exact ⟨cs, e, row_weaken (fun a b h v hv => Proofs.YtodjokdaofefdaaGreat.le_den ht f a b h v hv) h hr⟩
theorem Kd.le_den (ht : okTab tab = true) {f : Nat} {a b : Kd} (h : Kd.le tab f a b = true) (hv : a.den c tab w v) : b.den c tab w v := by
  cases a with
  | one a => cases b with
    | one b =>
      refine K1.le_den ht (f := f) (a := a) (b := b) ?_ hv
      cases b with
      | c b => cases b <;> first | exact h | (cases a <;> rfl)
      | agg b => exact h
    | tup b => simp [Kd.le] at h
  | tup a => cases b with
    | one b => cases b with
      | c b => cases b <;> first | exact trivial | (simp [Kd.le] at h)
      | agg b => simp [Kd.le] at h
    | tup b =>
      obtain ⟨cs, e, hr⟩ := hv
      exact ⟨cs, e, row_weaken (fun a b h v hv => K1.le_den ht h hv) h hr⟩
end
/-! ### They meet -/
def CK.join0 : CK → CK → CK
  | .int k lo hi, .int k' lo' hi' => if k = k' then .int k (min lo lo') (max hi hi') else .any
  | .bool _, .bool _ => .bool Option.none
  | .str m, .str m' => .str (max m m')
  | .sl i lo hi, .sl j lo' hi' => if i = j then .sl i (min lo lo') (max hi hi') else .any
  | .nil, .sl j _ hi' => .sl j 0 hi'
  | .sl j _ hi', .nil => .sl j 0 hi'
  | _, _ => .any
def CK.join (tab : Tab) (f : Nat) (a b : CK) : CK :=
  if CK.le tab f a b then b else if CK.le tab f b a then a else
  match a, b with
  | .sl i lo hi, .sl j lo' hi' => if CK.le tab f (.sl i lo hi) (.sl j 0 (max hi hi')) then .sl j (min lo lo') (max hi hi') else .sl i (min lo lo') (max hi hi')
  | a, b => CK.join0 a b
def zipWith2 {α : Type} (f : α → α → α) : List α → List α → List α
  | x :: l, y :: r => f x y :: zipWith2 f l r
  | _, _ => []
def K1.join0 (tab : Tab) (f : Nat) : K1 → K1 → K1
  | .c a, .c b => .c (CK.join tab f a b)
  | .agg a, .agg b => .agg (zipWith2 (CK.join tab f) a b)
  | _, _ => .c .any
def Kd.join0 (tab : Tab) (f : Nat) : Kd → Kd → Kd
  | .one a, .one b => .one (K1.join0 tab f a b)
  | .tup a, .tup b => .tup (zipWith2 (K1.join0 tab f) a b)
  | _, _ => .ck .any
def Kd.join (tab : Tab) (f : Nat) (a b : Kd) : Kd :=
  let j := Kd.join0 tab f a b
  if Kd.le tab f a j && Kd.le tab f b j then j else .ck .any
theorem Kd.join_l {c : Ctx} {tab : Tab} {f : Nat} {w : World} {v : Value} {a b : Kd} (ht : okTab tab = true) (h : a.den c tab w v) : (Kd.join tab f a b).den c tab w v := by
  unfold Kd.join
  simp only
  split
  · rename_i h1; simp only [Bool.and_eq_true] at h1; exact Kd.le_den ht h1.1 h
  · exact trivial
theorem Kd.join_r {c : Ctx} {tab : Tab} {f : Nat} {w : World} {v : Value} {a b : Kd} (ht : okTab tab = true) (h : b.den c tab w v) : (Kd.join tab f a b).den c tab w v := by
  unfold Kd.join
  simp only
  split
  · rename_i h1; simp only [Bool.and_eq_true] at h1; exact Kd.le_den ht h1.2 h
  · exact trivial

/-! ### The world -/
/-- The reader is not yet open (so many blocks have been made), or has drawn at most so often. -/
inductive Ph where
  | pre (na : Nat)
  | run (N : Nat)
  deriving DecidableEq
/-- How many blocks are made ahead of the reader; how often is drawn at most. -/
structure Lim where
  J : Nat
  lim : Nat
def PhW (c : Ctx) (J : Lim) : Ph → World → Prop
  | .pre na, w => c.N0 + J.lim ≤ 1000000000 ∧ w.heap.size = c.B + na ∧ na ≤ J.J ∧ c.br = c.B + J.J ∧ ∃ A l q, c.cv = .slice A (l : List Int).length q ∧ l.length ≤ q ∧ CodeR w c.cb A l
  | .run N, w => c.N0 + J.lim ≤ 1000000000 ∧ RdrT w c.br c.cb (c.N0 + N)
def Inv (c : Ctx) (w0 : World) (J : Lim) (ph : Ph) (w : World) : Prop := GrownP (fun k => k = c.br ∨ c.B ≤ k) w0 w ∧ c.B ≤ w.heap.size ∧ c.cb ≤ c.B ∧ PhW c J ph w
def Ph.alloc (J : Lim) : Ph → Option Ph
  | .pre na => if na < J.J then some (.pre (na + 1)) else Option.none
  | .run N => some (.run N)
def Ph.join : Ph → Ph → Option Ph
  | .pre a, .pre b => if a = b then some (.pre a) else Option.none
  | .run a, .run b => some (.run (max a b))
  | _, _ => Option.none
section
variable {c : Ctx} {w0 : World} {J : Lim} {ph ph' : Ph} {w w' : World} {tab : Tab} {S : Sto}
theorem Inv.join_l {a b : Ph} (h : Inv c w0 J a w) (e : Ph.join a b = some ph) : Inv c w0 J ph w := by
  obtain ⟨h1, h2, h3, h4⟩ := h
  refine ⟨h1, h2, h3, ?_⟩
  cases a <;> cases b <;> simp only [Ph.join, Option.ite_none_right_eq_some, Option.some.injEq, reduceCtorEq] at e
  · obtain ⟨rfl, rfl⟩ := e; exact h4
  · subst e; exact ⟨h4.1, RdrT.mono h4.2 (by omega)⟩
theorem Inv.join_r {a b : Ph} (h : Inv c w0 J b w) (e : Ph.join a b = some ph) : Inv c w0 J ph w := by
  obtain ⟨h1, h2, h3, h4⟩ := h
  refine ⟨h1, h2, h3, ?_⟩
  cases a <;> cases b <;> simp only [Ph.join, Option.ite_none_right_eq_some, Option.some.injEq, reduceCtorEq] at e
  · obtain ⟨rfl, rfl⟩ := e; exact h4
  · subst e; exact ⟨h4.1, RdrT.mono h4.2 (by omega)⟩
theorem Inv.grow {o : Obj} (h : Inv c w0 J ph w) (e : ph.alloc J = some ph') : Inv c w0 J ph' (w.alloc o) ∧ w.heap.size ≠ c.br := by
  obtain ⟨h1, h2, h3, h4⟩ := h
  have hb := below_alloc w o
  cases ph with
  | pre na =>
    simp only [Ph.alloc, Option.ite_none_right_eq_some, Option.some.injEq] at e
    obtain ⟨hlt, rfl⟩ := e
    obtain ⟨g0, g1, g2, g3, A, l, q, g4, g5, g6⟩ := h4
    exact ⟨⟨h1.step (grown_alloc_ _ _ Option.none) (fun k e => by cases e), Nat.le_trans h2 hb.size, h3, g0, by simp [g1]; omega, hlt, g3, A, l, q, g4, g5, g6.below hb⟩, by omega⟩
  | run N =>
    simp only [Ph.alloc, Option.some.injEq] at e
    subst e
    have := RdrT.lt h4.2
    exact ⟨⟨h1.step (grown_alloc_ _ _ Option.none) (fun k e => by cases e), Nat.le_trans h2 hb.size, h3, h4.1, h4.2.below hb⟩, by omega⟩
theorem Inv.cells {g : Nat} {row : Option Nat} (h : Inv c w0 J ph w) (hg : w.grownBy w' row) (hr : ∀ k, row = some k → c.B ≤ k ∧ k ≠ c.br) (hs : w'.heap.size = w.heap.size) : Inv c w0 J ph w' := by
  obtain ⟨h1, h2, h3, h4⟩ := h
  refine ⟨h1.step hg (fun k e => .inl (.inr (hr k e).1)), by omega, h3, ?_⟩
  cases ph with
  | pre na =>
    obtain ⟨g0, g1, g2, g3, A, l, q, g4, g5, g6⟩ := h4
    refine ⟨g0, by omega, g2, g3, A, l, q, g4, g5, g6.1, fun hn => ?_⟩
    obtain ⟨b, off, e, hb0, hc⟩ := g6.2 hn
    exact ⟨b, off, e, hb0, fun k hk => let ⟨u, hu, hcu⟩ := hc k hk; ⟨u, hu, hg.cell hcu (fun e => by have := (hr b e.symm).1; omega)⟩⟩
  | run N => exact ⟨h4.1, RdrT.grown h4.2 hg (fun k e => ⟨(hr k e).2, by have := (hr k e).1; omega⟩)⟩
theorem Inv.rows {N : Nat} {row : Option Nat} (h : Inv c w0 J (.run N) w) (hg : w.grownBy w' row) (hr : ∀ k, row = some k → c.B ≤ k ∧ k ≠ c.br) : Inv c w0 J (.run N) w' :=
  ⟨h.1.step hg (fun k e => .inl (.inr (hr k e).1)), Nat.le_trans h.2.1 hg.size, h.2.2.1, h.2.2.2.1, RdrT.grown h.2.2.2.2 hg (fun k e => ⟨(hr k e).2, by have := (hr k e).1; have := h.2.2.1; omega⟩)⟩
theorem Inv.call {N N' : Nat} (h : Inv c w0 J (.run N) w) (hg : w.grownBy w' (some c.br)) (hR : RdrT w' c.br c.cb (c.N0 + N')) : Inv c w0 J (.run N') w' :=
  ⟨h.1.step hg (fun k e => by cases e; exact .inl (.inl rfl)), Nat.le_trans h.2.1 hg.size, h.2.2.1, h.2.2.2.1, hR⟩
theorem rel_call (hg : w.grownBy w' (some c.br)) : Rel c tab S w w' := RelK.grown hg (fun k e => by cases e; exact .inl rfl)
end

/-! ### Operations -/
def LtLen (x s : Value) : Prop := ∃ (A : Option Addr) (n q : Nat) (m : Int), s = .slice A n q ∧ x = .int .i64 m ∧ 0 ≤ m ∧ m < n
def cmpOf : BinOp → Option (Int → Int → Bool)
  | .eql => some (fun a b => decide (a = b))
  | .neq => some (fun a b => !decide (a = b))
  | .lss => some (fun a b => decide (a < b))
  | .leq => some (fun a b => decide (a ≤ b))
  | .gtr => some (fun a b => decide (b < a))
  | .geq => some (fun a b => decide (b ≤ a))
  | _ => Option.none
/-- What is known of the value itself. -/
inductive Xp where
  | same (x : Operand)
  | cmp (b : BinOp) (x y : Operand)
  | len (x : Operand)
  | less (y : Operand)
  | sel (c x y : Operand)
  | neg (x : Operand)
  | no
def Xp.holds (ρ : Operand → Value) (v : Value) : Xp → Prop
  | .same x => v = ρ x
  | .cmp b x y => ∀ f, cmpOf b = some f → ∀ m n, ρ x = .int .i64 m → ρ y = .int .i64 n → v = .bool (f m n)
  | .len x => ∀ A n q, ρ x = .slice A n q → v = .int .i64 n
  | .less y => ∀ n, ρ y = .int .i64 n → ∃ x, v = .int .i64 x ∧ 0 ≤ x ∧ x < n
  | .sel c x y => ∀ b, ρ c = .bool b → v = if b then ρ x else ρ y
  | .neg x => ∀ b, ρ x = .bool b → v = .bool !b
  | .no => True
structure Cfg where
  P : Program
  tab : Tab
  S : Sto
  J : Lim
  c : Ctx
  w0 : World
/-- The operation makes a value of the kind k. -/
def OpS (G : Cfg) (o : Oper) (look : Nat → Kd) (lt : Nat → Nat → Bool) (ph : Ph) (k : Kd) (ph' : Ph) (x : Xp) : Prop :=
  ∀ (a : Act) (w : World) (K : Act → World → Prop) (Q : Exit → Act → World → Prop), Inv G.c G.w0 G.J ph w → (∀ s, (look s).den G.c G.tab w (a.eval (.tmp s))) → (∀ x s, lt x s = true → LtLen (a.eval (.tmp x)) (a.eval (.tmp s))) →
    (∀ v w', k.den G.c G.tab w' v → Rel G.c G.tab G.S w w' → Inv G.c G.w0 G.J ph' w' → x.holds a.eval v → K (a.put o.dst v) w') → o.wp G.P a w K Q
def constK : Value → CK
  | .int k n => .int k n n
  | .bool b => .bool (some b)
  | .string s => .str s.size
  | .slice Option.none 0 0 => .nil
  | _ => .any
def kop (look : Nat → Kd) : Operand → Kd
  | .tmp s => look s
  | .const v => .ck (constK v)
  | _ => .ck .any
theorem constK_den {c : Ctx} {tab : Tab} {w : World} (v : Value) : cden c tab (constK v) w v := by
  unfold constK
  split
  · exact ⟨_, rfl, Int.le_refl _, Int.le_refl _⟩
  · exact ⟨_, rfl, fun y h => by simpa using h⟩
  · exact ⟨_, rfl, Nat.le_refl _⟩
  · rfl
  · exact trivial
theorem kop_den {c : Ctx} {tab : Tab} {w : World} {look : Nat → Kd} {a : Act} (h : ∀ s, (look s).den c tab w (a.eval (.tmp s))) (x : Operand) : (kop look x).den c tab w (a.eval x) := by
  cases x with
  | tmp s => exact h s
  | const v => exact constK_den v
  | _ => exact trivial
section
variable {G : Cfg} {o : Oper} {look : Nat → Kd} {lt : Nat → Nat → Bool} {ph ph' : Ph} {k : Kd}
theorem op_val {P : Program} {o : Oper} {a : Act} {w w' : World} {K : Act → World → Prop} {Q : Exit → Act → World → Prop} {v : Value} (h : K (a.put o.dst v) w') (hr : (execOp a.eval o).run P w = .ok (.value v) w') : o.wp P a w K Q := by
  unfold Oper.wp; rw [hr]; exact h
theorem s_move {x : Operand} (ho : o.op = .move x ∨ o.op = .assign x) : OpS G o look lt ph (kop look x) ph (.same x) :=
  fun _ _ _ _ hI hl _ hK => op_move x ho (hK _ _ (kop_den hl x) (RelK.refl _) hI rfl)
/-- Two ways to say an integer's kind in the walk of an operation. -/
def i64lo : Int := -9223372036854775808
def i64hi : Int := 9223372036854775807
def intW (lo hi : Int) : CK := if i64lo ≤ lo ∧ hi ≤ i64hi then .int .i64 lo hi else .int .i64 i64lo i64hi
theorem wrap_range (n : Int) : i64lo ≤ IntKind.i64.wrap n ∧ IntKind.i64.wrap n ≤ i64hi := by
  simp only [IntKind.wrap_i64, i64lo, i64hi]; omega
theorem intW_den {c : Ctx} {tab : Tab} {w : World} {lo hi n : Int} (h1 : lo ≤ n) (h2 : n ≤ hi) : cden c tab (intW lo hi) w (.int .i64 (IntKind.i64.wrap n)) := by
  unfold intW
  split
  · rename_i h
    simp only [i64lo, i64hi] at h
    exact ⟨_, rfl, by rw [IntWalk.i64_in _ (by omega)]; exact h1, by rw [IntWalk.i64_in _ (by omega)]; exact h2⟩
  · exact ⟨_, rfl, (wrap_range n).1, (wrap_range n).2⟩
def cmpB (b : BinOp) (lo hi lo' hi' : Int) : Option Bool := match b with
  | .eql => if lo = hi ∧ lo' = hi' ∧ lo = lo' then some true else if hi < lo' ∨ hi' < lo then some false else Option.none
  | .neq => if lo = hi ∧ lo' = hi' ∧ lo = lo' then some false else if hi < lo' ∨ hi' < lo then some true else Option.none
  | .lss => if hi < lo' then some true else if hi' ≤ lo then some false else Option.none
  | .leq => if hi ≤ lo' then some true else if hi' < lo then some false else Option.none
  | .gtr => if hi' < lo then some true else if hi ≤ lo' then some false else Option.none
  | .geq => if hi' ≤ lo then some true else if hi < lo' then some false else Option.none
  | _ => Option.none
def absBin (b : BinOp) : Kd → Kd → Option CK
  | .one (.c (.int k lo hi)), .one (.c (.int k' lo' hi')) => if k = .i64 ∧ k' = .i64 then (match b with
    | .add => some (intW (lo + lo') (hi + hi'))
    | .sub => some (intW (lo - hi') (hi - lo'))
    | .mul => if 0 ≤ lo ∧ 0 ≤ lo' then some (intW (lo * lo') (hi * hi')) else Option.none
    | .quo => if lo' = hi' ∧ 0 < lo' ∧ 0 ≤ lo then some (intW (lo / lo') (hi / lo')) else Option.none
    | .rem => if lo' = hi' ∧ 0 < lo' ∧ 0 ≤ lo then some (.int .i64 0 (lo' - 1)) else Option.none
    | .eql | .neq | .lss | .leq | .gtr | .geq => some (.bool (cmpB b lo hi lo' hi'))
    | _ => Option.none) else Option.none
  | .one (.c (.intx k)), .one (.c (.int k' _ _)) => if k = .i64 ∧ k' = .i64 then (match b with
    | .add => some (.int .i64 i64lo i64hi)
    | _ => Option.none) else Option.none
  | .one (.c (.str m)), .one (.c (.str m')) => (match b with
    | .add => if m + m' ≤ 1000000000 then some (.str (m + m')) else Option.none
    | .eql | .neq => some (.bool Option.none)
    | _ => Option.none)
  | _, _ => Option.none
theorem cmpB_ok {b : BinOp} {f : Int → Int → Bool} (hf : cmpOf b = some f) {lo hi lo' hi' m n : Int} (h1 : lo ≤ m) (h2 : m ≤ hi) (h3 : lo' ≤ n) (h4 : n ≤ hi') : ∀ y, cmpB b lo hi lo' hi' = some y → f m n = y := by
  intro y hy
  cases b <;> simp only [cmpOf, Option.some.injEq, reduceCtorEq] at hf <;> subst hf <;> simp only [cmpB] at hy
  all_goals
    split at hy
    · simp only [Option.some.injEq] at hy
      subst hy
      simp <;> omega
    · split at hy
      · simp only [Option.some.injEq] at hy
        subst hy
        simp <;> omega
      · cases hy
theorem s_bin {b : BinOp} {xt yt : TypeId} {x y : Operand} {kc : CK} (ho : o.op = .binOp b xt x y yt) (hk : absBin b (kop look x) (kop look y) = some kc) : OpS G o look lt ph (.ck kc) ph (.cmp b x y) := by
  intro a w K Q hI hl _ hK
  have hx := kop_den hl x
  have hy := kop_den hl y
  unfold absBin at hk
  split at hk
  · rename_i k lo hi k' lo' hi' e1 e2
    rw [e1] at hx; rw [e2] at hy
    obtain ⟨m, ex, m1, m2⟩ := hx
    obtain ⟨n, ey, n1, n2⟩ := hy
    split at hk
    · rename_i hkk
      obtain ⟨rfl, rfl⟩ := hkk
      have hcmp : ∀ f, cmpOf b = some f → (o.wp G.P a w K Q) := fun f hf => by
        have hkc : kc = .bool (cmpB b lo hi lo' hi') := by
          cases b <;> simp only [cmpOf, reduceCtorEq] at hf <;> simpa using hk.symm
        have h2 := hK (.bool (f m n)) w (by rw [hkc]; exact ⟨_, rfl, cmpB_ok hf m1 m2 n1 n2⟩) (RelK.refl _) hI (by
          intro f' hf' m' n' em en
          rw [hf] at hf'; cases hf'
          rw [ex] at em; rw [ey] at en
          simp only [Value.int.injEq, true_and] at em en
          rw [em, en])
        refine op_val h2 ?_
        cases b <;> simp only [cmpOf, Option.some.injEq, reduceCtorEq] at hf <;> subst hf
        all_goals simp [execOp, ho, ex, ey, eqGuard, binOp, Op.intCmp, bne, Bool.beq_eq_decide_eq]
      have hint : ∀ q : Int, cden G.c G.tab kc w (.int .i64 q) → (∀ b', cmpOf b = some b' → False) → K (a.put o.dst (.int .i64 q)) w := fun q hq hn => hK _ _ hq (RelK.refl _) hI (fun f hf => (hn f hf).elim)
      cases b <;> simp only [Option.some.injEq, Option.ite_none_right_eq_some, reduceCtorEq] at hk
      case add =>
        subst hk
        have := hint _ (intW_den (by omega) (by omega : m + n ≤ _)) (fun _ h => by simp [cmpOf] at h)
        refine op_val this ?_
        simp [execOp, ho, ex, ey, eqGuard, binOp, Op.intArith]
      case sub =>
        subst hk
        have := hint _ (intW_den (by omega) (by omega : m - n ≤ _)) (fun _ h => by simp [cmpOf] at h)
        refine op_val this ?_
        simp [execOp, ho, ex, ey, eqGuard, binOp, Op.intArith]
      case mul =>
        obtain ⟨⟨p1, p2⟩, rfl⟩ := hk
        have := hint _ (intW_den (Int.mul_le_mul m1 n1 p2 (by omega)) (Int.mul_le_mul m2 n2 (by omega) (by omega))) (fun _ h => by simp [cmpOf] at h)
        refine op_val this ?_
        simp [execOp, ho, ex, ey, eqGuard, binOp, Op.intArith]
      case quo =>
        obtain ⟨⟨rfl, p2, p3⟩, rfl⟩ := hk
        obtain rfl : n = lo' := by omega
        have := hint _ (intW_den (n := m / n) (Int.ediv_le_ediv p2 m1) (Int.ediv_le_ediv p2 m2)) (fun _ h => by simp [cmpOf] at h)
        have hne : ¬ n = 0 := by omega
        rw [← Int.tdiv_eq_ediv_of_nonneg (by omega)] at this
        refine op_val this ?_
        simp [execOp, ho, ex, ey, eqGuard, binOp, Op.intDiv, hne]
      case rem =>
        obtain ⟨⟨rfl, p2, p3⟩, rfl⟩ := hk
        obtain rfl : n = lo' := by omega
        have := hint (m % n) ⟨_, rfl, Int.emod_nonneg _ (by omega), by have := Int.emod_lt_of_pos m p2; omega⟩ (fun _ h => by simp [cmpOf] at h)
        have hne : ¬ n = 0 := by omega
        rw [← Int.tmod_eq_emod_of_nonneg (by omega)] at this
        refine op_val this ?_
        simp [execOp, ho, ex, ey, eqGuard, binOp, Op.intDiv, hne]
      all_goals exact hcmp _ rfl
    · cases hk
  · rename_i k k' lo' hi' e1 e2
    rw [e1] at hx; rw [e2] at hy
    obtain ⟨m, ex⟩ := hx
    obtain ⟨n, ey, n1, n2⟩ := hy
    split at hk
    · rename_i hkk
      obtain ⟨rfl, rfl⟩ := hkk
      cases b <;> simp only [Option.some.injEq, reduceCtorEq] at hk
      subst hk
      refine op_val (v := .int .i64 (IntKind.i64.wrap (m + n))) (hK _ _ ⟨_, rfl, (wrap_range _).1, (wrap_range _).2⟩ (RelK.refl _) hI (fun f hf => by simp [cmpOf] at hf)) ?_
      simp [execOp, ho, ex, ey, eqGuard, binOp, Op.intArith]
    · cases hk
  · rename_i m m' e1 e2
    rw [e1] at hx; rw [e2] at hy
    obtain ⟨s, ex, hs⟩ := hx
    obtain ⟨t, ey, hs2⟩ := hy
    have hnc : (Xp.cmp b x y).holds a.eval = fun v => ∀ f, cmpOf b = some f → ∀ m n, a.eval x = .int .i64 m → a.eval y = .int .i64 n → v = .bool (f m n) := rfl
    have hno : ∀ v, (Xp.cmp b x y).holds a.eval v := fun v f _ m n em => by rw [ex] at em; cases em
    cases b <;> simp only [Option.some.injEq, Option.ite_none_right_eq_some, reduceCtorEq] at hk
    case add =>
      obtain ⟨p1, rfl⟩ := hk
      have := hK (.string (s ++ t)) w ⟨_, rfl, by simp [ByteArray.size_append]; omega⟩ (RelK.refl _) hI (hno _)
      have hle : ¬ ((s.size + t.size : Nat) : Int) > IntKind.i64.max := by
        have : IntKind.i64.max = 9223372036854775807 := by decide
        omega
      refine op_val this ?_
      simp only [execOp, ho, ex, ey, eqGuard, binOp, Op.stringOp, if_neg hle]
      simp
    case eql =>
      subst hk
      refine op_val (v := .bool (s.toList == t.toList)) (hK _ _ ⟨_, rfl, fun y h => by cases h⟩ (RelK.refl _) hI (hno _)) ?_
      simp [execOp, ho, ex, ey, eqGuard, binOp, Op.stringOp]
    case neq =>
      subst hk
      refine op_val (v := .bool !(s.toList == t.toList)) (hK _ _ ⟨_, rfl, fun y h => by cases h⟩ (RelK.refl _) hI (hno _)) ?_
      simp [execOp, ho, ex, ey, eqGuard, binOp, Op.stringOp]
  · cases hk
def absNot : Kd → Option CK
  | .one (.c (.bool b)) => some (.bool (b.map fun x => !x))
  | _ => Option.none
theorem s_not {t : TypeId} {x : Operand} {kc : CK} (ho : o.op = .unOp .not t x) (hk : absNot (kop look x) = some kc) : OpS G o look lt ph (.ck kc) ph (.neg x) := by
  intro a w K Q hI hl _ hK
  have hx := kop_den hl x
  unfold absNot at hk
  split at hk
  · rename_i b e1
    rw [e1] at hx
    obtain ⟨m, ex, m1⟩ := hx
    simp only [Option.some.injEq] at hk
    subst hk
    have := hK (.bool (!m)) w ⟨_, rfl, fun y hy => by
      obtain ⟨z, hz, rfl⟩ := Option.map_eq_some_iff.1 hy
      rw [m1 z hz]⟩ (RelK.refl _) hI (fun b hb => by rw [ex] at hb; cases hb; rfl)
    refine op_val this ?_
    simp [execOp, ho, ex, Op.unary]
  · cases hk
def absPick (tab : Tab) (f : Nat) (kc kx ky : Kd) : Option Kd := match kc with
  | .one (.c (.bool (some true))) => some kx
  | .one (.c (.bool (some false))) => some ky
  | .one (.c (.bool Option.none)) => some (Kd.join tab f kx ky)
  | _ => Option.none
theorem s_pick (ht : okTab G.tab = true) {f : Nat} {c x y : Operand} (ho : o.op = .pick c x y) (hk : absPick G.tab f (kop look c) (kop look x) (kop look y) = some k) : OpS G o look lt ph k ph (.sel c x y) := by
  intro a w K Q hI hl _ hK
  have hc := kop_den hl c
  have hx := kop_den hl x
  have hy := kop_den hl y
  have fin : ∀ b, a.eval c = .bool b → k.den G.c G.tab w (if b then a.eval x else a.eval y) → o.wp G.P a w K Q := fun b eb hd => by
    have := hK _ _ hd (RelK.refl _) hI (fun b' hb' => by rw [eb] at hb'; cases hb'; rfl)
    refine op_val this ?_
    cases b <;> simp [execOp, ho, eb, asBool]
  unfold absPick at hk
  split at hk <;> try (cases hk; done)
  · rename_i e; rw [e] at hc; obtain ⟨b, eb, hb⟩ := hc; obtain rfl := hb _ rfl; cases hk; exact fin _ eb (by simpa using hx)
  · rename_i e; rw [e] at hc; obtain ⟨b, eb, hb⟩ := hc; obtain rfl := hb _ rfl; cases hk; exact fin _ eb (by simpa using hy)
  · rename_i e; rw [e] at hc; obtain ⟨b, eb, hb⟩ := hc; cases hk
    refine fin _ eb ?_
    cases b
    · exact Kd.join_r ht (by simpa using hy)
    · exact Kd.join_l ht (by simpa using hx)
def absExtract (n : Nat) : Kd → Option Kd
  | .tup ks => (ks[n]?).map .one
  | _ => Option.none
theorem RowK.get {α : Type} {D : α → VK} {w : World} : ∀ {ks : List α} {cs : List Value} {n : Nat} {k : α}, RowK (ks.map D) w cs → ks[n]? = some k → ∃ u, cs[n]? = some u ∧ D k w u
  | [], _, n, k, _, h => by simp at h
  | k0 :: ks, cs, n, k, ⟨u, r, e, h1, h2⟩, h => by
    subst e
    cases n with
    | zero => simp at h; subst h; exact ⟨u, rfl, h1⟩
    | succ n =>
      obtain ⟨u', hu', hd'⟩ := RowK.get (ks := ks) (n := n) (k := k) h2 (by simpa using h)
      exact ⟨u', by simpa using hu', hd'⟩
theorem s_extract {n : Nat} {x : Operand} (ho : o.op = .extract x n) (hk : absExtract n (kop look x) = some k) : OpS G o look lt ph k ph .no := by
  intro a w K Q hI hl _ hK
  have hx := kop_den hl x
  unfold absExtract at hk
  split at hk
  · rename_i ks e
    rw [e] at hx
    obtain ⟨k1, h1, rfl⟩ := Option.map_eq_some_iff.1 hk
    obtain ⟨cs, ex, hr⟩ := hx
    obtain ⟨u, hu, hd⟩ := RowK.get hr h1
    have := hK u w hd (RelK.refl _) hI trivial
    refine op_val this ?_
    simp [execOp, ho, ex, Instr.extract, hu]
  · cases hk
end
end Go.Proofs.YtodjokdaofefdaaGreat

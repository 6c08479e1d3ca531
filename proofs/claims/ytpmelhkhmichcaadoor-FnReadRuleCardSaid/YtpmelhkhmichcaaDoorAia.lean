/- Kinds of values, written down: what they mean, which are within which, how they meet, and that they stay. -/
import Derived.Test.YtpmelhkhmichcaaDoorTys
import Derived.Tactics
namespace Go.Proofs.YtpmelhkhmichcaaDoor
set_option linter.unusedSimpArgs false
set_option linter.unusedVariables false
open Go.RowKit

/-- A kind of one cell. sl i lo hi: a slice of elements of shape i; ptr i off: a pointer into an element of shape i. -/
inductive CK where
  | any | rdr | code | nil
  | int (k : IntKind) (lo hi : Int)
  | intx (k : IntKind)
  | bool (b : Option Bool)
  | str (m : Nat)
  | sl (i lo hi : Nat)
  | sl0 (lo hi : Nat)
  | ptr (i off : Nat)
  deriving DecidableEq
/-- Shapes of elements: the type, the cells' kinds; a shape speaks of those behind it alone. The number of a shape is how many stand behind it. -/
abbrev Tab := List (TypeId × List CK)
structure Ctx where
  B : Nat
  br : Nat
  cb : Nat
  cv : Value
  N0 : Nat
def CK.den (c : Ctx) (tb : Nat → TypeId × List VK) : CK → VK
  | .any => fun _ _ => True
  | .rdr => fun _ v => v = .pointer (some ⟨c.br, 0, Option.none⟩)
  | .code => fun _ v => v = c.cv
  | .nil => fun _ v => v = .slice Option.none 0 0
  | .int k lo hi => fun _ v => ∃ n : Int, v = .int k n ∧ lo ≤ n ∧ n ≤ hi
  | .intx k => fun _ v => ∃ n : Int, v = .int k n
  | .bool b => fun _ v => ∃ x, v = .bool x ∧ ∀ y, b = some y → x = y
  | .str m => fun _ v => ∃ s : ByteArray, v = .string s ∧ s.size ≤ m
  | .sl i lo hi => fun w v => SlK c.B c.br (tb i).1 (tb i).2 hi w v ∧ ∃ A n q, v = .slice A n q ∧ lo ≤ n
  | .sl0 lo hi => fun _ v => ∃ A n q, v = .slice A n q ∧ lo ≤ n ∧ n ≤ hi
  | .ptr i off => fun w v => ∃ g q, v = .pointer (some ⟨g, q * (tb i).2.length + off, Option.none⟩) ∧ BlkK c.B c.br (tb i).1 (tb i).2 (q + 1) (q + 1) w g
def tabOf (c : Ctx) : Tab → Nat → TypeId × List VK
  | [], _ => (0, [])
  | (T, ks) :: r, i => if i = r.length then (T, ks.map (CK.den c (tabOf c r))) else tabOf c r i
def shp : Tab → Nat → TypeId × List CK
  | [], _ => (0, [])
  | (T, ks) :: r, i => if i = r.length then (T, ks) else shp r i
def CK.below (n : Nat) : CK → Bool
  | .sl i _ _ => decide (i < n)
  | .ptr i _ => decide (i < n)
  | _ => true
def okTab : Tab → Bool
  | [] => true
  | (_, ks) :: r => ks.all (CK.below r.length) && okTab r
theorem tabOf_cons {c : Ctx} {x : TypeId × List CK} {r : Tab} {i : Nat} (h : i < r.length) : tabOf c (x :: r) i = tabOf c r i := by
  obtain ⟨T, ks⟩ := x
  rw [tabOf, if_neg (by omega)]
theorem den_cons {c : Ctx} {x : TypeId × List CK} {r : Tab} {k : CK} (h : k.below r.length = true) : k.den c (tabOf c (x :: r)) = k.den c (tabOf c r) := by
  cases k <;> simp only [CK.below, decide_eq_true_eq] at h <;> simp only [CK.den, tabOf_cons, h]
theorem tab_den {c : Ctx} : ∀ {tab : Tab}, okTab tab = true → ∀ i, tabOf c tab i = ((shp tab i).1, (shp tab i).2.map (CK.den c (tabOf c tab))) ∧ ∀ k ∈ (shp tab i).2, k.below tab.length = true
  | [], _, i => by simp [tabOf, shp]
  | (T, ks) :: r, h, i => by
    simp only [okTab, Bool.and_eq_true, List.all_eq_true] at h
    have hb : ∀ k : CK, k.below r.length = true → k.below (r.length + 1) = true := fun k hk => by
      cases k <;> simp_all [CK.below] <;> omega
    by_cases e : i = r.length
    · subst e
      refine ⟨?_, fun k hk => hb k (h.1 k (by simpa [shp] using hk))⟩
      rw [tabOf, if_pos rfl, shp, if_pos rfl]
      refine Prod.ext rfl (List.map_congr_left fun k hk => (den_cons (x := (T, ks)) (h.1 k hk)).symm)
    · have ih := tab_den (c := c) h.2 i
      refine ⟨?_, fun k hk => hb k (ih.2 k (by simpa [shp, e] using hk))⟩
      rw [tabOf, if_neg e, shp, if_neg e, ih.1]
      refine Prod.ext rfl (List.map_congr_left fun k hk => (den_cons (x := (T, ks)) (ih.2 k hk)).symm)

/-! ### What stays -/
/-- The types whose cells are written, each with its shape. -/
abbrev Sto := List (TypeId × Nat)
def sto (S : Sto) (T : TypeId) : Bool := (S.lookup T).isSome
def stoShape (c : Ctx) (tab : Tab) (S : Sto) (T : TypeId) : List VK := match S.lookup T with | some i => (tabOf c tab i).2 | Option.none => []
def okSto (tab : Tab) (S : Sto) : Bool := (List.range tab.length).all (fun i => match S.lookup (shp tab i).1 with | some j => j == i | Option.none => true) && (S.lookup 0).isNone
abbrev Rel (c : Ctx) (tab : Tab) (S : Sto) (w w' : World) : Prop := RelK c.B c.br (sto S) (stoShape c tab S) w w'
abbrev Stab (c : Ctx) (tab : Tab) (S : Sto) (k : VK) : Prop := StabK c.B c.br (sto S) (stoShape c tab S) k
theorem tabOf_ge {c : Ctx} : ∀ {tab : Tab} {i : Nat}, tab.length ≤ i → tabOf c tab i = (0, [])
  | [], _, _ => rfl
  | (T, ks) :: r, i, h => by
    simp only [List.length_cons] at h
    rw [tabOf, if_neg (by omega), tabOf_ge (by omega)]
section
variable {c : Ctx} {tab : Tab} {S : Sto}
theorem sto_shape (ht : okTab tab = true) (hS : okSto tab S = true) (i : Nat) (h : sto S (tabOf c tab i).1 = true) : stoShape c tab S (tabOf c tab i).1 = (tabOf c tab i).2 := by
  simp only [okSto, Bool.and_eq_true, List.all_eq_true, List.mem_range] at hS
  have e := (tab_den (c := c) ht i).1
  by_cases hi : i < tab.length
  · have h1 := hS.1 i hi
    rw [show (shp tab i).1 = (tabOf c tab i).1 by rw [e]] at h1
    unfold sto at h
    unfold stoShape
    cases hl : S.lookup (tabOf c tab i).1 with
    | none => simp [hl] at h
    | some j =>
      simp only [hl, beq_iff_eq] at h1
      subst h1
      rfl
  · rw [tabOf_ge (by omega)] at h ⊢
    unfold sto at h
    have := hS.2
    simp only [Option.isNone_iff_eq_none] at this
    simp [this] at h
theorem den_stab (ht : okTab tab = true) (hS : okSto tab S = true) : ∀ k : CK, Stab c tab S (k.den c (tabOf c tab)) := by
  have key : ∀ n i, i < n → ∀ k ∈ (tabOf c tab i).2, Stab c tab S k := by
    intro n
    induction n with
    | zero => intro i hi; omega
    | succ n ih =>
      intro i hi k hk
      rw [(tab_den (c := c) ht i).1] at hk
      obtain ⟨k0, hk0, rfl⟩ := List.mem_map.1 hk
      by_cases hil : i < tab.length
      · -- the cells of a shape speak of smaller ones
        have hsm : ∀ (tab' : Tab) (i : Nat), okTab tab' = true → ∀ k0 ∈ (shp tab' i).2, k0.below i = true := by
          intro tab'
          induction tab' with
          | nil => intro i _ k0 h; simp [shp] at h
          | cons x r ihr =>
            intro i ho k0 h
            obtain ⟨T, ks⟩ := x
            simp only [okTab, Bool.and_eq_true, List.all_eq_true] at ho
            rw [shp] at h
            split at h
            · rename_i e; subst e; exact ho.1 k0 h
            · exact ihr i ho.2 k0 h
        have hb := hsm tab i ht k0 hk0
        cases k0 with
        | sl j lo hi' =>
          have hj : j < i := by simpa [CK.below] using hb
          rintro w w' v hr ⟨h1, h2⟩
          exact ⟨stab_sl (ih j (by omega)) (fun hT => sto_shape ht hS j hT) w w' v hr h1, h2⟩
        | ptr j off =>
          have hj : j < i := by simpa [CK.below] using hb
          rintro w w' v hr ⟨g, q, h1, h2⟩
          exact ⟨g, q, h1, h2.rel (ih j (by omega)) (fun hT => sto_shape ht hS j hT) hr⟩
        | _ => exact fun w w' v _ h => h
      · have e := tabOf_ge (c := c) (tab := tab) (i := i) (by omega)
        rw [(tab_den (c := c) ht i).1] at e
        simp only [Prod.mk.injEq, List.map_eq_nil_iff] at e
        rw [e.2] at hk0
        simp at hk0
  intro k
  cases k with
  | sl j lo hi' =>
    rintro w w' v hr ⟨h1, h2⟩
    exact ⟨stab_sl (key (j + 1) j (by omega)) (fun hT => sto_shape ht hS j hT) w w' v hr h1, h2⟩
  | ptr j off =>
    rintro w w' v hr ⟨g, q, h1, h2⟩
    exact ⟨g, q, h1, h2.rel (key (j + 1) j (by omega)) (fun hT => sto_shape ht hS j hT) hr⟩
  | _ => exact fun w w' v _ h => h
theorem shape_stab (ht : okTab tab = true) (hS : okSto tab S = true) (i : Nat) : ∀ k ∈ (tabOf c tab i).2, Stab c tab S k := by
  intro k hk
  rw [(tab_den (c := c) ht i).1] at hk
  obtain ⟨k0, _, rfl⟩ := List.mem_map.1 hk
  exact den_stab ht hS k0

/-! ### Which are within which -/
def all2 {α : Type} (f : α → α → Bool) : List α → List α → Bool
  | [], [] => true
  | x :: l, y :: r => f x y && all2 f l r
  | _, _ => false
theorem all2_at {α : Type} {f : α → α → Bool} : ∀ {l r : List α}, all2 f l r = true → l.length = r.length ∧ ∀ (j : Nat) x y, l[j]? = some x → r[j]? = some y → f x y = true
  | [], [], _ => ⟨rfl, fun j x y h => by simp at h⟩
  | x :: l, y :: r, h => by
    simp only [all2, Bool.and_eq_true] at h
    obtain ⟨h1, h2⟩ := all2_at h.2
    refine ⟨by simp [h1], fun j a b ha hb => ?_⟩
    cases j with
    | zero => simp at ha hb; subst ha; subst hb; exact h.1
    | succ j => exact h2 j a b (by simpa using ha) (by simpa using hb)
  | [], _ :: _, h => by simp [all2] at h
  | _ :: _, [], h => by simp [all2] at h
def CK.le (tab : Tab) : Nat → CK → CK → Bool
  | _, _, .any => true
  | _, .rdr, .rdr => true
  | _, .code, .code => true
  | _, .nil, .nil => true
  | _, .nil, .sl _ lo _ => lo == 0
  | _, .nil, .sl0 lo _ => lo == 0
  | _, .int k lo hi, .int k' lo' hi' => decide (k = k') && decide (lo' ≤ lo) && decide (hi ≤ hi')
  | _, .int k _ _, .intx k' => decide (k = k')
  | _, .intx k, .intx k' => decide (k = k')
  | _, .bool b, .bool b' => b'.isNone || decide (b = b')
  | _, .str m, .str m' => decide (m ≤ m')
  | 0, .sl i lo hi, .sl j lo' hi' => decide (i = j) && decide (lo' ≤ lo) && decide (hi ≤ hi')
  | f + 1, .sl i lo hi, .sl j lo' hi' => decide (lo' ≤ lo) && decide (hi ≤ hi') && (decide (i = j) || ((shp tab i).1 == (shp tab j).1 && all2 (CK.le tab f) (shp tab i).2 (shp tab j).2))
  | _, .sl _ lo hi, .sl0 lo' hi' => decide (lo' ≤ lo) && decide (hi ≤ hi')
  | _, .sl0 lo hi, .sl0 lo' hi' => decide (lo' ≤ lo) && decide (hi ≤ hi')
  | _, .ptr i off, .ptr j off' => decide (i = j) && decide (off = off')
  | _, _, _ => false
theorem BlkK.weaken {B br t m : Nat} {e : TypeId} {ks ks' : List VK} {w : World} {g : Nat} (hl : ks.length = ks'.length) (h : ∀ (f : Nat) k k', ks[f]? = some k → ks'[f]? = some k' → ∀ u, k w u → k' w u) (hb : BlkK B br e ks t m w g) : BlkK B br e ks' t m w g := by
  obtain ⟨h1, h2, cs, h3, h4, h5⟩ := hb
  refine ⟨h1, h2, cs, h3, by rw [← hl]; exact h4, fun q f k u hq hk hu => ?_⟩
  have hf : f < ks.length := by rw [hl]; exact (List.getElem?_eq_some_iff.1 hk).1
  exact h f ks[f] k (List.getElem?_eq_getElem hf) hk u (h5 q f ks[f] u hq (List.getElem?_eq_getElem hf) (by rw [hl]; exact hu))
theorem SlK.weaken {B br m : Nat} {e : TypeId} {ks ks' : List VK} {w : World} {v : Value} (hl : ks.length = ks'.length) (h : ∀ (f : Nat) k k', ks[f]? = some k → ks'[f]? = some k' → ∀ u, k w u → k' w u) (hb : SlK B br e ks m w v) : SlK B br e ks' m w v := by
  rcases hb with rfl | ⟨g, o, n, q, rfl, h1, h2, h3, h4⟩
  · exact .inl rfl
  · exact .inr ⟨g, o, n, q, by rw [hl], h1, h2, h3, h4.weaken hl h⟩
theorem le_den (ht : okTab tab = true) {w : World} : ∀ (f : Nat) (a b : CK), CK.le tab f a b = true → ∀ v, a.den c (tabOf c tab) w v → b.den c (tabOf c tab) w v := by
  have hsl : ∀ i j lo hi lo' hi' v, lo' ≤ lo → hi ≤ hi' → (∀ v, SlK c.B c.br (tabOf c tab i).1 (tabOf c tab i).2 hi w v → SlK c.B c.br (tabOf c tab j).1 (tabOf c tab j).2 hi w v) → (CK.sl i lo hi).den c (tabOf c tab) w v → (CK.sl j lo' hi').den c (tabOf c tab) w v := by
    rintro i j lo hi lo' hi' v h1 h2 h3 ⟨h4, A, n, q, rfl, h5⟩
    exact ⟨(h3 _ h4).mono h2, A, n, q, rfl, by omega⟩
  have hsl0 : ∀ i lo hi lo' hi' v, lo' ≤ lo → hi ≤ hi' → (CK.sl i lo hi).den c (tabOf c tab) w v → (CK.sl0 lo' hi').den c (tabOf c tab) w v := by
    rintro i lo hi lo' hi' v h1 h2 ⟨h4, A, n, q, rfl, h5⟩
    refine ⟨A, n, q, rfl, by omega, ?_⟩
    obtain ⟨A', n', q', h6, h7, _⟩ := h4.shape
    simp only [Value.slice.injEq] at h6
    obtain ⟨_, rfl, _⟩ := h6
    omega
  intro f
  induction f with
  | zero =>
    intro a b h v hv
    cases a <;> cases b <;> simp only [CK.le, Bool.and_eq_true, Bool.or_eq_true, decide_eq_true_eq, beq_iff_eq, Bool.false_eq_true, Option.isNone_iff_eq_none] at h
    all_goals first
      | exact trivial
      | exact hv
      | (obtain ⟨⟨rfl, h1⟩, h2⟩ := h; obtain ⟨n, rfl, h3, h4⟩ := hv; exact ⟨n, rfl, by omega, by omega⟩)
      | (obtain rfl := h; obtain ⟨n, rfl, h3, h4⟩ := hv; exact ⟨n, rfl⟩)
      | (obtain rfl := h; obtain ⟨n, rfl⟩ := hv; exact ⟨n, rfl⟩)
      | (obtain ⟨x, rfl, h3⟩ := hv; refine ⟨x, rfl, fun y hy => ?_⟩; rcases h with rfl | rfl; exact absurd hy (by simp); exact h3 y hy)
      | (obtain ⟨s, rfl, h3⟩ := hv; exact ⟨s, rfl, by omega⟩)
      | (obtain ⟨⟨rfl, h1⟩, h2⟩ := h; exact hsl _ _ _ _ _ _ _ h1 h2 (fun _ h => h) hv)
      | (obtain ⟨rfl, rfl⟩ := h; exact hv)
      | (exact hsl0 _ _ _ _ _ _ h.1 h.2 hv)
      | (obtain ⟨A, n, q, rfl, h3, h4⟩ := hv; exact ⟨A, n, q, rfl, by omega, by omega⟩)
      | (subst h; obtain rfl := hv; exact ⟨SlK.nil, _, _, _, rfl, Nat.zero_le _⟩)
      | (subst h; obtain rfl := hv; exact ⟨_, _, _, rfl, Nat.zero_le _, Nat.zero_le _⟩)
  | succ f ih =>
    have hsh : ∀ i j hi, (i = j ∨ (shp tab i).1 = (shp tab j).1 ∧ all2 (CK.le tab f) (shp tab i).2 (shp tab j).2 = true) → ∀ v, SlK c.B c.br (tabOf c tab i).1 (tabOf c tab i).2 hi w v → SlK c.B c.br (tabOf c tab j).1 (tabOf c tab j).2 hi w v := by
      intro i j hi h3 v hv
      rcases h3 with rfl | ⟨h3, h4⟩
      · exact hv
      · obtain ⟨h5, h6⟩ := all2_at h4
        rw [(tab_den (c := c) ht i).1] at hv
        rw [(tab_den (c := c) ht j).1]
        simp only at hv ⊢
        rw [← h3]
        refine hv.weaken (by simpa using h5) (fun f' k k' hk hk' u hu => ?_)
        rw [List.getElem?_map] at hk hk'
        obtain ⟨k1, e1, rfl⟩ := Option.map_eq_some_iff.1 hk
        obtain ⟨k2, e2, rfl⟩ := Option.map_eq_some_iff.1 hk'
        exact ih _ _ (h6 f' k1 k2 e1 e2) u hu
    intro a b h v hv
    cases a <;> cases b <;> simp only [CK.le, Bool.and_eq_true, Bool.or_eq_true, decide_eq_true_eq, beq_iff_eq, Bool.false_eq_true, Option.isNone_iff_eq_none] at h
    all_goals first
      | exact trivial
      | exact hv
      | (obtain ⟨⟨rfl, h1⟩, h2⟩ := h; obtain ⟨n, rfl, h3, h4⟩ := hv; exact ⟨n, rfl, by omega, by omega⟩)
      | (obtain rfl := h; obtain ⟨n, rfl, h3, h4⟩ := hv; exact ⟨n, rfl⟩)
      | (obtain rfl := h; obtain ⟨n, rfl⟩ := hv; exact ⟨n, rfl⟩)
      | (obtain ⟨x, rfl, h3⟩ := hv; refine ⟨x, rfl, fun y hy => ?_⟩; rcases h with rfl | rfl; exact absurd hy (by simp); exact h3 y hy)
      | (obtain ⟨s, rfl, h3⟩ := hv; exact ⟨s, rfl, by omega⟩)
      | exact hsl _ _ _ _ _ _ _ h.1.1 h.1.2 (hsh _ _ _ h.2) hv
      | (obtain ⟨rfl, rfl⟩ := h; exact hv)
      | (exact hsl0 _ _ _ _ _ _ h.1 h.2 hv)
      | (obtain ⟨A, n, q, rfl, h3, h4⟩ := hv; exact ⟨A, n, q, rfl, by omega, by omega⟩)
      | (obtain rfl := h; obtain rfl := hv; exact ⟨SlK.nil, _, _, _, rfl, Nat.zero_le _⟩)
      | (subst h; obtain rfl := hv; exact ⟨_, _, _, rfl, Nat.zero_le _, Nat.zero_le _⟩)
end
end Go.Proofs.YtpmelhkhmichcaaDoor

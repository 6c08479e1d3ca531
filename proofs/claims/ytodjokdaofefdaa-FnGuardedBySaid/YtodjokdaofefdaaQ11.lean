/- What is known at a point of a walk: kinds of slots, facts on slots; regions in their own order. -/
import Derived.Test.YtodjokdaofefdaaQ10
import Derived.LoopN
namespace Go.Proofs.Ytodjokdaofefdaa
set_option linter.unusedSimpArgs false
set_option linter.unusedVariables false
open Go.RowKit

inductive Fact where
  | same (x y : Nat)
  | cmp (d : Nat) (b : BinOp) (x : Nat) (y : Nat ⊕ Int)
  | len (x s : Nat)
  | less (x s : Nat)
  | neg (d x : Nat)
  deriving DecidableEq
def opdIs (ρ : Nat → Value) (n : Int) : Nat ⊕ Int → Prop
  | .inl s => ρ s = .int .i64 n
  | .inr q => n = q
def Fact.holds (ρ : Nat → Value) : Fact → Prop
  | .same x y => ρ x = ρ y
  | .cmp d b x y => ∀ f, cmpOf b = some f → ∀ m n, ρ x = .int .i64 m → opdIs ρ n y → ρ d = .bool (f m n)
  | .len x s => ∃ A n q, ρ s = .slice A n q ∧ ρ x = .int .i64 (n : Nat)
  | .less x s => LtLen (ρ x) (ρ s)
  | .neg d x => ∃ b, ρ x = .bool b ∧ ρ d = .bool !b
/-- The fact does not speak of the slot. -/
def Fact.free (d : Nat) : Fact → Bool
  | .same x y => x != d && y != d
  | .cmp c _ x y => c != d && x != d && (match y with | .inl s => s != d | .inr _ => true)
  | .len x s => x != d && s != d
  | .less x s => x != d && s != d
  | .neg c x => c != d && x != d
/-- A fact on the slot in terms of others. -/
def Fact.head (d : Nat) : Fact → Bool
  | .same x y => x == d && y != d
  | .cmp c _ x y => c == d && x != d && (match y with | .inl s => s != d | .inr _ => true)
  | .len x s => x == d && s != d
  | .less x s => x == d && s != d
  | .neg c x => c == d && x != d
theorem Fact.free_ok {ρ ρ' : Nat → Value} {d : Nat} (h : ∀ s, s ≠ d → ρ' s = ρ s) : ∀ {f : Fact}, f.free d = true → f.holds ρ → f.holds ρ'
  | .same x y, hf, hh => by
    simp only [Fact.free, Bool.and_eq_true, bne_iff_ne] at hf
    simp only [Fact.holds, h x hf.1, h y hf.2]; exact hh
  | .cmp c b x y, hf, hh => by
    simp only [Fact.free, Bool.and_eq_true, bne_iff_ne] at hf
    intro f hf' m n hm hn
    rw [h c hf.1.1]
    rw [h x hf.1.2] at hm
    refine hh f hf' m n hm ?_
    cases y with
    | inl s => have : s ≠ d := by simpa using hf.2
               simpa [opdIs, h s this] using hn
    | inr q => exact hn
  | .len x s, hf, hh => by
    simp only [Fact.free, Bool.and_eq_true, bne_iff_ne] at hf
    simp only [Fact.holds, h x hf.1, h s hf.2]; exact hh
  | .less x s, hf, hh => by
    simp only [Fact.free, Bool.and_eq_true, bne_iff_ne] at hf
    simp only [Fact.holds, h x hf.1, h s hf.2]; exact hh
  | .neg c x, hf, hh => by
    simp only [Fact.free, Bool.and_eq_true, bne_iff_ne] at hf
    simp only [Fact.holds, h c hf.1, h x hf.2]; exact hh
structure St where
  env : List (Nat × Kd)
  facts : List Fact
  ph : Ph
def St.look (A : St) (s : Nat) : Kd := (A.env.lookup s).getD (.ck .any)
def rootIn : List Fact → Nat → Nat
  | [], x => x
  | .same a b :: l, x => if a = x then b else rootIn l x
  | _ :: l, x => rootIn l x
def St.root (A : St) (x : Nat) : Nat := rootIn A.facts x
def hasLess : List Fact → Nat → Nat → Bool
  | [], _, _ => false
  | .less a b :: l, x, s => (a == x && b == s) || hasLess l x s
  | _ :: l, x, s => hasLess l x s
def St.lt (A : St) (x s : Nat) : Bool := hasLess A.facts (A.root x) (A.root s)
theorem root_ok {ρ : Nat → Value} : ∀ {l : List Fact}, (∀ f ∈ l, f.holds ρ) → ∀ x, ρ (rootIn l x) = ρ x
  | [], _, _ => rfl
  | f :: l, h, x => by
    have ih := root_ok (l := l) (fun g hg => h g (by simp [hg])) x
    cases f with
    | same a b =>
      simp only [rootIn]
      split
      · rename_i e; subst e; exact (h (.same a b) (by simp)).symm
      · exact ih
    | _ => exact ih
theorem less_ok {ρ : Nat → Value} : ∀ {l : List Fact}, (∀ f ∈ l, f.holds ρ) → ∀ {x s}, hasLess l x s = true → LtLen (ρ x) (ρ s)
  | [], _, _, _, h => by simp [hasLess] at h
  | f :: l, h, x, s, hl => by
    have ih := fun hl => less_ok (l := l) (fun g hg => h g (by simp [hg])) (x := x) (s := s) hl
    cases f with
    | less a b =>
      simp only [hasLess, Bool.or_eq_true, Bool.and_eq_true, beq_iff_eq] at hl
      rcases hl with ⟨rfl, rfl⟩ | hl
      · exact h (.less a b) (by simp)
      · exact ih hl
    | _ => exact ih hl
abbrev Act.sl (a : Act) (s : Nat) : Value := a.eval (.tmp s)
def Sat (T : Conf) (c : Ctx) (w0 : World) (nt : Nat) (A : St) (a : Act) (w : World) : Prop :=
  a.tmps.size = nt ∧ a.defers = [] ∧ (∀ s, (A.look s).den c T.tab w (a.eval (.tmp s))) ∧ (∀ f ∈ A.facts, f.holds fun s => a.eval (.tmp s)) ∧ Inv c w0 T.J A.ph w
def isSlice : Kd → Bool
  | .one (.c (.sl _ _ _)) => true
  | .one (.c (.sl0 _ _)) => true
  | .one (.c .nil) => true
  | _ => false
theorem isSlice_ok {c : Ctx} {tab : Tab} {w : World} {v : Value} {k : Kd} (h : isSlice k = true) (hv : k.den c tab w v) : ∃ A n q, v = .slice A n q := by
  unfold isSlice at h
  split at h <;> try (cases h; done)
  · obtain ⟨_, A, n, q, h, _⟩ := hv; exact ⟨A, n, q, h⟩
  · obtain ⟨A, n, q, h, _⟩ := hv; exact ⟨A, n, q, h⟩
  · exact ⟨_, _, _, hv⟩
def factsOf (A : St) (d : Nat) : Xp → List Fact
  | .same (.tmp x) => [.same d (A.root x)]
  | .cmp b (.tmp x) (.tmp y) => [.cmp d b (A.root x) (.inl (A.root y))]
  | .cmp b (.tmp x) (.const (.int .i64 q)) => [.cmp d b (A.root x) (.inr q)]
  | .len (.tmp s) => if isSlice (A.look s) then [.len d (A.root s)] else []
  | .less (.tmp y) => A.facts.filterMap fun | .len z s => if z = A.root y then some (.less d s) else Option.none
                                            | _ => Option.none
  | .sel c x y => match kop A.look c with
    | .one (.c (.bool (some true))) => (match x with | .tmp x => [.same d (A.root x)] | _ => [])
    | .one (.c (.bool (some false))) => (match y with | .tmp y => [.same d (A.root y)] | _ => [])
    | _ => []
  | .neg (.tmp x) => (match A.look x with | .one (.c (.bool _)) => [.neg d (A.root x)] | _ => [])
  | _ => []
def St.put (A : St) (d : Option Nat) (k : Kd) (ph : Ph) (e : Xp) : St := match d with
  | Option.none => { A with ph := ph }
  | some d => { env := (d, k) :: A.env.filter (fun p => p.1 != d), facts := (factsOf A d e).filter (Fact.head d) ++ A.facts.filter (Fact.free d), ph := ph }
theorem lookup_filter {α : Type} (d s : Nat) (h : s ≠ d) : ∀ l : List (Nat × α), (l.filter (fun p => p.1 != d)).lookup s = l.lookup s
  | [] => rfl
  | (x, k) :: l => by
    have ih := lookup_filter d s h l
    by_cases e : x = d
    · subst e
      have : (s == x) = false := by simpa using h
      simp [List.lookup_cons, this, ih]
    · have hx : (x != d) = true := by simpa using e
      simp only [List.filter_cons, hx, if_true, List.lookup_cons, ih]
theorem look_set {env : List (Nat × Kd)} {d s : Nat} {k : Kd} : ((((d, k) :: env.filter (fun p => p.1 != d)).lookup s).getD (.ck .any)) = if s = d then k else (env.lookup s).getD (.ck .any) := by
  by_cases e : s = d
  · subst e; simp
  · have : (s == d) = false := by simpa using e
    rw [if_neg e, List.lookup_cons, this, lookup_filter d s e]
section
variable {T : Conf} {c : Ctx} {w0 : World} {nt : Nat} {A : St} {a : Act} {w w' : World} {v : Value}
theorem eval_put_ne {s d : Nat} (h : s ≠ d) : (a.put (some d) v).eval (.tmp s) = a.eval (.tmp s) := by
  rw [eval_put, if_neg (fun hh => h hh.1)]
theorem factsOf_ok (hS : Sat T c w0 nt A a w) {d : Nat} (hd : d < nt) {e : Xp} (he : e.holds a.eval v) : ∀ f ∈ factsOf A d e, f.head d = true → f.holds fun s => (a.put (some d) v).eval (.tmp s) := by
  intro f hf hh
  have hv : (a.put (some d) v).eval (.tmp d) = v := by rw [eval_put, if_pos ⟨rfl, by rw [hS.1]; exact hd⟩]
  have hr : ∀ x, a.eval (.tmp (A.root x)) = a.eval (.tmp x) := fun x => root_ok (ρ := fun s => a.eval (.tmp s)) hS.2.2.2.1 x
  have hsame : ∀ x, v = a.eval (.tmp x) → (Fact.same d (A.root x)).head d = true → (Fact.same d (A.root x)).holds fun s => (a.put (some d) v).eval (.tmp s) := fun x hx h1 => by
    simp only [Fact.head, Bool.and_eq_true, beq_iff_eq, bne_iff_ne] at h1
    show (a.put (some d) v).eval (.tmp d) = (a.put (some d) v).eval (.tmp (A.root x))
    rw [hv, eval_put_ne h1.2, hr, hx]
  unfold factsOf at hf
  split at hf
  · rename_i x
    simp only [List.mem_singleton] at hf
    subst hf
    exact hsame x he hh
  · rename_i b x y
    simp only [List.mem_singleton] at hf
    subst hf
    simp only [Fact.head, Bool.and_eq_true, beq_iff_eq, bne_iff_ne] at hh
    intro f hf' m n hm hn
    simp only [hv]
    simp only [eval_put_ne hh.1.2, hr] at hm
    simp only [opdIs, eval_put_ne hh.2, hr] at hn
    exact he f hf' m n hm hn
  · rename_i b x q
    simp only [List.mem_singleton] at hf
    subst hf
    simp only [Fact.head, Bool.and_eq_true, beq_iff_eq, bne_iff_ne] at hh
    intro f hf' m n hm hn
    simp only [hv]
    simp only [eval_put_ne hh.1.2, hr] at hm
    simp only [opdIs] at hn
    subst hn
    exact he f hf' m n hm rfl
  · rename_i s
    split at hf
    · rename_i his
      simp only [List.mem_singleton] at hf
      subst hf
      simp only [Fact.head, Bool.and_eq_true, beq_iff_eq, bne_iff_ne] at hh
      obtain ⟨B, n, q, hq⟩ := isSlice_ok his (hS.2.2.1 s)
      refine ⟨B, n, q, ?_, ?_⟩
      · simp only [eval_put_ne hh.2, hr]; exact hq
      · simp only [hv]; exact he B n q hq
    · simp at hf
  · rename_i y
    obtain ⟨g, hg, h1⟩ := List.mem_filterMap.1 hf
    cases g <;> simp only [reduceCtorEq, Option.ite_none_right_eq_some, Option.some.injEq] at h1
    rename_i z s
    obtain ⟨rfl, rfl⟩ := h1
    simp only [Fact.head, Bool.and_eq_true, beq_iff_eq, bne_iff_ne] at hh
    have hlen := hS.2.2.2.1 _ hg
    show LtLen ((a.put (some d) v).eval (.tmp d)) ((a.put (some d) v).eval (.tmp s))
    rw [hv, eval_put_ne hh.2]
    obtain ⟨B, n, q, h2, h3⟩ := hlen
    obtain ⟨x, hx, h4, h5⟩ := he n ((hr y).symm.trans h3)
    exact ⟨B, n, q, x, h2, hx, h4, h5⟩
  · rename_i c0 x y
    split at hf
    · rename_i hc
      have hcd := kop_den (c := c) (tab := T.tab) (w := w) hS.2.2.1 c0
      rw [hc] at hcd
      obtain ⟨b, hb, hb2⟩ := hcd
      obtain rfl := hb2 _ rfl
      have := he true hb
      split at hf
      · simp only [List.mem_singleton] at hf
        subst hf
        exact hsame _ (by simpa using this) hh
      · simp at hf
    · rename_i hc
      have hcd := kop_den (c := c) (tab := T.tab) (w := w) hS.2.2.1 c0
      rw [hc] at hcd
      obtain ⟨b, hb, hb2⟩ := hcd
      obtain rfl := hb2 _ rfl
      have := he false hb
      split at hf
      · simp only [List.mem_singleton] at hf
        subst hf
        exact hsame _ (by simpa using this) hh
      · simp at hf
    · simp at hf
  · rename_i x
    split at hf
    · rename_i b0 hx
      simp only [List.mem_singleton] at hf
      subst hf
      simp only [Fact.head, Bool.and_eq_true, beq_iff_eq, bne_iff_ne] at hh
      have hxd := hS.2.2.1 x
      rw [hx] at hxd
      obtain ⟨b, hb, _⟩ := hxd
      refine ⟨b, ?_, ?_⟩
      · simp only [eval_put_ne hh.2, hr]; exact hb
      · simp only [hv]; exact he b hb
    · simp at hf
  · simp at hf
theorem Sat.put (hT : Good T) (hS : Sat T c w0 nt A a w) {d : Option Nat} (hd : ∀ x, d = some x → x < nt) {k : Kd} {ph : Ph} {e : Xp} (hk : k.den c T.tab w' v) (hr : Rel c T.tab T.S w w') (hI : Inv c w0 T.J ph w') (he : e.holds a.eval v) : Sat T c w0 nt (A.put d k ph e) (a.put d v) w' := by
  obtain ⟨h1, h2, h3, h4, h5⟩ := hS
  have hst : ∀ s, (A.look s).den c T.tab w' (a.eval (.tmp s)) := fun s => Kd.stab hT.tab hT.sto _ _ _ _ hr (h3 s)
  cases d with
  | none => exact ⟨h1, h2, hst, h4, hI⟩
  | some d =>
    have hdn := hd d rfl
    refine ⟨by simp [Act.put, h1], h2, fun s => ?_, fun f hf => ?_, hI⟩
    · show Kd.den c T.tab ((((d, k) :: A.env.filter (fun p => p.1 != d)).lookup s).getD (.ck .any)) w' _
      rw [look_set, eval_put]
      by_cases e : s = d
      · subst e; rw [if_pos rfl, if_pos ⟨rfl, by rw [h1]; exact hdn⟩]; exact hk
      · rw [if_neg e, if_neg (fun hh => e hh.1)]; exact hst s
    · simp only [St.put, List.mem_append, List.mem_filter] at hf
      rcases hf with ⟨h6, h7⟩ | ⟨h6, h7⟩
      · exact factsOf_ok ⟨h1, h2, h3, h4, h5⟩ hdn he f h6 h7
      · exact Fact.free_ok (fun s hs => eval_put_ne hs) h7 (h4 f h6)
/-! ### What a test tells -/
def St.setK (A : St) (s : Nat) (k : Kd) : St := { A with env := (s, k) :: A.env.filter (fun p => p.1 != s) }
theorem Sat.setK (hS : Sat T c w0 nt A a w) {s : Nat} {k : Kd} (hk : k.den c T.tab w (a.eval (.tmp s))) : Sat T c w0 nt (A.setK s k) a w := by
  obtain ⟨h1, h2, h3, h4, h5⟩ := hS
  refine ⟨h1, h2, fun x => ?_, h4, h5⟩
  show Kd.den c T.tab ((((s, k) :: A.env.filter (fun p => p.1 != s)).lookup x).getD (.ck .any)) w _
  rw [look_set]
  by_cases e : x = s
  · subst e; rw [if_pos rfl]; exact hk
  · rw [if_neg e]; exact h3 x
def sameAs : List Fact → Nat → List Nat
  | [], _ => []
  | .same a b :: l, x => if b = x then a :: sameAs l x else sameAs l x
  | _ :: l, x => sameAs l x
theorem sameAs_ok {ρ : Nat → Value} : ∀ {l : List Fact}, (∀ f ∈ l, f.holds ρ) → ∀ {x y}, y ∈ sameAs l x → ρ y = ρ x
  | [], _, _, _, h => by simp [sameAs] at h
  | f :: l, h, x, y, hy => by
    have ih := fun hy => sameAs_ok (l := l) (fun g hg => h g (by simp [hg])) (x := x) (y := y) hy
    cases f with
    | same a b =>
      simp only [sameAs] at hy
      split at hy
      · rename_i e
        subst e
        rcases List.mem_cons.1 hy with rfl | hy
        · exact h (.same y b) (by simp)
        · exact ih hy
      · exact ih hy
    | _ => exact ih hy
def St.cls (A : St) (x : Nat) : List Nat := x :: sameAs A.facts x
theorem cls_ok (hS : Sat T c w0 nt A a w) {x y : Nat} (h : y ∈ A.cls x) : a.eval (.tmp y) = a.eval (.tmp x) := by
  rcases List.mem_cons.1 h with rfl | h
  · rfl
  · exact sameAs_ok (ρ := fun s => a.eval (.tmp s)) hS.2.2.2.1 h
/-- The kinds of all these slots are narrowed. -/
def St.mapK (A : St) (f : Kd → Kd) : List Nat → St
  | [] => A
  | s :: l => (A.setK s (f (A.look s))).mapK f l
theorem Sat.mapK {f : Kd → Kd} {v0 : Value} (hf : ∀ k : Kd, k.den c T.tab w v0 → (f k).den c T.tab w v0) : ∀ {l : List Nat} {A : St}, (∀ s ∈ l, a.eval (.tmp s) = v0) → Sat T c w0 nt A a w → Sat T c w0 nt (A.mapK f l) a w
  | [], _, _, h => h
  | s :: l, A, hl, h => by
    have e := hl s (by simp)
    exact Sat.mapK hf (l := l) (fun x hx => hl x (by simp [hx])) (h.setK (by rw [e]; exact hf _ (by rw [← e]; exact h.2.2.1 s)))
def meetI (l h : Int) : Kd → Kd
  | .one (.c (.int .i64 lo hi)) => .ck (.int .i64 (max lo l) (min hi h))
  | k => k
def meetS (l : Int) : Kd → Kd
  | .one (.c (.sl i lo hi)) => .ck (.sl i (max lo l.toNat) hi)
  | .one (.c (.sl0 lo hi)) => .ck (.sl0 (max lo l.toNat) hi)
  | k => k
def lensOf : List Fact → List Nat → List Nat
  | [], _ => []
  | .len x s :: l, xs => if xs.contains x then s :: lensOf l xs else lensOf l xs
  | _ :: l, xs => lensOf l xs
theorem lensOf_ok {ρ : Nat → Value} : ∀ {l : List Fact} {xs : List Nat}, (∀ f ∈ l, f.holds ρ) → ∀ {s}, s ∈ lensOf l xs → ∃ x ∈ xs, ∃ A n q, ρ s = .slice A n q ∧ ρ x = .int .i64 (n : Nat)
  | [], _, _, _, h => by simp [lensOf] at h
  | f :: l, xs, h, s, hs => by
    have ih := fun hs => lensOf_ok (l := l) (xs := xs) (fun g hg => h g (by simp [hg])) (s := s) hs
    cases f with
    | len x s' =>
      simp only [lensOf] at hs
      split at hs
      · rename_i e
        rcases List.mem_cons.1 hs with rfl | hs
        · exact ⟨x, by simpa using e, h (.len x s) (by simp)⟩
        · exact ih hs
      · exact ih hs
    | _ => exact ih hs
def St.narrow (A : St) (x : Nat) (l h : Int) : St :=
  let A1 := A.mapK (meetI l h) (A.cls x)
  (lensOf A.facts (A.cls x)).foldl (fun B s => B.mapK (meetS l) (s :: sameAs A.facts s)) A1
theorem mapK_facts {f : Kd → Kd} : ∀ {l : List Nat} {A : St}, (A.mapK f l).facts = A.facts
  | [], _ => rfl
  | _ :: l, A => by rw [St.mapK, mapK_facts]; rfl
theorem Sat.narrow (hS : Sat T c w0 nt A a w) {x : Nat} {l h n : Int} (hx : a.eval (.tmp x) = .int .i64 n) (h1 : l ≤ n) (h2 : n ≤ h) : Sat T c w0 nt (A.narrow x l h) a w := by
  have hA1 : Sat T c w0 nt (A.mapK (meetI l h) (A.cls x)) a w := by
    refine Sat.mapK (v0 := .int .i64 n) (fun k hk => ?_) (fun s hs => (cls_ok hS hs).trans hx) hS
    unfold meetI
    split
    · obtain ⟨m, e, m1, m2⟩ := hk
      cases e
      exact ⟨n, rfl, by omega, by omega⟩
    · exact hk
  have key : ∀ (ls : List Nat) (B : St), (∀ s ∈ ls, ∃ y ∈ A.cls x, ∃ A n q, a.eval (.tmp s) = .slice A n q ∧ a.eval (.tmp y) = .int .i64 (n : Nat)) → Sat T c w0 nt B a w → Sat T c w0 nt (ls.foldl (fun B s => B.mapK (meetS l) (s :: sameAs A.facts s)) B) a w := by
    intro ls
    induction ls with
    | nil => intro B _ hB; exact hB
    | cons s ls ih =>
      intro B hls hB
      refine ih _ (fun s hs => hls s (by simp [hs])) ?_
      obtain ⟨y, hy, B', m, q, e1, e2⟩ := hls s (by simp)
      have hm : (m : Int) = n := by
        have := (cls_ok hS hy).trans hx
        rw [e2] at this
        simpa using this
      refine Sat.mapK (v0 := .slice B' m q) (fun k hk => ?_) (fun z hz => ?_) hB
      · unfold meetS
        split
        · obtain ⟨h3, A', n', q', e, h4⟩ := hk
          cases e
          exact ⟨h3, _, _, _, rfl, by omega⟩
        · obtain ⟨A', n', q', e, h4, h5⟩ := hk
          cases e
          exact ⟨_, _, _, rfl, by omega, h5⟩
        · exact hk
      · rcases List.mem_cons.1 hz with rfl | hz
        · exact e1
        · exact (sameAs_ok (ρ := fun s => a.eval (.tmp s)) hS.2.2.2.1 hz).trans e1
  exact key _ _ (fun s hs => lensOf_ok (ρ := fun s => a.eval (.tmp s)) hS.2.2.2.1 hs) hA1
/-- The bounds that a test leaves. -/
def cutLt (lo hi lo' hi' : Int) : (Int × Int) × (Int × Int) := ((lo, min hi (hi' - 1)), (max lo' (lo + 1), hi'))
def cutLe (lo hi lo' hi' : Int) : (Int × Int) × (Int × Int) := ((lo, min hi hi'), (max lo' lo, hi'))
def cutEq (lo hi lo' hi' : Int) : (Int × Int) × (Int × Int) := ((max lo lo', min hi hi'), (max lo lo', min hi hi'))
def cutNe (lo hi lo' hi' : Int) : (Int × Int) × (Int × Int) := ((if lo' = hi' ∧ lo = lo' then lo + 1 else lo, if lo' = hi' ∧ hi = lo' then hi - 1 else hi), (lo', hi'))
def swapP (p : (Int × Int) × (Int × Int)) : (Int × Int) × (Int × Int) := (p.2, p.1)
def cutOf (b : BinOp) (t : Bool) (lo hi lo' hi' : Int) : (Int × Int) × (Int × Int) := match b, t with
  | .lss, true => cutLt lo hi lo' hi'
  | .lss, false => swapP (cutLe lo' hi' lo hi)
  | .leq, true => cutLe lo hi lo' hi'
  | .leq, false => swapP (cutLt lo' hi' lo hi)
  | .gtr, true => swapP (cutLt lo' hi' lo hi)
  | .gtr, false => cutLe lo hi lo' hi'
  | .geq, true => swapP (cutLe lo' hi' lo hi)
  | .geq, false => cutLt lo hi lo' hi'
  | .eql, true => cutEq lo hi lo' hi'
  | .eql, false => cutNe lo hi lo' hi'
  | .neq, true => cutNe lo hi lo' hi'
  | .neq, false => cutEq lo hi lo' hi'
  | _, _ => ((lo, hi), (lo', hi'))
theorem cutOf_ok {b : BinOp} {t : Bool} {f : Int → Int → Bool} (hf : cmpOf b = some f) {lo hi lo' hi' m n : Int} (h1 : lo ≤ m) (h2 : m ≤ hi) (h3 : lo' ≤ n) (h4 : n ≤ hi') (ht : f m n = t) :
    (cutOf b t lo hi lo' hi').1.1 ≤ m ∧ m ≤ (cutOf b t lo hi lo' hi').1.2 ∧ (cutOf b t lo hi lo' hi').2.1 ≤ n ∧ n ≤ (cutOf b t lo hi lo' hi').2.2 := by
  cases b <;> simp only [cmpOf, Option.some.injEq, reduceCtorEq] at hf <;> subst hf <;> cases t <;> simp only [decide_eq_true_eq, decide_eq_false_iff_not, Bool.not_eq_true', Bool.not_eq_false', Bool.not_eq_eq_eq_not, Bool.not_true, Bool.not_false] at ht <;> simp only [cutOf, cutLt, cutLe, cutEq, cutNe, swapP]
  all_goals first
    | omega
    | (refine ⟨?_, ?_, by omega, by omega⟩ <;> split <;> omega)
def intK : Kd → Option (Int × Int)
  | .one (.c (.int .i64 lo hi)) => some (lo, hi)
  | _ => Option.none
theorem intK_ok {k : Kd} {lo hi : Int} (h : intK k = some (lo, hi)) (hv : k.den c T.tab w v) : ∃ n, v = .int .i64 n ∧ lo ≤ n ∧ n ≤ hi := by
  unfold intK at h
  split at h <;> cases h
  exact hv
def findHead : List Fact → Nat → Option Fact
  | [], _ => Option.none
  | .cmp d b x y :: l, z => if d = z then some (.cmp d b x y) else findHead l z
  | .neg d x :: l, z => if d = z then some (.neg d x) else findHead l z
  | _ :: l, z => findHead l z
theorem findHead_ok : ∀ {l : List Fact} {z : Nat} {f : Fact}, findHead l z = some f → f ∈ l ∧ (match f with | .cmp d _ _ _ => d = z | .neg d _ => d = z | _ => False)
  | [], _, _, h => by simp [findHead] at h
  | g :: l, z, f, h => by
    have ih := fun h => findHead_ok (l := l) (z := z) (f := f) h
    cases g with
    | cmp d b x y =>
      simp only [findHead] at h
      split at h
      · rename_i e; cases h; exact ⟨by simp, e⟩
      · have := ih h; exact ⟨by simp [this.1], this.2⟩
    | neg d x =>
      simp only [findHead] at h
      split at h
      · rename_i e; cases h; exact ⟨by simp, e⟩
      · have := ih h; exact ⟨by simp [this.1], this.2⟩
    | _ => have := ih h; exact ⟨by simp [this.1], this.2⟩
def bK (t : Bool) : Kd := .ck (.bool (some t))
def St.learn : Nat → St → Nat → Bool → St
  | 0, A, _, _ => A
  | f + 1, A, d, t =>
    let r := A.root d
    let A1 := A.mapK (fun _ => bK t) (d :: A.cls r)
    match findHead A.facts r with
    | some (.cmp _ b x (.inr q)) => (match intK (A1.look x) with
      | some (lo, hi) => A1.narrow x (cutOf b t lo hi q q).1.1 (cutOf b t lo hi q q).1.2
      | Option.none => A1)
    | some (.cmp _ b x (.inl y)) => (match intK (A1.look x), intK (A1.look y) with
      | some (lo, hi), some (lo', hi') => (A1.narrow x (cutOf b t lo hi lo' hi').1.1 (cutOf b t lo hi lo' hi').1.2).narrow y (cutOf b t lo hi lo' hi').2.1 (cutOf b t lo hi lo' hi').2.2
      | _, _ => A1)
    | some (.neg _ x) => A1.learn f x !t
    | _ => A1
theorem Sat.learn : ∀ {f : Nat} {A : St} {d : Nat} {t : Bool}, Sat T c w0 nt A a w → a.eval (.tmp d) = .bool t → Sat T c w0 nt (A.learn f d t) a w
  | 0, A, d, t, hS, _ => hS
  | f + 1, A, d, t, hS, hd => by
    have hr : a.eval (.tmp (A.root d)) = .bool t := (root_ok (ρ := fun s => a.eval (.tmp s)) hS.2.2.2.1 d).trans hd
    have hA1 : Sat T c w0 nt (A.mapK (fun _ => bK t) (d :: A.cls (A.root d))) a w := by
      refine Sat.mapK (T := T) (c := c) (w0 := w0) (nt := nt) (w := w) (f := fun _ => bK t) (v0 := .bool t) (fun k _ => show cden c T.tab (.bool (some t)) w (.bool t) from ⟨t, rfl, fun y h => by simpa using h⟩) (fun s hs => ?_) hS
      rcases List.mem_cons.1 hs with rfl | hs
      · exact hd
      · exact (cls_ok hS hs).trans hr
    simp only [St.learn]
    split
    · rename_i dd b x q hfh
      obtain ⟨hm, rfl⟩ := findHead_ok hfh
      split
      · rename_i lo hi hik
        obtain ⟨m, hx, m1, m2⟩ := intK_ok hik (hA1.2.2.1 x)
        have hfact := hS.2.2.2.1 _ hm
        cases hc : cmpOf b with
        | none =>
          have : cutOf b t lo hi q q = ((lo, hi), (q, q)) := by cases b <;> simp [cmpOf] at hc <;> rfl
          rw [this]
          exact hA1.narrow hx m1 m2
        | some f' =>
          have h1 := hfact f' hc m q hx rfl
          have h2 : f' m q = t := by
            have := h1.symm.trans hr
            simpa using this
          have h3 := cutOf_ok hc m1 m2 (Int.le_refl q) (Int.le_refl q) h2
          exact hA1.narrow hx h3.1 h3.2.1
      · exact hA1
    · rename_i dd b x y hfh
      obtain ⟨hm, rfl⟩ := findHead_ok hfh
      split
      · rename_i lo hi lo' hi' hik hik'
        obtain ⟨m, hx, m1, m2⟩ := intK_ok hik (hA1.2.2.1 x)
        obtain ⟨n, hy, n1, n2⟩ := intK_ok hik' (hA1.2.2.1 y)
        have hfact := hS.2.2.2.1 _ hm
        cases hc : cmpOf b with
        | none =>
          have : cutOf b t lo hi lo' hi' = ((lo, hi), (lo', hi')) := by cases b <;> simp [cmpOf] at hc <;> rfl
          rw [this]
          exact (hA1.narrow hx m1 m2).narrow hy n1 n2
        | some f' =>
          have h1 := hfact f' hc m n hx hy
          have h2 : f' m n = t := by
            have := h1.symm.trans hr
            simpa using this
          have h3 := cutOf_ok hc m1 m2 n1 n2 h2
          exact (hA1.narrow hx h3.1 h3.2.1).narrow hy h3.2.2.1 h3.2.2.2
      · exact hA1
    · rename_i dd x hfh
      obtain ⟨hm, rfl⟩ := findHead_ok hfh
      obtain ⟨b, hb, hb2⟩ := hS.2.2.2.1 _ hm
      refine Sat.learn hA1 ?_
      have := hb2.symm.trans hr
      simp only [Value.bool.injEq] at this
      rw [← this]
      simpa using hb
    · exact hA1
/-! ### Regions in their own order -/
def stepOp (T : Conf) (nt : Nat) (o : Oper) (A : St) : Option St :=
  match absOp T A.look A.lt o.op with
  | some (k, eff, e) => match eff.app T.J A.ph with
    | some ph => match o.dst with
      | some d => if d < nt then some (A.put (some d) k ph e) else Option.none
      | Option.none => some (A.put Option.none k ph e)
    | Option.none => Option.none
  | Option.none => Option.none
def skipOp (nt : Nat) (o : Oper) (A : St) : Option St := match o.dst with
  | some d => if d < nt then some (A.put (some d) (.tup []) A.ph .no) else Option.none
  | Option.none => some A
def guardOp (T : Conf) (nt : Nat) (ops : Array Oper) (o : Oper) (A : St) : Option (List St) :=
  match o.guard with
  | Option.none => (stepOp T nt o A).map fun B => [B]
  | some (g, b) => match (ops[g]?).bind (·.dst) with
    | Option.none => Option.none
    | some gd => match A.look gd with
      | .one (.c (.bool (some x))) => (if x = b then stepOp T nt o A else skipOp nt o A).map fun B => [B]
      | .one (.c (.bool Option.none)) => (stepOp T nt o (A.learn 2 gd b)).bind fun B => (skipOp nt o (A.learn 2 gd !b)).map fun D => [B, D]
      | .tup [] => (skipOp nt o A).map fun B => [B]
      | _ => Option.none
def bindL {α β : Type} (f : α → Option (List β)) : List α → Option (List β)
  | [] => some []
  | x :: l => (f x).bind fun r => (bindL f l).map fun r' => r ++ r'
def absOps (T : Conf) (nt : Nat) (ops : Array Oper) : List Oper → St → Option (List St)
  | [], A => some [A]
  | o :: r, A => (guardOp T nt ops o A).bind fun l => bindL (absOps T nt ops r) l
theorem bindL_mem {α β : Type} {f : α → Option (List β)} : ∀ {l : List α} {r : List β}, bindL f l = some r → ∀ x ∈ l, ∃ r', f x = some r' ∧ ∀ y ∈ r', y ∈ r
  | [], _, _, x, hx => by simp at hx
  | a :: l, r, h, x, hx => by
    simp only [bindL] at h
    obtain ⟨r1, h1, h2⟩ := Option.bind_eq_some_iff.1 h
    obtain ⟨r2, h3, rfl⟩ := Option.map_eq_some_iff.1 h2
    rcases List.mem_cons.1 hx with rfl | hx
    · exact ⟨r1, h1, fun y hy => by simp [hy]⟩
    · obtain ⟨r', h4, h5⟩ := bindL_mem h3 x hx
      exact ⟨r', h4, fun y hy => by simp [h5 y hy]⟩
theorem stepOp_ok (hT : Good T) {o : Oper} {B : St} (h : stepOp T nt o A = some B) (hS : Sat T c w0 nt A a w) {K : Act → World → Prop} {Q : Exit → Act → World → Prop} (hK : ∀ a' w', Sat T c w0 nt B a' w' → K a' w') : o.wp T.P a w K Q := by
  unfold stepOp at h
  split at h <;> try (cases h; done)
  rename_i k eff e h1
  split at h <;> try (cases h; done)
  rename_i ph h2
  refine absOp_ok hT (c := c) (w0 := w0) h1 h2 a w K Q hS.2.2.2.2 hS.2.2.1 (fun x s hx => ?_) (fun v w' hk hr hI he => ?_)
  · have := less_ok (ρ := fun s => a.eval (.tmp s)) hS.2.2.2.1 hx
    simp only [St.root, root_ok (ρ := fun s => a.eval (.tmp s)) hS.2.2.2.1] at this
    exact this
  · split at h
    · rename_i d hd
      split at h <;> cases h
      rename_i hdn
      rw [hd]
      exact hK _ _ (hS.put hT (fun x hx => by cases hx; exact hdn) hk hr hI he)
    · rename_i hd
      cases h
      rw [hd]
      exact hK _ _ (hS.put hT (fun x hx => by cases hx) hk hr hI he)
theorem skipOp_ok (hT : Good T) {o : Oper} {B : St} (h : skipOp nt o A = some B) (hS : Sat T c w0 nt A a w) : Sat T c w0 nt B (a.put o.dst undef) w := by
  unfold skipOp at h
  split at h
  · rename_i d hd
    split at h <;> cases h
    rename_i hdn
    rw [hd]
    exact hS.put hT (fun x hx => by cases hx; exact hdn) ⟨[], rfl, rfl⟩ (RelK.refl _) hS.2.2.2.2 trivial
  · rename_i hd
    cases h
    rw [hd]
    exact hS
theorem yields_of {ops : Array Oper} {g gd : Nat} {x : Bool} (hg : (ops[g]?).bind (·.dst) = some gd) (h : a.eval (.tmp gd) = .bool x) : yielded ops a.tmps g = some x := by
  unfold yielded
  rw [hg]
  simp only [Option.bind_some]
  simp only [Act.eval, Array.getD_eq_getD_getElem?] at h
  cases ht : a.tmps[gd]? with
  | none => rw [ht] at h; simp [undef] at h
  | some v => rw [ht] at h; simp only [Option.getD_some] at h; subst h; rfl
theorem yields_not {ops : Array Oper} {g gd : Nat} (hg : (ops[g]?).bind (·.dst) = some gd) (h : a.eval (.tmp gd) = undef) : yielded ops a.tmps g = Option.none := by
  unfold yielded
  rw [hg]
  simp only [Option.bind_some]
  simp only [Act.eval, Array.getD_eq_getD_getElem?] at h
  cases ht : a.tmps[gd]? with
  | none => rfl
  | some v => rw [ht] at h; simp only [Option.getD_some] at h; subst h; rfl
theorem absOps_ok (hT : Good T) {ops : Array Oper} {Q : Exit → Act → World → Prop} : ∀ {l : List Oper} {A : St} {L : List St} {a : Act} {w : World}, absOps T nt ops l A = some L → Sat T c w0 nt A a w → (∀ a' w', (∃ B ∈ L, Sat T c w0 nt B a' w') → Q .normal a' w') → wpList T.P ops Q l a w
  | [], A, L, a, w, h, hS, hQ => by
    cases h
    exact hQ a w ⟨A, by simp, hS⟩
  | o :: r, A, L, a, w, h, hS, hQ => by
    simp only [absOps] at h
    obtain ⟨l1, h1, h2⟩ := Option.bind_eq_some_iff.1 h
    refine wpList_step fun K hK => ?_
    have hgo : ∀ B ∈ l1, ∀ a' w', Sat T c w0 nt B a' w' → K a' w' := fun B hB a' w' hSB => by
      obtain ⟨r', h3, h4⟩ := bindL_mem h2 B hB
      exact hK _ _ (absOps_ok hT h3 hSB (fun a2 w2 ⟨D, hD, hSD⟩ => hQ a2 w2 ⟨D, h4 D hD, hSD⟩))
    unfold guardOp at h1
    split at h1
    · rename_i hgd
      rw [if_pos (by simp [Region.wanted, hgd])]
      obtain ⟨B, h3, rfl⟩ := Option.map_eq_some_iff.1 h1
      exact stepOp_ok hT h3 hS (hgo B (by simp))
    · rename_i g b hgd
      split at h1 <;> try (cases h1; done)
      rename_i gd hdst
      have hval := hS.2.2.1 gd
      split at h1 <;> try (cases h1; done)
      · rename_i x hx
        rw [hx] at hval
        obtain ⟨y, hy, hy2⟩ := hval
        obtain rfl := hy2 _ rfl
        have hw : Region.wanted o (yielded ops a.tmps) = (y == b) := by
          simp only [Region.wanted, hgd, yields_of hdst hy]
          rfl
        obtain ⟨B, h3, rfl⟩ := Option.map_eq_some_iff.1 h1
        rw [hw]
        by_cases e : y = b
        · rw [if_pos e] at h3
          rw [if_pos (by simpa using e)]
          exact stepOp_ok hT h3 hS (hgo B (by simp))
        · rw [if_neg e] at h3
          rw [if_neg (by simpa using e)]
          exact hgo B (by simp) _ _ (skipOp_ok hT h3 hS)
      · rename_i hx
        rw [hx] at hval
        obtain ⟨y, hy, _⟩ := hval
        have hw : Region.wanted o (yielded ops a.tmps) = (y == b) := by
          simp only [Region.wanted, hgd, yields_of hdst hy]
          rfl
        obtain ⟨B, h3, h4⟩ := Option.bind_eq_some_iff.1 h1
        obtain ⟨D, h5, rfl⟩ := Option.map_eq_some_iff.1 h4
        rw [hw]
        by_cases e : y = b
        · subst e
          rw [if_pos (by simp)]
          exact stepOp_ok hT h3 (hS.learn hy) (hgo B (by simp))
        · rw [if_neg (by simpa using e)]
          have : y = !b := by cases y <;> cases b <;> simp_all
          subst this
          exact hgo D (by simp) _ _ (skipOp_ok hT h5 (hS.learn hy))
      · rename_i hx
        rw [hx] at hval
        obtain ⟨cs, hy, hcs⟩ := hval
        obtain rfl : cs = [] := hcs
        have hw : Region.wanted o (yielded ops a.tmps) = false := by
          simp only [Region.wanted, hgd, yields_not hdst hy]
          cases b <;> rfl
        obtain ⟨B, h3, rfl⟩ := Option.map_eq_some_iff.1 h1
        rw [hw, if_neg (by simp)]
        exact hgo B (by simp) _ _ (skipOp_ok hT h3 hS)
end
end Go.Proofs.Ytodjokdaofefdaa
/- Regions that draw their order; code; functions. -/
namespace Go.Proofs.Ytodjokdaofefdaa
set_option linter.unusedSimpArgs false
set_option linter.unusedVariables false
open Go.RowKit

section
variable {T : Conf} {c : Ctx} {w0 : World} {nt : Nat} {A : St} {a : Act} {w w' : World} {v : Value}
/-- The operation that gives slot s and on which operation i leans. -/
def depIx (ops : Array Oper) (i s : Nat) : Option Nat := (List.range ops.size).find? fun j => depSlot ops i s j
abbrev DL := List (Kd × Option Nat)
def lookD (ops : Array Oper) (A : St) (D : DL) (i s : Nat) : Kd := match depIx ops i s with
  | some j => (D[j]?.map (·.1)).getD (.ck .any)
  | Option.none => if keepSlot ops i s then A.look s else .ck .any
def srcD (ops : Array Oper) (D : DL) (i s : Nat) : Option Nat := match depIx ops i s with
  | some j => (D[j]?.map (·.2)).getD Option.none
  | Option.none => if keepSlot ops i s then some s else Option.none
def ltD (ops : Array Oper) (A : St) (D : DL) (i x s : Nat) : Bool := match srcD ops D i x, srcD ops D i s with
  | some x0, some s0 => A.lt x0 s0
  | _, _ => false
def srcEx (ops : Array Oper) (D : DL) (i : Nat) : Xp → Option Nat
  | .same (.tmp x) => srcD ops D i x
  | _ => Option.none
def costOf : Eff → Option Nat
  | .no | .alloc | .rows => some 0
  | .cost n => some n
  | .opened => Option.none
/-- Kinds, sources, the dearest operation. -/
def absD (T : Conf) (ops : Array Oper) (A : St) : List Oper → DL → Nat → Option (DL × Nat)
  | [], D, C => some (D, C)
  | o :: r, D, C => if o.guard.isSome then Option.none else match absOp T (lookD ops A D D.length) (ltD ops A D D.length) o.op with
    | some (k, eff, e) => match costOf eff with
      | some n => absD T ops A r (D ++ [(k, srcEx ops D D.length e)]) (max C n)
      | Option.none => Option.none
    | Option.none => Option.none
def envD : List Oper → DL → List (Nat × Kd)
  | o :: l, (k, _) :: D => match o.dst with
    | some d => (d, k) :: envD l D
    | Option.none => envD l D
  | _, _ => []
def dsts (l : List Oper) : List Nat := l.filterMap (·.dst)
def factsD (ds : List Nat) : List Oper → DL → List Fact
  | o :: l, (_, q) :: D => match o.dst, q with
    | some d, some s => if ds.contains s then factsD ds l D else .same d s :: factsD ds l D
    | _, _ => factsD ds l D
  | _, _ => []
def absDrawn (T : Conf) (nt : Nat) (l : List Oper) (A : St) : Option St :=
  match A.ph with
  | .run N => if okRegion l.toArray nt then match absD T l.toArray A l [] 0 with
      | some (D, C) => if N + C * l.length ≤ T.J.lim then some { env := envD l D ++ A.env.filter (fun p => !(dsts l).contains p.1), facts := factsD (dsts l) l D ++ A.facts.filter (fun f => (dsts l).all fun d => f.free d), ph := .run (N + C * l.length) } else Option.none
      | Option.none => Option.none
    else Option.none
  | _ => Option.none
/-- What a value of the region is. -/
def TD (c : Ctx) (tab : Tab) (D : DL) (a0 : Act) (i : Nat) (w : World) (v : Value) : Prop := match D[i]? with
  | some (k, q) => k.den c tab w v ∧ ∀ s, q = some s → v = a0.eval (.tmp s)
  | Option.none => True
theorem Inv.drew {ph : Ph} {J : Lim} {N : Nat} (h : Inv c w0 J (.run N) w) : Inv c w0 J (.run N) w.drew := ⟨h.1.drew, h.2.1, h.2.2.1, h.2.2.2.1, h.2.2.2.2.below (ext_drew (Below.refl _ _))⟩
theorem depIx_ok {ops : Array Oper} {i s j : Nat} (h : depIx ops i s = some j) : depSlot ops i s j = true := List.find?_some h
theorem absD_len {ops : Array Oper} {A : St} : ∀ {l : List Oper} {D D' : DL} {C C' : Nat}, absD T ops A l D C = some (D', C') → D'.length = D.length + l.length ∧ C ≤ C' ∧ (∀ j (h : j < D.length), D'[j]? = D[j]?)
  | [], D, D', C, C', h => by cases h; exact ⟨by simp, Nat.le_refl _, fun _ _ => rfl⟩
  | o :: r, D, D', C, C', h => by
    simp only [absD] at h
    split at h <;> try (cases h; done)
    split at h <;> try (cases h; done)
    split at h <;> try (cases h; done)
    obtain ⟨h1, h2, h3⟩ := absD_len h
    refine ⟨by simp at h1; simp; omega, by omega, fun j hj => ?_⟩
    rw [h3 j (by simp; omega), List.getElem?_append_left hj]
theorem app_cost {eff : Eff} {n N : Nat} {J : Lim} (h : costOf eff = some n) (hN : N + n ≤ J.lim) : eff.app J (.run N) = some (.run (N + n)) := by
  cases eff <;> simp only [costOf, Option.some.injEq, reduceCtorEq] at h <;> subst h
  · rfl
  · rfl
  · rfl
  · simp [Eff.app, hN]
/-- The obligations. -/
theorem absD_all (hT : Good T) {G : World → Prop} (hG : ∀ w w', Rel c T.tab T.S w w' → G w → G w') {ops : Array Oper} {A : St} {a0 : Act} {N : Nat} (hS : ∀ f ∈ A.facts, f.holds fun s => a0.eval (.tmp s)) {D' : DL} {C' : Nat} (hlim : N + C' * ops.size ≤ T.J.lim) (hlen : D'.length = ops.size) :
    ∀ {l : List Oper} {D : DL} {C : Nat}, absD T ops A l D C = some (D', C') →
    RAll T.P ops a0 (TD c T.tab D' a0) (fun k wz => Inv c w0 T.J (.run (N + C' * k)) wz ∧ (∀ s, (A.look s).den c T.tab wz (a0.eval (.tmp s))) ∧ G wz) (fun _ => Rel c T.tab T.S) Option.none (fun _ => True) l D.length
  | [], D, C, h => trivial
  | o :: r, D, C, h => by
    simp only [absD] at h
    split at h <;> try (cases h; done)
    rename_i hgd
    split at h <;> try (cases h; done)
    rename_i k eff e h1
    split at h <;> try (cases h; done)
    rename_i n h2
    have hrest := absD_all hT hG hS hlim hlen h
    obtain ⟨hl1, hl2, hl3⟩ := absD_len h
    simp only [List.length_append, List.length_singleton] at hrest hl1 hl3
    have hDi : D'[D.length]? = some (k, srcEx ops D D.length e) := by
      rw [hl3 _ (by omega)]; simp
    have hDj : ∀ j, j < D.length → D'[j]? = D[j]? := fun j hj => by
      rw [hl3 j (by omega), List.getElem?_append_left hj]
    refine RAll.cons (by simpa using hgd) (fun a i wa K Q hi hI hp hK => ?_) hrest
    have hok : ∀ s j, depIx ops D.length s = some j → (∃ k q, D'[j]? = some (k, q) ∧ (D[j]? = some (k, q) ∨ D[j]? = Option.none) ∧ k.den c T.tab wa (a.eval (.tmp s)) ∧ ∀ s0, q = some s0 → a.eval (.tmp s) = a0.eval (.tmp s0)) ∨ D[j]? = Option.none := fun s j hj => by
      have h3 := hp.dep j s (depIx_ok hj)
      unfold TD at h3
      cases hD : D[j]? with
      | none => exact .inr rfl
      | some kq =>
        obtain ⟨k, q⟩ := kq
        have hjl := (List.getElem?_eq_some_iff.1 hD).1
        rw [hDj j hjl, hD] at h3
        exact .inl ⟨k, q, by rw [hDj j hjl, hD], .inl rfl, h3.1, h3.2⟩
    have hlook : ∀ s, (lookD ops A D D.length s).den c T.tab wa (a.eval (.tmp s)) := fun s => by
      unfold lookD
      split
      · rename_i j hj
        rcases hok s j hj with ⟨k, q, _, h4, h5, _⟩ | h4
        · rcases h4 with h4 | h4 <;> rw [h4]
          · exact h5
          · exact any_den
        · rw [h4]; exact any_den
      · split
        · rename_i hk
          rw [hp.keep s hk]
          exact hI.2.1 s
        · exact any_den
    have hsrc : ∀ s s0, srcD ops D D.length s = some s0 → a.eval (.tmp s) = a0.eval (.tmp s0) := fun s s0 h => by
      unfold srcD at h
      split at h
      · rename_i j hj
        rcases hok s j hj with ⟨k, q, _, h4, _, h5⟩ | h4
        · rcases h4 with h4 | h4 <;> rw [h4] at h
          · exact h5 s0 (by simpa using h)
          · simp at h
        · rw [h4] at h; simp at h
      · split at h
        · rename_i hk
          cases h
          exact hp.keep s hk
        · cases h
    have hi1 : i + 1 ≤ ops.size := hi
    have hmul := Nat.mul_le_mul_left C' hi1
    rw [Nat.mul_add, Nat.mul_one] at hmul
    have hnC : n ≤ C' := by omega
    refine absOp_ok hT (c := c) (w0 := w0) h1 (app_cost h2 (by omega)) a wa K Q hI.1 hlook (fun x s hx => ?_) (fun v wb hv hr hIb he => ?_)
    · unfold ltD at hx
      split at hx
      · rename_i x0 s0 e1 e2
        rw [hsrc x x0 e1, hsrc s s0 e2]
        have := less_ok (ρ := fun s => a0.eval (.tmp s)) hS hx
        simp only [St.root, root_ok (ρ := fun s => a0.eval (.tmp s)) hS] at this
        exact this
      · cases hx
    · refine hK v wb ?_ hr ⟨?_, fun s => Kd.stab hT.tab hT.sto _ _ _ _ hr (hI.2.1 s), hG _ _ hr hI.2.2⟩
      · unfold TD
        rw [hDi]
        refine ⟨hv, fun s hs => ?_⟩
        unfold srcEx at hs
        split at hs
        · rename_i x
          rw [he]
          exact hsrc x s hs
        · cases hs
      · obtain ⟨g1, g2, g3, g4, g5⟩ : Inv c w0 T.J (.run (N + C' * i + n)) wb := hIb
        exact ⟨g1, g2, g3, g4, g5.mono (by rw [Nat.mul_add, Nat.mul_one]; omega)⟩
theorem envD_ok : ∀ {l : List Oper} {D : DL} {s : Nat}, l.length = D.length → ((envD l D).lookup s = Option.none ∧ ∀ (i : Nat) (o : Oper), l[i]? = some o → o.dst ≠ some s) ∨ ∃ (i : Nat) (o : Oper) (k : Kd) (q : Option Nat), l[i]? = some o ∧ o.dst = some s ∧ D[i]? = some (k, q) ∧ (envD l D).lookup s = some k
  | [], [], s, _ => .inl ⟨rfl, fun i o h => by simp at h⟩
  | o :: l, (k, q) :: D, s, h => by
    have ih := envD_ok (l := l) (D := D) (s := s) (by simpa using h)
    have shift : (∃ (i : Nat) (o' : Oper) (k : Kd) (q : Option Nat), l[i]? = some o' ∧ o'.dst = some s ∧ D[i]? = some (k, q) ∧ (envD l D).lookup s = some k) → ∀ e, e = (envD l D).lookup s → ∃ (i : Nat) (o' : Oper) (k' : Kd) (q' : Option Nat), (o :: l)[i]? = some o' ∧ o'.dst = some s ∧ ((k, q) :: D)[i]? = some (k', q') ∧ e = some k' := fun ⟨i, o', k', q', h1, h2, h3, h4⟩ e he => ⟨i + 1, o', k', q', by simpa using h1, h2, by simpa using h3, by rw [he, h4]⟩
    simp only [envD]
    cases hd : o.dst with
    | none =>
      rcases ih with ⟨h1, h2⟩ | h1
      · refine .inl ⟨h1, fun i o' ho => ?_⟩
        cases i with
        | zero => simp at ho; subst ho; rw [hd]; simp
        | succ i => exact h2 i o' (by simpa using ho)
      · exact .inr (shift h1 _ rfl)
    | some d =>
      by_cases e : s = d
      · subst e
        exact .inr ⟨0, o, k, q, rfl, hd, rfl, by simp⟩
      · have hb : (s == d) = false := by simpa using e
        have hlk : List.lookup s ((d, k) :: envD l D) = (envD l D).lookup s := by rw [List.lookup_cons, hb]
        rcases ih with ⟨h1, h2⟩ | h1
        · refine .inl ⟨hlk.trans h1, fun i o' ho => ?_⟩
          cases i with
          | zero => simp at ho; subst ho; rw [hd]; simpa using fun h => e h.symm
          | succ i => exact h2 i o' (by simpa using ho)
        · exact .inr (shift h1 _ hlk)
  | [], _ :: _, _, h => by simp at h
  | _ :: _, [], _, h => by simp at h
theorem factsD_ok {ds : List Nat} : ∀ {l : List Oper} {D : DL} {f : Fact}, f ∈ factsD ds l D → ∃ (i : Nat) (o : Oper) (k : Kd) (d s : Nat), l[i]? = some o ∧ o.dst = some d ∧ D[i]? = some (k, some s) ∧ s ∉ ds ∧ f = .same d s
  | [], D, f, h => by cases D <;> simp [factsD] at h
  | o :: l, [], f, h => by simp [factsD] at h
  | o :: l, (k, q) :: D, f, h => by
    have ih := fun h => factsD_ok (ds := ds) (l := l) (D := D) (f := f) h
    have shift : f ∈ factsD ds l D → ∃ (i : Nat) (o' : Oper) (k' : Kd) (d s : Nat), (o :: l)[i]? = some o' ∧ o'.dst = some d ∧ ((k, q) :: D)[i]? = some (k', some s) ∧ s ∉ ds ∧ f = .same d s := fun h => by
      obtain ⟨i, o', k', d, s, h1, h2, h3, h4, h5⟩ := ih h
      exact ⟨i + 1, o', k', d, s, by simpa using h1, h2, by simpa using h3, h4, h5⟩
    cases hd : o.dst with
    | none => simp only [factsD, hd] at h; exact shift h
    | some d =>
      cases q with
      | none => simp only [factsD, hd] at h; exact shift h
      | some s =>
        simp only [factsD, hd] at h
        split at h
        · exact shift h
        · rename_i hns
          rcases List.mem_cons.1 h with rfl | h
          · exact ⟨0, o, k, d, s, rfl, hd, by simp, by simpa using hns, rfl⟩
          · exact shift h
theorem lookup_append {α : Type} {s : Nat} : ∀ {l r : List (Nat × α)}, (l ++ r).lookup s = (l.lookup s).or (r.lookup s)
  | [], r => by simp
  | (x, k) :: l, r => by
    cases h : s == x <;> simp [List.lookup_cons, h, lookup_append]
theorem lookup_filter_not {α : Type} {ds : List Nat} {s : Nat} (h : s ∉ ds) : ∀ {l : List (Nat × α)}, (l.filter fun p => !ds.contains p.1).lookup s = l.lookup s
  | [] => rfl
  | (x, k) :: l => by
    have ih := lookup_filter_not h (l := l)
    by_cases e : s = x
    · subst e
      have : ds.contains s = false := by simpa using h
      simp only [List.filter_cons, this, Bool.not_false, if_true, List.lookup_cons, beq_self_eq_true]
    · have hb : (s == x) = false := by simpa using e
      simp only [List.filter_cons, List.lookup_cons, hb]
      split
      · simp only [List.lookup_cons, hb, ih]
      · exact ih
theorem absDrawn_ok2 (hT : Good T) {G : World → Prop} (hG : ∀ w w', Rel c T.tab T.S w w' → G w → G w') (hG0 : G w) {id : Nat} {l : List Oper} {B : St} (h : absDrawn T nt l A = some B) (hS : Sat T c w0 nt A a w) {Q : Exit → Act → World → Prop} (hQ : ∀ a' w', Sat T c w0 nt B a' w' → G w' → (∀ s, s ∉ dsts l → a'.eval (.tmp s) = a.eval (.tmp s)) → Q .normal a' w') : (Code.region id l.toArray true).wp T.P Q a w := by
  unfold absDrawn at h
  split at h <;> try (cases h; done)
  rename_i N hN
  split at h <;> try (cases h; done)
  rename_i hok
  split at h <;> try (cases h; done)
  rename_i D C hD
  split at h <;> try (cases h; done)
  rename_i hlim
  cases h
  obtain ⟨h1, h2, h3, h4, h5⟩ := hS
  rw [hN] at h5
  obtain ⟨hl1, _, _⟩ := absD_len hD
  simp only [List.length_nil, Nat.zero_add] at hl1
  have hst : ∀ k : Kd, Stab c T.tab T.S (k.den c T.tab) := Kd.stab hT.tab hT.sto
  refine wp_region_draws2 Option.none (fun _ => True) (TD c T.tab D a) (fun k wz => Inv c w0 T.J (.run (N + C * k)) wz ∧ (∀ s, (A.look s).den c T.tab wz (a.eval (.tmp s))) ∧ G wz) (fun _ => Rel c T.tab T.S) (fun _ => Option.none) hT.mixed (by rw [h1]; exact hok) (by simp [okKill]) ?_ (fun _ _ _ _ _ _ => trivial) ⟨by simpa using h5.drew (ph := .pre 0), fun s => hst _ _ _ _ (RelK.drew w) (h3 s), hG _ _ (RelK.drew w) hG0⟩ trivial (absD_all hT hG h4 (by simpa using hlim) (by simpa using hl1) hD) ?_
  · intro i j wa wb v hr _ _ _ _ _ ht
    unfold TD at ht ⊢
    split
    · rename_i k q e
      rw [e] at ht
      exact ⟨hst _ _ _ _ hr ht.1, ht.2⟩
    · trivial
  · intro f w' hT' hI'
    have hp := putAll_defers f l 0 a
    have hsz : (putAll f l 0 a).tmps.size = nt := hp.2.trans h1
    have huniq : ∀ (i j d : Nat) (o o' : Oper), l[i]? = some o → o.dst = some d → l[j]? = some o' → o'.dst = some d → i = j := fun i j d o o' a1 a2 a3 a4 => okRegion_uniq (ops := l.toArray) (n := nt) hok (d := d) (by simp [dstOf, a1, a2]) (by simp [dstOf, a3, a4])
    have hval : ∀ (i : Nat) (o : Oper) (d : Nat) (k : Kd) (q : Option Nat), l[i]? = some o → o.dst = some d → D[i]? = some (k, q) → k.den c T.tab w' ((putAll f l 0 a).eval (.tmp d)) ∧ ∀ s, q = some s → (putAll f l 0 a).eval (.tmp d) = a.eval (.tmp s) := fun i o d k q a1 a2 a3 => by
      have hi : i < l.length := (List.getElem?_eq_some_iff.1 a1).1
      have hdn : d < nt := (okRegion_dst (ops := l.toArray) (n := nt) hok (i := i) (d := d) (by simp [dstOf, a1, a2])).1
      have e := putAll_some f l 0 a d i o (by simpa using a1) a2 (fun j o' ho' hd' => huniq j i d o' o ho' hd' a1 a2) (by rw [h1]; exact hdn)
      have ht := hT' i hi (by simp [dstOf, a1, a2]) rfl
      unfold TD at ht
      rw [a3] at ht
      rw [e]
      simpa using ht
    have hnone : ∀ s, (∀ (i : Nat) (o : Oper), l[i]? = some o → o.dst ≠ some s) → (putAll f l 0 a).eval (.tmp s) = a.eval (.tmp s) := fun s hs => putAll_none f l 0 a s hs
    have hds : ∀ s, s ∉ dsts l → ∀ (i : Nat) (o : Oper), l[i]? = some o → o.dst ≠ some s := fun s hs i o ho hd => hs (by
      unfold dsts
      exact List.mem_filterMap.2 ⟨o, List.mem_of_getElem? ho, hd⟩)
    have hdm : ∀ s, (∀ (i : Nat) (o : Oper), l[i]? = some o → o.dst ≠ some s) → s ∉ dsts l := fun s hs hm => by
      obtain ⟨o, ho, hd⟩ := List.mem_filterMap.1 hm
      obtain ⟨i, hi⟩ := List.getElem?_of_mem ho
      exact hs i o hi hd
    refine hQ _ _ ?_ hI'.2.2 (fun s hs => hnone s (hds s hs))
    refine ⟨hsz, hp.1.trans h2, fun s => ?_, fun g hg => ?_, hI'.1⟩
    · show Kd.den c T.tab (((envD l D ++ A.env.filter (fun p => !(dsts l).contains p.1)).lookup s).getD (.ck .any)) w' _
      rw [lookup_append]
      rcases envD_ok (l := l) (D := D) (s := s) hl1.symm with ⟨e1, e2⟩ | ⟨i, o, k, q, e1, e2, e3, e4⟩
      · rw [e1, Option.none_or, lookup_filter_not (hdm s e2), hnone s e2]
        exact hI'.2.1 s
      · rw [e4]
        exact (hval i o s k q e1 e2 e3).1
    · rcases List.mem_append.1 hg with hg | hg
      · obtain ⟨i, o, k, d, s, e1, e2, e3, e4, rfl⟩ := factsD_ok hg
        show (putAll f l 0 a).eval (.tmp d) = (putAll f l 0 a).eval (.tmp s)
        rw [(hval i o d k (some s) e1 e2 e3).2 s rfl, hnone s (hds s e4)]
      · obtain ⟨e1, e2⟩ := List.mem_filter.1 hg
        have hall := List.all_eq_true.1 e2
        -- slot by slot
        have hρ : ∀ s, s ∉ dsts l → (putAll f l 0 a).eval (.tmp s) = a.eval (.tmp s) := fun s hs => hnone s (hds s hs)
        have hfree : ∀ (ds : List Nat) (ρ ρ' : Nat → Value), (∀ s, s ∉ ds → ρ' s = ρ s) → (∀ d ∈ ds, g.free d = true) → g.holds ρ → g.holds ρ' := by
          intro ds
          induction ds with
          | nil => intro ρ ρ' hh _ hg'
                   have : ρ' = ρ := funext fun s => hh s (by simp)
                   rw [this]; exact hg'
          | cons d ds ih =>
            intro ρ ρ' hh hf hg'
            refine ih (fun s => if s = d then ρ' s else ρ s) ρ' (fun s hs => ?_) (fun d' hd' => hf d' (by simp [hd'])) ?_
            · by_cases e : s = d
              · simp [e]
              · simp only [if_neg e]
                exact hh s (by simp [e, hs])
            · exact Fact.free_ok (d := d) (fun s hs => by simp [hs]) (hf d (by simp)) hg'
        exact hfree (dsts l) (fun s => a.eval (.tmp s)) _ hρ hall (h4 g e1)

theorem absDrawn_ok (hT : Good T) {id : Nat} {l : List Oper} {B : St} (h : absDrawn T nt l A = some B) (hS : Sat T c w0 nt A a w) {Q : Exit → Act → World → Prop} (hQ : ∀ a' w', Sat T c w0 nt B a' w' → Q .normal a' w') : (Code.region id l.toArray true).wp T.P Q a w :=
  absDrawn_ok2 hT (G := fun _ => True) (fun _ _ _ _ => trivial) trivial h hS fun a' w' h1 _ _ => hQ a' w' h1
/-! ### Code -/
structure Out where
  norm : List St
  exits : List (Nat × St)
  rets : List St
def St.join (T : Conf) (A B : St) : Option St := (Ph.join A.ph B.ph).map fun ph =>
  { env := A.env.filterMap fun p => (B.env.lookup p.1).map fun k => (p.1, Kd.join T.tab T.fu p.2 k), facts := A.facts.filter fun f => B.facts.contains f, ph := ph }
def joinAll (T : Conf) : List St → List St
  | [] => []
  | A :: l => match joinAll T l with
    | [] => [A]
    | B :: r => match St.join T A B with
      | some D => D :: r
      | Option.none => A :: B :: r
def St.prune (keep : List Nat) (A : St) : St := { A with env := A.env.filter fun p => keep.contains p.1 }
def bindO (f : St → Option Out) : List St → Option Out
  | [] => some ⟨[], [], []⟩
  | A :: l => (f A).bind fun O => (bindO f l).map fun O' => ⟨O.norm ++ O'.norm, O.exits ++ O'.exits, O.rets ++ O'.rets⟩
def loopN (T : Conf) : Nat → (St → Option Out) → St → Option Out
  | 0, _, _ => Option.none
  | n + 1, f, A => (f A).bind fun O => (bindO (loopN T n f) (joinAll T O.norm)).map fun O' => ⟨[], O.exits ++ O'.exits, O.rets ++ O'.rets⟩
def absC (T : Conf) (nt fu : Nat) (keep : List Nat) : Code → St → Option Out
  | .skip, A => some ⟨[A], [], []⟩
  | .region _ ops false, A => (absOps T nt ops ops.toList A).map fun L => ⟨L.map (St.prune keep), [], []⟩
  | .region _ ops true, A => (absDrawn T nt ops.toList A).map fun B => ⟨[B.prune keep], [], []⟩
  | .seq x y, A => (absC T nt fu keep x A).bind fun O => (bindO (absC T nt fu keep y) O.norm).map fun O' => ⟨O'.norm, O.exits ++ O'.exits, O.rets ++ O'.rets⟩
  | .cond q x y, A => match kop A.look q with
    | .one (.c (.bool (some true))) => absC T nt fu keep x A
    | .one (.c (.bool (some false))) => absC T nt fu keep y A
    | .one (.c (.bool Option.none)) => (match q with
      | .tmp d => (absC T nt fu keep x (A.learn 3 d true)).bind fun O => (absC T nt fu keep y (A.learn 3 d false)).map fun O' => ⟨joinAll T (O.norm ++ O'.norm), O.exits ++ O'.exits, O.rets ++ O'.rets⟩
      | _ => Option.none)
    | _ => Option.none
  | .block id b, A => (absC T nt fu keep b A).map fun O => ⟨joinAll T (O.norm ++ (O.exits.filter fun p => p.1 == id).map (·.2)), O.exits.filter fun p => p.1 != id, O.rets⟩
  | .loop b, A => loopN T fu (absC T nt fu keep b) A
  | .exit id, A => some ⟨[], [(id, A)], []⟩
  | .ret, A => some ⟨[], [], [A]⟩
  | _, _ => Option.none
abbrev SatL (T : Conf) (c : Ctx) (w0 : World) (nt : Nat) (L : List St) (a : Act) (w : World) : Prop := ∃ A ∈ L, Sat T c w0 nt A a w
def OutS (T : Conf) (c : Ctx) (w0 : World) (nt : Nat) (O : Out) : Exit → Act → World → Prop
  | .normal, a, w => SatL T c w0 nt O.norm a w
  | .exit id, a, w => ∃ A, (id, A) ∈ O.exits ∧ Sat T c w0 nt A a w
  | .ret, a, w => SatL T c w0 nt O.rets a w
  | _, _, _ => False
theorem lookup_join {s : Nat} {f : Kd → Kd → Kd} {r : List (Nat × Kd)} : ∀ {l : List (Nat × Kd)}, (l.filterMap fun p => (r.lookup p.1).map fun k => (p.1, f p.2 k)).lookup s = (l.lookup s).bind fun k => (r.lookup s).map fun k' => f k k'
  | [] => rfl
  | (x, k) :: l => by
    have ih := lookup_join (s := s) (f := f) (r := r) (l := l)
    by_cases e : s = x
    · subst e
      cases hr : r.lookup s with
      | none =>
        simp only [List.filterMap_cons, hr, Option.map_none, ih, List.lookup_cons, beq_self_eq_true, Option.bind_some]
        cases List.lookup s l <;> simp
      | some k' => simp [List.filterMap_cons, hr, List.lookup_cons]
    · have hb : (s == x) = false := by simpa using e
      cases hr : r.lookup x with
      | none => simp only [List.filterMap_cons, hr, Option.map_none, ih, List.lookup_cons, hb]
      | some k' => simp only [List.filterMap_cons, hr, Option.map_some, List.lookup_cons, hb, ih]
theorem join_ok (hT : Good T) {A B D : St} (h : St.join T A B = some D) (hS : Sat T c w0 nt A a w ∨ Sat T c w0 nt B a w) : Sat T c w0 nt D a w := by
  obtain ⟨ph, hp, rfl⟩ := Option.map_eq_some_iff.1 h
  have hsz : a.tmps.size = nt ∧ a.defers = [] := by rcases hS with h | h <;> exact ⟨h.1, h.2.1⟩
  refine ⟨hsz.1, hsz.2, fun s => ?_, fun f hf => ?_, ?_⟩
  · show Kd.den c T.tab (((A.env.filterMap fun p => (B.env.lookup p.1).map fun k => (p.1, Kd.join T.tab T.fu p.2 k)).lookup s).getD (.ck .any)) w _
    rw [lookup_join]
    cases hA : A.env.lookup s with
    | none => simp; exact any_den
    | some k =>
      cases hB : B.env.lookup s with
      | none => simp; exact any_den
      | some k' =>
        simp only [Option.bind_some, Option.map_some, Option.getD_some]
        rcases hS with h | h
        · have := h.2.2.1 s
          simp only [St.look, hA, Option.getD_some] at this
          exact Kd.join_l hT.tab this
        · have := h.2.2.1 s
          simp only [St.look, hB, Option.getD_some] at this
          exact Kd.join_r hT.tab this
  · obtain ⟨h1, h2⟩ := List.mem_filter.1 hf
    rcases hS with h | h
    · exact h.2.2.2.1 f h1
    · exact h.2.2.2.1 f (by simpa using h2)
  · rcases hS with h | h
    · exact h.2.2.2.2.join_l hp
    · exact h.2.2.2.2.join_r hp
theorem joinAll_ok (hT : Good T) : ∀ {L : List St}, SatL T c w0 nt L a w → SatL T c w0 nt (joinAll T L) a w
  | [], ⟨_, h, _⟩ => by simp at h
  | A :: l, ⟨B, hB, hS⟩ => by
    simp only [joinAll]
    split
    · rename_i hj
      rcases List.mem_cons.1 hB with rfl | hB
      · exact ⟨B, by simp, hS⟩
      · obtain ⟨D, hD, _⟩ := joinAll_ok hT ⟨B, hB, hS⟩
        rw [hj] at hD; simp at hD
    · rename_i D r hj
      have hl : B ∈ l → SatL T c w0 nt (D :: r) a w := fun hB => by
        have := joinAll_ok hT ⟨B, hB, hS⟩
        rwa [hj] at this
      split
      · rename_i E hE
        rcases List.mem_cons.1 hB with rfl | hB
        · exact ⟨E, by simp, join_ok hT hE (.inl hS)⟩
        · obtain ⟨F, hF, hSF⟩ := hl hB
          rcases List.mem_cons.1 hF with rfl | hF
          · exact ⟨E, by simp, join_ok hT hE (.inr hSF)⟩
          · exact ⟨F, by simp [hF], hSF⟩
      · rcases List.mem_cons.1 hB with rfl | hB
        · exact ⟨B, by simp, hS⟩
        · obtain ⟨F, hF, hSF⟩ := hl hB
          exact ⟨F, by simp only [List.mem_cons] at hF ⊢; exact .inr hF, hSF⟩
theorem lookup_keep {keep : List Nat} {s : Nat} : ∀ {l : List (Nat × Kd)}, ((l.filter fun p => keep.contains p.1).lookup s) = l.lookup s ∨ ((l.filter fun p => keep.contains p.1).lookup s) = Option.none
  | [] => .inl rfl
  | (x, k) :: l => by
    have ih := lookup_keep (keep := keep) (s := s) (l := l)
    by_cases e : s = x
    · subst e
      by_cases hk : keep.contains s
      · left; rw [List.filter_cons]; simp only [hk, if_true, List.lookup_cons, beq_self_eq_true]
      · right
        simp only [List.filter_cons, hk]
        have : ∀ l : List (Nat × Kd), (l.filter fun p => keep.contains p.1).lookup s = Option.none := by
          intro l
          induction l with
          | nil => rfl
          | cons p l ih2 =>
            by_cases hp : keep.contains p.1
            · have hne : (s == p.1) = false := by
                simp only [beq_eq_false_iff_ne, ne_eq]
                intro h; rw [h] at hk; exact hk hp
              simp only [List.filter_cons, hp, if_true]
              rw [show p = (p.1, p.2) from rfl, List.lookup_cons, hne]
              exact ih2
            · simp only [List.filter_cons, hp]
              exact ih2
        exact this l
    · have hb : (s == x) = false := by simpa using e
      by_cases hk : keep.contains x
      · simp only [List.filter_cons, hk, if_true, List.lookup_cons, hb]
        exact ih
      · simp only [List.filter_cons, hk, List.lookup_cons, hb]
        exact ih
theorem prune_ok {keep : List Nat} (hS : Sat T c w0 nt A a w) : Sat T c w0 nt (A.prune keep) a w := by
  refine ⟨hS.1, hS.2.1, fun s => ?_, hS.2.2.2.1, hS.2.2.2.2⟩
  show Kd.den c T.tab (((A.env.filter fun p => keep.contains p.1).lookup s).getD (.ck .any)) w _
  rcases lookup_keep (keep := keep) (s := s) (l := A.env) with h | h
  · rw [h]; exact hS.2.2.1 s
  · rw [h]; exact any_den
theorem OutS.mono {O O' : Out} (h1 : ∀ A ∈ O.norm, A ∈ O'.norm) (h2 : ∀ A ∈ O.exits, A ∈ O'.exits) (h3 : ∀ A ∈ O.rets, A ∈ O'.rets) : ∀ e a w, OutS T c w0 nt O e a w → OutS T c w0 nt O' e a w := by
  intro e a w h
  cases e with
  | normal => obtain ⟨A, hA, hS⟩ := h; exact ⟨A, h1 A hA, hS⟩
  | exit id => obtain ⟨A, hA, hS⟩ := h; exact ⟨A, h2 _ hA, hS⟩
  | ret => obtain ⟨A, hA, hS⟩ := h; exact ⟨A, h3 A hA, hS⟩
  | _ => exact h
theorem bindO_mem {f : St → Option Out} : ∀ {l : List St} {O : Out}, bindO f l = some O → ∀ A ∈ l, ∃ O', f A = some O' ∧ (∀ B ∈ O'.norm, B ∈ O.norm) ∧ (∀ B ∈ O'.exits, B ∈ O.exits) ∧ (∀ B ∈ O'.rets, B ∈ O.rets)
  | [], _, _, A, hA => by simp at hA
  | B :: l, O, h, A, hA => by
    simp only [bindO] at h
    obtain ⟨O1, h1, h2⟩ := Option.bind_eq_some_iff.1 h
    obtain ⟨O2, h3, rfl⟩ := Option.map_eq_some_iff.1 h2
    rcases List.mem_cons.1 hA with rfl | hA
    · exact ⟨O1, h1, fun _ h => by simp [h], fun _ h => by simp [h], fun _ h => by simp [h]⟩
    · obtain ⟨O', h4, h5, h6, h7⟩ := bindO_mem h3 A hA
      exact ⟨O', h4, fun B hB => by simp [h5 B hB], fun B hB => by simp [h6 B hB], fun B hB => by simp [h7 B hB]⟩
theorem loopN_ok (hT : Good T) {body : Code} {f : St → Option Out} (hf : ∀ A O a w, f A = some O → Sat T c w0 nt A a w → body.wp T.P (OutS T c w0 nt O) a w) : ∀ {n : Nat} {A : St} {O : Out} {a : Act} {w : World}, loopN T n f A = some O → Sat T c w0 nt A a w → Code.rounds T.P body (OutS T c w0 nt O) n a w
  | 0, A, O, a, w, h, _ => by cases h
  | n + 1, A, O, a, w, h, hS => by
    simp only [loopN] at h
    obtain ⟨O1, h1, h2⟩ := Option.bind_eq_some_iff.1 h
    obtain ⟨O2, h3, rfl⟩ := Option.map_eq_some_iff.1 h2
    rw [rounds_succ]
    refine Code.wp_mono (fun e a' w' he => ?_) (hf A O1 a w h1 hS)
    cases e with
    | normal =>
      obtain ⟨B, hB, hSB⟩ := joinAll_ok hT he
      obtain ⟨O', h4, h5, h6, h7⟩ := bindO_mem h3 B hB
      have := loopN_ok hT hf h4 hSB
      -- the later rounds
      have mono : ∀ (n : Nat) (Q Q' : Exit → Act → World → Prop) a w, (∀ e a w, Q e a w → Q' e a w) → Code.rounds T.P body Q n a w → Code.rounds T.P body Q' n a w := by
        intro n
        induction n with
        | zero => intro Q Q' a w _ h; exact h
        | succ n ih =>
          intro Q Q' a w hq h
          rw [rounds_succ] at h ⊢
          refine Code.wp_mono (fun e a w he => ?_) h
          cases e with
          | normal => exact ih Q Q' a w hq he
          | _ => exact hq _ _ _ he
      have hn : ∀ e a w, OutS T c w0 nt O' e a w → OutS T c w0 nt ⟨[], O1.exits ++ O2.exits, O1.rets ++ O2.rets⟩ e a w := by
        intro e a w he
        cases e with
        | normal =>
          obtain ⟨D, hD, _⟩ := he
          have : O'.norm = [] := by
            cases n with
            | zero => cases h4
            | succ n =>
              simp only [loopN] at h4
              obtain ⟨O3, _, h8⟩ := Option.bind_eq_some_iff.1 h4
              obtain ⟨O4, _, rfl⟩ := Option.map_eq_some_iff.1 h8
              rfl
          rw [this] at hD; simp at hD
        | exit id => obtain ⟨D, hD, hSD⟩ := he; exact ⟨D, by simp [h6 _ hD], hSD⟩
        | ret => obtain ⟨D, hD, hSD⟩ := he; exact ⟨D, by simp [h7 _ hD], hSD⟩
        | _ => exact he
      exact mono n _ _ a' w' hn this
    | exit id => obtain ⟨D, hD, hSD⟩ := he; exact ⟨D, by simp [hD], hSD⟩
    | ret => obtain ⟨D, hD, hSD⟩ := he; exact ⟨D, by simp [hD], hSD⟩
    | _ => exact he
theorem absC_ok (hT : Good T) {fu : Nat} {keep : List Nat} : ∀ (code : Code) {A : St} {O : Out} {a : Act} {w : World}, absC T nt fu keep code A = some O → Sat T c w0 nt A a w → code.wp T.P (OutS T c w0 nt O) a w := by
  intro code
  induction code with
  | skip => intro A O a w h hS; cases h; exact wp_skip ⟨A, by simp, hS⟩
  | region id ops draw =>
    intro A O a w h hS
    cases draw with
    | false =>
      simp only [absC] at h
      obtain ⟨L, h1, rfl⟩ := Option.map_eq_some_iff.1 h
      refine wp_region_list (absOps_ok hT h1 hS (fun a' w' ⟨B, hB, hSB⟩ => ⟨B.prune keep, List.mem_map.2 ⟨B, hB, rfl⟩, prune_ok hSB⟩))
    | true =>
      simp only [absC] at h
      obtain ⟨B, h1, rfl⟩ := Option.map_eq_some_iff.1 h
      have := absDrawn_ok hT (id := id) h1 hS (Q := OutS T c w0 nt ⟨[B.prune keep], [], []⟩) (fun a' w' hSB => ⟨B.prune keep, by simp, prune_ok hSB⟩)
      simpa using this
  | seq x y ihx ihy =>
    intro A O a w h hS
    simp only [absC] at h
    obtain ⟨O1, h1, h2⟩ := Option.bind_eq_some_iff.1 h
    obtain ⟨O2, h3, rfl⟩ := Option.map_eq_some_iff.1 h2
    refine wp_seq (Code.wp_mono (fun e a' w' he => ?_) (ihx h1 hS))
    cases e with
    | normal =>
      obtain ⟨B, hB, hSB⟩ := he
      obtain ⟨O', h4, h5, h6, h7⟩ := bindO_mem h3 B hB
      exact Code.wp_mono (OutS.mono h5 (fun D hD => by simp [h6 D hD]) (fun D hD => by simp [h7 D hD])) (ihy h4 hSB)
    | exit id => obtain ⟨D, hD, hSD⟩ := he; exact ⟨D, by simp [hD], hSD⟩
    | ret => obtain ⟨D, hD, hSD⟩ := he; exact ⟨D, by simp [hD], hSD⟩
    | _ => exact he
  | cond q x y ihx ihy =>
    intro A O a w h hS
    simp only [absC] at h
    have hq := kop_den (c := c) (tab := T.tab) (w := w) hS.2.2.1 q
    split at h <;> try (cases h; done)
    · rename_i e; rw [e] at hq; obtain ⟨b, hb, hb2⟩ := hq; obtain rfl := hb2 _ rfl
      exact wp_cond_true hb (ihx h hS)
    · rename_i e; rw [e] at hq; obtain ⟨b, hb, hb2⟩ := hq; obtain rfl := hb2 _ rfl
      exact wp_cond_false hb (ihy h hS)
    · rename_i e; rw [e] at hq; obtain ⟨b, hb, _⟩ := hq
      split at h <;> try (cases h; done)
      rename_i d
      obtain ⟨O1, h1, h2⟩ := Option.bind_eq_some_iff.1 h
      obtain ⟨O2, h3, rfl⟩ := Option.map_eq_some_iff.1 h2
      have fin : ∀ O', (∀ B ∈ O'.norm, B ∈ O1.norm ++ O2.norm) → (∀ B ∈ O'.exits, B ∈ O1.exits ++ O2.exits) → (∀ B ∈ O'.rets, B ∈ O1.rets ++ O2.rets) → ∀ e a w, OutS T c w0 nt O' e a w → OutS T c w0 nt ⟨joinAll T (O1.norm ++ O2.norm), O1.exits ++ O2.exits, O1.rets ++ O2.rets⟩ e a w := by
        intro O' g1 g2 g3 e a w he
        cases e with
        | normal => obtain ⟨B, hB, hSB⟩ := he; exact joinAll_ok hT ⟨B, g1 B hB, hSB⟩
        | exit id => obtain ⟨B, hB, hSB⟩ := he; exact ⟨B, g2 _ hB, hSB⟩
        | ret => obtain ⟨B, hB, hSB⟩ := he; exact ⟨B, g3 B hB, hSB⟩
        | _ => exact he
      refine wp_cond_split hb (fun e => ?_) (fun e => ?_)
      · subst e
        exact Code.wp_mono (fin O1 (fun B hB => by simp [hB]) (fun B hB => by simp [hB]) (fun B hB => by simp [hB])) (ihx h1 (hS.learn hb))
      · subst e
        exact Code.wp_mono (fin O2 (fun B hB => by simp [hB]) (fun B hB => by simp [hB]) (fun B hB => by simp [hB])) (ihy h3 (hS.learn hb))
  | block id b ih =>
    intro A O a w h hS
    simp only [absC] at h
    obtain ⟨O1, h1, rfl⟩ := Option.map_eq_some_iff.1 h
    refine wp_block (Code.wp_mono (fun e a' w' he => ?_) (ih h1 hS))
    cases e with
    | normal => obtain ⟨B, hB, hSB⟩ := he; exact joinAll_ok hT ⟨B, by simp [hB], hSB⟩
    | exit id' =>
      obtain ⟨B, hB, hSB⟩ := he
      show (if id' = id then _ else _)
      by_cases e : id' = id
      · rw [if_pos e]
        subst e
        refine joinAll_ok hT ⟨B, ?_, hSB⟩
        simp only [List.mem_append, List.mem_map, List.mem_filter]
        exact .inr ⟨(id', B), ⟨hB, by simp⟩, rfl⟩
      · rw [if_neg e]
        exact ⟨B, List.mem_filter.2 ⟨hB, by simpa using e⟩, hSB⟩
    | ret => exact he
    | _ => exact he
  | loop b ih =>
    intro A O a w h hS
    simp only [absC] at h
    exact wp_loop_rounds fu (loopN_ok hT (fun A O a w h hS => ih h hS) h hS)
  | exit id => intro A O a w h hS; cases h; exact wp_exit ⟨A, by simp, hS⟩
  | ret => intro A O a w h hS; cases h; exact wp_ret ⟨A, by simp, hS⟩
  | _ => intro A O a w h; cases h
end
end Go.Proofs.Ytodjokdaofefdaa
/- Functions by the kinds of their arguments and results. -/
namespace Go.Proofs.Ytodjokdaofefdaa
set_option linter.unusedSimpArgs false
set_option linter.unusedVariables false
open Go.RowKit

section
variable {T : Conf} {c : Ctx} {w0 : World} {nt : Nat} {A : St} {a : Act} {w w' : World} {v : Value}
def resK (T : Conf) (A : St) : ResultVar → Option K1
  | .tmp t => match A.look t with | .one k => some k | _ => Option.none
  | .cell s t => match absLoad T.P T.tab t (A.look s) with | some (.one k) => some k | _ => Option.none
def resRun (tmps : Array Value) : ResultVar → Sem Value
  | .tmp t => pure (tmps.getD t undef)
  | .cell a t => do loadVar t (← asAddr (tmps.getD a undef))
theorem resK_ok (hT : Good T) {r : ResultVar} {k : K1} (h : resK T A r = some k) (hS : Sat T c w0 nt A a w) : ∃ v, (resRun a.tmps r).run T.P w = .ok v w ∧ k.den c T.tab w v := by
  cases r with
  | tmp t =>
    simp only [resK] at h
    split at h <;> cases h
    rename_i e
    have := hS.2.2.1 t
    rw [e] at this
    exact ⟨a.eval (.tmp t), by simp [resRun, Act.eval], this⟩
  | cell s t =>
    simp only [resK] at h
    split at h <;> cases h
    rename_i e
    obtain ⟨A', v, h1, h2, h3⟩ := load_run (G := T.cfg c w0) hT.tab e (hS.2.2.1 s)
    refine ⟨v, ?_, h3⟩
    have h1' : a.tmps.getD s undef = .pointer (some A') := h1
    simp only [resRun, h1', asAddr, Sem.run_bind, Sem.run_pure, Result.andThen_ok]
    exact h2
def resKs (T : Conf) (A : St) : List ResultVar → Option (List K1)
  | [] => some []
  | r :: l => (resK T A r).bind fun k => (resKs T A l).map fun ks => k :: ks
theorem resKs_ok (hT : Good T) (hS : Sat T c w0 nt A a w) : ∀ {l : List ResultVar} {ks : List K1}, resKs T A l = some ks → ∃ vs : List Value, (l.mapM (resRun a.tmps)).run T.P w = .ok vs w ∧ RowK (ks.map (K1.den c T.tab)) w vs
  | [], ks, h => by cases h; exact ⟨[], by simp, rfl⟩
  | r :: l, ks, h => by
    simp only [resKs] at h
    obtain ⟨k, h1, h2⟩ := Option.bind_eq_some_iff.1 h
    obtain ⟨ks', h3, rfl⟩ := Option.map_eq_some_iff.1 h2
    obtain ⟨v, h4, h5⟩ := resK_ok hT h1 hS
    obtain ⟨vs, h6, h7⟩ := resKs_ok hT hS h3
    exact ⟨v :: vs, by simp [List.mapM_cons, h4, h6], v, vs, rfl, h5, h7⟩
def resOf (T : Conf) (fn : Func) (A : St) : Option Kd := match resKs T A fn.results.toList with
  | some [k] => some (.one k)
  | some ks => some (.tup ks)
  | Option.none => Option.none
theorem results_eq (fn : Func) (tmps : Array Value) : results fn tmps = (do let vs ← fn.results.mapM (resRun tmps); pure (if h : vs.size = 1 then vs[0] else .tuple vs)) := by
  unfold results
  rfl
theorem resOf_ok (hT : Good T) {fn : Func} {k : Kd} (h : resOf T fn A = some k) (hS : Sat T c w0 nt A a w) : ∃ v, (results fn a.tmps).run T.P w = .ok v w ∧ k.den c T.tab w v := by
  unfold resOf at h
  split at h <;> try (cases h; done)
  · rename_i k1 e
    cases h
    obtain ⟨vs, h1, h2⟩ := resKs_ok hT hS e
    obtain ⟨v, r, rfl, h3, h4⟩ := h2
    obtain rfl : r = [] := h4
    refine ⟨v, ?_, h3⟩
    rw [results_eq, Array.mapM_eq_mapM_toList]
    simp [h1]
  · rename_i ks hne e
    cases h
    obtain ⟨vs, h1, h2⟩ := resKs_ok hT hS e
    have hl := h2.length
    rw [List.length_map] at hl
    have hne1 : ¬ vs.length = 1 := fun h1 => by
      rw [hl] at h1
      obtain ⟨k, hk⟩ := List.length_eq_one_iff.1 h1
      exact hne k hk
    refine ⟨.tuple vs.toArray, ?_, vs, rfl, h2⟩
    rw [results_eq, Array.mapM_eq_mapM_toList]
    simp [h1, hne1]
def argEnv : Nat → List Kd → List (Nat × Kd)
  | _, [] => []
  | i, k :: l => (i, k) :: argEnv (i + 1) l
/-- The function gives the kind, from such arguments on; at most lim draws. -/
def absFn (T : Conf) (fn : Func) (fu : Nat) (keep : List Nat) (aks : List Kd) (ph : Ph) (rk : Kd) : Bool := match fn.body with
  | some code => decide (aks.length ≤ fn.ntmps) && (match absC T fn.ntmps fu keep code ⟨argEnv 0 aks, [], ph⟩ with
    | some O => O.exits.isEmpty && (O.norm ++ O.rets).all fun A => match resOf T fn A, A.ph with
      | some k, .run n => Kd.le T.tab T.fu k rk && decide (n ≤ T.J.lim)
      | _, _ => false
    | Option.none => false)
  | Option.none => false
theorem argEnv_look {w : World} {c : Ctx} {tab : Tab} : ∀ {aks : List Kd} {args : List Value} {i : Nat}, ArgsR c tab w aks args → ∀ s, (((argEnv i aks).lookup s).getD (.ck .any)).den c tab w ((if s < i then Option.none else args[s - i]?).getD undef) ∨ ((argEnv i aks).lookup s) = Option.none
  | [], [], i, _, s => .inr rfl
  | k :: l, v :: r, i, h, s => by
    simp only [argEnv]
    by_cases e : s = i
    · subst e
      left
      simp
      exact h.1
    · have hb : (s == i) = false := by simpa using e
      rw [List.lookup_cons, hb]
      have ih := argEnv_look (i := i + 1) h.2 s
      rcases ih with ih | ih
      · by_cases hlt : s < i
        · right
          -- below the first argument nothing is known
          have : ∀ (l : List Kd) (j : Nat), s < j → (argEnv j l).lookup s = Option.none := by
            intro l
            induction l with
            | nil => intro j _; rfl
            | cons k l ih2 =>
              intro j hj
              have hb2 : (s == j) = false := by simp; omega
              rw [argEnv, List.lookup_cons, hb2]
              exact ih2 (j + 1) (by omega)
          exact this l (i + 1) (by omega)
        · left
          rw [if_neg (by omega)] at ih ⊢
          rw [show s - i = (s - (i + 1)) + 1 by omega, List.getElem?_cons_succ]
          exact ih
      · exact .inr ih
  | [], _ :: _, _, h, _ => h.elim
  | _ :: _, [], _, h, _ => h.elim
theorem ArgsR.length {w : World} {c : Ctx} {tab : Tab} : ∀ {aks : List Kd} {args : List Value}, ArgsR c tab w aks args → args.length = aks.length
  | [], [], _ => rfl
  | _ :: _, _ :: _, h => by simp [ArgsR.length h.2]
  | [], _ :: _, h => h.elim
  | _ :: _, [], h => h.elim
theorem absFn_ok (hT : Good T) {f : FuncId} {fn : Func} (hf : T.P.funcs[f]? = some fn) {fu : Nat} {keep : List Nat} {aks : List Kd} {ph : Ph} {rk : Kd} (h : absFn T fn fu keep aks ph rk = true) {args : List Value} (hI : Inv c w0 T.J ph w) (hA : ArgsR c T.tab w aks args) :
    Calls T.P f args.toArray w fun e w' => ∃ v, e = .returned v ∧ rk.den c T.tab w' v ∧ ∃ n, n ≤ T.J.lim ∧ Inv c w0 T.J (.run n) w' := by
  unfold absFn at h
  split at h <;> try (cases h; done)
  rename_i code hcode
  simp only [Bool.and_eq_true, decide_eq_true_eq] at h
  obtain ⟨hn, h⟩ := h
  split at h <;> try (cases h; done)
  rename_i O hO
  simp only [Bool.and_eq_true, List.isEmpty_iff] at h
  obtain ⟨he, hall⟩ := h
  have hal := hA.length
  refine calls_of_wp hf hcode (Code.wp_mono (fun e a' w' hq => ?_) (absC_ok hT code (a := { tmps := args.toArray ++ Array.replicate (fn.ntmps - args.toArray.size) undef, defers := [] }) hO ⟨?_, rfl, fun s => ?_, fun f hf => by simp at hf, hI⟩))
  · have fin : ∀ A ∈ O.norm ++ O.rets, Sat T c w0 fn.ntmps A a' w' → a'.defers = [] ∧ ∃ v, (results fn a'.tmps).run T.P w' = .ok v w' ∧ ∃ v', Ending.returned v = .returned v' ∧ rk.den c T.tab w' v' ∧ ∃ n, n ≤ T.J.lim ∧ Inv c w0 T.J (.run n) w' := fun A hA hS => by
      have h1 := List.all_eq_true.1 hall A hA
      split at h1 <;> try (cases h1; done)
      rename_i k n hk hph
      simp only [Bool.and_eq_true, decide_eq_true_eq] at h1
      obtain ⟨v, h2, h3⟩ := resOf_ok hT hk hS
      have hI := hS.2.2.2.2
      rw [hph] at hI
      exact ⟨hS.2.1, v, h2, v, rfl, Kd.le_den hT.tab h1.1 h3, n, h1.2, hI⟩
    cases e with
    | normal => obtain ⟨A, hA, hS⟩ := hq; exact fin A (by simp [hA]) hS
    | ret => obtain ⟨A, hA, hS⟩ := hq; exact fin A (by simp [hA]) hS
    | exit id => obtain ⟨A, hA, _⟩ := hq; rw [he] at hA; simp at hA
    | _ => exact hq.elim
  · simp; omega
  · show Kd.den c T.tab (((argEnv 0 aks).lookup s).getD (.ck .any)) w _
    rcases argEnv_look (i := 0) hA s with h1 | h1
    · simp only [Nat.not_lt_zero, if_false, Nat.sub_zero] at h1
      cases hs : args[s]? with
      | some v =>
        rw [hs] at h1
        have : (args.toArray ++ Array.replicate (fn.ntmps - args.toArray.size) undef).getD s undef = v := by
          have hlt := (List.getElem?_eq_some_iff.1 hs).1
          rw [Array.getD_eq_getD_getElem?, Array.getElem?_append_left (by simpa using hlt)]
          simp [hs]
        simp only [Act.eval, this]
        exact h1
      | none =>
        rw [hs] at h1
        have : (args.toArray ++ Array.replicate (fn.ntmps - args.toArray.size) undef).getD s undef = undef := by
          have hlt := List.getElem?_eq_none_iff.1 hs
          rw [Array.getD_eq_getD_getElem?, Array.getElem?_append_right (by simpa using hlt)]
          simp only [Array.getElem?_replicate]
          split <;> rfl
        simp only [Act.eval, this]
        exact h1
    · rw [h1]; exact any_den
/-- Kinds that do not lean on where the call began. -/
def CK.bare : CK → Bool
  | .sl _ _ _ | .ptr _ _ => false
  | _ => true
def bareArg : Kd → Bool
  | .one (.c k) => k.bare
  | _ => false
theorem bare_den {c c' : Ctx} {tab : Tab} (hbr : c'.br = c.br) (hcv : c'.cv = c.cv) {k : Kd} (hk : bareArg k = true) (h : k.den c tab w v) : k.den c' tab w v := by
  unfold bareArg at hk
  split at hk <;> try (cases hk; done)
  rename_i k0
  cases k0 <;> simp only [CK.bare, Bool.false_eq_true] at hk <;> first
    | exact h
    | (show v = _; rw [hbr]; exact h)
    | (show v = _; rw [hcv]; exact h)
theorem args_bare {c c' : Ctx} {tab : Tab} (hbr : c'.br = c.br) (hcv : c'.cv = c.cv) : ∀ {aks : List Kd} {args : List Value}, aks.all bareArg = true → ArgsR c tab w aks args → ArgsR c' tab w aks args
  | [], [], _, _ => trivial
  | k :: l, v :: r, h, hh => by
    simp only [List.all_cons, Bool.and_eq_true] at h
    exact ⟨bare_den hbr hcv h.1 hh.1, args_bare hbr hcv h.2 hh.2⟩
  | [], _ :: _, _, h => h.elim
  | _ :: _, [], _, h => h.elim
/-- What is known from a later beginning is known from an earlier one. -/
theorem BlkK.lowerB {B B' br t m : Nat} {e : TypeId} {ks ks' : List VK} {g : Nat} (hB : B' ≤ B) (hl : ks.length = ks'.length) (h : ∀ (f : Nat) k k', ks[f]? = some k → ks'[f]? = some k' → ∀ u, k w u → k' w u) (hb : BlkK B br e ks t m w g) : BlkK B' br e ks' t m w g := by
  have := hb.weaken hl h
  exact ⟨Nat.le_trans hB this.1, this.2⟩
theorem ck_lower {c c' : Ctx} (hB : c'.B ≤ c.B) (hbr : c'.br = c.br) (hcv : c'.cv = c.cv) {w : World} : ∀ {tab : Tab} (k : CK) {v : Value}, cden c tab k w v → cden c' tab k w v := by
  have key : ∀ (tab : Tab) (i : Nat), (tabOf c tab i).1 = (tabOf c' tab i).1 ∧ (tabOf c tab i).2.length = (tabOf c' tab i).2.length ∧ ∀ (f : Nat) k k', (tabOf c tab i).2[f]? = some k → (tabOf c' tab i).2[f]? = some k' → ∀ u, k w u → k' w u := by
    intro tab
    induction tab with
    | nil => intro i; exact ⟨rfl, rfl, fun f k k' h => by simp [tabOf] at h⟩
    | cons x r ih =>
      obtain ⟨Ty, ks⟩ := x
      intro i
      simp only [tabOf]
      split
      · refine ⟨rfl, by simp, fun f k k' h h' u hu => ?_⟩
        rw [List.getElem?_map] at h h'
        obtain ⟨k0, e0, rfl⟩ := Option.map_eq_some_iff.1 h
        obtain ⟨k1, e1, rfl⟩ := Option.map_eq_some_iff.1 h'
        rw [e0] at e1
        cases e1
        cases k0 with
        | sl j lo hi =>
          obtain ⟨hs, hA⟩ := hu
          refine ⟨?_, hA⟩
          obtain ⟨h1, h2, h3⟩ := ih j
          rw [← h1]
          rcases hs with rfl | ⟨g, o, n, q, rfl, g1, g2, g3, g4⟩
          · exact .inl rfl
          · exact .inr ⟨g, o, n, q, by rw [h2], g1, g2, g3, by rw [hbr]; exact g4.lowerB hB h2 h3⟩
        | ptr j off =>
          obtain ⟨g, q, rfl, g1⟩ := hu
          obtain ⟨h1, h2, h3⟩ := ih j
          exact ⟨g, q, by rw [h2], by rw [← h1, hbr]; exact g1.lowerB hB h2 h3⟩
        | rdr => show u = _; rw [hbr]; exact hu
        | code => show u = _; rw [hcv]; exact hu
        | _ => exact hu
      · exact ih i
  intro tab k v hv
  cases k with
  | sl j lo hi =>
    obtain ⟨hs, hA⟩ := hv
    refine ⟨?_, hA⟩
    obtain ⟨h1, h2, h3⟩ := key tab j
    rw [← h1]
    rcases hs with rfl | ⟨g, o, n, q, rfl, g1, g2, g3, g4⟩
    · exact .inl rfl
    · exact .inr ⟨g, o, n, q, by rw [h2], g1, g2, g3, by rw [hbr]; exact g4.lowerB hB h2 h3⟩
  | ptr j off =>
    obtain ⟨g, q, rfl, g1⟩ := hv
    obtain ⟨h1, h2, h3⟩ := key tab j
    exact ⟨g, q, by rw [h2], by rw [← h1, hbr]; exact g1.lowerB hB h2 h3⟩
  | rdr => show v = _; rw [hbr]; exact hv
  | code => show v = _; rw [hcv]; exact hv
  | _ => exact hv
theorem row_lower {α : Type} {D D' : α → VK} {w : World} (h : ∀ k v, D k w v → D' k w v) : ∀ {l : List α} {cs : List Value}, RowK (l.map D) w cs → RowK (l.map D') w cs
  | [], _, h' => h'
  | k :: l, _, ⟨u, r, e, h1, h2⟩ => ⟨u, r, e, h k u h1, row_lower h h2⟩
theorem k1_lower {c c' : Ctx} (hB : c'.B ≤ c.B) (hbr : c'.br = c.br) (hcv : c'.cv = c.cv) {w : World} {tab : Tab} (k : K1) {v : Value} (hv : k.den c tab w v) : k.den c' tab w v := by
  cases k with
  | c k => exact ck_lower hB hbr hcv k hv
  | agg ks => obtain ⟨cs, e, hr⟩ := hv; exact ⟨cs, e, row_lower (fun k v h => ck_lower hB hbr hcv k h) hr⟩
theorem kd_lower {c c' : Ctx} (hB : c'.B ≤ c.B) (hbr : c'.br = c.br) (hcv : c'.cv = c.cv) {w : World} {tab : Tab} (k : Kd) {v : Value} (hv : k.den c tab w v) : k.den c' tab w v := by
  cases k with
  | one k => exact k1_lower hB hbr hcv k hv
  | tup ks => obtain ⟨cs, e, hr⟩ := hv; exact ⟨cs, e, row_lower (fun k v h => k1_lower hB hbr hcv k h) hr⟩
/-- THE CONTRACT of a function that draws. -/
theorem con_of (hT : Good T) {f : FuncId} {fn : Func} (hf : T.P.funcs[f]? = some fn) (hname : (fn.name == "runtime.NumGoroutine") = false) {fu : Nat} {keep : List Nat} {aks : List Kd} {rk : Kd} (hb : aks.all bareArg = true) (h : absFn T fn fu keep aks (.run 0) rk = true) : ConOk T.P T.tab ⟨f, aks, rk, T.J.lim⟩ := by
  have hbody : ∃ code, fn.body = some code := by
    unfold absFn at h
    split at h
    · rename_i code hc; exact ⟨code, hc⟩
    · cases h
  obtain ⟨code, hcode⟩ := hbody
  refine ⟨⟨fn, code, hf, hname, hcode⟩, fun c w N args hB hcb hR hN hA => ?_⟩
  obtain ⟨c2, hc2⟩ : ∃ c2 : Ctx, c2 = { c with B := w.heap.size, N0 := N } := ⟨_, rfl⟩
  have e1 : c2.B = w.heap.size := by rw [hc2]
  have e2 : c2.br = c.br := by rw [hc2]
  have e3 : c2.cv = c.cv := by rw [hc2]
  have e4 : c2.cb = c.cb := by rw [hc2]
  have e5 : c2.N0 = N := by rw [hc2]
  clear hc2
  have hI : Inv c2 w T.J (.run 0) w := ⟨GrownP.refl _ _, by omega, by omega, by rw [e5]; exact hN, by rw [e2, e4, e5]; simpa using hR⟩
  refine (absFn_ok hT hf h hI (args_bare (c := c) e2 e3 hb hA)).mono ?_
  rintro e w' ⟨v, rfl, hv, n, hn, hI'⟩
  obtain ⟨g1, g2, g3, g4, g5⟩ := hI'
  rw [e2, e4, e5] at g5
  refine ⟨v, rfl, kd_lower (c := c2) (c' := c) (by omega) e2.symm e3.symm rk hv, g5.mono (by show N + n ≤ N + T.J.lim; omega), g1.1, g1.2.1, g1.2.2.1, g1.2.2.2.1, fun k hk hne => g1.2.2.2.2 k hk (fun hh => ?_)⟩
  rcases hh with hh | hh
  · exact hne (by rw [hh, e2])
  · omega
/-- THE CONTRACT of a function that opens a reader on its code. -/
theorem draw_of (hT : Good T) {f : FuncId} {fn : Func} (hf : T.P.funcs[f]? = some fn) {fu : Nat} {keep : List Nat} {rk : Kd} (hlim : T.J.lim ≤ 1000000000) (h : absFn T fn fu keep [.ck .code] (.pre 0) rk = true) {A : Option Addr} {l : List Int} {q : Nat} {w : World} (hC : CodeR w w.heap.size A l) (hq : l.length ≤ q) :
    Calls T.P f #[.slice A l.length q] w fun e w' => ∃ v c, e = .returned v ∧ c.B = w.heap.size ∧ rk.den c T.tab w' v ∧ Below w.heap.size w w' := by
  obtain ⟨c, hc⟩ : ∃ c : Ctx, c = { B := w.heap.size, br := w.heap.size + T.J.J, cb := w.heap.size, cv := .slice A l.length q, N0 := 0 } := ⟨_, rfl⟩
  have hI : Inv c w T.J (.pre 0) w := by
    rw [hc]
    exact ⟨GrownP.refl _ _, Nat.le_refl _, Nat.le_refl _, by simpa using hlim, rfl, Nat.zero_le _, rfl, A, l, q, rfl, hq, hC⟩
  refine (absFn_ok (args := [.slice A l.length q]) hT hf h hI ⟨by rw [hc]; rfl, trivial⟩).mono ?_
  rintro e w' ⟨v, rfl, hv, n, hn, hI'⟩
  obtain ⟨g1, g2, g3, g4, g5⟩ := hI'
  refine ⟨v, c, rfl, by rw [hc], hv, g1.1, g1.2.1, g1.2.2.1, g1.2.2.2.1, fun k hk => g1.2.2.2.2 k hk (fun hh => ?_)⟩
  rw [hc] at hh
  simp only at hh
  omega
end
end Go.Proofs.Ytodjokdaofefdaa

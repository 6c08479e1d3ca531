/- What is known at a point of a walk: kinds of slots, facts on slots; regions in their own order. -/
import Derived.Test.YtpmelhkhmichcaaDoorAid
namespace Go.Proofs.YtpmelhkhmichcaaDoor
set_option linter.unusedSimpArgs false
set_option linter.unusedVariables false
open Go.RowKit

inductive Fact where
  | same (x y : Nat)
  | cmp (d : Nat) (b : BinOp) (x : Nat) (y : Nat ⊕ Int)
  | len (x s : Nat)
  | less (x s : Nat)
  | neg (d x : Nat)
  deriving DecidableEq
def opdIs (ρ : Nat → Value) (n : Int) : Nat ⊕ Int → Prop
  | .inl s => ρ s = .int .i64 n
  | .inr q => n = q
def Fact.holds (ρ : Nat → Value) : Fact → Prop
  | .same x y => ρ x = ρ y
  | .cmp d b x y => ∀ f, cmpOf b = some f → ∀ m n, ρ x = .int .i64 m → opdIs ρ n y → ρ d = .bool (f m n)
  | .len x s => ∃ A n q, ρ s = .slice A n q ∧ ρ x = .int .i64 (n : Nat)
  | .less x s => LtLen (ρ x) (ρ s)
  | .neg d x => ∃ b, ρ x = .bool b ∧ ρ d = .bool !b
/-- The fact does not speak of the slot. -/
def Fact.free (d : Nat) : Fact → Bool
  | .same x y => x != d && y != d
  | .cmp c _ x y => c != d && x != d && (match y with | .inl s => s != d | .inr _ => true)
  | .len x s => x != d && s != d
  | .less x s => x != d && s != d
  | .neg c x => c != d && x != d
/-- A fact on the slot in terms of others. -/
def Fact.head (d : Nat) : Fact → Bool
  | .same x y => x == d && y != d
  | .cmp c _ x y => c == d && x != d && (match y with | .inl s => s != d | .inr _ => true)
  | .len x s => x == d && s != d
  | .less x s => x == d && s != d
  | .neg c x => c == d && x != d
theorem Fact.free_ok {ρ ρ' : Nat → Value} {d : Nat} (h : ∀ s, s ≠ d → ρ' s = ρ s) : ∀ {f : Fact}, f.free d = true → f.holds ρ → f.holds ρ'
  | .same x y, hf, hh => by
    simp only [Fact.free, Bool.and_eq_true, bne_iff_ne] at hf
    simp only [Fact.holds, h x hf.1, h y hf.2]; exact hh
  | .cmp c b x y, hf, hh => by
    simp only [Fact.free, Bool.and_eq_true, bne_iff_ne] at hf
    intro f hf' m n hm hn
    rw [h c hf.1.1]
    rw [h x hf.1.2] at hm
    refine hh f hf' m n hm ?_
    cases y with
    | inl s => have : s ≠ d := by simpa using hf.2
               simpa [opdIs, h s this] using hn
    | inr q => exact hn
  | .len x s, hf, hh => by
    simp only [Fact.free, Bool.and_eq_true, bne_iff_ne] at hf
    simp only [Fact.holds, h x hf.1, h s hf.2]; exact hh
  | .less x s, hf, hh => by
    simp only [Fact.free, Bool.and_eq_true, bne_iff_ne] at hf
    simp only [Fact.holds, h x hf.1, h s hf.2]; exact hh
  | .neg c x, hf, hh => by
    simp only [Fact.free, Bool.and_eq_true, bne_iff_ne] at hf
    simp only [Fact.holds, h c hf.1, h x hf.2]; exact hh
structure St where
  env : List (Nat × Kd)
  facts : List Fact
  ph : Ph
def St.look (A : St) (s : Nat) : Kd := (A.env.lookup s).getD (.ck .any)
def rootIn : List Fact → Nat → Nat
  | [], x => x
  | .same a b :: l, x => if a = x then b else rootIn l x
  | _ :: l, x => rootIn l x
def St.root (A : St) (x : Nat) : Nat := rootIn A.facts x
def hasLess : List Fact → Nat → Nat → Bool
  | [], _, _ => false
  | .less a b :: l, x, s => (a == x && b == s) || hasLess l x s
  | _ :: l, x, s => hasLess l x s
def St.lt (A : St) (x s : Nat) : Bool := hasLess A.facts (A.root x) (A.root s)
theorem root_ok {ρ : Nat → Value} : ∀ {l : List Fact}, (∀ f ∈ l, f.holds ρ) → ∀ x, ρ (rootIn l x) = ρ x
  | [], _, _ => rfl
  | f :: l, h, x => by
    have ih := root_ok (l := l) (fun g hg => h g (by simp [hg])) x
    cases f with
    | same a b =>
      simp only [rootIn]
      split
      · rename_i e; subst e; exact (h (.same a b) (by simp)).symm
      · exact ih
    | _ => exact ih
theorem less_ok {ρ : Nat → Value} : ∀ {l : List Fact}, (∀ f ∈ l, f.holds ρ) → ∀ {x s}, hasLess l x s = true → LtLen (ρ x) (ρ s)
  | [], _, _, _, h => by simp [hasLess] at h
  | f :: l, h, x, s, hl => by
    have ih := fun hl => less_ok (l := l) (fun g hg => h g (by simp [hg])) (x := x) (s := s) hl
    cases f with
    | less a b =>
      simp only [hasLess, Bool.or_eq_true, Bool.and_eq_true, beq_iff_eq] at hl
      rcases hl with ⟨rfl, rfl⟩ | hl
      · exact h (.less a b) (by simp)
      · exact ih hl
    | _ => exact ih hl
abbrev Act.sl (a : Act) (s : Nat) : Value := a.eval (.tmp s)
def Sat (T : Conf) (c : Ctx) (w0 : World) (nt : Nat) (A : St) (a : Act) (w : World) : Prop :=
  a.tmps.size = nt ∧ a.defers = [] ∧ (∀ s, (A.look s).den c T.tab w (a.eval (.tmp s))) ∧ (∀ f ∈ A.facts, f.holds fun s => a.eval (.tmp s)) ∧ Inv c w0 T.J A.ph w
def isSlice : Kd → Bool
  | .one (.c (.sl _ _ _)) => true
  | .one (.c (.sl0 _ _)) => true
  | .one (.c .nil) => true
  | _ => false
theorem isSlice_ok {c : Ctx} {tab : Tab} {w : World} {v : Value} {k : Kd} (h : isSlice k = true) (hv : k.den c tab w v) : ∃ A n q, v = .slice A n q := by
  unfold isSlice at h
  split at h <;> try (cases h; done)
  · obtain ⟨_, A, n, q, h, _⟩ := hv; exact ⟨A, n, q, h⟩
  · obtain ⟨A, n, q, h, _⟩ := hv; exact ⟨A, n, q, h⟩
  · exact ⟨_, _, _, hv⟩
def factsOf (A : St) (d : Nat) : Ex → List Fact
  | .same (.tmp x) => [.same d (A.root x)]
  | .cmp b (.tmp x) (.tmp y) => [.cmp d b (A.root x) (.inl (A.root y))]
  | .cmp b (.tmp x) (.const (.int .i64 q)) => [.cmp d b (A.root x) (.inr q)]
  | .len (.tmp s) => if isSlice (A.look s) then [.len d (A.root s)] else []
  | .less (.tmp y) => A.facts.filterMap fun | .len z s => if z = A.root y then some (.less d s) else Option.none
                                            | _ => Option.none
  | .sel c x y => match kop A.look c with
    | .one (.c (.bool (some true))) => (match x with | .tmp x => [.same d (A.root x)] | _ => [])
    | .one (.c (.bool (some false))) => (match y with | .tmp y => [.same d (A.root y)] | _ => [])
    | _ => []
  | .neg (.tmp x) => (match A.look x with | .one (.c (.bool _)) => [.neg d (A.root x)] | _ => [])
  | _ => []
def St.put (A : St) (d : Option Nat) (k : Kd) (ph : Ph) (e : Ex) : St := match d with
  | Option.none => { A with ph := ph }
  | some d => { env := (d, k) :: A.env.filter (fun p => p.1 != d), facts := (factsOf A d e).filter (Fact.head d) ++ A.facts.filter (Fact.free d), ph := ph }
theorem lookup_filter {α : Type} (d s : Nat) (h : s ≠ d) : ∀ l : List (Nat × α), (l.filter (fun p => p.1 != d)).lookup s = l.lookup s
  | [] => rfl
  | (x, k) :: l => by
    have ih := lookup_filter d s h l
    by_cases e : x = d
    · subst e
      have : (s == x) = false := by simpa using h
      simp [List.lookup_cons, this, ih]
    · have hx : (x != d) = true := by simpa using e
      simp only [List.filter_cons, hx, if_true, List.lookup_cons, ih]
theorem look_set {env : List (Nat × Kd)} {d s : Nat} {k : Kd} : ((((d, k) :: env.filter (fun p => p.1 != d)).lookup s).getD (.ck .any)) = if s = d then k else (env.lookup s).getD (.ck .any) := by
  by_cases e : s = d
  · subst e; simp
  · have : (s == d) = false := by simpa using e
    rw [if_neg e, List.lookup_cons, this, lookup_filter d s e]
section
variable {T : Conf} {c : Ctx} {w0 : World} {nt : Nat} {A : St} {a : Act} {w w' : World} {v : Value}
theorem eval_put_ne {s d : Nat} (h : s ≠ d) : (a.put (some d) v).eval (.tmp s) = a.eval (.tmp s) := by
  rw [eval_put, if_neg (fun hh => h hh.1)]
theorem factsOf_ok (hS : Sat T c w0 nt A a w) {d : Nat} (hd : d < nt) {e : Ex} (he : e.holds a.eval v) : ∀ f ∈ factsOf A d e, f.head d = true → f.holds fun s => (a.put (some d) v).eval (.tmp s) := by
  intro f hf hh
  have hv : (a.put (some d) v).eval (.tmp d) = v := by rw [eval_put, if_pos ⟨rfl, by rw [hS.1]; exact hd⟩]
  have hr : ∀ x, a.eval (.tmp (A.root x)) = a.eval (.tmp x) := fun x => root_ok (ρ := fun s => a.eval (.tmp s)) hS.2.2.2.1 x
  have hsame : ∀ x, v = a.eval (.tmp x) → (Fact.same d (A.root x)).head d = true → (Fact.same d (A.root x)).holds fun s => (a.put (some d) v).eval (.tmp s) := fun x hx h1 => by
    simp only [Fact.head, Bool.and_eq_true, beq_iff_eq, bne_iff_ne] at h1
    show (a.put (some d) v).eval (.tmp d) = (a.put (some d) v).eval (.tmp (A.root x))
    rw [hv, eval_put_ne h1.2, hr, hx]
  unfold factsOf at hf
  split at hf
  · rename_i x
    simp only [List.mem_singleton] at hf
    subst hf
    exact hsame x he hh
  · rename_i b x y
    simp only [List.mem_singleton] at hf
    subst hf
    simp only [Fact.head, Bool.and_eq_true, beq_iff_eq, bne_iff_ne] at hh
    intro f hf' m n hm hn
    simp only [hv]
    simp only [eval_put_ne hh.1.2, hr] at hm
    simp only [opdIs, eval_put_ne hh.2, hr] at hn
    exact he f hf' m n hm hn
  · rename_i b x q
    simp only [List.mem_singleton] at hf
    subst hf
    simp only [Fact.head, Bool.and_eq_true, beq_iff_eq, bne_iff_ne] at hh
    intro f hf' m n hm hn
    simp only [hv]
    simp only [eval_put_ne hh.1.2, hr] at hm
    simp only [opdIs] at hn
    subst hn
    exact he f hf' m n hm rfl
  · rename_i s
    split at hf
    · rename_i his
      simp only [List.mem_singleton] at hf
      subst hf
      simp only [Fact.head, Bool.and_eq_true, beq_iff_eq, bne_iff_ne] at hh
      obtain ⟨B, n, q, hq⟩ := isSlice_ok his (hS.2.2.1 s)
      refine ⟨B, n, q, ?_, ?_⟩
      · simp only [eval_put_ne hh.2, hr]; exact hq
      · simp only [hv]; exact he B n q hq
    · simp at hf
  · rename_i y
    obtain ⟨g, hg, h1⟩ := List.mem_filterMap.1 hf
    cases g <;> simp only [reduceCtorEq, Option.ite_none_right_eq_some, Option.some.injEq] at h1
    rename_i z s
    obtain ⟨rfl, rfl⟩ := h1
    simp only [Fact.head, Bool.and_eq_true, beq_iff_eq, bne_iff_ne] at hh
    have hlen := hS.2.2.2.1 _ hg
    show LtLen ((a.put (some d) v).eval (.tmp d)) ((a.put (some d) v).eval (.tmp s))
    rw [hv, eval_put_ne hh.2]
    obtain ⟨B, n, q, h2, h3⟩ := hlen
    obtain ⟨x, hx, h4, h5⟩ := he n ((hr y).symm.trans h3)
    exact ⟨B, n, q, x, h2, hx, h4, h5⟩
  · rename_i c0 x y
    split at hf
    · rename_i hc
      have hcd := kop_den (c := c) (tab := T.tab) (w := w) hS.2.2.1 c0
      rw [hc] at hcd
      obtain ⟨b, hb, hb2⟩ := hcd
      obtain rfl := hb2 _ rfl
      have := he true hb
      split at hf
      · simp only [List.mem_singleton] at hf
        subst hf
        exact hsame _ (by simpa using this) hh
      · simp at hf
    · rename_i hc
      have hcd := kop_den (c := c) (tab := T.tab) (w := w) hS.2.2.1 c0
      rw [hc] at hcd
      obtain ⟨b, hb, hb2⟩ := hcd
      obtain rfl := hb2 _ rfl
      have := he false hb
      split at hf
      · simp only [List.mem_singleton] at hf
        subst hf
        exact hsame _ (by simpa using this) hh
      · simp at hf
    · simp at hf
  · rename_i x
    split at hf
    · rename_i b0 hx
      simp only [List.mem_singleton] at hf
      subst hf
      simp only [Fact.head, Bool.and_eq_true, beq_iff_eq, bne_iff_ne] at hh
      have hxd := hS.2.2.1 x
      rw [hx] at hxd
      obtain ⟨b, hb, _⟩ := hxd
      refine ⟨b, ?_, ?_⟩
      · simp only [eval_put_ne hh.2, hr]; exact hb
      · simp only [hv]; exact he b hb
    · simp at hf
  · simp at hf
theorem Sat.put (hT : Good T) (hS : Sat T c w0 nt A a w) {d : Option Nat} (hd : ∀ x, d = some x → x < nt) {k : Kd} {ph : Ph} {e : Ex} (hk : k.den c T.tab w' v) (hr : Rel c T.tab T.S w w') (hI : Inv c w0 T.J ph w') (he : e.holds a.eval v) : Sat T c w0 nt (A.put d k ph e) (a.put d v) w' := by
  obtain ⟨h1, h2, h3, h4, h5⟩ := hS
  have hst : ∀ s, (A.look s).den c T.tab w' (a.eval (.tmp s)) := fun s => Kd.stab hT.tab hT.sto _ _ _ _ hr (h3 s)
  cases d with
  | none => exact ⟨h1, h2, hst, h4, hI⟩
  | some d =>
    have hdn := hd d rfl
    refine ⟨by simp [Act.put, h1], h2, fun s => ?_, fun f hf => ?_, hI⟩
    · show Kd.den c T.tab ((((d, k) :: A.env.filter (fun p => p.1 != d)).lookup s).getD (.ck .any)) w' _
      rw [look_set, eval_put]
      by_cases e : s = d
      · subst e; rw [if_pos rfl, if_pos ⟨rfl, by rw [h1]; exact hdn⟩]; exact hk
      · rw [if_neg e, if_neg (fun hh => e hh.1)]; exact hst s
    · simp only [St.put, List.mem_append, List.mem_filter] at hf
      rcases hf with ⟨h6, h7⟩ | ⟨h6, h7⟩
      · exact factsOf_ok ⟨h1, h2, h3, h4, h5⟩ hdn he f h6 h7
      · exact Fact.free_ok (fun s hs => eval_put_ne hs) h7 (h4 f h6)
/-! ### What a test tells -/
def St.setK (A : St) (s : Nat) (k : Kd) : St := { A with env := (s, k) :: A.env.filter (fun p => p.1 != s) }
theorem Sat.setK (hS : Sat T c w0 nt A a w) {s : Nat} {k : Kd} (hk : k.den c T.tab w (a.eval (.tmp s))) : Sat T c w0 nt (A.setK s k) a w := by
  obtain ⟨h1, h2, h3, h4, h5⟩ := hS
  refine ⟨h1, h2, fun x => ?_, h4, h5⟩
  show Kd.den c T.tab ((((s, k) :: A.env.filter (fun p => p.1 != s)).lookup x).getD (.ck .any)) w _
  rw [look_set]
  by_cases e : x = s
  · subst e; rw [if_pos rfl]; exact hk
  · rw [if_neg e]; exact h3 x
def sameAs : List Fact → Nat → List Nat
  | [], _ => []
  | .same a b :: l, x => if b = x then a :: sameAs l x else sameAs l x
  | _ :: l, x => sameAs l x
theorem sameAs_ok {ρ : Nat → Value} : ∀ {l : List Fact}, (∀ f ∈ l, f.holds ρ) → ∀ {x y}, y ∈ sameAs l x → ρ y = ρ x
  | [], _, _, _, h => by simp [sameAs] at h
  | f :: l, h, x, y, hy => by
    have ih := fun hy => sameAs_ok (l := l) (fun g hg => h g (by simp [hg])) (x := x) (y := y) hy
    cases f with
    | same a b =>
      simp only [sameAs] at hy
      split at hy
      · rename_i e
        subst e
        rcases List.mem_cons.1 hy with rfl | hy
        · exact h (.same y b) (by simp)
        · exact ih hy
      · exact ih hy
    | _ => exact ih hy
def St.cls (A : St) (x : Nat) : List Nat := x :: sameAs A.facts x
theorem cls_ok (hS : Sat T c w0 nt A a w) {x y : Nat} (h : y ∈ A.cls x) : a.eval (.tmp y) = a.eval (.tmp x) := by
  rcases List.mem_cons.1 h with rfl | h
  · rfl
  · exact sameAs_ok (ρ := fun s => a.eval (.tmp s)) hS.2.2.2.1 h
/-- The kinds of all these slots are narrowed. -/
def St.mapK (A : St) (f : Kd → Kd) : List Nat → St
  | [] => A
  | s :: l => (A.setK s (f (A.look s))).mapK f l
theorem Sat.mapK {f : Kd → Kd} {v0 : Value} (hf : ∀ k : Kd, k.den c T.tab w v0 → (f k).den c T.tab w v0) : ∀ {l : List Nat} {A : St}, (∀ s ∈ l, a.eval (.tmp s) = v0) → Sat T c w0 nt A a w → Sat T c w0 nt (A.mapK f l) a w
  | [], _, _, h => h
  | s :: l, A, hl, h => by
    have e := hl s (by simp)
    exact Sat.mapK hf (l := l) (fun x hx => hl x (by simp [hx])) (h.setK (by rw [e]; exact hf _ (by rw [← e]; exact h.2.2.1 s)))
def meetI (l h : Int) : Kd → Kd
  | .one (.c (.int .i64 lo hi)) => .ck (.int .i64 (max lo l) (min hi h))
  | k => k
def meetS (l : Int) : Kd → Kd
  | .one (.c (.sl i lo hi)) => .ck (.sl i (max lo l.toNat) hi)
  | .one (.c (.sl0 lo hi)) => .ck (.sl0 (max lo l.toNat) hi)
  | k => k
def lensOf : List Fact → List Nat → List Nat
  | [], _ => []
  | .len x s :: l, xs => if xs.contains x then s :: lensOf l xs else lensOf l xs
  | _ :: l, xs => lensOf l xs
theorem lensOf_ok {ρ : Nat → Value} : ∀ {l : List Fact} {xs : List Nat}, (∀ f ∈ l, f.holds ρ) → ∀ {s}, s ∈ lensOf l xs → ∃ x ∈ xs, ∃ A n q, ρ s = .slice A n q ∧ ρ x = .int .i64 (n : Nat)
  | [], _, _, _, h => by simp [lensOf] at h
  | f :: l, xs, h, s, hs => by
    have ih := fun hs => lensOf_ok (l := l) (xs := xs) (fun g hg => h g (by simp [hg])) (s := s) hs
    cases f with
    | len x s' =>
      simp only [lensOf] at hs
      split at hs
      · rename_i e
        rcases List.mem_cons.1 hs with rfl | hs
        · exact ⟨x, by simpa using e, h (.len x s) (by simp)⟩
        · exact ih hs
      · exact ih hs
    | _ => exact ih hs
def St.narrow (A : St) (x : Nat) (l h : Int) : St :=
  let A1 := A.mapK (meetI l h) (A.cls x)
  (lensOf A.facts (A.cls x)).foldl (fun B s => B.mapK (meetS l) (s :: sameAs A.facts s)) A1
theorem mapK_facts {f : Kd → Kd} : ∀ {l : List Nat} {A : St}, (A.mapK f l).facts = A.facts
  | [], _ => rfl
  | _ :: l, A => by rw [St.mapK, mapK_facts]; rfl
theorem Sat.narrow (hS : Sat T c w0 nt A a w) {x : Nat} {l h n : Int} (hx : a.eval (.tmp x) = .int .i64 n) (h1 : l ≤ n) (h2 : n ≤ h) : Sat T c w0 nt (A.narrow x l h) a w := by
  have hA1 : Sat T c w0 nt (A.mapK (meetI l h) (A.cls x)) a w := by
    refine Sat.mapK (v0 := .int .i64 n) (fun k hk => ?_) (fun s hs => (cls_ok hS hs).trans hx) hS
    unfold meetI
    split
    · obtain ⟨m, e, m1, m2⟩ := hk
      cases e
      exact ⟨n, rfl, by omega, by omega⟩
    · exact hk
  have key : ∀ (ls : List Nat) (B : St), (∀ s ∈ ls, ∃ y ∈ A.cls x, ∃ A n q, a.eval (.tmp s) = .slice A n q ∧ a.eval (.tmp y) = .int .i64 (n : Nat)) → Sat T c w0 nt B a w → Sat T c w0 nt (ls.foldl (fun B s => B.mapK (meetS l) (s :: sameAs A.facts s)) B) a w := by
    intro ls
    induction ls with
    | nil => intro B _ hB; exact hB
    | cons s ls ih =>
      intro B hls hB
      refine ih _ (fun s hs => hls s (by simp [hs])) ?_
      obtain ⟨y, hy, B', m, q, e1, e2⟩ := hls s (by simp)
      have hm : (m : Int) = n := by
        have := (cls_ok hS hy).trans hx
        rw [e2] at this
        simpa using this
      refine Sat.mapK (v0 := .slice B' m q) (fun k hk => ?_) (fun z hz => ?_) hB
      · unfold meetS
        split
        · obtain ⟨h3, A', n', q', e, h4⟩ := hk
          cases e
          exact ⟨h3, _, _, _, rfl, by omega⟩
        · obtain ⟨A', n', q', e, h4, h5⟩ := hk
          cases e
          exact ⟨_, _, _, rfl, by omega, h5⟩
        · exact hk
      · rcases List.mem_cons.1 hz with rfl | hz
        · exact e1
        · exact (sameAs_ok (ρ := fun s => a.eval (.tmp s)) hS.2.2.2.1 hz).trans e1
  exact key _ _ (fun s hs => lensOf_ok (ρ := fun s => a.eval (.tmp s)) hS.2.2.2.1 hs) hA1
/-- The bounds that a test leaves. -/
def cutLt (lo hi lo' hi' : Int) : (Int × Int) × (Int × Int) := ((lo, min hi (hi' - 1)), (max lo' (lo + 1), hi'))
def cutLe (lo hi lo' hi' : Int) : (Int × Int) × (Int × Int) := ((lo, min hi hi'), (max lo' lo, hi'))
def cutEq (lo hi lo' hi' : Int) : (Int × Int) × (Int × Int) := ((max lo lo', min hi hi'), (max lo lo', min hi hi'))
def cutNe (lo hi lo' hi' : Int) : (Int × Int) × (Int × Int) := ((if lo' = hi' ∧ lo = lo' then lo + 1 else lo, if lo' = hi' ∧ hi = lo' then hi - 1 else hi), (lo', hi'))
def swapP (p : (Int × Int) × (Int × Int)) : (Int × Int) × (Int × Int) := (p.2, p.1)
def cutOf (b : BinOp) (t : Bool) (lo hi lo' hi' : Int) : (Int × Int) × (Int × Int) := match b, t with
  | .lss, true => cutLt lo hi lo' hi'
  | .lss, false => swapP (cutLe lo' hi' lo hi)
  | .leq, true => cutLe lo hi lo' hi'
  | .leq, false => swapP (cutLt lo' hi' lo hi)
  | .gtr, true => swapP (cutLt lo' hi' lo hi)
  | .gtr, false => cutLe lo hi lo' hi'
  | .geq, true => swapP (cutLe lo' hi' lo hi)
  | .geq, false => cutLt lo hi lo' hi'
  | .eql, true => cutEq lo hi lo' hi'
  | .eql, false => cutNe lo hi lo' hi'
  | .neq, true => cutNe lo hi lo' hi'
  | .neq, false => cutEq lo hi lo' hi'
  | _, _ => ((lo, hi), (lo', hi'))
theorem cutOf_ok {b : BinOp} {t : Bool} {f : Int → Int → Bool} (hf : cmpOf b = some f) {lo hi lo' hi' m n : Int} (h1 : lo ≤ m) (h2 : m ≤ hi) (h3 : lo' ≤ n) (h4 : n ≤ hi') (ht : f m n = t) :
    (cutOf b t lo hi lo' hi').1.1 ≤ m ∧ m ≤ (cutOf b t lo hi lo' hi').1.2 ∧ (cutOf b t lo hi lo' hi').2.1 ≤ n ∧ n ≤ (cutOf b t lo hi lo' hi').2.2 := by
  cases b <;> simp only [cmpOf, Option.some.injEq, reduceCtorEq] at hf <;> subst hf <;> cases t <;> simp only [decide_eq_true_eq, decide_eq_false_iff_not, Bool.not_eq_true', Bool.not_eq_false', Bool.not_eq_eq_eq_not, Bool.not_true, Bool.not_false] at ht <;> simp only [cutOf, cutLt, cutLe, cutEq, cutNe, swapP]
  all_goals first
    | omega
    | (refine ⟨?_, ?_, by omega, by omega⟩ <;> split <;> omega)
def intK : Kd → Option (Int × Int)
  | .one (.c (.int .i64 lo hi)) => some (lo, hi)
  | _ => Option.none
theorem intK_ok {k : Kd} {lo hi : Int} (h : intK k = some (lo, hi)) (hv : k.den c T.tab w v) : ∃ n, v = .int .i64 n ∧ lo ≤ n ∧ n ≤ hi := by
  unfold intK at h
  split at h <;> cases h
  exact hv
def findHead : List Fact → Nat → Option Fact
  | [], _ => Option.none
  | .cmp d b x y :: l, z => if d = z then some (.cmp d b x y) else findHead l z
  | .neg d x :: l, z => if d = z then some (.neg d x) else findHead l z
  | _ :: l, z => findHead l z
theorem findHead_ok : ∀ {l : List Fact} {z : Nat} {f : Fact}, findHead l z = some f → f ∈ l ∧ (match f with | .cmp d _ _ _ => d = z | .neg d _ => d = z | _ => False)
  | [], _, _, h => by simp [findHead] at h
  | g :: l, z, f, h => by
    have ih := fun h => findHead_ok (l := l) (z := z) (f := f) h
    cases g with
    | cmp d b x y =>
      simp only [findHead] at h
      split at h
      · rename_i e; cases h; exact ⟨by simp, e⟩
      · have := ih h; exact ⟨by simp [this.1], this.2⟩
    | neg d x =>
      simp only [findHead] at h
      split at h
      · rename_i e; cases h; exact ⟨by simp, e⟩
      · have := ih h; exact ⟨by simp [this.1], this.2⟩
    | _ => have := ih h; exact ⟨by simp [this.1], this.2⟩
def bK (t : Bool) : Kd := .ck (.bool (some t))
def St.learn : Nat → St → Nat → Bool → St
  | 0, A, _, _ => A
  | f + 1, A, d, t =>
    let r := A.root d
    let A1 := A.mapK (fun _ => bK t) (d :: A.cls r)
    match findHead A.facts r with
    | some (.cmp _ b x (.inr q)) => (match intK (A1.look x) with
      | some (lo, hi) => A1.narrow x (cutOf b t lo hi q q).1.1 (cutOf b t lo hi q q).1.2
      | Option.none => A1)
    | some (.cmp _ b x (.inl y)) => (match intK (A1.look x), intK (A1.look y) with
      | some (lo, hi), some (lo', hi') => (A1.narrow x (cutOf b t lo hi lo' hi').1.1 (cutOf b t lo hi lo' hi').1.2).narrow y (cutOf b t lo hi lo' hi').2.1 (cutOf b t lo hi lo' hi').2.2
      | _, _ => A1)
    | some (.neg _ x) => A1.learn f x !t
    | _ => A1
theorem Sat.learn : ∀ {f : Nat} {A : St} {d : Nat} {t : Bool}, Sat T c w0 nt A a w → a.eval (.tmp d) = .bool t → Sat T c w0 nt (A.learn f d t) a w
  | 0, A, d, t, hS, _ => hS
  | f + 1, A, d, t, hS, hd => by
    have hr : a.eval (.tmp (A.root d)) = .bool t := (root_ok (ρ := fun s => a.eval (.tmp s)) hS.2.2.2.1 d).trans hd
    have hA1 : Sat T c w0 nt (A.mapK (fun _ => bK t) (d :: A.cls (A.root d))) a w := by
      refine Sat.mapK (T := T) (c := c) (w0 := w0) (nt := nt) (w := w) (f := fun _ => bK t) (v0 := .bool t) (fun k _ => show cden c T.tab (.bool (some t)) w (.bool t) from ⟨t, rfl, fun y h => by simpa using h⟩) (fun s hs => ?_) hS
      rcases List.mem_cons.1 hs with rfl | hs
      · exact hd
      · exact (cls_ok hS hs).trans hr
    simp only [St.learn]
    split
    · rename_i dd b x q hfh
      obtain ⟨hm, rfl⟩ := findHead_ok hfh
      split
      · rename_i lo hi hik
        obtain ⟨m, hx, m1, m2⟩ := intK_ok hik (hA1.2.2.1 x)
        have hfact := hS.2.2.2.1 _ hm
        cases hc : cmpOf b with
        | none =>
          have : cutOf b t lo hi q q = ((lo, hi), (q, q)) := by cases b <;> simp [cmpOf] at hc <;> rfl
          rw [this]
          exact hA1.narrow hx m1 m2
        | some f' =>
          have h1 := hfact f' hc m q hx rfl
          have h2 : f' m q = t := by
            have := h1.symm.trans hr
            simpa using this
          have h3 := cutOf_ok hc m1 m2 (Int.le_refl q) (Int.le_refl q) h2
          exact hA1.narrow hx h3.1 h3.2.1
      · exact hA1
    · rename_i dd b x y hfh
      obtain ⟨hm, rfl⟩ := findHead_ok hfh
      split
      · rename_i lo hi lo' hi' hik hik'
        obtain ⟨m, hx, m1, m2⟩ := intK_ok hik (hA1.2.2.1 x)
        obtain ⟨n, hy, n1, n2⟩ := intK_ok hik' (hA1.2.2.1 y)
        have hfact := hS.2.2.2.1 _ hm
        cases hc : cmpOf b with
        | none =>
          have : cutOf b t lo hi lo' hi' = ((lo, hi), (lo', hi')) := by cases b <;> simp [cmpOf] at hc <;> rfl
          rw [this]
          exact (hA1.narrow hx m1 m2).narrow hy n1 n2
        | some f' =>
          have h1 := hfact f' hc m n hx hy
          have h2 : f' m n = t := by
            have := h1.symm.trans hr
            simpa using this
          have h3 := cutOf_ok hc m1 m2 n1 n2 h2
          exact (hA1.narrow hx h3.1 h3.2.1).narrow hy h3.2.2.1 h3.2.2.2
      · exact hA1
    · rename_i dd x hfh
      obtain ⟨hm, rfl⟩ := findHead_ok hfh
      obtain ⟨b, hb, hb2⟩ := hS.2.2.2.1 _ hm
      refine Sat.learn hA1 ?_
      have := hb2.symm.trans hr
      simp only [Value.bool.injEq] at this
      rw [← this]
      simpa using hb
    · exact hA1
/-! ### Regions in their own order -/
def stepOp (T : Conf) (nt : Nat) (o : Oper) (A : St) : Option St :=
  match absOp T A.look A.lt o.op with
  | some (k, eff, e) => match eff.app T.J A.ph with
    | some ph => match o.dst with
      | some d => if d < nt then some (A.put (some d) k ph e) else Option.none
      | Option.none => some (A.put Option.none k ph e)
    | Option.none => Option.none
  | Option.none => Option.none
def skipOp (nt : Nat) (o : Oper) (A : St) : Option St := match o.dst with
  | some d => if d < nt then some (A.put (some d) (.tup []) A.ph .no) else Option.none
  | Option.none => some A
def guardOp (T : Conf) (nt : Nat) (ops : Array Oper) (o : Oper) (A : St) : Option (List St) :=
  match o.guard with
  | Option.none => (stepOp T nt o A).map fun B => [B]
  | some (g, b) => match (ops[g]?).bind (·.dst) with
    | Option.none => Option.none
    | some gd => match A.look gd with
      | .one (.c (.bool (some x))) => (if x = b then stepOp T nt o A else skipOp nt o A).map fun B => [B]
      | .one (.c (.bool Option.none)) => (stepOp T nt o (A.learn 2 gd b)).bind fun B => (skipOp nt o (A.learn 2 gd !b)).map fun D => [B, D]
      | .tup [] => (skipOp nt o A).map fun B => [B]
      | _ => Option.none
def bindL {α β : Type} (f : α → Option (List β)) : List α → Option (List β)
  | [] => some []
  | x :: l => (f x).bind fun r => (bindL f l).map fun r' => r ++ r'
def absOps (T : Conf) (nt : Nat) (ops : Array Oper) : List Oper → St → Option (List St)
  | [], A => some [A]
  | o :: r, A => (guardOp T nt ops o A).bind fun l => bindL (absOps T nt ops r) l
theorem bindL_mem {α β : Type} {f : α → Option (List β)} : ∀ {l : List α} {r : List β}, bindL f l = some r → ∀ x ∈ l, ∃ r', f x = some r' ∧ ∀ y ∈ r', y ∈ r
  | [], _, _, x, hx => by simp at hx
  | a :: l, r, h, x, hx => by
    simp only [bindL] at h
    obtain ⟨r1, h1, h2⟩ := Option.bind_eq_some_iff.1 h
    obtain ⟨r2, h3, rfl⟩ := Option.map_eq_some_iff.1 h2
    rcases List.mem_cons.1 hx with rfl | hx
    · exact ⟨r1, h1, fun y hy => by simp [hy]⟩
    · obtain ⟨r', h4, h5⟩ := bindL_mem h3 x hx
      exact ⟨r', h4, fun y hy => by simp [h5 y hy]⟩
theorem stepOp_ok (hT : Good T) {o : Oper} {B : St} (h : stepOp T nt o A = some B) (hS : Sat T c w0 nt A a w) {K : Act → World → Prop} {Q : Exit → Act → World → Prop} (hK : ∀ a' w', Sat T c w0 nt B a' w' → K a' w') : o.wp T.P a w K Q := by
  unfold stepOp at h
  split at h <;> try (cases h; done)
  rename_i k eff e h1
  split at h <;> try (cases h; done)
  rename_i ph h2
  refine absOp_ok hT (c := c) (w0 := w0) h1 h2 a w K Q hS.2.2.2.2 hS.2.2.1 (fun x s hx => ?_) (fun v w' hk hr hI he => ?_)
  · have := less_ok (ρ := fun s => a.eval (.tmp s)) hS.2.2.2.1 hx
    simp only [St.root, root_ok (ρ := fun s => a.eval (.tmp s)) hS.2.2.2.1] at this
    exact this
  · split at h
    · rename_i d hd
      split at h <;> cases h
      rename_i hdn
      rw [hd]
      exact hK _ _ (hS.put hT (fun x hx => by cases hx; exact hdn) hk hr hI he)
    · rename_i hd
      cases h
      rw [hd]
      exact hK _ _ (hS.put hT (fun x hx => by cases hx) hk hr hI he)
theorem skipOp_ok (hT : Good T) {o : Oper} {B : St} (h : skipOp nt o A = some B) (hS : Sat T c w0 nt A a w) : Sat T c w0 nt B (a.put o.dst undef) w := by
  unfold skipOp at h
  split at h
  · rename_i d hd
    split at h <;> cases h
    rename_i hdn
    rw [hd]
    exact hS.put hT (fun x hx => by cases hx; exact hdn) ⟨[], rfl, rfl⟩ (RelK.refl _) hS.2.2.2.2 trivial
  · rename_i hd
    cases h
    rw [hd]
    exact hS
theorem yields_of {ops : Array Oper} {g gd : Nat} {x : Bool} (hg : (ops[g]?).bind (·.dst) = some gd) (h : a.eval (.tmp gd) = .bool x) : yielded ops a.tmps g = some x := by
  unfold yielded
  rw [hg]
  simp only [Option.bind_some]
  simp only [Act.eval, Array.getD_eq_getD_getElem?] at h
  cases ht : a.tmps[gd]? with
  | none => rw [ht] at h; simp [undef] at h
  | some v => rw [ht] at h; simp only [Option.getD_some] at h; subst h; rfl
theorem yields_not {ops : Array Oper} {g gd : Nat} (hg : (ops[g]?).bind (·.dst) = some gd) (h : a.eval (.tmp gd) = undef) : yielded ops a.tmps g = Option.none := by
  unfold yielded
  rw [hg]
  simp only [Option.bind_some]
  simp only [Act.eval, Array.getD_eq_getD_getElem?] at h
  cases ht : a.tmps[gd]? with
  | none => rfl
  | some v => rw [ht] at h; simp only [Option.getD_some] at h; subst h; rfl
theorem absOps_ok (hT : Good T) {ops : Array Oper} {Q : Exit → Act → World → Prop} : ∀ {l : List Oper} {A : St} {L : List St} {a : Act} {w : World}, absOps T nt ops l A = some L → Sat T c w0 nt A a w → (∀ a' w', (∃ B ∈ L, Sat T c w0 nt B a' w') → Q .normal a' w') → wpList T.P ops Q l a w
  | [], A, L, a, w, h, hS, hQ => by
    cases h
    exact hQ a w ⟨A, by simp, hS⟩
  | o :: r, A, L, a, w, h, hS, hQ => by
    simp only [absOps] at h
    obtain ⟨l1, h1, h2⟩ := Option.bind_eq_some_iff.1 h
    refine wpList_step fun K hK => ?_
    have hgo : ∀ B ∈ l1, ∀ a' w', Sat T c w0 nt B a' w' → K a' w' := fun B hB a' w' hSB => by
      obtain ⟨r', h3, h4⟩ := bindL_mem h2 B hB
      exact hK _ _ (absOps_ok hT h3 hSB (fun a2 w2 ⟨D, hD, hSD⟩ => hQ a2 w2 ⟨D, h4 D hD, hSD⟩))
    unfold guardOp at h1
    split at h1
    · rename_i hgd
      rw [if_pos (by simp [Region.wanted, hgd])]
      obtain ⟨B, h3, rfl⟩ := Option.map_eq_some_iff.1 h1
      exact stepOp_ok hT h3 hS (hgo B (by simp))
    · rename_i g b hgd
      split at h1 <;> try (cases h1; done)
      rename_i gd hdst
      have hval := hS.2.2.1 gd
      split at h1 <;> try (cases h1; done)
      · rename_i x hx
        rw [hx] at hval
        obtain ⟨y, hy, hy2⟩ := hval
        obtain rfl := hy2 _ rfl
        have hw : Region.wanted o (yielded ops a.tmps) = (y == b) := by
          simp only [Region.wanted, hgd, yields_of hdst hy]
          rfl
        obtain ⟨B, h3, rfl⟩ := Option.map_eq_some_iff.1 h1
        rw [hw]
        by_cases e : y = b
        · rw [if_pos e] at h3
          rw [if_pos (by simpa using e)]
          exact stepOp_ok hT h3 hS (hgo B (by simp))
        · rw [if_neg e] at h3
          rw [if_neg (by simpa using e)]
          exact hgo B (by simp) _ _ (skipOp_ok hT h3 hS)
      · rename_i hx
        rw [hx] at hval
        obtain ⟨y, hy, _⟩ := hval
        have hw : Region.wanted o (yielded ops a.tmps) = (y == b) := by
          simp only [Region.wanted, hgd, yields_of hdst hy]
          rfl
        obtain ⟨B, h3, h4⟩ := Option.bind_eq_some_iff.1 h1
        obtain ⟨D, h5, rfl⟩ := Option.map_eq_some_iff.1 h4
        rw [hw]
        by_cases e : y = b
        · subst e
          rw [if_pos (by simp)]
          exact stepOp_ok hT h3 (hS.learn hy) (hgo B (by simp))
        · rw [if_neg (by simpa using e)]
          have : y = !b := by cases y <;> cases b <;> simp_all
          subst this
          exact hgo D (by simp) _ _ (skipOp_ok hT h5 (hS.learn hy))
      · rename_i hx
        rw [hx] at hval
        obtain ⟨cs, hy, hcs⟩ := hval
        obtain rfl : cs = [] := hcs
        have hw : Region.wanted o (yielded ops a.tmps) = false := by
          simp only [Region.wanted, hgd, yields_not hdst hy]
          cases b <;> rfl
        obtain ⟨B, h3, rfl⟩ := Option.map_eq_some_iff.1 h1
        rw [hw, if_neg (by simp)]
        exact hgo B (by simp) _ _ (skipOp_ok hT h3 hS)
end
end Go.Proofs.YtpmelhkhmichcaaDoor

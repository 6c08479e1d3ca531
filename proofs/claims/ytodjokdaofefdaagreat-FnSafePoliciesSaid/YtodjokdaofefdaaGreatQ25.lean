/- Regions that draw their order; code; functions. -/
import Derived.Test.YtodjokdaofefdaaGreatQ24
import Derived.LoopN
namespace Go.Proofs.YtodjokdaofefdaaGreat
set_option linter.unusedSimpArgs false
set_option linter.unusedVariables false
open Go.RowKit

section
variable {T : Conf} {c : Ctx} {w0 : World} {nt : Nat} {A : St} {a : Act} {w w' : World} {v : Value}
/-- The operation that gives slot s and on which operation i leans. -/
def depIx (ops : Array Oper) (i s : Nat) : Option Nat := (List.range ops.size).find? fun j => depSlot ops i s j
abbrev DL := List (Kd × Option Nat)
def lookD (ops : Array Oper) (A : St) (D : DL) (i s : Nat) : Kd := match depIx ops i s with
  | some j => (D[j]?.map (·.1)).getD (.ck .any)
  | Option.none => if keepSlot ops i s then A.look s else .ck .any
def srcD (ops : Array Oper) (D : DL) (i s : Nat) : Option Nat := match depIx ops i s with
  | some j => (D[j]?.map (·.2)).getD Option.none
  | Option.none => if keepSlot ops i s then some s else Option.none
def ltD (ops : Array Oper) (A : St) (D : DL) (i x s : Nat) : Bool := match srcD ops D i x, srcD ops D i s with
  | some x0, some s0 => A.lt x0 s0
  | _, _ => false
def srcEx (ops : Array Oper) (D : DL) (i : Nat) : Xp → Option Nat
  | .same (.tmp x) => srcD ops D i x
  | _ => Option.none
def costOf : Eff → Option Nat
  | .no | .alloc | .rows => some 0
  | .cost n => some n
  | .opened => Option.none
/-- Kinds, sources, the dearest operation. -/
def absD (T : Conf) (ops : Array Oper) (A : St) : List Oper → DL → Nat → Option (DL × Nat)
  | [], D, C => some (D, C)
  | o :: r, D, C => if o.guard.isSome then Option.none else match absOp T (lookD ops A D D.length) (ltD ops A D D.length) o.op with
    | some (k, eff, e) => match costOf eff with
      | some n => absD T ops A r (D ++ [(k, srcEx ops D D.length e)]) (max C n)
      | Option.none => Option.none
    | Option.none => Option.none
def envD : List Oper → DL → List (Nat × Kd)
  | o :: l, (k, _) :: D => match o.dst with
    | some d => (d, k) :: envD l D
    | Option.none => envD l D
  | _, _ => []
def dsts (l : List Oper) : List Nat := l.filterMap (·.dst)
def factsD (ds : List Nat) : List Oper → DL → List Fact
  | o :: l, (_, q) :: D => match o.dst, q with
    | some d, some s => if ds.contains s then factsD ds l D else .same d s :: factsD ds l D
    | _, _ => factsD ds l D
  | _, _ => []
def absDrawn (T : Conf) (nt : Nat) (l : List Oper) (A : St) : Option St :=
  match A.ph with
  | .run N => if okRegion l.toArray nt then match absD T l.toArray A l [] 0 with
      | some (D, C) => if N + C * l.length ≤ T.J.lim then some { env := envD l D ++ A.env.filter (fun p => !(dsts l).contains p.1), facts := factsD (dsts l) l D ++ A.facts.filter (fun f => (dsts l).all fun d => f.free d), ph := .run (N + C * l.length) } else Option.none
      | Option.none => Option.none
    else Option.none
  | _ => Option.none
/-- What a value of the region is. -/
def TD (c : Ctx) (tab : Tab) (D : DL) (a0 : Act) (i : Nat) (w : World) (v : Value) : Prop := match D[i]? with
  | some (k, q) => k.den c tab w v ∧ ∀ s, q = some s → v = a0.eval (.tmp s)
  | Option.none => True
theorem Inv.drew {ph : Ph} {J : Lim} {N : Nat} (h : Inv c w0 J (.run N) w) : Inv c w0 J (.run N) w.drew := ⟨h.1.drew, h.2.1, h.2.2.1, h.2.2.2.1, h.2.2.2.2.below (ext_drew (Below.refl _ _))⟩
theorem depIx_ok {ops : Array Oper} {i s j : Nat} (h : depIx ops i s = some j) : depSlot ops i s j = true := List.find?_some h
theorem absD_len {ops : Array Oper} {A : St} : ∀ {l : List Oper} {D D' : DL} {C C' : Nat}, absD T ops A l D C = some (D', C') → D'.length = D.length + l.length ∧ C ≤ C' ∧ (∀ j (h : j < D.length), D'[j]? = D[j]?)
  | [], D, D', C, C', h => by cases h; exact ⟨by simp, Nat.le_refl _, fun _ _ => rfl⟩
  | o :: r, D, D', C, C', h => by
    simp only [absD] at h
    split at h <;> try (cases h; done)
    split at h <;> try (cases h; done)
    split at h <;> try (cases h; done)
    obtain ⟨h1, h2, h3⟩ := absD_len h
    refine ⟨by simp at h1; simp; omega, by omega, fun j hj => ?_⟩
    rw [h3 j (by simp; omega), List.getElem?_append_left hj]
theorem app_cost {eff : Eff} {n N : Nat} {J : Lim} (h : costOf eff = some n) (hN : N + n ≤ J.lim) : eff.app J (.run N) = some (.run (N + n)) := by
  cases eff <;> simp only [costOf, Option.some.injEq, reduceCtorEq] at h <;> subst h
  · rfl
  · rfl
  · rfl
  · simp [Eff.app, hN]
/-- The obligations. -/
theorem absD_all (hT : Good T) {G : World → Prop} (hG : ∀ w w', Rel c T.tab T.S w w' → G w → G w') {ops : Array Oper} {A : St} {a0 : Act} {N : Nat} (hS : ∀ f ∈ A.facts, f.holds fun s => a0.eval (.tmp s)) {D' : DL} {C' : Nat} (hlim : N + C' * ops.size ≤ T.J.lim) (hlen : D'.length = ops.size) :
    ∀ {l : List Oper} {D : DL} {C : Nat}, absD T ops A l D C = some (D', C') →
    RAll T.P ops a0 (TD c T.tab D' a0) (fun k wz => Inv c w0 T.J (.run (N + C' * k)) wz ∧ (∀ s, (A.look s).den c T.tab wz (a0.eval (.tmp s))) ∧ G wz) (fun _ => Rel c T.tab T.S) Option.none (fun _ => True) l D.length
  | [], D, C, h => trivial
  | o :: r, D, C, h => by
    simp only [absD] at h
    split at h <;> try (cases h; done)
    rename_i hgd
    split at h <;> try (cases h; done)
    rename_i k eff e h1
    split at h <;> try (cases h; done)
    rename_i n h2
    have hrest := absD_all hT hG hS hlim hlen h
    obtain ⟨hl1, hl2, hl3⟩ := absD_len h
    simp only [List.length_append, List.length_singleton] at hrest hl1 hl3
    have hDi : D'[D.length]? = some (k, srcEx ops D D.length e) := by
      rw [hl3 _ (by omega)]; simp
    have hDj : ∀ j, j < D.length → D'[j]? = D[j]? := fun j hj => by
      rw [hl3 j (by omega), List.getElem?_append_left hj]
    refine RAll.cons (by simpa using hgd) (fun a i wa K Q hi hI hp hK => ?_) hrest
    have hok : ∀ s j, depIx ops D.length s = some j → (∃ k q, D'[j]? = some (k, q) ∧ (D[j]? = some (k, q) ∨ D[j]? = Option.none) ∧ k.den c T.tab wa (a.eval (.tmp s)) ∧ ∀ s0, q = some s0 → a.eval (.tmp s) = a0.eval (.tmp s0)) ∨ D[j]? = Option.none := fun s j hj => by
      have h3 := hp.dep j s (depIx_ok hj)
      unfold TD at h3
      cases hD : D[j]? with
      | none => exact .inr rfl
      | some kq =>
        obtain ⟨k, q⟩ := kq
        have hjl := (List.getElem?_eq_some_iff.1 hD).1
        rw [hDj j hjl, hD] at h3
        exact .inl ⟨k, q, by rw [hDj j hjl, hD], .inl rfl, h3.1, h3.2⟩
    have hlook : ∀ s, (lookD ops A D D.length s).den c T.tab wa (a.eval (.tmp s)) := fun s => by
      unfold lookD
      split
      · rename_i j hj
        rcases hok s j hj with ⟨k, q, _, h4, h5, _⟩ | h4
        · rcases h4 with h4 | h4 <;> rw [h4]
          · exact h5
          · exact any_den
        · rw [h4]; exact any_den
      · split
        · rename_i hk
          rw [hp.keep s hk]
          exact hI.2.1 s
        · exact any_den
    have hsrc : ∀ s s0, srcD ops D D.length s = some s0 → a.eval (.tmp s) = a0.eval (.tmp s0) := fun s s0 h => by
      unfold srcD at h
      split at h
      · rename_i j hj
        rcases hok s j hj with ⟨k, q, _, h4, _, h5⟩ | h4
        · rcases h4 with h4 | h4 <;> rw [h4] at h
          · exact h5 s0 (by simpa using h)
          · simp at h
        · rw [h4] at h; simp at h
      · split at h
        · rename_i hk
          cases h
          exact hp.keep s hk
        · cases h
    have hi1 : i + 1 ≤ ops.size := hi
    have hmul := Nat.mul_le_mul_left C' hi1
    rw [Nat.mul_add, Nat.mul_one] at hmul
    have hnC : n ≤ C' := by omega
    refine absOp_ok hT (c := c) (w0 := w0) h1 (app_cost h2 (by omega)) a wa K Q hI.1 hlook (fun x s hx => ?_) (fun v wb hv hr hIb he => ?_)
    · unfold ltD at hx
      split at hx
      · rename_i x0 s0 e1 e2
        rw [hsrc x x0 e1, hsrc s s0 e2]
        have := less_ok (ρ := fun s => a0.eval (.tmp s)) hS hx
        simp only [St.root, root_ok (ρ := fun s => a0.eval (.tmp s)) hS] at this
        exact this
      · cases hx
    · refine hK v wb ?_ hr ⟨?_, fun s => Kd.stab hT.tab hT.sto _ _ _ _ hr (hI.2.1 s), hG _ _ hr hI.2.2⟩
      · unfold TD
        rw [hDi]
        refine ⟨hv, fun s hs => ?_⟩
        unfold srcEx at hs
        split at hs
        · rename_i x
          rw [he]
          exact hsrc x s hs
        · cases hs
      · obtain ⟨g1, g2, g3, g4, g5⟩ : Inv c w0 T.J (.run (N + C' * i + n)) wb := hIb
        exact ⟨g1, g2, g3, g4, g5.mono (by rw [Nat.mul_add, Nat.mul_one]; omega)⟩
theorem envD_ok : ∀ {l : List Oper} {D : DL} {s : Nat}, l.length = D.length → ((envD l D).lookup s = Option.none ∧ ∀ (i : Nat) (o : Oper), l[i]? = some o → o.dst ≠ some s) ∨ ∃ (i : Nat) (o : Oper) (k : Kd) (q : Option Nat), l[i]? = some o ∧ o.dst = some s ∧ D[i]? = some (k, q) ∧ (envD l D).lookup s = some k
  | [], [], s, _ => .inl ⟨rfl, fun i o h => by simp at h⟩
  | o :: l, (k, q) :: D, s, h => by
    have ih := envD_ok (l := l) (D := D) (s := s) (by simpa using h)
    have shift : (∃ (i : Nat) (o' : Oper) (k : Kd) (q : Option Nat), l[i]? = some o' ∧ o'.dst = some s ∧ D[i]? = some (k, q) ∧ (envD l D).lookup s = some k) → ∀ e, e = (envD l D).lookup s → ∃ (i : Nat) (o' : Oper) (k' : Kd) (q' : Option Nat), (o :: l)[i]? = some o' ∧ o'.dst = some s ∧ ((k, q) :: D)[i]? = some (k', q') ∧ e = some k' := fun ⟨i, o', k', q', h1, h2, h3, h4⟩ e he => ⟨i + 1, o', k', q', by simpa using h1, h2, by simpa using h3, by rw [he, h4]⟩
    simp only [envD]
    cases hd : o.dst with
    | none =>
      rcases ih with ⟨h1, h2⟩ | h1
      · refine .inl ⟨h1, fun i o' ho => ?_⟩
        cases i with
        | zero => simp at ho; subst ho; rw [hd]; simp
        | succ i => exact h2 i o' (by simpa using ho)
      · exact .inr (shift h1 _ rfl)
    | some d =>
      by_cases e : s = d
      · subst e
        exact .inr ⟨0, o, k, q, rfl, hd, rfl, by simp⟩
      · have hb : (s == d) = false := by simpa using e
        have hlk : List.lookup s ((d, k) :: envD l D) = (envD l D).lookup s := by rw [List.lookup_cons, hb]
        rcases ih with ⟨h1, h2⟩ | h1
        · refine .inl ⟨hlk.trans h1, fun i o' ho => ?_⟩
          cases i with
          | zero => simp at ho; subst ho; rw [hd]; simpa using fun h => e h.symm
          | succ i => exact h2 i o' (by simpa using ho)
        · exact .inr (shift h1 _ hlk)
  | [], _ :: _, _, h => by simp at h
  | _ :: _, [], _, h => by simp at h
theorem factsD_ok {ds : List Nat} : ∀ {l : List Oper} {D : DL} {f : Fact}, f ∈ factsD ds l D → ∃ (i : Nat) (o : Oper) (k : Kd) (d s : Nat), l[i]? = some o ∧ o.dst = some d ∧ D[i]? = some (k, some s) ∧ s ∉ ds ∧ f = .same d s
  | [], D, f, h => by cases D <;> simp [factsD] at h
  | o :: l, [], f, h => by simp [factsD] at h
  | o :: l, (k, q) :: D, f, h => by
    have ih := fun h => factsD_ok (ds := ds) (l := l) (D := D) (f := f) h
    have shift : f ∈ factsD ds l D → ∃ (i : Nat) (o' : Oper) (k' : Kd) (d s : Nat), (o :: l)[i]? = some o' ∧ o'.dst = some d ∧ ((k, q) :: D)[i]? = some (k', some s) ∧ s ∉ ds ∧ f = .same d s := fun h => by
      obtain ⟨i, o', k', d, s, h1, h2, h3, h4, h5⟩ := ih h
      exact ⟨i + 1, o', k', d, s, by simpa using h1, h2, by simpa using h3, h4, h5⟩
    cases hd : o.dst with
    | none => simp only [factsD, hd] at h; exact shift h
    | some d =>
      cases q with
      | none => simp only [factsD, hd] at h; exact shift h
      | some s =>
        simp only [factsD, hd] at h
        split at h
        · exact shift h
        · rename_i hns
          rcases List.mem_cons.1 h with rfl | h
          · exact ⟨0, o, k, d, s, rfl, hd, by simp, by simpa using hns, rfl⟩
          · exact shift h
theorem lookup_append {α : Type} {s : Nat} : ∀ {l r : List (Nat × α)}, (l ++ r).lookup s = (l.lookup s).or (r.lookup s)
  | [], r => by simp
  | (x, k) :: l, r => by
    cases h : s == x <;> simp [List.lookup_cons, h, lookup_append]
theorem lookup_filter_not {α : Type} {ds : List Nat} {s : Nat} (h : s ∉ ds) : ∀ {l : List (Nat × α)}, (l.filter fun p => !ds.contains p.1).lookup s = l.lookup s
  | [] => rfl
  | (x, k) :: l => by
    have ih := lookup_filter_not h (l := l)
    by_cases e : s = x
    · subst e
      have : ds.contains s = false := by simpa using h
      simp only [List.filter_cons, this, Bool.not_false, if_true, List.lookup_cons, beq_self_eq_true]
    · have hb : (s == x) = false := by simpa using e
      simp only [List.filter_cons, List.lookup_cons, hb]
      split
      · simp only [List.lookup_cons, hb, ih]
      · exact ih
theorem absDrawn_ok2 (hT : Good T) {G : World → Prop} (hG : ∀ w w', Rel c T.tab T.S w w' → G w → G w') (hG0 : G w) {id : Nat} {l : List Oper} {B : St} (h : absDrawn T nt l A = some B) (hS : Sat T c w0 nt A a w) {Q : Exit → Act → World → Prop} (hQ : ∀ a' w', Sat T c w0 nt B a' w' → G w' → (∀ s, s ∉ dsts l → a'.eval (.tmp s) = a.eval (.tmp s)) → Q .normal a' w') : (Code.region id l.toArray true).wp T.P Q a w := by
  unfold absDrawn at h
  split at h <;> try (cases h; done)
  rename_i N hN
  split at h <;> try (cases h; done)
  rename_i hok
  split at h <;> try (cases h; done)
  rename_i D C hD
  split at h <;> try (cases h; done)
  rename_i hlim
  cases h
  obtain ⟨h1, h2, h3, h4, h5⟩ := hS
  rw [hN] at h5
  obtain ⟨hl1, _, _⟩ := absD_len hD
  simp only [List.length_nil, Nat.zero_add] at hl1
  have hst : ∀ k : Kd, Stab c T.tab T.S (k.den c T.tab) := Kd.stab hT.tab hT.sto
  refine wp_region_draws2 Option.none (fun _ => True) (TD c T.tab D a) (fun k wz => Inv c w0 T.J (.run (N + C * k)) wz ∧ (∀ s, (A.look s).den c T.tab wz (a.eval (.tmp s))) ∧ G wz) (fun _ => Rel c T.tab T.S) (fun _ => Option.none) hT.mixed (by rw [h1]; exact hok) (by simp [okKill]) ?_ (fun _ _ _ _ _ _ => trivial) ⟨by simpa using h5.drew (ph := .pre 0), fun s => hst _ _ _ _ (RelK.drew w) (h3 s), hG _ _ (RelK.drew w) hG0⟩ trivial (absD_all hT hG h4 (by simpa using hlim) (by simpa using hl1) hD) ?_
  · intro i j wa wb v hr _ _ _ _ _ ht
    unfold TD at ht ⊢
    split
    · rename_i k q e
      rw [e] at ht
      exact ⟨hst _ _ _ _ hr ht.1, ht.2⟩
    · trivial
  · intro f w' hT' hI'
    have hp := putAll_defers f l 0 a
    have hsz : (putAll f l 0 a).tmps.size = nt := hp.2.trans h1
    have huniq : ∀ (i j d : Nat) (o o' : Oper), l[i]? = some o → o.dst = some d → l[j]? = some o' → o'.dst = some d → i = j := fun i j d o o' a1 a2 a3 a4 => okRegion_uniq (ops := l.toArray) (n := nt) hok (d := d) (by simp [dstOf, a1, a2]) (by simp [dstOf, a3, a4])
    have hval : ∀ (i : Nat) (o : Oper) (d : Nat) (k : Kd) (q : Option Nat), l[i]? = some o → o.dst = some d → D[i]? = some (k, q) → k.den c T.tab w' ((putAll f l 0 a).eval (.tmp d)) ∧ ∀ s, q = some s → (putAll f l 0 a).eval (.tmp d) = a.eval (.tmp s) := fun i o d k q a1 a2 a3 => by
      have hi : i < l.length := (List.getElem?_eq_some_iff.1 a1).1
      have hdn : d < nt := (okRegion_dst (ops := l.toArray) (n := nt) hok (i := i) (d := d) (by simp [dstOf, a1, a2])).1
      have e := putAll_some f l 0 a d i o (by simpa using a1) a2 (fun j o' ho' hd' => huniq j i d o' o ho' hd' a1 a2) (by rw [h1]; exact hdn)
      have ht := hT' i hi (by simp [dstOf, a1, a2]) rfl
      unfold TD at ht
      rw [a3] at ht
      rw [e]
      simpa using ht
    have hnone : ∀ s, (∀ (i : Nat) (o : Oper), l[i]? = some o → o.dst ≠ some s) → (putAll f l 0 a).eval (.tmp s) = a.eval (.tmp s) := fun s hs => putAll_none f l 0 a s hs
    have hds : ∀ s, s ∉ dsts l → ∀ (i : Nat) (o : Oper), l[i]? = some o → o.dst ≠ some s := fun s hs i o ho hd => hs (by
      unfold dsts
      exact List.mem_filterMap.2 ⟨o, List.mem_of_getElem? ho, hd⟩)
    have hdm : ∀ s, (∀ (i : Nat) (o : Oper), l[i]? = some o → o.dst ≠ some s) → s ∉ dsts l := fun s hs hm => by
      obtain ⟨o, ho, hd⟩ := List.mem_filterMap.1 hm
      obtain ⟨i, hi⟩ := List.getElem?_of_mem ho
      exact hs i o hi hd
    refine hQ _ _ ?_ hI'.2.2 (fun s hs => hnone s (hds s hs))
    refine ⟨hsz, hp.1.trans h2, fun s => ?_, fun g hg => ?_, hI'.1⟩
    · show Kd.den c T.tab (((envD l D ++ A.env.filter (fun p => !(dsts l).contains p.1)).lookup s).getD (.ck .any)) w' _
      rw [lookup_append]
      rcases envD_ok (l := l) (D := D) (s := s) hl1.symm with ⟨e1, e2⟩ | ⟨i, o, k, q, e1, e2, e3, e4⟩
      · rw [e1, Option.none_or, lookup_filter_not (hdm s e2), hnone s e2]
        exact hI'.2.1 s
      · rw [e4]
        exact (hval i o s k q e1 e2 e3).1
    · rcases List.mem_append.1 hg with hg | hg
      · obtain ⟨i, o, k, d, s, e1, e2, e3, e4, rfl⟩ := factsD_ok hg
        show (putAll f l 0 a).eval (.tmp d) = (putAll f l 0 a).eval (.tmp s)
        rw [(hval i o d k (some s) e1 e2 e3).2 s rfl, hnone s (hds s e4)]
      · obtain ⟨e1, e2⟩ := List.mem_filter.1 hg
        have hall := List.all_eq_true.1 e2
        -- slot by slot
        have hρ : ∀ s, s ∉ dsts l → (putAll f l 0 a).eval (.tmp s) = a.eval (.tmp s) := fun s hs => hnone s (hds s hs)
        have hfree : ∀ (ds : List Nat) (ρ ρ' : Nat → Value), (∀ s, s ∉ ds → ρ' s = ρ s) → (∀ d ∈ ds, g.free d = true) → g.holds ρ → g.holds ρ' := by
          intro ds
          induction ds with
          | nil => intro ρ ρ' hh _ hg'
                   have : ρ' = ρ := funext fun s => hh s (by simp)
                   rw [this]; exact hg'
          | cons d ds ih =>
            intro ρ ρ' hh hf hg'
            refine ih (fun s => if s = d then ρ' s else ρ s) ρ' (fun s hs => ?_) (fun d' hd' => hf d' (by simp [hd'])) ?_
            · by_cases e : s = d
              · simp [e]
              · simp only [if_neg e]
                exact hh s (by simp [e, hs])
            · exact Fact.free_ok (d := d) (fun s hs => by simp [hs]) (hf d (by simp)) hg'
        exact hfree (dsts l) (fun s => a.eval (.tmp s)) _ hρ hall (h4 g e1)

theorem absDrawn_ok (hT : Good T) {id : Nat} {l : List Oper} {B : St} (h : absDrawn T nt l A = some B) (hS : Sat T c w0 nt A a w) {Q : Exit → Act → World → Prop} (hQ : ∀ a' w', Sat T c w0 nt B a' w' → Q .normal a' w') : (Code.region id l.toArray true).wp T.P Q a w :=
  absDrawn_ok2 hT (G := fun _ => True) (fun _ _ _ _ => trivial) trivial h hS fun a' w' h1 _ _ => hQ a' w' h1
/-! ### Code -/
structure Out where
  norm : List St
  exits : List (Nat × St)
  rets : List St
def St.join (T : Conf) (A B : St) : Option St := (Ph.join A.ph B.ph).map fun ph =>
  { env := A.env.filterMap fun p => (B.env.lookup p.1).map fun k => (p.1, Kd.join T.tab T.fu p.2 k), facts := A.facts.filter fun f => B.facts.contains f, ph := ph }
def St.prune (keep : List Nat) (A : St) : St := { A with env := A.env.filter fun p => keep.contains p.1 }
abbrev SatL (T : Conf) (c : Ctx) (w0 : World) (nt : Nat) (L : List St) (a : Act) (w : World) : Prop := ∃ A ∈ L, Sat T c w0 nt A a w
def OutS (T : Conf) (c : Ctx) (w0 : World) (nt : Nat) (O : Out) : Exit → Act → World → Prop
  | .normal, a, w => SatL T c w0 nt O.norm a w
  | .exit id, a, w => ∃ A, (id, A) ∈ O.exits ∧ Sat T c w0 nt A a w
  | .ret, a, w => SatL T c w0 nt O.rets a w
  | _, _, _ => False
theorem lookup_join {s : Nat} {f : Kd → Kd → Kd} {r : List (Nat × Kd)} : ∀ {l : List (Nat × Kd)}, (l.filterMap fun p => (r.lookup p.1).map fun k => (p.1, f p.2 k)).lookup s = (l.lookup s).bind fun k => (r.lookup s).map fun k' => f k k'
  | [] => rfl
  | (x, k) :: l => by
    have ih := lookup_join (s := s) (f := f) (r := r) (l := l)
    by_cases e : s = x
    · subst e
      cases hr : r.lookup s with
      | none =>
        simp only [List.filterMap_cons, hr, Option.map_none, ih, List.lookup_cons, beq_self_eq_true, Option.bind_some]
        cases List.lookup s l <;> simp
      | some k' => simp [List.filterMap_cons, hr, List.lookup_cons]
    · have hb : (s == x) = false := by simpa using e
      cases hr : r.lookup x with
      | none => simp only [List.filterMap_cons, hr, Option.map_none, ih, List.lookup_cons, hb]
      | some k' => simp only [List.filterMap_cons, hr, Option.map_some, List.lookup_cons, hb, ih]
theorem join_ok (hT : Good T) {A B D : St} (h : St.join T A B = some D) (hS : Sat T c w0 nt A a w ∨ Sat T c w0 nt B a w) : Sat T c w0 nt D a w := by
  obtain ⟨ph, hp, rfl⟩ := Option.map_eq_some_iff.1 h
  have hsz : a.tmps.size = nt ∧ a.defers = [] := by rcases hS with h | h <;> exact ⟨h.1, h.2.1⟩
  refine ⟨hsz.1, hsz.2, fun s => ?_, fun f hf => ?_, ?_⟩
  · show Kd.den c T.tab (((A.env.filterMap fun p => (B.env.lookup p.1).map fun k => (p.1, Kd.join T.tab T.fu p.2 k)).lookup s).getD (.ck .any)) w _
    rw [lookup_join]
    cases hA : A.env.lookup s with
    | none => simp; exact any_den
    | some k =>
      cases hB : B.env.lookup s with
      | none => simp; exact any_den
      | some k' =>
        simp only [Option.bind_some, Option.map_some, Option.getD_some]
        rcases hS with h | h
        · have := h.2.2.1 s
          simp only [St.look, hA, Option.getD_some] at this
          exact Kd.join_l hT.tab this
        · have := h.2.2.1 s
          simp only [St.look, hB, Option.getD_some] at this
          exact Kd.join_r hT.tab this
  · obtain ⟨h1, h2⟩ := List.mem_filter.1 hf
    rcases hS with h | h
    · exact h.2.2.2.1 f h1
    · exact h.2.2.2.1 f (by simpa using h2)
  · rcases hS with h | h
    · exact h.2.2.2.2.join_l hp
    · exact h.2.2.2.2.join_r hp
theorem lookup_keep {keep : List Nat} {s : Nat} : ∀ {l : List (Nat × Kd)}, ((l.filter fun p => keep.contains p.1).lookup s) = l.lookup s ∨ ((l.filter fun p => keep.contains p.1).lookup s) = Option.none
  | [] => .inl rfl
  | (x, k) :: l => by
    have ih := lookup_keep (keep := keep) (s := s) (l := l)
    by_cases e : s = x
    · subst e
      by_cases hk : keep.contains s
      · left; rw [List.filter_cons]; simp only [hk, if_true, List.lookup_cons, beq_self_eq_true]
      · right
        simp only [List.filter_cons, hk]
        have : ∀ l : List (Nat × Kd), (l.filter fun p => keep.contains p.1).lookup s = Option.none := by
          intro l
          induction l with
          | nil => rfl
          | cons p l ih2 =>
            by_cases hp : keep.contains p.1
            · have hne : (s == p.1) = false := by
                simp only [beq_eq_false_iff_ne, ne_eq]
                intro h; rw [h] at hk; exact hk hp
              simp only [List.filter_cons, hp, if_true]
              rw [show p = (p.1, p.2) from rfl, List.lookup_cons, hne]
              exact ih2
            · simp only [List.filter_cons, hp]
              exact ih2
        exact this l
    · have hb : (s == x) = false := by simpa using e
      by_cases hk : keep.contains x
      · simp only [List.filter_cons, hk, if_true, List.lookup_cons, hb]
        exact ih
      · simp only [List.filter_cons, hk, List.lookup_cons, hb]
        exact ih
theorem prune_ok {keep : List Nat} (hS : Sat T c w0 nt A a w) : Sat T c w0 nt (A.prune keep) a w := by
  refine ⟨hS.1, hS.2.1, fun s => ?_, hS.2.2.2.1, hS.2.2.2.2⟩
  show Kd.den c T.tab (((A.env.filter fun p => keep.contains p.1).lookup s).getD (.ck .any)) w _
  rcases lookup_keep (keep := keep) (s := s) (l := A.env) with h | h
  · rw [h]; exact hS.2.2.1 s
  · rw [h]; exact any_den
theorem OutS.mono {O O' : Out} (h1 : ∀ A ∈ O.norm, A ∈ O'.norm) (h2 : ∀ A ∈ O.exits, A ∈ O'.exits) (h3 : ∀ A ∈ O.rets, A ∈ O'.rets) : ∀ e a w, OutS T c w0 nt O e a w → OutS T c w0 nt O' e a w := by
  intro e a w h
  cases e with
  | normal => obtain ⟨A, hA, hS⟩ := h; exact ⟨A, h1 A hA, hS⟩
  | exit id => obtain ⟨A, hA, hS⟩ := h; exact ⟨A, h2 _ hA, hS⟩
  | ret => obtain ⟨A, hA, hS⟩ := h; exact ⟨A, h3 A hA, hS⟩
  | _ => exact h
end
end Go.Proofs.YtodjokdaofefdaaGreat
/- Functions by the kinds of their arguments and results. -/
namespace Go.Proofs.YtodjokdaofefdaaGreat
set_option linter.unusedSimpArgs false
set_option linter.unusedVariables false
open Go.RowKit

section
variable {T : Conf} {c : Ctx} {w0 : World} {nt : Nat} {A : St} {a : Act} {w w' : World} {v : Value}
def resK (T : Conf) (A : St) : ResultVar → Option K1
  | .tmp t => match A.look t with | .one k => some k | _ => Option.none
  | .cell s t => match absLoad T.P T.tab t (A.look s) with | some (.one k) => some k | _ => Option.none
def resRun (tmps : Array Value) : ResultVar → Sem Value
  | .tmp t => pure (tmps.getD t undef)
  | .cell a t => do loadVar t (← asAddr (tmps.getD a undef))
theorem resK_ok (hT : Good T) {r : ResultVar} {k : K1} (h : resK T A r = some k) (hS : Sat T c w0 nt A a w) : ∃ v, (resRun a.tmps r).run T.P w = .ok v w ∧ k.den c T.tab w v := by
  cases r with
  | tmp t =>
    simp only [resK] at h
    split at h <;> cases h
    rename_i e
    have := hS.2.2.1 t
    rw [e] at this
    exact ⟨a.eval (.tmp t), by simp [resRun, Act.eval], this⟩
  | cell s t =>
    simp only [resK] at h
    split at h <;> cases h
    rename_i e
    obtain ⟨A', v, h1, h2, h3⟩ := load_run (G := T.cfg c w0) hT.tab e (hS.2.2.1 s)
    refine ⟨v, ?_, h3⟩
    have h1' : a.tmps.getD s undef = .pointer (some A') := h1
    simp only [resRun, h1', asAddr, Sem.run_bind, Sem.run_pure, Result.andThen_ok]
    exact h2
def resKs (T : Conf) (A : St) : List ResultVar → Option (List K1)
  | [] => some []
  | r :: l => (resK T A r).bind fun k => (resKs T A l).map fun ks => k :: ks
theorem resKs_ok (hT : Good T) (hS : Sat T c w0 nt A a w) : ∀ {l : List ResultVar} {ks : List K1}, resKs T A l = some ks → ∃ vs : List Value, (l.mapM (resRun a.tmps)).run T.P w = .ok vs w ∧ RowK (ks.map (K1.den c T.tab)) w vs
  | [], ks, h => by cases h; exact ⟨[], by simp, rfl⟩
  | r :: l, ks, h => by
    simp only [resKs] at h
    obtain ⟨k, h1, h2⟩ := Option.bind_eq_some_iff.1 h
    obtain ⟨ks', h3, rfl⟩ := Option.map_eq_some_iff.1 h2
    obtain ⟨v, h4, h5⟩ := resK_ok hT h1 hS
    obtain ⟨vs, h6, h7⟩ := resKs_ok hT hS h3
    exact ⟨v :: vs, by simp [List.mapM_cons, h4, h6], v, vs, rfl, h5, h7⟩
def resOf (T : Conf) (fn : Func) (A : St) : Option Kd := match resKs T A fn.results.toList with
  | some [k] => some (.one k)
  | some ks => some (.tup ks)
  | Option.none => Option.none
theorem results_eq (fn : Func) (tmps : Array Value) : results fn tmps = (do let vs ← fn.results.mapM (resRun tmps); pure (if h : vs.size = 1 then vs[0] else .tuple vs)) := by
  unfold results
  rfl
theorem resOf_ok (hT : Good T) {fn : Func} {k : Kd} (h : resOf T fn A = some k) (hS : Sat T c w0 nt A a w) : ∃ v, (results fn a.tmps).run T.P w = .ok v w ∧ k.den c T.tab w v := by
  unfold resOf at h
  split at h <;> try (cases h; done)
  · rename_i k1 e
    cases h
    obtain ⟨vs, h1, h2⟩ := resKs_ok hT hS e
    obtain ⟨v, r, rfl, h3, h4⟩ := h2
    obtain rfl : r = [] := h4
    refine ⟨v, ?_, h3⟩
    rw [results_eq, Array.mapM_eq_mapM_toList]
    simp [h1]
  · rename_i ks hne e
    cases h
    obtain ⟨vs, h1, h2⟩ := resKs_ok hT hS e
    have hl := h2.length
    rw [List.length_map] at hl
    have hne1 : ¬ vs.length = 1 := fun h1 => by
      rw [hl] at h1
      obtain ⟨k, hk⟩ := List.length_eq_one_iff.1 h1
      exact hne k hk
    refine ⟨.tuple vs.toArray, ?_, vs, rfl, h2⟩
    rw [results_eq, Array.mapM_eq_mapM_toList]
    simp [h1, hne1]
def argEnv : Nat → List Kd → List (Nat × Kd)
  | _, [] => []
  | i, k :: l => (i, k) :: argEnv (i + 1) l
theorem argEnv_look {w : World} {c : Ctx} {tab : Tab} : ∀ {aks : List Kd} {args : List Value} {i : Nat}, ArgsR c tab w aks args → ∀ s, (((argEnv i aks).lookup s).getD (.ck .any)).den c tab w ((if s < i then Option.none else args[s - i]?).getD undef) ∨ ((argEnv i aks).lookup s) = Option.none
  | [], [], i, _, s => .inr rfl
  | k :: l, v :: r, i, h, s => by
    simp only [argEnv]
    by_cases e : s = i
    · subst e
      left
      simp
      exact h.1
    · have hb : (s == i) = false := by simpa using e
      rw [List.lookup_cons, hb]
      have ih := argEnv_look (i := i + 1) h.2 s
      rcases ih with ih | ih
      · by_cases hlt : s < i
        · right
          -- below the first argument nothing is known
          have : ∀ (l : List Kd) (j : Nat), s < j → (argEnv j l).lookup s = Option.none := by
            intro l
            induction l with
            | nil => intro j _; rfl
            | cons k l ih2 =>
              intro j hj
              have hb2 : (s == j) = false := by simp; omega
              rw [argEnv, List.lookup_cons, hb2]
              exact ih2 (j + 1) (by omega)
          exact this l (i + 1) (by omega)
        · left
          rw [if_neg (by omega)] at ih ⊢
          rw [show s - i = (s - (i + 1)) + 1 by omega, List.getElem?_cons_succ]
          exact ih
      · exact .inr ih
  | [], _ :: _, _, h, _ => h.elim
  | _ :: _, [], _, h, _ => h.elim
theorem ArgsR.length {w : World} {c : Ctx} {tab : Tab} : ∀ {aks : List Kd} {args : List Value}, ArgsR c tab w aks args → args.length = aks.length
  | [], [], _ => rfl
  | _ :: _, _ :: _, h => by simp [ArgsR.length h.2]
  | [], _ :: _, h => h.elim
  | _ :: _, [], h => h.elim
/-- Kinds that do not lean on where the call began. -/
def CK.bare : CK → Bool
  | .sl _ _ _ | .ptr _ _ => false
  | _ => true
def bareArg : Kd → Bool
  | .one (.c k) => k.bare
  | _ => false
theorem bare_den {c c' : Ctx} {tab : Tab} (hbr : c'.br = c.br) (hcv : c'.cv = c.cv) {k : Kd} (hk : bareArg k = true) (h : k.den c tab w v) : k.den c' tab w v := by
  unfold bareArg at hk
  split at hk <;> try (cases hk; done)
  rename_i k0
  cases k0 <;> simp only [CK.bare, Bool.false_eq_true] at hk <;> first
    | exact h
    | (show v = _; rw [hbr]; exact h)
    | (show v = _; rw [hcv]; exact h)
theorem args_bare {c c' : Ctx} {tab : Tab} (hbr : c'.br = c.br) (hcv : c'.cv = c.cv) : ∀ {aks : List Kd} {args : List Value}, aks.all bareArg = true → ArgsR c tab w aks args → ArgsR c' tab w aks args
  | [], [], _, _ => trivial
  | k :: l, v :: r, h, hh => by
    simp only [List.all_cons, Bool.and_eq_true] at h
    exact ⟨bare_den hbr hcv h.1 hh.1, args_bare hbr hcv h.2 hh.2⟩
  | [], _ :: _, _, h => h.elim
  | _ :: _, [], _, h => h.elim
/-- What is known from a later beginning is known from an earlier one. -/
theorem BlkK.lowerB {B B' br t m : Nat} {e : TypeId} {ks ks' : List VK} {g : Nat} (hB : B' ≤ B) (hl : ks.length = ks'.length) (h : ∀ (f : Nat) k k', ks[f]? = some k → ks'[f]? = some k' → ∀ u, k w u → k' w u) (hb : BlkK B br e ks t m w g) : BlkK B' br e ks' t m w g := by
  have := hb.weaken hl h
  exact ⟨Nat.le_trans hB this.1, this.2⟩
theorem ck_lower {c c' : Ctx} (hB : c'.B ≤ c.B) (hbr : c'.br = c.br) (hcv : c'.cv = c.cv) {w : World} : ∀ {tab : Tab} (k : CK) {v : Value}, cden c tab k w v → cden c' tab k w v := by
  have key : ∀ (tab : Tab) (i : Nat), (tabOf c tab i).1 = (tabOf c' tab i).1 ∧ (tabOf c tab i).2.length = (tabOf c' tab i).2.length ∧ ∀ (f : Nat) k k', (tabOf c tab i).2[f]? = some k → (tabOf c' tab i).2[f]? = some k' → ∀ u, k w u → k' w u := by
    intro tab
    induction tab with
    | nil => intro i; exact ⟨rfl, rfl, fun f k k' h => by simp [tabOf] at h⟩
    | cons x r ih =>
      obtain ⟨Ty, ks⟩ := x
      intro i
      simp only [tabOf]
      split
      · refine ⟨rfl, by simp, fun f k k' h h' u hu => ?_⟩
        rw [List.getElem?_map] at h h'
        obtain ⟨k0, e0, rfl⟩ := Option.map_eq_some_iff.1 h
        obtain ⟨k1, e1, rfl⟩ := Option.map_eq_some_iff.1 h'
        rw [e0] at e1
        cases e1
        cases k0 with
        | sl j lo hi =>
          obtain ⟨hs, hA⟩ := hu
          refine ⟨?_, hA⟩
          obtain ⟨h1, h2, h3⟩ := ih j
          rw [← h1]
          rcases hs with rfl | ⟨g, o, n, q, rfl, g1, g2, g3, g4⟩
          · exact .inl rfl
          · exact .inr ⟨g, o, n, q, by rw [h2], g1, g2, g3, by rw [hbr]; exact g4.lowerB hB h2 h3⟩
        | ptr j off =>
          obtain ⟨g, q, rfl, g1⟩ := hu
          obtain ⟨h1, h2, h3⟩ := ih j
          exact ⟨g, q, by rw [h2], by rw [← h1, hbr]; exact g1.lowerB hB h2 h3⟩
        | rdr => show u = _; rw [hbr]; exact hu
        | code => show u = _; rw [hcv]; exact hu
        | _ => exact hu
      · exact ih i
  intro tab k v hv
  cases k with
  | sl j lo hi =>
    obtain ⟨hs, hA⟩ := hv
    refine ⟨?_, hA⟩
    obtain ⟨h1, h2, h3⟩ := key tab j
    rw [← h1]
    rcases hs with rfl | ⟨g, o, n, q, rfl, g1, g2, g3, g4⟩
    · exact .inl rfl
    · exact .inr ⟨g, o, n, q, by rw [h2], g1, g2, g3, by rw [hbr]; exact g4.lowerB hB h2 h3⟩
  | ptr j off =>
    obtain ⟨g, q, rfl, g1⟩ := hv
    obtain ⟨h1, h2, h3⟩ := key tab j
    exact ⟨g, q, by rw [h2], by rw [← h1, hbr]; exact g1.lowerB hB h2 h3⟩
  | rdr => show v = _; rw [hbr]; exact hv
  | code => show v = _; rw [hcv]; exact hv
  | _ => exact hv
theorem row_lower {α : Type} {D D' : α → VK} {w : World} (h : ∀ k v, D k w v → D' k w v) : ∀ {l : List α} {cs : List Value}, RowK (l.map D) w cs → RowK (l.map D') w cs
  | [], _, h' => h'
  | k :: l, _, ⟨u, r, e, h1, h2⟩ => ⟨u, r, e, h k u h1, row_lower h h2⟩
theorem k1_lower {c c' : Ctx} (hB : c'.B ≤ c.B) (hbr : c'.br = c.br) (hcv : c'.cv = c.cv) {w : World} {tab : Tab} (k : K1) {v : Value} (hv : k.den c tab w v) : k.den c' tab w v := by
  cases k with
  | c k => exact ck_lower hB hbr hcv k hv
  | agg ks => obtain ⟨cs, e, hr⟩ := hv; exact ⟨cs, e, row_lower (fun k v h => ck_lower hB hbr hcv k h) hr⟩
theorem kd_lower {c c' : Ctx} (hB : c'.B ≤ c.B) (hbr : c'.br = c.br) (hcv : c'.cv = c.cv) {w : World} {tab : Tab} (k : Kd) {v : Value} (hv : k.den c tab w v) : k.den c' tab w v := by
  cases k with
  | one k => exact k1_lower hB hbr hcv k hv
  | tup ks => obtain ⟨cs, e, hr⟩ := hv; exact ⟨cs, e, row_lower (fun k v h => k1_lower hB hbr hcv k h) hr⟩
end
end Go.Proofs.YtodjokdaofefdaaGreat

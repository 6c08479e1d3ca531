/- A region that draws its order with an append and a store behind it: what holds ahead of the append, what holds behind the store. -/
import Derived.Test.YtodjokdaofefdaaQ1
import Derived.Test.YtodjokdaofefdaaQ6
namespace Go.Proofs.Ytodjokdaofefdaa
set_option linter.unusedSimpArgs false
set_option linter.unusedVariables false
open Go.RowKit

/-- What c waits for, straight or through others. -/
def reachB (ops : Array Oper) : Nat → Nat → Nat → Bool
  | 0, c, i => i == c
  | n + 1, c, i => i == c || (List.range ops.size).any fun m => depB ops c m && reachB ops n m i
structure RPreK (ops : Array Oper) (a0 : Act) (T : Nat → World → Value → Prop) (gc : Option Nat) (G : World → Prop) (i : Nat) (a : Act) (w : World) : Prop where
  dep : ∀ j s, depSlot ops i s j = true → T j w (a.eval (.tmp s))
  keep : ∀ s, keepSlot ops i s = true → a.eval (.tmp s) = a0.eval (.tmp s)
  pre : ∀ n, (∀ c, gc = some c → reachB ops n c i = true) → G w
theorem reach_listed {ops : Array Oper} {listed : Array Bool} (h : ∀ i j, listed.getD i false = true → depB ops i j = true → listed.getD j false = true) : ∀ n c i, listed.getD c false = true → reachB ops n c i = true → listed.getD i false = true
  | 0, c, i, hc, hr => by
    have e : i = c := by simpa [reachB] using hr
    rw [e]; exact hc
  | n + 1, c, i, hc, hr => by
    rw [reachB, Bool.or_eq_true] at hr
    rcases hr with hr | hr
    · have e : i = c := by simpa using hr
      rw [e]; exact hc
    · obtain ⟨m, _, hm⟩ := List.any_eq_true.1 hr
      obtain ⟨h1, h2⟩ := Bool.and_eq_true_iff.1 hm
      exact reach_listed h n m i (h c m hc h1) h2
structure RGoodK (ops : Array Oper) (a0 : Act) (T : Nat → World → Value → Prop) (Inv : Nat → World → Prop) (kill : Nat → Option Nat) (gc gd : Option Nat) (G H : World → Prop) (k : Nat) (listed : Array Bool) (a : Act) (w : World) : Prop where
  size : a.tmps.size = a0.tmps.size
  defers : a.defers = a0.defers
  inv : Inv k w
  lsize : listed.size = ops.size
  closed : ∀ i j, listed.getD i false = true → depB ops i j = true → listed.getD j false = true
  done : ∀ i d, dstOf ops i = some d → listed.getD i false = true → (∀ c, kill i = some c → listed.getD c false = false) → T i w (a.eval (.tmp d))
  todo : ∀ s, (∀ i, dstOf ops i = some s → listed.getD i false = false) → a.eval (.tmp s) = a0.eval (.tmp s)
  pre : (∀ c, gc = some c → listed.getD c false = false) → G w
  post : ∀ c, gd = some c → listed.getD c false = true → H w

def ROneK (P : Program) (ops : Array Oper) (a0 : Act) (T : Nat → World → Value → Prop) (Inv : Nat → World → Prop) (Rel : Nat → World → World → Prop) (gc gd : Option Nat) (G H : World → Prop) (i : Nat) (o : Oper) : Prop :=
  ∀ (a : Act) (k : Nat) (w : World) (K : Act → World → Prop) (Q : Exit → Act → World → Prop), k < ops.size → Inv k w → RPreK ops a0 T gc G i a w →
    (∀ v w', T i w' v → Rel i w w' → Inv (k + 1) w' → (gd = some i → H w') → K (a.put o.dst v) w') → if Region.wanted o (yielded ops a.tmps) = true then o.wp P a w K Q else K (a.put o.dst undef) w

section
variable {P : Program} {ops : Array Oper} {n : Nat} {a0 : Act} {T : Nat → World → Value → Prop} {Inv : Nat → World → Prop} {Rel : Nat → World → World → Prop} {kill : Nat → Option Nat} {gc gd : Option Nat} {G H : World → Prop}
theorem region_any_stepK (hok : okRegion ops a0.tmps.size = true) (hkill : okKill ops kill = true) (hstab : ∀ i j w w' v, Rel i w w' → kill j ≠ some i → j ≠ i → depB ops j i = false → (∀ c, kill j = some c → depB ops i c = false) → (∀ m, depB ops j m = true → depB ops m i = false) → T j w v → T j w' v)
    (hstabG : ∀ i w w', Rel i w w' → gc ≠ some i → (∀ c, gc = some c → depB ops i c = false) → G w → G w') (hstabH : ∀ i w w', Rel i w w' → gd ≠ some i → (∀ c, gd = some c → depB ops c i = false) → H w → H w') (hone : ∀ i o, ops[i]? = some o → ROneK P ops a0 T Inv Rel gc gd G H i o) {Q : Exit → Act → World → Prop}
    (hQ : ∀ listed a w, (∀ i, i < ops.size → listed.getD i true = true) → RGoodK ops a0 T Inv kill gc gd G H ops.size listed a w → Q .normal a w) :
    ∀ (fuel k : Nat) (listed : Array Bool) (a : Act) (w : World), k + fuel = ops.size → unl ops.size (fun i => !listed.getD i true) = fuel → RGoodK ops a0 T Inv kill gc gd G H k listed a w → wpAny P .any ops Q fuel listed a w := by
  intro fuel
  induction fuel with
  | zero =>
    intro k listed a w hk hu hg
    have hall := unl_zero hu
    have hr : Region.ready .any ops listed = [] := by
      apply List.eq_nil_iff_forall_not_mem.2
      intro i hi
      obtain ⟨h1, h2, _⟩ := mem_ready_iff.1 hi
      have := hall i h1
      simp [h2] at this
    obtain rfl : k = ops.size := by omega
    exact ⟨hr, hQ listed a w (fun i hi => by simpa using hall i hi) hg⟩
  | succ fuel ih =>
    intro k listed a w hk hu hg
    refine ⟨fun hr => ?_, fun i hi => ?_⟩
    · exfalso
      have hex : ∃ i, i < ops.size ∧ listed.getD i true = false := by
        by_cases h : ∃ i, i < ops.size ∧ listed.getD i true = false
        · exact h
        · exfalso
          have : unl ops.size (fun i => !listed.getD i true) = 0 := by
            unfold unl
            rw [List.filter_eq_nil_iff.2]
            · rfl
            · intro j hj
              simp only [Bool.not_eq_true', Bool.not_eq_false]
              cases hh : listed.getD j true with
              | true => rfl
              | false => exact absurd ⟨j, List.mem_range.1 hj, hh⟩ h
          omega
      have hmin : ∀ m, (∃ i, i < m ∧ i < ops.size ∧ listed.getD i true = false) → ∃ i, i < ops.size ∧ listed.getD i true = false ∧ ∀ j, j < i → listed.getD j true = true := by
        intro m
        induction m with
        | zero => rintro ⟨i, h, _⟩; omega
        | succ m ihm =>
          rintro ⟨i, h1, h2, h3⟩
          by_cases h : ∃ i, i < m ∧ i < ops.size ∧ listed.getD i true = false
          · exact ihm h
          · refine ⟨i, h2, h3, fun j hj => ?_⟩
            cases hh : listed.getD j true with
            | true => rfl
            | false => exact absurd ⟨j, by omega, by omega, hh⟩ h
      obtain ⟨i, h1, h2⟩ := hex
      obtain ⟨i, h1, h2, h3⟩ := hmin (i + 1) ⟨i, by omega, h1, h2⟩
      have := ready_first hok hg.lsize h1 h2 h3
      rw [hr] at this
      cases this
    · obtain ⟨h1, h2, h3⟩ := mem_ready_iff.1 hi
      have hli : listed.getD i false = false := by
        rw [Array.getD_eq_getD_getElem?, Array.getElem?_eq_getElem (by rw [hg.lsize]; exact h1)] at h2 ⊢
        exact h2
      have hdeps : ∀ j, depB ops i j = true → listed.getD j false = true := by
        intro j hd
        simp only [depB, Array.getElem?_eq_getElem h1, Option.map_some, Option.getD_some] at hd
        obtain ⟨e, he, hd⟩ := Array.any_eq_true.1 hd
        rw [Array.getElem?_eq_getElem h1] at h3
        simp only [Option.map_some, Option.getD_some] at h3
        have := Array.all_eq_true.1 h3 e he
        simp only [Bool.and_eq_true, beq_iff_eq] at hd
        rw [hd.1, hd.2] at this
        simpa using this
      have hpre : RPreK ops a0 T gc G i a w := by
        refine ⟨fun j s hd => ?_, fun s hs => ?_, fun n hpr => hg.pre fun c hc => ?_⟩
        · simp only [depSlot, Bool.and_eq_true, beq_iff_eq] at hd
          have hd1 := readB_dep hd.1
          refine hg.done j s hd.2 (hdeps j hd1) (fun c hc => ?_)
          have hji := okRegion_dep hok hd1
          have := List.all_eq_true.1 (List.all_eq_true.1 hkill i (List.mem_range.2 hji.2)) j (List.mem_range.2 (by omega))
          simp only [hd.1, hc, Bool.not_true, Bool.false_or, Bool.or_eq_true, beq_iff_eq] at this
          rcases this with rfl | hci
          · exact hli
          · cases hh : listed.getD c false with
            | false => rfl
            | true =>
              have := hg.closed c i hh hci
              rw [hli] at this
              cases this
        · refine hg.todo s (fun j hj => ?_)
          have hjs : j < ops.size := by
            unfold dstOf at hj
            cases ho : ops[j]? with
            | none => simp [ho] at hj
            | some o => exact (Array.getElem?_eq_some_iff.1 ho).1
          have := List.all_eq_true.1 hs j (List.mem_range.2 hjs)
          simp only [hj, bne_self_eq_false, Bool.false_or] at this
          cases hh : listed.getD j false with
          | false => rfl
          | true =>
            have := hg.closed j i hh this
            rw [hli] at this
            cases this
        · cases hh : listed.getD c false with
          | false => rfl
          | true =>
            have := reach_listed hg.closed n c i hh (hpr c hc)
            rw [hli] at this
            cases this
      have hgood : ∀ v w', T i w' v → Rel i w w' → Inv (k + 1) w' → (gd = some i → H w') → RGoodK ops a0 T Inv kill gc gd G H (k + 1) (listed.setIfInBounds i true) (a.put ((ops[i]?).bind (·.dst)) v) w' := by
        intro v w' hT hR hI hH
        have hset : ∀ j, (listed.setIfInBounds i true).getD j false = if j = i then true else listed.getD j false := by
          intro j
          simp only [Array.getD_eq_getD_getElem?, Array.getElem?_setIfInBounds]
          by_cases hji : j = i
          · subst hji; simp [hg.lsize, h1]
          · rw [if_neg (fun e => hji e.symm), if_neg hji]
        refine ⟨?_, ?_, hI, by simpa using hg.lsize, ?_, ?_, ?_, fun hpr => hstabG i w w' hR (fun e => ?_) (fun c hc => ?_) (hg.pre fun c hc => ?_), fun c hc hl => ?_⟩
        · cases h : (ops[i]?).bind (·.dst) <;> simpa [Act.put] using hg.size
        · cases h : (ops[i]?).bind (·.dst) <;> simpa [Act.put] using hg.defers
        · intro x y hx hd
          rw [hset] at hx ⊢
          by_cases hyi : y = i
          · rw [if_pos hyi]
          · rw [if_neg hyi]
            by_cases hxi : x = i
            · subst hxi; exact hdeps y hd
            · rw [if_neg hxi] at hx; exact hg.closed x y hx hd
        · intro x d hd hx hkx
          rw [hset] at hx
          by_cases hxi : x = i
          · subst hxi
            have hd' : (ops[x]?).bind (·.dst) = some d := hd
            rw [hd', eval_put, if_pos ⟨rfl, by rw [hg.size]; exact (okRegion_dst hok hd).1⟩]
            exact hT
          · rw [if_neg hxi] at hx
            have hv : (a.put ((ops[i]?).bind (·.dst)) v).eval (.tmp d) = a.eval (.tmp d) := by
              cases h : (ops[i]?).bind (·.dst) with
              | none => rfl
              | some d' =>
                rw [eval_put, if_neg]
                rintro ⟨rfl, _⟩
                exact hxi (okRegion_uniq hok hd h)
            rw [hv]
            refine hstab _ _ _ _ _ hR (fun e => ?_) hxi ?_ (fun c hc => ?_) (fun m hm => ?_) (hg.done x d hd hx (fun c hc => ?_))
            · have := hkx i e
              rw [hset, if_pos rfl] at this
              cases this
            · cases hh : depB ops x i with
              | false => rfl
              | true =>
                have := hg.closed x i hx hh
                rw [hli] at this
                cases this
            · cases hh : depB ops i c with
              | false => rfl
              | true =>
                have hl1 := hdeps c hh
                have hl2 := hkx c hc
                rw [hset] at hl2
                by_cases hci : c = i
                · subst hci; exact Bool.noConfusion (hl1.symm.trans hli)
                · rw [if_neg hci, hl1] at hl2; cases hl2
            · cases hh : depB ops m i with
              | false => rfl
              | true =>
                have := hg.closed m i (hg.closed x m hx hm) hh
                rw [hli] at this
                cases this
            · have := hkx c hc
              rw [hset] at this
              by_cases hci : c = i
              · subst hci; exact hli
              · rwa [if_neg hci] at this
        · intro s hs
          have hsi : dstOf ops i ≠ some s := fun e => by
            have := hs i e
            rw [hset, if_pos rfl] at this
            cases this
          have hv : (a.put ((ops[i]?).bind (·.dst)) v).eval (.tmp s) = a.eval (.tmp s) := by
            cases h : (ops[i]?).bind (·.dst) with
            | none => rfl
            | some d' =>
              rw [eval_put, if_neg]
              rintro ⟨rfl, _⟩
              exact hsi h
          rw [hv]
          refine hg.todo s (fun j hj => ?_)
          have := hs j hj
          rw [hset] at this
          by_cases hji : j = i
          · subst hji; exact hli
          · rwa [if_neg hji] at this
        · have := hpr i e
          rw [hset, if_pos rfl] at this
          cases this
        · cases hh : depB ops i c with
          | false => rfl
          | true =>
            have h1 := hdeps c hh
            have := hpr c hc
            rw [hset] at this
            by_cases hci : c = i
            · subst hci; rw [if_pos rfl] at this; cases this
            · rw [if_neg hci, h1] at this; cases this
        · have := hpr c hc
          rw [hset] at this
          by_cases hji : c = i
          · subst hji; exact hli
          · rwa [if_neg hji] at this
        · rw [hset] at hl
          by_cases hci : c = i
          · subst hci; exact hH hc
          · rw [if_neg hci] at hl
            refine hstabH i w w' hR (fun e => hci (by rw [hc] at e; cases e; rfl)) (fun c' hc' => ?_) (hg.post c hc hl)
            rw [hc] at hc'
            cases hc'
            cases hh : depB ops c i with
            | false => rfl
            | true =>
              have := hg.closed c i hl hh
              rw [hli] at this
              cases this
      have hunl : unl ops.size (fun j => !(listed.setIfInBounds i true).getD j true) = fuel := by
        have := unl_set (p := fun j => !listed.getD j true) (p' := fun j => !(listed.setIfInBounds i true).getD j true) (i := i) (by simp [h2]) (by
          simp [Array.getD_eq_getD_getElem?, Array.getElem?_setIfInBounds, hg.lsize, h1]) (fun j hj => by
          simp only [Array.getD_eq_getD_getElem?, Array.getElem?_setIfInBounds]
          rw [if_neg (fun e => hj e.symm)]) ops.size
        rw [if_pos h1] at this
        omega
      have h := hone i ops[i] (Array.getElem?_eq_getElem h1) a k w (wpAny P .any ops Q fuel (listed.setIfInBounds i true)) Q (by omega) hg.inv hpre (fun v w' hT hR hI hH => by
        have := hgood v w' hT hR hI hH
        rw [Array.getElem?_eq_getElem h1] at this
        exact ih (k + 1) _ _ _ (by omega) hunl this)
      unfold wpOp
      rw [Array.getElem?_eq_getElem h1]
      simp only
      split
      · rename_i hw; rw [if_pos hw] at h; exact .inl h
      · rename_i hw; rw [if_neg hw] at h; exact h

/-- The obligations, an operation at a time. -/
def RAllK (P : Program) (ops : Array Oper) (a0 : Act) (T : Nat → World → Value → Prop) (Inv : Nat → World → Prop) (Rel : Nat → World → World → Prop) (gc gd : Option Nat) (G H : World → Prop) : List Oper → Nat → Prop
  | [], _ => True
  | o :: l, i => ROneK P ops a0 T Inv Rel gc gd G H i o ∧ RAllK P ops a0 T Inv Rel gc gd G H l (i + 1)
theorem RAllK.at {l : List Oper} {i : Nat} (h : RAllK P ops a0 T Inv Rel gc gd G H l i) : ∀ (j : Nat) (o : Oper), l[j]? = some o → ROneK P ops a0 T Inv Rel gc gd G H (i + j) o := by
  induction l generalizing i with
  | nil => intro j o hj; simp at hj
  | cons o' l ih =>
    intro j o hj
    cases j with
    | zero => obtain rfl : o' = o := by simpa using hj
              exact h.1
    | succ j =>
      have := ih h.2 j o (by simpa using hj)
      rwa [show i + 1 + j = i + (j + 1) by omega] at this

theorem wp_region_draws2K (gc gd : Option Nat) (G H : World → Prop) (T : Nat → World → Value → Prop) (Inv : Nat → World → Prop) (Rel : Nat → World → World → Prop) (kill : Nat → Option Nat) {id : Nat} {Q : Exit → Act → World → Prop} {w : World} {l : List Oper} (hm : P.follows .mixedOrders = true)
    (hok : okRegion l.toArray a0.tmps.size = true) (hkill : okKill l.toArray kill = true) (hstab : ∀ i j w w' v, Rel i w w' → kill j ≠ some i → j ≠ i → depB l.toArray j i = false → (∀ c, kill j = some c → depB l.toArray i c = false) → (∀ m, depB l.toArray j m = true → depB l.toArray m i = false) → T j w v → T j w' v) (hstabG : ∀ i w w', Rel i w w' → gc ≠ some i → (∀ c, gc = some c → depB l.toArray i c = false) → G w → G w') (hstabH : ∀ i w w', Rel i w w' → gd ≠ some i → (∀ c, gd = some c → depB l.toArray c i = false) → H w → H w') (hI : Inv 0 w.drew) (hG : G w.drew) (hone : RAllK P l.toArray a0 T Inv Rel gc gd G H l 0)
    (hQ : ∀ (f : Nat → Value) (w' : World), (∀ i, i < l.length → (dstOf l.toArray i).isSome = true → (kill i).isNone = true → T i w' (f i)) → Inv l.length w' → (∀ c, gd = some c → c < l.length → H w') → Q .normal (putAll f l 0 a0) w') : (Code.region id l.toArray true).wp P Q a0 w := by
  refine wp_region_any hm (region_any_stepK (a0 := a0) (T := T) (Inv := Inv) (Rel := Rel) (kill := kill) (gc := gc) (gd := gd) (G := G) (H := H) hok hkill hstab hstabG hstabH (fun i o ho => by
    have := RAllK.at hone i o (by simpa using ho)
    simpa using this) ?_ _ 0 _ a0 _ (by simp) ?_ ?_)
  · intro listed a w' hall hg
    have hlist : ∀ i, i < l.length → listed.getD i false = true := fun i hi => by
      have := hall i (by simpa using hi)
      rw [Array.getD_eq_getD_getElem?, Array.getElem?_eq_getElem (by rw [hg.lsize]; simpa using hi)] at this ⊢
      exact this
    have hlt : ∀ i d, dstOf l.toArray i = some d → i < l.length := fun i d hd => by
      unfold dstOf at hd
      cases ho : l.toArray[i]? with
      | none => simp [ho] at hd
      | some o => simpa using (Array.getElem?_eq_some_iff.1 ho).1
    have he : a = putAll (fun i => a.eval (.tmp ((dstOf l.toArray i).getD 0))) l 0 a0 := by
      have hp := putAll_defers (fun i => a.eval (.tmp ((dstOf l.toArray i).getD 0))) l 0 a0
      refine act_ext (hg.size.trans hp.2.symm) (hg.defers.trans hp.1.symm) (fun s hs => ?_)
      by_cases h : ∃ i, dstOf l.toArray i = some s
      · obtain ⟨i, hi⟩ := h
        have hi' := hi
        unfold dstOf at hi'
        cases ho : l.toArray[i]? with
        | none => simp [ho] at hi'
        | some o =>
          simp only [ho, Option.bind_some] at hi'
          rw [putAll_some _ l 0 a0 s i o (by simpa using ho) hi' (fun j o' ho' hd' => okRegion_uniq hok (d := s) (by simp [dstOf, ho', hd']) hi) (by rw [← hg.size]; exact hs)]
          simp [hi]
      · rw [putAll_none _ l 0 a0 s (fun j o ho hd => h ⟨j, by simp [dstOf, ho, hd]⟩)]
        exact hg.todo s (fun i hi => absurd ⟨i, hi⟩ h)
    rw [he]
    refine hQ _ _ (fun i hi hs hk => ?_) (by simpa using hg.inv) (fun c hc hl => hg.post c hc (hlist c hl))
    obtain ⟨d, hd⟩ := Option.isSome_iff_exists.1 hs
    simp only [hd, Option.getD_some]
    exact hg.done i d hd (hlist i hi) (fun c hc => by rw [hc] at hk; cases hk)
  · have : ∀ N, unl N (fun i => !(Array.replicate N false).getD i true) = N := by
      intro N
      unfold unl
      rw [List.filter_eq_self.2]
      · simp
      · intro i hi
        simp [Array.getD_eq_getD_getElem?, List.mem_range.1 hi]
    exact this _
  · refine ⟨rfl, rfl, hI, by simp, ?_, ?_, fun _ _ => rfl, fun _ => hG, fun c _ h => ?_⟩
    · intro i j h
      simp [Array.getD_eq_getD_getElem?, Array.getElem?_replicate] at h
      split at h <;> simp at h
    · intro i d _ h _
      simp [Array.getD_eq_getD_getElem?, Array.getElem?_replicate] at h
      split at h <;> simp at h
    · simp [Array.getD_eq_getD_getElem?, Array.getElem?_replicate] at h
      split at h <;> simp at h

end
section
variable {P : Program} {ops : Array Oper} {a0 : Act} {T : Nat → World → Value → Prop} {Inv : Nat → World → Prop} {Rel : Nat → World → World → Prop} {gc gd : Option Nat} {G H : World → Prop}
theorem RAllK.none_ {i : Nat} : RAllK P ops a0 T Inv Rel gc gd G H [] i := trivial
theorem RAllK.cons {o : Oper} {l : List Oper} {i : Nat} (hg : o.guard = Option.none) (h : ∀ (a : Act) (k : Nat) (w : World) (K : Act → World → Prop) (Q : Exit → Act → World → Prop), k < ops.size → Inv k w → RPreK ops a0 T gc G i a w →
    (∀ v w', T i w' v → Rel i w w' → Inv (k + 1) w' → (gd = some i → H w') → K (a.put o.dst v) w') → o.wp P a w K Q) (hl : RAllK P ops a0 T Inv Rel gc gd G H l (i + 1)) : RAllK P ops a0 T Inv Rel gc gd G H (o :: l) i :=
  ⟨fun a k w K Q h1 h2 h3 h4 => by
    have : Region.wanted o (yielded ops a.tmps) = true := by simp [Region.wanted, hg]
    rw [if_pos this]
    exact h a k w K Q h1 h2 h3 h4, hl⟩
end
end Go.Proofs.Ytodjokdaofefdaa
/- Guards that are added, by the reference: copies. -/
namespace Go.Proofs.Ytodjokdaofefdaa
set_option linter.unusedSimpArgs false
set_option linter.unusedVariables false
open Go.RowKit

/-- The box of a copy that grows. -/
def CpB (g : Nat) (r : Ex) (w : World) (v : Value) : Prop := w.heap[g]? = some (.cells #[.int .i64 r.k, .int .i64 r.n, .string r.s, v] 28 (0, 0))
def CpH (d g : Nat) (r : Ex) (W : World) (k : Nat) (w : World) : Prop := ∃ A c l' N, CpB g r w (.slice A k c) ∧ l'.map Prod.fst = r.ps.take k ∧ ExO d (g + 1) N w (.slice A k c) l' ∧ Below g W w
def CpA (d g : Nat) (r : Ex) (W : World) (k : Nat) (w : World) (v : Value) : Prop := ∃ A c u l' N, v = .slice A k c ∧ CpB g r w u ∧ l'.map Prod.fst = r.ps.take k ∧ ExO d (g + 1) N w (.slice A k c) l' ∧ Below g W w
/-- A copy. -/
def ChV (d lo : Nat) (t : Ex) (w : World) (v : Value) : Prop := ∃ A c a b, v = .agg #[.int .i64 t.k, .int .i64 t.n, .string t.s, .slice A t.ps.length c] ∧ (lo ≤ a ∧ a ≤ b ∧ b ≤ w.heap.size) ∧ exT d a b w (.slice A t.ps.length c) t.ps
def ChR (d lo : Nat) (t : Ex) (w : World) (v : Value) : Prop := ∃ g A c a b, v = .slice (some ⟨g, 0, none⟩) 1 1 ∧ w.heap[g]? = some (.cells #[.int .i64 t.k, .int .i64 t.n, .string t.s, .slice A t.ps.length c] 28 (0, 0)) ∧ (lo ≤ a ∧ a ≤ b ∧ b ≤ w.heap.size) ∧ exT d a b w (.slice A t.ps.length c) t.ps
theorem block_below {w w' : World} {g : Nat} {o : Obj} (h : w.heap[g]? = some o) (hb : Below w.heap.size w w') : w'.heap[g]? = some o := (hb.block g (Array.getElem?_eq_some_iff.1 h).1).trans h
section
variable {d g k lo : Nat} {r t : Ex} {W w w' : World} {v : Value}
theorem CpH.below (h : CpH d g r W k w) (hb : Below w.heap.size w w') : CpH d g r W k w' := by
  obtain ⟨A, c, l', N, h1, h2, h3, h4⟩ := h
  have hg := (Array.getElem?_eq_some_iff.1 h1).1
  exact ⟨A, c, l', N, block_below h1 hb, h2, h3.below hb, h4.trans (hb.mono (by omega))⟩
theorem CpA.below (h : CpA d g r W k w v) (hb : Below w.heap.size w w') : CpA d g r W k w' v := by
  obtain ⟨A, c, u, l', N, h0, h1, h2, h3, h4⟩ := h
  have hg := (Array.getElem?_eq_some_iff.1 h1).1
  exact ⟨A, c, u, l', N, h0, block_below h1 hb, h2, h3.below hb, h4.trans (hb.mono (by omega))⟩
theorem ChV.below (h : ChV d lo t w v) (hb : Below w.heap.size w w') : ChV d lo t w' v := by
  obtain ⟨A, c, a, b, h0, h1, h2⟩ := h
  exact ⟨A, c, a, b, h0, ⟨h1.1, h1.2.1, Nat.le_trans h1.2.2 hb.size⟩, h2.below h1.2.2 hb⟩
theorem ChR.below (h : ChR d lo t w v) (hb : Below w.heap.size w w') : ChR d lo t w' v := by
  obtain ⟨g, A, c, a, b, h0, hg, h1, h2⟩ := h
  exact ⟨g, A, c, a, b, h0, block_below hg hb, ⟨h1.1, h1.2.1, Nat.le_trans h1.2.2 hb.size⟩, h2.below h1.2.2 hb⟩
theorem ExO.grown {N : Nat} {l' : List ExX} {row : Option Nat} (h : ExO d lo N w v l') (hg : w.grownBy w' row) (hr : ∀ k, row = some k → k < lo) : ExO d lo N w' v l' := by
  obtain ⟨h1, h2, h3⟩ := h
  have hge := h3.ge
  obtain ⟨A, c, xs, e, ho, hc⟩ := h3
  refine ⟨h1, Nat.le_trans h2 hg.size, A, c, xs, e, own_apart_ ho hg (fun k hk e2 => ?_), hc.mono_mem (fun a ha cs hcs => ?_)⟩
  · rw [← e] at hk
    have := (hge k hk).1
    have := hr k e2
    omega
  · obtain ⟨g1, g2, g3, g4⟩ := hcs
    have hb := h1.1 a ha
    exact ⟨g1.keep (fun k k1 k2 => hg.block k (by omega) (fun e2 => by have := hr k e2.symm; omega)), g2, g3, g4⟩
end
def CpQ (d : Nat) : Prop := ∀ (A : Option Addr) (r : Ex) (c : Nat) (w : World), exW d w A r.ps → r.s.size ≤ 9223372036854775807 → (∀ m, cntR m r ≤ 1048576) →
  Calls Try.prog 78 #[.agg #[.int .i64 r.k, .int .i64 r.n, .string r.s, .slice A r.ps.length c]] w fun e w' => ∃ A' c', e = .returned (.agg #[.int .i64 r.k, .int .i64 r.n, .string r.s, .slice A' r.ps.length c']) ∧ exT d w.heap.size w'.heap.size w' (.slice A' r.ps.length c') r.ps ∧ Below w.heap.size w w'
set_option maxRecDepth 100000 in
set_option maxHeartbeats 8000000 in
theorem cpQ_of {d : Nat} (hQ : ∀ m, d = m + 1 → CpQ m) : CpQ d := by
  intro A r c w hU hs hn
  have hlen : r.ps.length ≤ 1048576 := by have := hn 1; rw [cntR] at this; omega
  have HQ := Lib.hid hQ
  have HN := Lib.hid hn
  have HS := Lib.hid hs
  clear hQ hn hs
  obtain ⟨gx, hgx⟩ : ∃ g, g = w.heap.size := ⟨_, rfl⟩
  obtain ⟨g, hg⟩ : ∃ g, g = w.heap.size + 1 + 1 := ⟨_, rfl⟩
  obtain ⟨W, hW⟩ : ∃ W, W = ((w.alloc (.cells #[.int .i64 r.k, .int .i64 r.n, .string r.s, .slice A r.ps.length c] 28)).alloc (.cells #[.int .i64 0, .int .i64 0, .string ⟨#[]⟩, .slice Option.none 0 0] 28)).alloc (.cells #[.int .i64 r.k, .int .i64 r.n, .string r.s, .slice Option.none 0 0] 28) := ⟨_, rfl⟩
  have hBW : Below w.heap.size w W := by rw [hW]; (repeat (first | exact Below.refl _ _ | refine ext_alloc ?_ _ | refine Below.setCell ?_ (by simp) _))
  have hWs : W.heap.size = w.heap.size + 3 := by rw [hW]; simp
  have hWg : CpB g r W (.slice Option.none 0 0) := by rw [CpB, hW, hg]; exact heap_alloc_at (by simp)
  have b0 : (w.alloc (.cells #[.int .i64 r.k, .int .i64 r.n, .string r.s, .slice A r.ps.length c] 28)).cell? ⟨w.heap.size, 3, none⟩ = some (.slice A r.ps.length c) := box_cell w _ _ 3 _ rfl
  have b3 : W.cell? ⟨gx, 3, none⟩ = some (.slice A r.ps.length c) := by rw [hW, hgx]; exact below_cell (below_alloc _ _) (below_cell (below_alloc _ _) b0)
  clear b0
  have hg2 : W.heap[w.heap.size + 1]? = some (.cells #[.int .i64 0, .int .i64 0, .string ⟨#[]⟩, .slice Option.none 0 0] 28 (0, 0)) := by rw [hW]; exact block_below (heap_alloc_at (by simp)) (below_alloc _ _)
  have hUW := hU.below hBW
  have HU0 := Lib.hid hU
  have HG2 := Lib.hid hg2
  have HW := Lib.hid hW
  have HGX := Lib.hid hgx
  have HG := Lib.hid hg
  have HBW := Lib.hid hBW
  have HB3 := Lib.hid b3
  have HWG := Lib.hid hWg
  have hsz : g + 1 = W.heap.size := by rw [hWs, hg]
  have hgg : gx < g := by rw [hgx, hg]; omega
  have HSZ := Lib.hid hsz
  clear hW hgx hg hBW hU b3 hWg hWs hsz hg2
  go_enter Try.func78, Try.ntmps78
  go_wp2_with fail
  rw [← HW.out, ← HG.out, ← HGX.out]
  go_loopw [4] (fun iv wr => ∃ k : Nat, k ≤ r.ps.length ∧ iv = .int .i64 k ∧ CpH (d - 1) g r W k wr) (fun iv _ => r.ps.length - (intOf iv).toNat)
  case atStart => exact ⟨0, Nat.zero_le _, rfl, Option.none, 0, [], W.heap.size, HWG.out, by simp, ExO.nil (Nat.le_refl _), Below.refl _ _⟩
  case round =>
    obtain ⟨k, hk, rfl, Ak, ck, l', N, hbx, hmap, hO, hB⟩ := hrel
    have hgw := (Array.getElem?_eq_some_iff.1 hbx).1
    have x3 : wr.cell? ⟨g, 3, none⟩ = some (.slice Ak k ck) := (cell_of_row wr g 3 _ _ _ hbx).trans rfl
    have b3 : wr.cell? ⟨gx, 3, none⟩ = some (.slice A r.ps.length c) := (hB.cell (p := ⟨gx, 3, none⟩) hgg).trans HB3.out
    have hws := hB.size
    have HBX := Lib.hid hbx
    have HMAP := Lib.hid hmap
    have HO := Lib.hid hO
    have HBG := Lib.hid hB
    clear hbx hmap hO
    by_cases hlt : k < r.ps.length
    · have hd : ∃ m, d = m + 1 := by
        cases d with
        | zero => have := exS.zero hUW; rw [this] at hlt; simp at hlt
        | succ m => exact ⟨m, rfl⟩
      obtain ⟨m, hm⟩ := hd
      subst hm
      have HQ1 := Lib.hid (HQ.out m rfl)
      have hBr : Below w.heap.size w wr := HBW.out.trans (hB.mono (by have := HGX.out; omega))
      have hUr : exW (m + 1) wr A r.ps := (exS.below HU0.out (Nat.le_refl _) hBr).wide (Nat.le_refl _) hBr.size
      obtain ⟨b, off, rfl, hc⟩ := hUr.cells (by omega)
      obtain ⟨A1, c1, hfd, hs1, p0, p1, p2, p3⟩ := hc k hlt
      have HCN : Hid (∀ q, cntR q (exAt r.ps k) ≤ 1048576) := Lib.hid (fun q => by rw [exAt_eq hlt]; exact Nat.le_trans (cnt_mem (List.getElem_mem hlt)) (HN.out (q + 1)))
      have HS1 := Lib.hid hs1
      have HFD := Lib.hid hfd
      have HML : Hid (l'.length = k) := Lib.hid (by rw [← List.length_map (f := Prod.fst), HMAP.out, List.length_take]; omega)
      clear hc hs1 hfd hB hBr hUr
      go_wp2_with fail
      refine wp_region_draws2K (some 9) (some 11) (fun wz => Below wr.heap.size wr wz) (fun wz => CpH m g r W (k + 1) wz) (fun i wz vz => match i with | 0 => vz = .pointer (some ⟨g, 3, Option.none⟩) | 1 => vz = .slice Ak k ck | 2 => vz = .pointer (some ⟨gx, 3, Option.none⟩) | 3 => vz = .slice (some ⟨b, off, none⟩) r.ps.length c | 4 => vz = .int .i64 k | 5 => vz = .pointer (some ⟨b, off + k * 4, Option.none⟩) | 6 => vz = .agg #[.int .i64 (exAt r.ps k).k, .int .i64 (exAt r.ps k).n, .string (exAt r.ps k).s, .slice A1 (exAt r.ps k).ps.length c1] | 7 => ChV m wr.heap.size (exAt r.ps k) wz vz | 8 => ChR m wr.heap.size (exAt r.ps k) wz vz | 9 => CpA m g r W (k + 1) wz vz | 10 => vz = .pointer (some ⟨g, 3, Option.none⟩) | _ => True) (fun _ _ => True) (fun i w w' => (i = 9 ∨ i = 11) ∨ Below w.heap.size w w') (fun j => match j with | 7 => some 9 | 8 => some 9 | 9 => some 11 | _ => Option.none) (by kernel_rfl) (by kernel_rfl) (by kernel_rfl) ?stab5 ?stabG5 ?stabH5 trivial (ext_drew (Below.refl _ _)) ?all5 ?fin5
      case stab5 =>
        intro i j wa wb v hR hk hne hd h3 h2 hT
        match j, hk, hne, hd, h3, h2, hT with
        | 0, hk, hne, hd, h3, h2, hT => exact (hT)
        | 1, hk, hne, hd, h3, h2, hT => exact (hT)
        | 2, hk, hne, hd, h3, h2, hT => exact (hT)
        | 3, hk, hne, hd, h3, h2, hT => exact (hT)
        | 4, hk, hne, hd, h3, h2, hT => exact (hT)
        | 5, hk, hne, hd, h3, h2, hT => exact (hT)
        | 6, hk, hne, hd, h3, h2, hT => exact (hT)
        | 7, hk, hne, hd, h3, h2, hT => exact (ChV.below hT (hR.resolve_left (fun e => e.elim (fun e => hk (by subst e; rfl)) (fun e => by subst e; exact Bool.noConfusion ((h3 9 rfl).symm.trans (show depB _ 11 9 = true from by kernel_rfl))))))
        | 8, hk, hne, hd, h3, h2, hT => exact (ChR.below hT (hR.resolve_left (fun e => e.elim (fun e => hk (by subst e; rfl)) (fun e => by subst e; exact Bool.noConfusion ((h3 9 rfl).symm.trans (show depB _ 11 9 = true from by kernel_rfl))))))
        | 9, hk, hne, hd, h3, h2, hT => exact (CpA.below hT (hR.resolve_left (fun e => e.elim (fun e => hne (by rw [e])) (fun e => hk (by subst e; rfl)))))
        | 10, hk, hne, hd, h3, h2, hT => exact (hT)
        | n + 11, _, _, _, _, _, _ => trivial
      case stabG5 => exact fun i wa wb hR hne hd hG => ext_trans hG (hR.resolve_left (fun e => e.elim (fun e => hne (by rw [e])) (fun e => by subst e; exact Bool.noConfusion ((hd 9 rfl).symm.trans (show depB _ 11 9 = true from by kernel_rfl)))))
      case stabH5 => exact fun i wa wb hR hne hd h => (by have hb := hR.resolve_left (fun e => e.elim (fun e => by subst e; exact Bool.noConfusion ((hd 11 rfl).symm.trans (show depB _ 11 9 = true from by kernel_rfl))) (fun e => hne (by rw [e]))); exact CpH.below h hb)
      case all5 =>
        refine RAllK.cons rfl ?_ (RAllK.cons rfl ?_ (RAllK.cons rfl ?_ (RAllK.cons rfl ?_ (RAllK.cons rfl ?_ (RAllK.cons rfl ?_ (RAllK.cons rfl ?_ (RAllK.cons rfl ?_ (RAllK.cons rfl ?_ (RAllK.cons rfl ?_ (RAllK.cons rfl ?_ (RAllK.cons rfl ?_ (RAllK.none_))))))))))))
        · intro a kq_ wa K Q _ _ hp hK0
          have hI : Below wr.heap.size wr wa := hp.pre 9 (fun c hc => by cases hc; kernel_rfl)
          have hK := fun v w' h1 h2 (_ : Below wr.heap.size wr w') => hK0 v w' h1 (.inr h2) trivial (fun e => by cases e)
          have e3 := tmp_of (show a.eval (.tmp 3) = .pointer (some ⟨g, 0, none⟩) from hp.keep 3 (by kernel_rfl))
          go_simp
          exact hK _ _ rfl (Below.refl _ _) hI
        · intro a kq_ wa K Q _ _ hp hK0
          have hI : Below wr.heap.size wr wa := hp.pre 9 (fun c hc => by cases hc; kernel_rfl)
          have hK := fun v w' h1 h2 (_ : Below wr.heap.size wr w') => hK0 v w' h1 (.inr h2) trivial (fun e => by cases e)
          have e19 := tmp_of (show a.eval (.tmp 19) = .pointer (some ⟨g, 3, Option.none⟩) from hp.dep 0 19 (by kernel_rfl))
          have x3_ := below_cell hI x3
          go_simp
          exact hK _ _ rfl (Below.refl _ _) hI
        · intro a kq_ wa K Q _ _ hp hK0
          have hI : Below wr.heap.size wr wa := hp.pre 9 (fun c hc => by cases hc; kernel_rfl)
          have hK := fun v w' h1 h2 (_ : Below wr.heap.size wr w') => hK0 v w' h1 (.inr h2) trivial (fun e => by cases e)
          have e1 := tmp_of (show a.eval (.tmp 1) = .pointer (some ⟨gx, 0, none⟩) from hp.keep 1 (by kernel_rfl))
          go_simp
          exact hK _ _ rfl (Below.refl _ _) hI
        · intro a kq_ wa K Q _ _ hp hK0
          have hI : Below wr.heap.size wr wa := hp.pre 9 (fun c hc => by cases hc; kernel_rfl)
          have hK := fun v w' h1 h2 (_ : Below wr.heap.size wr w') => hK0 v w' h1 (.inr h2) trivial (fun e => by cases e)
          have e21 := tmp_of (show a.eval (.tmp 21) = .pointer (some ⟨gx, 3, Option.none⟩) from hp.dep 2 21 (by kernel_rfl))
          have b3_ := below_cell hI b3
          go_simp
          exact hK _ _ rfl (Below.refl _ _) hI
        · intro a kq_ wa K Q _ _ hp hK0
          have hI : Below wr.heap.size wr wa := hp.pre 9 (fun c hc => by cases hc; kernel_rfl)
          have hK := fun v w' h1 h2 (_ : Below wr.heap.size wr w') => hK0 v w' h1 (.inr h2) trivial (fun e => by cases e)
          exact op_move _ (.inl rfl) (hK _ _ (hp.keep 4 (by kernel_rfl)) (Below.refl _ _) hI)
        · intro a kq_ wa K Q _ _ hp hK0
          have hI : Below wr.heap.size wr wa := hp.pre 9 (fun c hc => by cases hc; kernel_rfl)
          have hK := fun v w' h1 h2 (_ : Below wr.heap.size wr w') => hK0 v w' h1 (.inr h2) trivial (fun e => by cases e)
          have e22 := tmp_of (show a.eval (.tmp 22) = .slice (some ⟨b, off, none⟩) r.ps.length c from hp.dep 3 22 (by kernel_rfl))
          have e23 := tmp_of (show a.eval (.tmp 23) = .int .i64 k from hp.dep 4 23 (by kernel_rfl))
          go_simp
          exact hK _ _ rfl (Below.refl _ _) hI
        · intro a kq_ wa K Q _ _ hp hK0
          have hI : Below wr.heap.size wr wa := hp.pre 9 (fun c hc => by cases hc; kernel_rfl)
          have hK := fun v w' h1 h2 (_ : Below wr.heap.size wr w') => hK0 v w' h1 (.inr h2) trivial (fun e => by cases e)
          have e24 := tmp_of (show a.eval (.tmp 24) = .pointer (some ⟨b, off + k * 4, Option.none⟩) from hp.dep 5 24 (by kernel_rfl))
          have p0_ := below_cell hI p0
          have p1_ := below_cell hI p1
          have p2_ := below_cell hI p2
          have p3_ := below_cell hI p3
          go_simp
          exact hK _ _ rfl (Below.refl _ _) hI
        · intro a kq_ wa K Q _ _ hp hK0
          have hI : Below wr.heap.size wr wa := hp.pre 9 (fun c hc => by cases hc; kernel_rfl)
          have hK := fun v w' h1 h2 (_ : Below wr.heap.size wr w') => hK0 v w' h1 (.inr h2) trivial (fun e => by cases e)
          have e25 := tmp_of (show a.eval (.tmp 25) = .agg #[.int .i64 (exAt r.ps k).k, .int .i64 (exAt r.ps k).n, .string (exAt r.ps k).s, .slice A1 (exAt r.ps k).ps.length c1] from hp.dep 6 25 (by kernel_rfl))
          go_simp
          refine (HQ1.out _ _ _ _ (HFD.out.below hI) HS1.out HCN.out).mono ?_
          rintro e wb ⟨A8, c8, rfl, h8, hb⟩
          exact hK _ _ ⟨A8, c8, _, _, rfl, ⟨hI.size, hb.size, Nat.le_refl _⟩, h8⟩ hb (ext_trans hI hb)
        · intro a kq_ wa K Q _ _ hp hK0
          have hI : Below wr.heap.size wr wa := hp.pre 9 (fun c hc => by cases hc; kernel_rfl)
          have hK := fun v w' h1 h2 (_ : Below wr.heap.size wr w') => hK0 v w' h1 (.inr h2) trivial (fun e => by cases e)
          have t26 : ChV m wr.heap.size (exAt r.ps k) wa (a.eval (.tmp 26)) := hp.dep 7 26 (by kernel_rfl)
          obtain ⟨A8, c8, a8, b8, e26, h1, h2⟩ := t26
          replace e26 := tmp_of e26
          go_simp
          exact hK _ _ ⟨_, A8, c8, a8, b8, rfl, heap_alloc_new _ _, ⟨h1.1, h1.2.1, by simp; omega⟩, h2.below h1.2.2 (below_alloc _ _)⟩ (below_alloc _ _) (ext_alloc hI _)
        · intro a kq_ wa K Q _ _ hp hK0
          have hI : Below wr.heap.size wr wa := hp.pre 9 (fun c hc => by cases hc; kernel_rfl)
          have hA := fun v w' h => hK0 v w' h (.inl (.inl rfl)) trivial (fun e => by cases e)
          have e20 := tmp_of (show a.eval (.tmp 20) = .slice Ak k ck from hp.dep 1 20 (by kernel_rfl))
          have t27 : ChR m wr.heap.size (exAt r.ps k) wa (a.eval (.tmp 27)) := hp.dep 8 27 (by kernel_rfl)
          obtain ⟨g8, A8, c8, a8, b8, e27, hg8, h1, h2⟩ := t27
          have hO := HO.out.below hI
          have hge := HO.out.2.2.ge
          have hN := HO.out.2.1
          refine op_appendG (R := ExA m (.slice Ak k ck) b8) (l := l') (l2 := [(exAt r.ps k, a8, b8)]) (.tmp 20) (.tmp 27) 26 28 _ 4 56 rfl Try.underlying26 Try.infoExpr rfl (by decide) (fun a cs h => h.1.one) (hp.dep 1 20 (by kernel_rfl)) (hO.2.2.lower (Nat.le_refl _) (fun x cs q => ⟨q.1, q.2.1, by have := q.2.2.1; omega, q.2.2.2⟩)) e27 (rd_blockG hg8 rfl ⟨⟨_, rfl, h2, HS1.out⟩, h1.2.1, Nat.le_refl _, fun q hq => by have := (hge q hq).2; have := h1.1; exact .inl (by show q < a8; omega)⟩) (fun w' hg a cs h => h.row h1.2.2 hg) (by have := HML.out; simp; omega) (by have := HML.out; simp; omega) (by have := hI.size; omega) ?_
          intro v' wb ho' hb' hgr hv
          obtain ⟨A7, c7, rfl⟩ : ∃ A7 c7, v' = .slice A7 (k + 1) c7 := by obtain ⟨A7, c7, _, e7, _⟩ := ho'; exact ⟨A7, c7, by rw [e7]; simp [HML.out]⟩
          have hwa := hI.size
          exact hA _ _ ⟨A7, c7, .slice Ak k ck, l' ++ [(exAt r.ps k, a8, b8)], b8, rfl, (hgr.block g (by omega) (fun e => by have := (hge g e.symm).1; omega)).trans (block_below HBX.out hI), by rw [List.map_append, HMAP.out, List.take_succ_eq_append_getElem hlt, ← exAt_eq hlt]; rfl, ExO.add HO.out.1 (Nat.le_trans hN h1.1) h1.2.1 (by have := h1.1; omega) h1.2.2 hgr.size ho' hv, (HBG.out.trans (hI.mono (by omega))).trans (hb'.mono (by omega))⟩
        · intro a kq_ wa K Q _ _ hp hK0
          have hK := fun v w' h1 (h2 : Below wa.heap.size wa w') => hK0 v w' h1 (.inr h2) trivial (fun e => by cases e)
          have e3 := tmp_of (show a.eval (.tmp 3) = .pointer (some ⟨g, 0, none⟩) from hp.keep 3 (by kernel_rfl))
          go_simp
          exact hK _ _ rfl (Below.refl _ _)
        · intro a kq_ wa K Q _ _ hp hK0
          have hS := fun v w' h => hK0 v w' trivial (.inl (.inr rfl)) trivial (fun _ => h)
          have t28 : CpA m g r W (k + 1) wa (a.eval (.tmp 28)) := hp.dep 9 28 (by kernel_rfl)
          have e29 := tmp_of (show a.eval (.tmp 29) = .pointer (some ⟨g, 3, Option.none⟩) from hp.dep 10 29 (by kernel_rfl))
          obtain ⟨A9, c9, u9, l9, N9, e28, hb9, hm9, ho9, hB9⟩ := t28
          replace e28 := tmp_of e28
          have cw : wa.cell? ⟨g, 3, none⟩ = some u9 := (cell_of_row wa g 3 _ _ _ hb9).trans rfl
          have zw : wa.frozen? ⟨g, 3, none⟩ = false := frozen_of_row wa g 3 _ _ hb9
          go_simp
          exact hS (.tuple #[]) _ ⟨A9, c9, l9, N9, setCells_atG [.slice A9 (k + 1) c9] 3 hb9 (by simp), hm9, ExO.grown ho9 (setCells_grown g [.slice A9 (k + 1) c9] wa 3) (fun q e => by cases e; omega), setCells_below (Nat.le_refl _) [.slice A9 (k + 1) c9] 3 hB9⟩
      case fin5 =>
        intro f w9 hT _ hH
        have hH := hH 11 rfl (by decide)
        have hr6 : (f 10) = .pointer (some ⟨g, 3, Option.none⟩) := hT 10 (by decide) rfl rfl
        clear hT
        clear hr6
        simp only [putAll]
        go_simp
        go_wp2
        go_roundw
        case rel => exact ⟨k + 1, by omega, by go_num, hH⟩
        case measure => simp [intOf]; omega
    · obtain rfl : k = r.ps.length := by omega
      have x0 : wr.cell? ⟨g, 0, none⟩ = some (.int .i64 r.k) := (cell_of_row wr g 0 _ _ _ HBX.out).trans rfl
      have x1 : wr.cell? ⟨g, 1, none⟩ = some (.int .i64 r.n) := (cell_of_row wr g 1 _ _ _ HBX.out).trans rfl
      have x2 : wr.cell? ⟨g, 2, none⟩ = some (.string r.s) := (cell_of_row wr g 2 _ _ _ HBX.out).trans rfl
      have hr2 : wr.heap[gx + 1]? = some (.cells #[.int .i64 0, .int .i64 0, .string ⟨#[]⟩, .slice Option.none 0 0] 28 (0, 0)) := by rw [HGX.out]; exact (hB.block _ (by have := HG.out; omega)).trans HG2.out
      have y0 : wr.cell? ⟨gx + 1, 0, none⟩ = some _ := (cell_of_row wr (gx + 1) 0 _ _ _ hr2).trans rfl
      have y1 : wr.cell? ⟨gx + 1, 1, none⟩ = some _ := (cell_of_row wr (gx + 1) 1 _ _ _ hr2).trans rfl
      have y2 : wr.cell? ⟨gx + 1, 2, none⟩ = some _ := (cell_of_row wr (gx + 1) 2 _ _ _ hr2).trans rfl
      have y3 : wr.cell? ⟨gx + 1, 3, none⟩ = some _ := (cell_of_row wr (gx + 1) 3 _ _ _ hr2).trans rfl
      have z0 := frozen_of_row wr (gx + 1) 0 _ _ hr2
      have z1 := frozen_of_row wr (gx + 1) 1 _ _ hr2
      have z2 := frozen_of_row wr (gx + 1) 2 _ _ hr2
      have z3 := frozen_of_row wr (gx + 1) 3 _ _ hr2
      clear hr2 hUW
      have HU1 := HU0.out
      have hm := HMAP.out
      rw [List.take_length] at hm
      have hgr := setCells_grown (gx + 1) [.int .i64 r.k, .int .i64 r.n, .string r.s, .slice Ak r.ps.length ck] wr 0
      have HT : Hid (exT d w.heap.size (setCells wr (gx + 1) 0 [.int .i64 r.k, .int .i64 r.n, .string r.s, .slice Ak r.ps.length ck]).heap.size (setCells wr (gx + 1) 0 [.int .i64 r.k, .int .i64 r.n, .string r.s, .slice Ak r.ps.length ck]) (.slice Ak r.ps.length ck) r.ps) := Lib.hid (by
        cases d with
        | zero =>
          have h0 := exS.zero HU1
          exact ⟨h0, Ak, ck, by rw [h0]; rfl⟩
        | succ m =>
          have h1 := (HO.out.grown hgr (fun q e => by cases e; omega)).t
          rw [hm] at h1
          exact h1.wide (by have := HGX.out; omega) (Nat.le_refl _))
      have HBF : Hid (Below w.heap.size w (setCells wr (gx + 1) 0 [.int .i64 r.k, .int .i64 r.n, .string r.s, .slice Ak r.ps.length ck])) := Lib.hid (setCells_below (by have := HGX.out; omega) _ 0 (HBW.out.trans (HBG.out.mono (by have := HGX.out; omega))))
      clear hgr hm HU1
      go_wp2
      refine bodyPost_ret (v := .agg #[.int .i64 r.k, .int .i64 r.n, .string r.s, .slice Ak r.ps.length ck]) (by simp [results, go_sem, y0, y1, y2, y3]) rfl ⟨_, _, rfl, HT.out, HBF.out⟩
theorem cpQ_all : ∀ d, CpQ d
  | 0 => cpQ_of (fun m h => by cases h)
  | d + 1 => cpQ_of (fun m h => by cases h; exact cpQ_all d)
end Go.Proofs.Ytodjokdaofefdaa
/- A region that draws its order and whose one store is known to be behind what it needs: what holds ahead of the store, what holds behind it. -/
namespace Go.Proofs.Ytodjokdaofefdaa
set_option linter.unusedSimpArgs false
set_option linter.unusedVariables false
open Go.RowKit

structure RGoodH (ops : Array Oper) (a0 : Act) (T : Nat → World → Value → Prop) (Inv : Nat → World → Prop) (kill : Nat → Option Nat) (gc : Option Nat) (G H : World → Prop) (k : Nat) (listed : Array Bool) (a : Act) (w : World) : Prop where
  size : a.tmps.size = a0.tmps.size
  defers : a.defers = a0.defers
  inv : Inv k w
  lsize : listed.size = ops.size
  closed : ∀ i j, listed.getD i false = true → depB ops i j = true → listed.getD j false = true
  done : ∀ i d, dstOf ops i = some d → listed.getD i false = true → (∀ c, kill i = some c → listed.getD c false = false) → T i w (a.eval (.tmp d))
  todo : ∀ s, (∀ i, dstOf ops i = some s → listed.getD i false = false) → a.eval (.tmp s) = a0.eval (.tmp s)
  pre : (∀ c, gc = some c → listed.getD c false = false) → G w
  post : ∀ c, gc = some c → listed.getD c false = true → H w

def ROneH (P : Program) (ops : Array Oper) (a0 : Act) (T : Nat → World → Value → Prop) (Inv : Nat → World → Prop) (Rel : Nat → World → World → Prop) (gc : Option Nat) (G H : World → Prop) (i : Nat) (o : Oper) : Prop :=
  ∀ (a : Act) (k : Nat) (w : World) (K : Act → World → Prop) (Q : Exit → Act → World → Prop), k < ops.size → Inv k w → RPre ops a0 T gc G i a w →
    (∀ v w', T i w' v → Rel i w w' → Inv (k + 1) w' → (gc = some i → H w') → K (a.put o.dst v) w') → if Region.wanted o (yielded ops a.tmps) = true then o.wp P a w K Q else K (a.put o.dst undef) w

section
variable {P : Program} {ops : Array Oper} {n : Nat} {a0 : Act} {T : Nat → World → Value → Prop} {Inv : Nat → World → Prop} {Rel : Nat → World → World → Prop} {kill : Nat → Option Nat} {gc : Option Nat} {G H : World → Prop}
theorem region_any_stepH (hok : okRegion ops a0.tmps.size = true) (hkill : okKill ops kill = true) (hstab : ∀ i j w w' v, Rel i w w' → kill j ≠ some i → j ≠ i → depB ops j i = false → (∀ c, kill j = some c → depB ops i c = false) → (∀ m, depB ops j m = true → depB ops m i = false) → T j w v → T j w' v)
    (hstabG : ∀ i w w', Rel i w w' → gc ≠ some i → G w → G w') (hstabH : ∀ i w w', Rel i w w' → gc ≠ some i → (∀ c, gc = some c → depB ops c i = false) → H w → H w') (hone : ∀ i o, ops[i]? = some o → ROneH P ops a0 T Inv Rel gc G H i o) {Q : Exit → Act → World → Prop}
    (hQ : ∀ listed a w, (∀ i, i < ops.size → listed.getD i true = true) → RGoodH ops a0 T Inv kill gc G H ops.size listed a w → Q .normal a w) :
    ∀ (fuel k : Nat) (listed : Array Bool) (a : Act) (w : World), k + fuel = ops.size → unl ops.size (fun i => !listed.getD i true) = fuel → RGoodH ops a0 T Inv kill gc G H k listed a w → wpAny P .any ops Q fuel listed a w := by
  intro fuel
  induction fuel with
  | zero =>
    intro k listed a w hk hu hg
    have hall := unl_zero hu
    have hr : Region.ready .any ops listed = [] := by
      apply List.eq_nil_iff_forall_not_mem.2
      intro i hi
      obtain ⟨h1, h2, _⟩ := mem_ready_iff.1 hi
      have := hall i h1
      simp [h2] at this
    obtain rfl : k = ops.size := by omega
    exact ⟨hr, hQ listed a w (fun i hi => by simpa using hall i hi) hg⟩
  | succ fuel ih =>
    intro k listed a w hk hu hg
    refine ⟨fun hr => ?_, fun i hi => ?_⟩
    · exfalso
      have hex : ∃ i, i < ops.size ∧ listed.getD i true = false := by
        by_cases h : ∃ i, i < ops.size ∧ listed.getD i true = false
        · exact h
        · exfalso
          have : unl ops.size (fun i => !listed.getD i true) = 0 := by
            unfold unl
            rw [List.filter_eq_nil_iff.2]
            · rfl
            · intro j hj
              simp only [Bool.not_eq_true', Bool.not_eq_false]
              cases hh : listed.getD j true with
              | true => rfl
              | false => exact absurd ⟨j, List.mem_range.1 hj, hh⟩ h
          omega
      have hmin : ∀ m, (∃ i, i < m ∧ i < ops.size ∧ listed.getD i true = false) → ∃ i, i < ops.size ∧ listed.getD i true = false ∧ ∀ j, j < i → listed.getD j true = true := by
        intro m
        induction m with
        | zero => rintro ⟨i, h, _⟩; omega
        | succ m ihm =>
          rintro ⟨i, h1, h2, h3⟩
          by_cases h : ∃ i, i < m ∧ i < ops.size ∧ listed.getD i true = false
          · exact ihm h
          · refine ⟨i, h2, h3, fun j hj => ?_⟩
            cases hh : listed.getD j true with
            | true => rfl
            | false => exact absurd ⟨j, by omega, by omega, hh⟩ h
      obtain ⟨i, h1, h2⟩ := hex
      obtain ⟨i, h1, h2, h3⟩ := hmin (i + 1) ⟨i, by omega, h1, h2⟩
      have := ready_first hok hg.lsize h1 h2 h3
      rw [hr] at this
      cases this
    · obtain ⟨h1, h2, h3⟩ := mem_ready_iff.1 hi
      have hli : listed.getD i false = false := by
        rw [Array.getD_eq_getD_getElem?, Array.getElem?_eq_getElem (by rw [hg.lsize]; exact h1)] at h2 ⊢
        exact h2
      have hdeps : ∀ j, depB ops i j = true → listed.getD j false = true := by
        intro j hd
        simp only [depB, Array.getElem?_eq_getElem h1, Option.map_some, Option.getD_some] at hd
        obtain ⟨e, he, hd⟩ := Array.any_eq_true.1 hd
        rw [Array.getElem?_eq_getElem h1] at h3
        simp only [Option.map_some, Option.getD_some] at h3
        have := Array.all_eq_true.1 h3 e he
        simp only [Bool.and_eq_true, beq_iff_eq] at hd
        rw [hd.1, hd.2] at this
        simpa using this
      have hpre : RPre ops a0 T gc G i a w := by
        refine ⟨fun j s hd => ?_, fun s hs => ?_, fun hpr => hg.pre fun c hc => ?_⟩
        · simp only [depSlot, Bool.and_eq_true, beq_iff_eq] at hd
          have hd1 := readB_dep hd.1
          refine hg.done j s hd.2 (hdeps j hd1) (fun c hc => ?_)
          have hji := okRegion_dep hok hd1
          have := List.all_eq_true.1 (List.all_eq_true.1 hkill i (List.mem_range.2 hji.2)) j (List.mem_range.2 (by omega))
          simp only [hd.1, hc, Bool.not_true, Bool.false_or, Bool.or_eq_true, beq_iff_eq] at this
          rcases this with rfl | hci
          · exact hli
          · cases hh : listed.getD c false with
            | false => rfl
            | true =>
              have := hg.closed c i hh hci
              rw [hli] at this
              cases this
        · refine hg.todo s (fun j hj => ?_)
          have hjs : j < ops.size := by
            unfold dstOf at hj
            cases ho : ops[j]? with
            | none => simp [ho] at hj
            | some o => exact (Array.getElem?_eq_some_iff.1 ho).1
          have := List.all_eq_true.1 hs j (List.mem_range.2 hjs)
          simp only [hj, bne_self_eq_false, Bool.false_or] at this
          cases hh : listed.getD j false with
          | false => rfl
          | true =>
            have := hg.closed j i hh this
            rw [hli] at this
            cases this
        · have := hpr c hc
          simp only [Bool.or_eq_true, beq_iff_eq] at this
          rcases this with rfl | hci
          · exact hli
          · cases hh : listed.getD c false with
            | false => rfl
            | true =>
              have := hg.closed c i hh hci
              rw [hli] at this
              cases this
      have hgood : ∀ v w', T i w' v → Rel i w w' → Inv (k + 1) w' → (gc = some i → H w') → RGoodH ops a0 T Inv kill gc G H (k + 1) (listed.setIfInBounds i true) (a.put ((ops[i]?).bind (·.dst)) v) w' := by
        intro v w' hT hR hI hH
        have hset : ∀ j, (listed.setIfInBounds i true).getD j false = if j = i then true else listed.getD j false := by
          intro j
          simp only [Array.getD_eq_getD_getElem?, Array.getElem?_setIfInBounds]
          by_cases hji : j = i
          · subst hji; simp [hg.lsize, h1]
          · rw [if_neg (fun e => hji e.symm), if_neg hji]
        refine ⟨?_, ?_, hI, by simpa using hg.lsize, ?_, ?_, ?_, fun hpr => hstabG i w w' hR (fun e => ?_) (hg.pre fun c hc => ?_), fun c hc hl => ?_⟩
        · cases h : (ops[i]?).bind (·.dst) <;> simpa [Act.put] using hg.size
        · cases h : (ops[i]?).bind (·.dst) <;> simpa [Act.put] using hg.defers
        · intro x y hx hd
          rw [hset] at hx ⊢
          by_cases hyi : y = i
          · rw [if_pos hyi]
          · rw [if_neg hyi]
            by_cases hxi : x = i
            · subst hxi; exact hdeps y hd
            · rw [if_neg hxi] at hx; exact hg.closed x y hx hd
        · intro x d hd hx hkx
          rw [hset] at hx
          by_cases hxi : x = i
          · subst hxi
            have hd' : (ops[x]?).bind (·.dst) = some d := hd
            rw [hd', eval_put, if_pos ⟨rfl, by rw [hg.size]; exact (okRegion_dst hok hd).1⟩]
            exact hT
          · rw [if_neg hxi] at hx
            have hv : (a.put ((ops[i]?).bind (·.dst)) v).eval (.tmp d) = a.eval (.tmp d) := by
              cases h : (ops[i]?).bind (·.dst) with
              | none => rfl
              | some d' =>
                rw [eval_put, if_neg]
                rintro ⟨rfl, _⟩
                exact hxi (okRegion_uniq hok hd h)
            rw [hv]
            refine hstab _ _ _ _ _ hR (fun e => ?_) hxi ?_ (fun c hc => ?_) (fun m hm => ?_) (hg.done x d hd hx (fun c hc => ?_))
            · have := hkx i e
              rw [hset, if_pos rfl] at this
              cases this
            · cases hh : depB ops x i with
              | false => rfl
              | true =>
                have := hg.closed x i hx hh
                rw [hli] at this
                cases this
            · cases hh : depB ops i c with
              | false => rfl
              | true =>
                have hl1 := hdeps c hh
                have hl2 := hkx c hc
                rw [hset] at hl2
                by_cases hci : c = i
                · subst hci; exact Bool.noConfusion (hl1.symm.trans hli)
                · rw [if_neg hci, hl1] at hl2; cases hl2
            · cases hh : depB ops m i with
              | false => rfl
              | true =>
                have := hg.closed m i (hg.closed x m hx hm) hh
                rw [hli] at this
                cases this
            · have := hkx c hc
              rw [hset] at this
              by_cases hci : c = i
              · subst hci; exact hli
              · rwa [if_neg hci] at this
        · intro s hs
          have hsi : dstOf ops i ≠ some s := fun e => by
            have := hs i e
            rw [hset, if_pos rfl] at this
            cases this
          have hv : (a.put ((ops[i]?).bind (·.dst)) v).eval (.tmp s) = a.eval (.tmp s) := by
            cases h : (ops[i]?).bind (·.dst) with
            | none => rfl
            | some d' =>
              rw [eval_put, if_neg]
              rintro ⟨rfl, _⟩
              exact hsi h
          rw [hv]
          refine hg.todo s (fun j hj => ?_)
          have := hs j hj
          rw [hset] at this
          by_cases hji : j = i
          · subst hji; exact hli
          · rwa [if_neg hji] at this
        · have := hpr i e
          rw [hset, if_pos rfl] at this
          cases this
        · have := hpr c hc
          rw [hset] at this
          by_cases hji : c = i
          · subst hji; exact hli
          · rwa [if_neg hji] at this
        · rw [hset] at hl
          by_cases hci : c = i
          · subst hci; exact hH hc
          · rw [if_neg hci] at hl
            refine hstabH i w w' hR (fun e => hci (by rw [hc] at e; cases e; rfl)) (fun c' hc' => ?_) (hg.post c hc hl)
            rw [hc] at hc'
            cases hc'
            cases hh : depB ops c i with
            | false => rfl
            | true =>
              have := hg.closed c i hl hh
              rw [hli] at this
              cases this
      have hunl : unl ops.size (fun j => !(listed.setIfInBounds i true).getD j true) = fuel := by
        have := unl_set (p := fun j => !listed.getD j true) (p' := fun j => !(listed.setIfInBounds i true).getD j true) (i := i) (by simp [h2]) (by
          simp [Array.getD_eq_getD_getElem?, Array.getElem?_setIfInBounds, hg.lsize, h1]) (fun j hj => by
          simp only [Array.getD_eq_getD_getElem?, Array.getElem?_setIfInBounds]
          rw [if_neg (fun e => hj e.symm)]) ops.size
        rw [if_pos h1] at this
        omega
      have h := hone i ops[i] (Array.getElem?_eq_getElem h1) a k w (wpAny P .any ops Q fuel (listed.setIfInBounds i true)) Q (by omega) hg.inv hpre (fun v w' hT hR hI hH => by
        have := hgood v w' hT hR hI hH
        rw [Array.getElem?_eq_getElem h1] at this
        exact ih (k + 1) _ _ _ (by omega) hunl this)
      unfold wpOp
      rw [Array.getElem?_eq_getElem h1]
      simp only
      split
      · rename_i hw; rw [if_pos hw] at h; exact .inl h
      · rename_i hw; rw [if_neg hw] at h; exact h

/-- The obligations, an operation at a time. -/
def RAllH (P : Program) (ops : Array Oper) (a0 : Act) (T : Nat → World → Value → Prop) (Inv : Nat → World → Prop) (Rel : Nat → World → World → Prop) (gc : Option Nat) (G H : World → Prop) : List Oper → Nat → Prop
  | [], _ => True
  | o :: l, i => ROneH P ops a0 T Inv Rel gc G H i o ∧ RAllH P ops a0 T Inv Rel gc G H l (i + 1)
theorem RAllH.at {l : List Oper} {i : Nat} (h : RAllH P ops a0 T Inv Rel gc G H l i) : ∀ (j : Nat) (o : Oper), l[j]? = some o → ROneH P ops a0 T Inv Rel gc G H (i + j) o := by
  induction l generalizing i with
  | nil => intro j o hj; simp at hj
  | cons o' l ih =>
    intro j o hj
    cases j with
    | zero => obtain rfl : o' = o := by simpa using hj
              exact h.1
    | succ j =>
      have := ih h.2 j o (by simpa using hj)
      rwa [show i + 1 + j = i + (j + 1) by omega] at this

theorem wp_region_draws2H (gc : Option Nat) (G H : World → Prop) (T : Nat → World → Value → Prop) (Inv : Nat → World → Prop) (Rel : Nat → World → World → Prop) (kill : Nat → Option Nat) {id : Nat} {Q : Exit → Act → World → Prop} {w : World} {l : List Oper} (hm : P.follows .mixedOrders = true)
    (hok : okRegion l.toArray a0.tmps.size = true) (hkill : okKill l.toArray kill = true) (hstab : ∀ i j w w' v, Rel i w w' → kill j ≠ some i → j ≠ i → depB l.toArray j i = false → (∀ c, kill j = some c → depB l.toArray i c = false) → (∀ m, depB l.toArray j m = true → depB l.toArray m i = false) → T j w v → T j w' v) (hstabG : ∀ i w w', Rel i w w' → gc ≠ some i → G w → G w') (hstabH : ∀ i w w', Rel i w w' → gc ≠ some i → (∀ c, gc = some c → depB l.toArray c i = false) → H w → H w') (hI : Inv 0 w.drew) (hG : G w.drew) (hone : RAllH P l.toArray a0 T Inv Rel gc G H l 0)
    (hQ : ∀ (f : Nat → Value) (w' : World), (∀ i, i < l.length → (dstOf l.toArray i).isSome = true → (kill i).isNone = true → T i w' (f i)) → Inv l.length w' → (∀ c, gc = some c → c < l.length → H w') → Q .normal (putAll f l 0 a0) w') : (Code.region id l.toArray true).wp P Q a0 w := by
  refine wp_region_any hm (region_any_stepH (a0 := a0) (T := T) (Inv := Inv) (Rel := Rel) (kill := kill) (gc := gc) (G := G) (H := H) hok hkill hstab hstabG hstabH (fun i o ho => by
    have := RAllH.at hone i o (by simpa using ho)
    simpa using this) ?_ _ 0 _ a0 _ (by simp) ?_ ?_)
  · intro listed a w' hall hg
    have hlist : ∀ i, i < l.length → listed.getD i false = true := fun i hi => by
      have := hall i (by simpa using hi)
      rw [Array.getD_eq_getD_getElem?, Array.getElem?_eq_getElem (by rw [hg.lsize]; simpa using hi)] at this ⊢
      exact this
    have hlt : ∀ i d, dstOf l.toArray i = some d → i < l.length := fun i d hd => by
      unfold dstOf at hd
      cases ho : l.toArray[i]? with
      | none => simp [ho] at hd
      | some o => simpa using (Array.getElem?_eq_some_iff.1 ho).1
    have he : a = putAll (fun i => a.eval (.tmp ((dstOf l.toArray i).getD 0))) l 0 a0 := by
      have hp := putAll_defers (fun i => a.eval (.tmp ((dstOf l.toArray i).getD 0))) l 0 a0
      refine act_ext (hg.size.trans hp.2.symm) (hg.defers.trans hp.1.symm) (fun s hs => ?_)
      by_cases h : ∃ i, dstOf l.toArray i = some s
      · obtain ⟨i, hi⟩ := h
        have hi' := hi
        unfold dstOf at hi'
        cases ho : l.toArray[i]? with
        | none => simp [ho] at hi'
        | some o =>
          simp only [ho, Option.bind_some] at hi'
          rw [putAll_some _ l 0 a0 s i o (by simpa using ho) hi' (fun j o' ho' hd' => okRegion_uniq hok (d := s) (by simp [dstOf, ho', hd']) hi) (by rw [← hg.size]; exact hs)]
          simp [hi]
      · rw [putAll_none _ l 0 a0 s (fun j o ho hd => h ⟨j, by simp [dstOf, ho, hd]⟩)]
        exact hg.todo s (fun i hi => absurd ⟨i, hi⟩ h)
    rw [he]
    refine hQ _ _ (fun i hi hs hk => ?_) (by simpa using hg.inv) (fun c hc hl => hg.post c hc (hlist c hl))
    obtain ⟨d, hd⟩ := Option.isSome_iff_exists.1 hs
    simp only [hd, Option.getD_some]
    exact hg.done i d hd (hlist i hi) (fun c hc => by rw [hc] at hk; cases hk)
  · have : ∀ N, unl N (fun i => !(Array.replicate N false).getD i true) = N := by
      intro N
      unfold unl
      rw [List.filter_eq_self.2]
      · simp
      · intro i hi
        simp [Array.getD_eq_getD_getElem?, List.mem_range.1 hi]
    exact this _
  · refine ⟨rfl, rfl, hI, by simp, ?_, ?_, fun _ _ => rfl, fun _ => hG, fun c _ h => ?_⟩
    · intro i j h
      simp [Array.getD_eq_getD_getElem?, Array.getElem?_replicate] at h
      split at h <;> simp at h
    · intro i d _ h _
      simp [Array.getD_eq_getD_getElem?, Array.getElem?_replicate] at h
      split at h <;> simp at h
    · simp [Array.getD_eq_getD_getElem?, Array.getElem?_replicate] at h
      split at h <;> simp at h

end
section
variable {P : Program} {ops : Array Oper} {a0 : Act} {T : Nat → World → Value → Prop} {Inv : Nat → World → Prop} {Rel : Nat → World → World → Prop} {gc : Option Nat} {G H : World → Prop}
theorem RAllH.none_ {i : Nat} : RAllH P ops a0 T Inv Rel gc G H [] i := trivial
theorem RAllH.cons {o : Oper} {l : List Oper} {i : Nat} (hg : o.guard = Option.none) (h : ∀ (a : Act) (k : Nat) (w : World) (K : Act → World → Prop) (Q : Exit → Act → World → Prop), k < ops.size → Inv k w → RPre ops a0 T gc G i a w →
    (∀ v w', T i w' v → Rel i w w' → Inv (k + 1) w' → (gc = some i → H w') → K (a.put o.dst v) w') → o.wp P a w K Q) (hl : RAllH P ops a0 T Inv Rel gc G H l (i + 1)) : RAllH P ops a0 T Inv Rel gc G H (o :: l) i :=
  ⟨fun a k w K Q h1 h2 h3 h4 => by
    have : Region.wanted o (yielded ops a.tmps) = true := by simp [Region.wanted, hg]
    rw [if_pos this]
    exact h a k w K Q h1 h2 h3 h4, hl⟩
end
end Go.Proofs.Ytodjokdaofefdaa

/- A region that draws its order with an append and a store behind it: what holds ahead of the append, what holds behind the store. -/
import Derived.Test.YtodjokdaofefdaaQ1
import Derived.Test.YtodjokdaofefdaaQ2
import Derived.Test.YtodjokdaofefdaaQ3
namespace Go.Proofs.Ytodjokdaofefdaa
set_option linter.unusedSimpArgs false
set_option linter.unusedVariables false
open Go.RowKit

/-- What c waits for, straight or through others. -/
def reachB (ops : Array Oper) : Nat → Nat → Nat → Bool
  | 0, c, i => i == c
  | n + 1, c, i => i == c || (List.range ops.size).any fun m => depB ops c m && reachB ops n m i
structure RPreK (ops : Array Oper) (a0 : Act) (T : Nat → World → Value → Prop) (gc : Option Nat) (G : World → Prop) (i : Nat) (a : Act) (w : World) : Prop where
  dep : ∀ j s, depSlot ops i s j = true → T j w (a.eval (.tmp s))
  keep : ∀ s, keepSlot ops i s = true → a.eval (.tmp s) = a0.eval (.tmp s)
  pre : ∀ n, (∀ c, gc = some c → reachB ops n c i = true) → G w
theorem reach_listed {ops : Array Oper} {listed : Array Bool} (h : ∀ i j, listed.getD i false = true → depB ops i j = true → listed.getD j false = true) : ∀ n c i, listed.getD c false = true → reachB ops n c i = true → listed.getD i false = true
  | 0, c, i, hc, hr => by
    have e : i = c := by simpa [reachB] using hr
    rw [e]; exact hc
  | n + 1, c, i, hc, hr => by
    rw [reachB, Bool.or_eq_true] at hr
    rcases hr with hr | hr
    · have e : i = c := by simpa using hr
      rw [e]; exact hc
    · obtain ⟨m, _, hm⟩ := List.any_eq_true.1 hr
      obtain ⟨h1, h2⟩ := Bool.and_eq_true_iff.1 hm
      exact reach_listed h n m i (h c m hc h1) h2
structure RGoodK (ops : Array Oper) (a0 : Act) (T : Nat → World → Value → Prop) (Inv : Nat → World → Prop) (kill : Nat → Option Nat) (gc gd : Option Nat) (G H : World → Prop) (k : Nat) (listed : Array Bool) (a : Act) (w : World) : Prop where
  size : a.tmps.size = a0.tmps.size
  defers : a.defers = a0.defers
  inv : Inv k w
  lsize : listed.size = ops.size
  closed : ∀ i j, listed.getD i false = true → depB ops i j = true → listed.getD j false = true
  done : ∀ i d, dstOf ops i = some d → listed.getD i false = true → (∀ c, kill i = some c → listed.getD c false = false) → T i w (a.eval (.tmp d))
  todo : ∀ s, (∀ i, dstOf ops i = some s → listed.getD i false = false) → a.eval (.tmp s) = a0.eval (.tmp s)
  pre : (∀ c, gc = some c → listed.getD c false = false) → G w
  post : ∀ c, gd = some c → listed.getD c false = true → H w

def ROneK (P : Program) (ops : Array Oper) (a0 : Act) (T : Nat → World → Value → Prop) (Inv : Nat → World → Prop) (Rel : Nat → World → World → Prop) (gc gd : Option Nat) (G H : World → Prop) (i : Nat) (o : Oper) : Prop :=
  ∀ (a : Act) (k : Nat) (w : World) (K : Act → World → Prop) (Q : Exit → Act → World → Prop), k < ops.size → Inv k w → RPreK ops a0 T gc G i a w →
    (∀ v w', T i w' v → Rel i w w' → Inv (k + 1) w' → (gd = some i → H w') → K (a.put o.dst v) w') → if Region.wanted o (yielded ops a.tmps) = true then o.wp P a w K Q else K (a.put o.dst undef) w

section
variable {P : Program} {ops : Array Oper} {n : Nat} {a0 : Act} {T : Nat → World → Value → Prop} {Inv : Nat → World → Prop} {Rel : Nat → World → World → Prop} {kill : Nat → Option Nat} {gc gd : Option Nat} {G H : World → Prop}
theorem region_any_stepK (hok : okRegion ops a0.tmps.size = true) (hkill : okKill ops kill = true) (hstab : ∀ i j w w' v, Rel i w w' → kill j ≠ some i → j ≠ i → depB ops j i = false → (∀ c, kill j = some c → depB ops i c = false) → (∀ m, depB ops j m = true → depB ops m i = false) → T j w v → T j w' v)
    (hstabG : ∀ i w w', Rel i w w' → gc ≠ some i → (∀ c, gc = some c → depB ops i c = false) → G w → G w') (hstabH : ∀ i w w', Rel i w w' → gd ≠ some i → (∀ c, gd = some c → depB ops c i = false) → H w → H w') (hone : ∀ i o, ops[i]? = some o → ROneK P ops a0 T Inv Rel gc gd G H i o) {Q : Exit → Act → World → Prop}
    (hQ : ∀ listed a w, (∀ i, i < ops.size → listed.getD i true = true) → RGoodK ops a0 T Inv kill gc gd G H ops.size listed a w → Q .normal a w) :
    ∀ (fuel k : Nat) (listed : Array Bool) (a : Act) (w : World), k + fuel = ops.size → unl ops.size (fun i => !listed.getD i true) = fuel → RGoodK ops a0 T Inv kill gc gd G H k listed a w → wpAny P .any ops Q fuel listed a w := by
  intro fuel
  induction fuel with
  | zero =>
    intro k listed a w hk hu hg
    have hall := unl_zero hu
    have hr : Region.ready .any ops listed = [] := by
      apply List.eq_nil_iff_forall_not_mem.2
      intro i hi
      obtain ⟨h1, h2, _⟩ := mem_ready_iff.1 hi
      have := hall i h1
      simp [h2] at this
    obtain rfl : k = ops.size := by omega
    exact ⟨hr, hQ listed a w (fun i hi => by simpa using hall i hi) hg⟩
  | succ fuel ih =>
    intro k listed a w hk hu hg
    refine ⟨fun hr => ?_, fun i hi => ?_⟩
    · exfalso
      have hex : ∃ i, i < ops.size ∧ listed.getD i true = false := by
        by_cases h : ∃ i, i < ops.size ∧ listed.getD i true = false
        · exact h
        · exfalso
          have : unl ops.size (fun i => !listed.getD i true) = 0 := by
            unfold unl
            rw [List.filter_eq_nil_iff.2]
            · rfl
            · intro j hj
              simp only [Bool.not_eq_true', Bool.not_eq_false]
              cases hh : listed.getD j true with
              | true => rfl
              | false => exact absurd ⟨j, List.mem_range.1 hj, hh⟩ h
          omega
      have hmin : ∀ m, (∃ i, i < m ∧ i < ops.size ∧ listed.getD i true = false) → ∃ i, i < ops.size ∧ listed.getD i true = false ∧ ∀ j, j < i → listed.getD j true = true := by
        intro m
        induction m with
        | zero => rintro ⟨i, h, _⟩; omega
        | succ m ihm =>
          rintro ⟨i, h1, h2, h3⟩
          by_cases h : ∃ i, i < m ∧ i < ops.size ∧ listed.getD i true = false
          · exact ihm h
          · refine ⟨i, h2, h3, fun j hj => ?_⟩
            cases hh : listed.getD j true with
            | true => rfl
            | false => exact absurd ⟨j, by omega, by omega, hh⟩ h
      obtain ⟨i, h1, h2⟩ := hex
      obtain ⟨i, h1, h2, h3⟩ := hmin (i + 1) ⟨i, by omega, h1, h2⟩
      have := ready_first hok hg.lsize h1 h2 h3
      rw [hr] at this
      cases this
    · obtain ⟨h1, h2, h3⟩ := mem_ready_iff.1 hi
      have hli : listed.getD i false = false := by
        rw [Array.getD_eq_getD_getElem?, Array.getElem?_eq_getElem (by rw [hg.lsize]; exact h1)] at h2 ⊢
        exact h2
      have hdeps : ∀ j, depB ops i j = true → listed.getD j false = true := by
        intro j hd
        simp only [depB, Array.getElem?_eq_getElem h1, Option.map_some, Option.getD_some] at hd
        obtain ⟨e, he, hd⟩ := Array.any_eq_true.1 hd
        rw [Array.getElem?_eq_getElem h1] at h3
        simp only [Option.map_some, Option.getD_some] at h3
        have := Array.all_eq_true.1 h3 e he
        simp only [Bool.and_eq_true, beq_iff_eq] at hd
        rw [hd.1, hd.2] at this
        simpa using this
      have hpre : RPreK ops a0 T gc G i a w := by
        refine ⟨fun j s hd => ?_, fun s hs => ?_, fun n hpr => hg.pre fun c hc => ?_⟩
        · simp only [depSlot, Bool.and_eq_true, beq_iff_eq] at hd
          have hd1 := readB_dep hd.1
          refine hg.done j s hd.2 (hdeps j hd1) (fun c hc => ?_)
          have hji := okRegion_dep hok hd1
          have := List.all_eq_true.1 (List.all_eq_true.1 hkill i (List.mem_range.2 hji.2)) j (List.mem_range.2 (by omega))
          simp only [hd.1, hc, Bool.not_true, Bool.false_or, Bool.or_eq_true, beq_iff_eq] at this
          rcases this with rfl | hci
          · exact hli
          · cases hh : listed.getD c false with
            | false => rfl
            | true =>
              have := hg.closed c i hh hci
              rw [hli] at this
              cases this
        · refine hg.todo s (fun j hj => ?_)
          have hjs : j < ops.size := by
            unfold dstOf at hj
            cases ho : ops[j]? with
            | none => simp [ho] at hj
            | some o => exact (Array.getElem?_eq_some_iff.1 ho).1
          have := List.all_eq_true.1 hs j (List.mem_range.2 hjs)
          simp only [hj, bne_self_eq_false, Bool.false_or] at this
          cases hh : listed.getD j false with
          | false => rfl
          | true =>
            have := hg.closed j i hh this
            rw [hli] at this
            cases this
        · cases hh : listed.getD c false with
          | false => rfl
          | true =>
            have := reach_listed hg.closed n c i hh (hpr c hc)
            rw [hli] at this
            cases this
      have hgood : ∀ v w', T i w' v → Rel i w w' → Inv (k + 1) w' → (gd = some i → H w') → RGoodK ops a0 T Inv kill gc gd G H (k + 1) (listed.setIfInBounds i true) (a.put ((ops[i]?).bind (·.dst)) v) w' := by
        intro v w' hT hR hI hH
        have hset : ∀ j, (listed.setIfInBounds i true).getD j false = if j = i then true else listed.getD j false := by
          intro j
          simp only [Array.getD_eq_getD_getElem?, Array.getElem?_setIfInBounds]
          by_cases hji : j = i
          · subst hji; simp [hg.lsize, h1]
          · rw [if_neg (fun e => hji e.symm), if_neg hji]
        refine ⟨?_, ?_, hI, by simpa using hg.lsize, ?_, ?_, ?_, fun hpr => hstabG i w w' hR (fun e => ?_) (fun c hc => ?_) (hg.pre fun c hc => ?_), fun c hc hl => ?_⟩
        · cases h : (ops[i]?).bind (·.dst) <;> simpa [Act.put] using hg.size
        · cases h : (ops[i]?).bind (·.dst) <;> simpa [Act.put] using hg.defers
        · intro x y hx hd
          rw [hset] at hx ⊢
          by_cases hyi : y = i
          · rw [if_pos hyi]
          · rw [if_neg hyi]
            by_cases hxi : x = i
            · subst hxi; exact hdeps y hd
            · rw [if_neg hxi] at hx; exact hg.closed x y hx hd
        · intro x d hd hx hkx
          rw [hset] at hx
          by_cases hxi : x = i
          · subst hxi
            have hd' : (ops[x]?).bind (·.dst) = some d := hd
            rw [hd', eval_put, if_pos ⟨rfl, by rw [hg.size]; exact (okRegion_dst hok hd).1⟩]
            exact hT
          · rw [if_neg hxi] at hx
            have hv : (a.put ((ops[i]?).bind (·.dst)) v).eval (.tmp d) = a.eval (.tmp d) := by
              cases h : (ops[i]?).bind (·.dst) with
              | none => rfl
              | some d' =>
                rw [eval_put, if_neg]
                rintro ⟨rfl, _⟩
                exact hxi (okRegion_uniq hok hd h)
            rw [hv]
            refine hstab _ _ _ _ _ hR (fun e => ?_) hxi ?_ (fun c hc => ?_) (fun m hm => ?_) (hg.done x d hd hx (fun c hc => ?_))
            · have := hkx i e
              rw [hset, if_pos rfl] at this
              cases this
            · cases hh : depB ops x i with
              | false => rfl
              | true =>
                have := hg.closed x i hx hh
                rw [hli] at this
                cases this
            · cases hh : depB ops i c with
              | false => rfl
              | true =>
                have hl1 := hdeps c hh
                have hl2 := hkx c hc
                rw [hset] at hl2
                by_cases hci : c = i
                · subst hci; exact Bool.noConfusion (hl1.symm.trans hli)
                · rw [if_neg hci, hl1] at hl2; cases hl2
            · cases hh : depB ops m i with
              | false => rfl
              | true =>
                have := hg.closed m i (hg.closed x m hx hm) hh
                rw [hli] at this
                cases this
            · have := hkx c hc
              rw [hset] at this
              by_cases hci : c = i
              · subst hci; exact hli
              · rwa [if_neg hci] at this
        · intro s hs
          have hsi : dstOf ops i ≠ some s := fun e => by
            have := hs i e
            rw [hset, if_pos rfl] at this
            cases this
          have hv : (a.put ((ops[i]?).bind (·.dst)) v).eval (.tmp s) = a.eval (.tmp s) := by
            cases h : (ops[i]?).bind (·.dst) with
            | none => rfl
            | some d' =>
              rw [eval_put, if_neg]
              rintro ⟨rfl, _⟩
              exact hsi h
          rw [hv]
          refine hg.todo s (fun j hj => ?_)
          have := hs j hj
          rw [hset] at this
          by_cases hji : j = i
          · subst hji; exact hli
          · rwa [if_neg hji] at this
        · have := hpr i e
          rw [hset, if_pos rfl] at this
          cases this
        · cases hh : depB ops i c with
          | false => rfl
          | true =>
            have h1 := hdeps c hh
            have := hpr c hc
            rw [hset] at this
            by_cases hci : c = i
            · subst hci; rw [if_pos rfl] at this; cases this
            · rw [if_neg hci, h1] at this; cases this
        · have := hpr c hc
          rw [hset] at this
          by_cases hji : c = i
          · subst hji; exact hli
          · rwa [if_neg hji] at this
        · rw [hset] at hl
          by_cases hci : c = i
          · subst hci; exact hH hc
          · rw [if_neg hci] at hl
            refine hstabH i w w' hR (fun e => hci (by rw [hc] at e; cases e; rfl)) (fun c' hc' => ?_) (hg.post c hc hl)
            rw [hc] at hc'
            cases hc'
            cases hh : depB ops c i with
            | false => rfl
            | true =>
              have := hg.closed c i hl hh
              rw [hli] at this
              cases this
      have hunl : unl ops.size (fun j => !(listed.setIfInBounds i true).getD j true) = fuel := by
        have := unl_set (p := fun j => !listed.getD j true) (p' := fun j => !(listed.setIfInBounds i true).getD j true) (i := i) (by simp [h2]) (by
          simp [Array.getD_eq_getD_getElem?, Array.getElem?_setIfInBounds, hg.lsize, h1]) (fun j hj => by
          simp only [Array.getD_eq_getD_getElem?, Array.getElem?_setIfInBounds]
          rw [if_neg (fun e => hj e.symm)]) ops.size
        rw [if_pos h1] at this
        omega
      have h := hone i ops[i] (Array.getElem?_eq_getElem h1) a k w (wpAny P .any ops Q fuel (listed.setIfInBounds i true)) Q (by omega) hg.inv hpre (fun v w' hT hR hI hH => by
        have := hgood v w' hT hR hI hH
        rw [Array.getElem?_eq_getElem h1] at this
        exact ih (k + 1) _ _ _ (by omega) hunl this)
      unfold wpOp
      rw [Array.getElem?_eq_getElem h1]
      simp only
      split
      · rename_i hw; rw [if_pos hw] at h; exact .inl h
      · rename_i hw; rw [if_neg hw] at h; exact h

/-- The obligations, an operation at a time. -/
def RAllK (P : Program) (ops : Array Oper) (a0 : Act) (T : Nat → World → Value → Prop) (Inv : Nat → World → Prop) (Rel : Nat → World → World → Prop) (gc gd : Option Nat) (G H : World → Prop) : List Oper → Nat → Prop
  | [], _ => True
  | o :: l, i => ROneK P ops a0 T Inv Rel gc gd G H i o ∧ RAllK P ops a0 T Inv Rel gc gd G H l (i + 1)
theorem RAllK.at {l : List Oper} {i : Nat} (h : RAllK P ops a0 T Inv Rel gc gd G H l i) : ∀ (j : Nat) (o : Oper), l[j]? = some o → ROneK P ops a0 T Inv Rel gc gd G H (i + j) o := by
  induction l generalizing i with
  | nil => intro j o hj; simp at hj
  | cons o' l ih =>
    intro j o hj
    cases j with
    | zero => obtain rfl : o' = o := by simpa using hj
              exact h.1
    | succ j =>
      have := ih h.2 j o (by simpa using hj)
      rwa [show i + 1 + j = i + (j + 1) by omega] at this

theorem wp_region_draws2K (gc gd : Option Nat) (G H : World → Prop) (T : Nat → World → Value → Prop) (Inv : Nat → World → Prop) (Rel : Nat → World → World → Prop) (kill : Nat → Option Nat) {id : Nat} {Q : Exit → Act → World → Prop} {w : World} {l : List Oper} (hm : P.follows .mixedOrders = true)
    (hok : okRegion l.toArray a0.tmps.size = true) (hkill : okKill l.toArray kill = true) (hstab : ∀ i j w w' v, Rel i w w' → kill j ≠ some i → j ≠ i → depB l.toArray j i = false → (∀ c, kill j = some c → depB l.toArray i c = false) → (∀ m, depB l.toArray j m = true → depB l.toArray m i = false) → T j w v → T j w' v) (hstabG : ∀ i w w', Rel i w w' → gc ≠ some i → (∀ c, gc = some c → depB l.toArray i c = false) → G w → G w') (hstabH : ∀ i w w', Rel i w w' → gd ≠ some i → (∀ c, gd = some c → depB l.toArray c i = false) → H w → H w') (hI : Inv 0 w.drew) (hG : G w.drew) (hone : RAllK P l.toArray a0 T Inv Rel gc gd G H l 0)
    (hQ : ∀ (f : Nat → Value) (w' : World), (∀ i, i < l.length → (dstOf l.toArray i).isSome = true → (kill i).isNone = true → T i w' (f i)) → Inv l.length w' → (∀ c, gd = some c → c < l.length → H w') → Q .normal (putAll f l 0 a0) w') : (Code.region id l.toArray true).wp P Q a0 w := by
  refine wp_region_any hm (region_any_stepK (a0 := a0) (T := T) (Inv := Inv) (Rel := Rel) (kill := kill) (gc := gc) (gd := gd) (G := G) (H := H) hok hkill hstab hstabG hstabH (fun i o ho => by
    have := RAllK.at hone i o (by simpa using ho)
    simpa using this) ?_ _ 0 _ a0 _ (by simp) ?_ ?_)
  · intro listed a w' hall hg
    have hlist : ∀ i, i < l.length → listed.getD i false = true := fun i hi => by
      have := hall i (by simpa using hi)
      rw [Array.getD_eq_getD_getElem?, Array.getElem?_eq_getElem (by rw [hg.lsize]; simpa using hi)] at this ⊢
      exact this
    have hlt : ∀ i d, dstOf l.toArray i = some d → i < l.length := fun i d hd => by
      unfold dstOf at hd
      cases ho : l.toArray[i]? with
      | none => simp [ho] at hd
      | some o => simpa using (Array.getElem?_eq_some_iff.1 ho).1
    have he : a = putAll (fun i => a.eval (.tmp ((dstOf l.toArray i).getD 0))) l 0 a0 := by
      have hp := putAll_defers (fun i => a.eval (.tmp ((dstOf l.toArray i).getD 0))) l 0 a0
      refine act_ext (hg.size.trans hp.2.symm) (hg.defers.trans hp.1.symm) (fun s hs => ?_)
      by_cases h : ∃ i, dstOf l.toArray i = some s
      · obtain ⟨i, hi⟩ := h
        have hi' := hi
        unfold dstOf at hi'
        cases ho : l.toArray[i]? with
        | none => simp [ho] at hi'
        | some o =>
          simp only [ho, Option.bind_some] at hi'
          rw [putAll_some _ l 0 a0 s i o (by simpa using ho) hi' (fun j o' ho' hd' => okRegion_uniq hok (d := s) (by simp [dstOf, ho', hd']) hi) (by rw [← hg.size]; exact hs)]
          simp [hi]
      · rw [putAll_none _ l 0 a0 s (fun j o ho hd => h ⟨j, by simp [dstOf, ho, hd]⟩)]
        exact hg.todo s (fun i hi => absurd ⟨i, hi⟩ h)
    rw [he]
    refine hQ _ _ (fun i hi hs hk => ?_) (by simpa using hg.inv) (fun c hc hl => hg.post c hc (hlist c hl))
    obtain ⟨d, hd⟩ := Option.isSome_iff_exists.1 hs
    simp only [hd, Option.getD_some]
    exact hg.done i d hd (hlist i hi) (fun c hc => by rw [hc] at hk; cases hk)
  · have : ∀ N, unl N (fun i => !(Array.replicate N false).getD i true) = N := by
      intro N
      unfold unl
      rw [List.filter_eq_self.2]
      · simp
      · intro i hi
        simp [Array.getD_eq_getD_getElem?, List.mem_range.1 hi]
    exact this _
  · refine ⟨rfl, rfl, hI, by simp, ?_, ?_, fun _ _ => rfl, fun _ => hG, fun c _ h => ?_⟩
    · intro i j h
      simp [Array.getD_eq_getD_getElem?, Array.getElem?_replicate] at h
      split at h <;> simp at h
    · intro i d _ h _
      simp [Array.getD_eq_getD_getElem?, Array.getElem?_replicate] at h
      split at h <;> simp at h
    · simp [Array.getD_eq_getD_getElem?, Array.getElem?_replicate] at h
      split at h <;> simp at h

end
section
variable {P : Program} {ops : Array Oper} {a0 : Act} {T : Nat → World → Value → Prop} {Inv : Nat → World → Prop} {Rel : Nat → World → World → Prop} {gc gd : Option Nat} {G H : World → Prop}
theorem RAllK.none_ {i : Nat} : RAllK P ops a0 T Inv Rel gc gd G H [] i := trivial
theorem RAllK.cons {o : Oper} {l : List Oper} {i : Nat} (hg : o.guard = Option.none) (h : ∀ (a : Act) (k : Nat) (w : World) (K : Act → World → Prop) (Q : Exit → Act → World → Prop), k < ops.size → Inv k w → RPreK ops a0 T gc G i a w →
    (∀ v w', T i w' v → Rel i w w' → Inv (k + 1) w' → (gd = some i → H w') → K (a.put o.dst v) w') → o.wp P a w K Q) (hl : RAllK P ops a0 T Inv Rel gc gd G H l (i + 1)) : RAllK P ops a0 T Inv Rel gc gd G H (o :: l) i :=
  ⟨fun a k w K Q h1 h2 h3 h4 => by
    have : Region.wanted o (yielded ops a.tmps) = true := by simp [Region.wanted, hg]
    rw [if_pos this]
    exact h a k w K Q h1 h2 h3 h4, hl⟩
end
end Go.Proofs.Ytodjokdaofefdaa
/- Guards that are added, by the reference: copies. -/
namespace Go.Proofs.Ytodjokdaofefdaa
set_option linter.unusedSimpArgs false
set_option linter.unusedVariables false
open Go.RowKit

/-- The box of a copy that grows. -/
def CpB (g : Nat) (r : Ex) (w : World) (v : Value) : Prop := w.heap[g]? = some (.cells #[.int .i64 r.k, .int .i64 r.n, .string r.s, v] 28 (0, 0))
def CpH (d g : Nat) (r : Ex) (W : World) (k : Nat) (w : World) : Prop := ∃ A c l' N, CpB g r w (.slice A k c) ∧ l'.map Prod.fst = r.ps.take k ∧ ExO d (g + 1) N w (.slice A k c) l' ∧ Below g W w
def CpA (d g : Nat) (r : Ex) (W : World) (k : Nat) (w : World) (v : Value) : Prop := ∃ A c u l' N, v = .slice A k c ∧ CpB g r w u ∧ l'.map Prod.fst = r.ps.take k ∧ ExO d (g + 1) N w (.slice A k c) l' ∧ Below g W w
/-- A copy. -/
def ChV (d lo : Nat) (t : Ex) (w : World) (v : Value) : Prop := ∃ A c a b, v = .agg #[.int .i64 t.k, .int .i64 t.n, .string t.s, .slice A t.ps.length c] ∧ (lo ≤ a ∧ a ≤ b ∧ b ≤ w.heap.size) ∧ exT d a b w (.slice A t.ps.length c) t.ps
def ChR (d lo : Nat) (t : Ex) (w : World) (v : Value) : Prop := ∃ g A c a b, v = .slice (some ⟨g, 0, none⟩) 1 1 ∧ w.heap[g]? = some (.cells #[.int .i64 t.k, .int .i64 t.n, .string t.s, .slice A t.ps.length c] 28 (0, 0)) ∧ (lo ≤ a ∧ a ≤ b ∧ b ≤ w.heap.size) ∧ exT d a b w (.slice A t.ps.length c) t.ps
theorem block_below {w w' : World} {g : Nat} {o : Obj} (h : w.heap[g]? = some o) (hb : Below w.heap.size w w') : w'.heap[g]? = some o := (hb.block g (Array.getElem?_eq_some_iff.1 h).1).trans h
section
variable {d g k lo : Nat} {r t : Ex} {W w w' : World} {v : Value}
theorem CpH.below (h : CpH d g r W k w) (hb : Below w.heap.size w w') : CpH d g r W k w' := by
  obtain ⟨A, c, l', N, h1, h2, h3, h4⟩ := h
  have hg := (Array.getElem?_eq_some_iff.1 h1).1
  exact ⟨A, c, l', N, block_below h1 hb, h2, h3.below hb, h4.trans (hb.mono (by omega))⟩
theorem CpA.below (h : CpA d g r W k w v) (hb : Below w.heap.size w w') : CpA d g r W k w' v := by
  obtain ⟨A, c, u, l', N, h0, h1, h2, h3, h4⟩ := h
  have hg := (Array.getElem?_eq_some_iff.1 h1).1
  exact ⟨A, c, u, l', N, h0, block_below h1 hb, h2, h3.below hb, h4.trans (hb.mono (by omega))⟩
theorem ChV.below (h : ChV d lo t w v) (hb : Below w.heap.size w w') : ChV d lo t w' v := by
  obtain ⟨A, c, a, b, h0, h1, h2⟩ := h
  exact ⟨A, c, a, b, h0, ⟨h1.1, h1.2.1, Nat.le_trans h1.2.2 hb.size⟩, h2.below h1.2.2 hb⟩
theorem ChR.below (h : ChR d lo t w v) (hb : Below w.heap.size w w') : ChR d lo t w' v := by
  obtain ⟨g, A, c, a, b, h0, hg, h1, h2⟩ := h
  exact ⟨g, A, c, a, b, h0, block_below hg hb, ⟨h1.1, h1.2.1, Nat.le_trans h1.2.2 hb.size⟩, h2.below h1.2.2 hb⟩
theorem ExO.grown {N : Nat} {l' : List ExX} {row : Option Nat} (h : ExO d lo N w v l') (hg : w.grownBy w' row) (hr : ∀ k, row = some k → k < lo) : ExO d lo N w' v l' := by
  obtain ⟨h1, h2, h3⟩ := h
  have hge := h3.ge
  obtain ⟨A, c, xs, e, ho, hc⟩ := h3
  refine ⟨h1, Nat.le_trans h2 hg.size, A, c, xs, e, own_apart_ ho hg (fun k hk e2 => ?_), hc.mono_mem (fun a ha cs hcs => ?_)⟩
  · rw [← e] at hk
    have := (hge k hk).1
    have := hr k e2
    omega
  · obtain ⟨g1, g2, g3, g4⟩ := hcs
    have hb := h1.1 a ha
    exact ⟨g1.keep (fun k k1 k2 => hg.block k (by omega) (fun e2 => by have := hr k e2.symm; omega)), g2, g3, g4⟩
end
def CpQ (d : Nat) : Prop := ∀ (A : Option Addr) (r : Ex) (c : Nat) (w : World), exW d w A r.ps → r.s.size ≤ 9223372036854775807 → (∀ m, cntR m r ≤ 1048576) →
  Calls Try.prog 78 #[.agg #[.int .i64 r.k, .int .i64 r.n, .string r.s, .slice A r.ps.length c]] w fun e w' => ∃ A' c', e = .returned (.agg #[.int .i64 r.k, .int .i64 r.n, .string r.s, .slice A' r.ps.length c']) ∧ exT d w.heap.size w'.heap.size w' (.slice A' r.ps.length c') r.ps ∧ Below w.heap.size w w'
set_option maxRecDepth 100000 in
set_option maxHeartbeats 8000000 in
theorem cpQ_of {d : Nat} (hQ : ∀ m, d = m + 1 → CpQ m) : CpQ d := by
  intro A r c w hU hs hn
  have hlen : r.ps.length ≤ 1048576 := by have := hn 1; rw [cntR] at this; omega
  have HQ := Lib.hid hQ
  have HN := Lib.hid hn
  have HS := Lib.hid hs
  clear hQ hn hs
  obtain ⟨gx, hgx⟩ : ∃ g, g = w.heap.size := ⟨_, rfl⟩
  obtain ⟨g, hg⟩ : ∃ g, g = w.heap.size + 1 + 1 := ⟨_, rfl⟩
  obtain ⟨W, hW⟩ : ∃ W, W = ((w.alloc (.cells #[.int .i64 r.k, .int .i64 r.n, .string r.s, .slice A r.ps.length c] 28)).alloc (.cells #[.int .i64 0, .int .i64 0, .string ⟨#[]⟩, .slice Option.none 0 0] 28)).alloc (.cells #[.int .i64 r.k, .int .i64 r.n, .string r.s, .slice Option.none 0 0] 28) := ⟨_, rfl⟩
  have hBW : Below w.heap.size w W := by rw [hW]; (repeat (first | exact Below.refl _ _ | refine ext_alloc ?_ _ | refine Below.setCell ?_ (by simp) _))
  have hWs : W.heap.size = w.heap.size + 3 := by rw [hW]; simp
  have hWg : CpB g r W (.slice Option.none 0 0) := by rw [CpB, hW, hg]; exact heap_alloc_at (by simp)
  have b0 : (w.alloc (.cells #[.int .i64 r.k, .int .i64 r.n, .string r.s, .slice A r.ps.length c] 28)).cell? ⟨w.heap.size, 3, none⟩ = some (.slice A r.ps.length c) := box_cell w _ _ 3 _ rfl
  have b3 : W.cell? ⟨gx, 3, none⟩ = some (.slice A r.ps.length c) := by rw [hW, hgx]; exact below_cell (below_alloc _ _) (below_cell (below_alloc _ _) b0)
  clear b0
  have hg2 : W.heap[w.heap.size + 1]? = some (.cells #[.int .i64 0, .int .i64 0, .string ⟨#[]⟩, .slice Option.none 0 0] 28 (0, 0)) := by rw [hW]; exact block_below (heap_alloc_at (by simp)) (below_alloc _ _)
  have hUW := hU.below hBW
  have HU0 := Lib.hid hU
  have HG2 := Lib.hid hg2
  have HW := Lib.hid hW
  have HGX := Lib.hid hgx
  have HG := Lib.hid hg
  have HBW := Lib.hid hBW
  have HB3 := Lib.hid b3
  have HWG := Lib.hid hWg
  have hsz : g + 1 = W.heap.size := by rw [hWs, hg]
  have hgg : gx < g := by rw [hgx, hg]; omega
  have HSZ := Lib.hid hsz
  clear hW hgx hg hBW hU b3 hWg hWs hsz hg2
  go_enter Try.func78, Try.ntmps78
  go_wp2_with fail
  rw [← HW.out, ← HG.out, ← HGX.out]
  go_loopw [4] (fun iv wr => ∃ k : Nat, k ≤ r.ps.length ∧ iv = .int .i64 k ∧ CpH (d - 1) g r W k wr) (fun iv _ => r.ps.length - (intOf iv).toNat)
  case atStart => exact ⟨0, Nat.zero_le _, rfl, Option.none, 0, [], W.heap.size, HWG.out, by simp, ExO.nil (Nat.le_refl _), Below.refl _ _⟩
  case round =>
    obtain ⟨k, hk, rfl, Ak, ck, l', N, hbx, hmap, hO, hB⟩ := hrel
    have hgw := (Array.getElem?_eq_some_iff.1 hbx).1
    have x3 : wr.cell? ⟨g, 3, none⟩ = some (.slice Ak k ck) := (cell_of_row wr g 3 _ _ _ hbx).trans rfl
    have b3 : wr.cell? ⟨gx, 3, none⟩ = some (.slice A r.ps.length c) := (hB.cell (p := ⟨gx, 3, none⟩) hgg).trans HB3.out
    have hws := hB.size
    have HBX := Lib.hid hbx
    have HMAP := Lib.hid hmap
    have HO := Lib.hid hO
    have HBG := Lib.hid hB
    clear hbx hmap hO
    by_cases hlt : k < r.ps.length
    · have hd : ∃ m, d = m + 1 := by
        cases d with
        | zero => have := exS.zero hUW; rw [this] at hlt; simp at hlt
        | succ m => exact ⟨m, rfl⟩
      obtain ⟨m, hm⟩ := hd
      subst hm
      have HQ1 := Lib.hid (HQ.out m rfl)
      have hBr : Below w.heap.size w wr := HBW.out.trans (hB.mono (by have := HGX.out; omega))
      have hUr : exW (m + 1) wr A r.ps := (exS.below HU0.out (Nat.le_refl _) hBr).wide (Nat.le_refl _) hBr.size
      obtain ⟨b, off, rfl, hc⟩ := hUr.cells (by omega)
      obtain ⟨A1, c1, hfd, hs1, p0, p1, p2, p3⟩ := hc k hlt
      have HCN : Hid (∀ q, cntR q (exAt r.ps k) ≤ 1048576) := Lib.hid (fun q => by rw [exAt_eq hlt]; exact Nat.le_trans (cnt_mem (List.getElem_mem hlt)) (HN.out (q + 1)))
      have HS1 := Lib.hid hs1
      have HFD := Lib.hid hfd
      have HML : Hid (l'.length = k) := Lib.hid (by rw [← List.length_map (f := Prod.fst), HMAP.out, List.length_take]; omega)
      clear hc hs1 hfd hB hBr hUr
      go_wp2_with fail
      refine wp_region_draws2K (some 9) (some 11) (fun wz => Below wr.heap.size wr wz) (fun wz => CpH m g r W (k + 1) wz) (fun i wz vz => match i with | 0 => vz = .pointer (some ⟨g, 3, Option.none⟩) | 1 => vz = .slice Ak k ck | 2 => vz = .pointer (some ⟨gx, 3, Option.none⟩) | 3 => vz = .slice (some ⟨b, off, none⟩) r.ps.length c | 4 => vz = .int .i64 k | 5 => vz = .pointer (some ⟨b, off + k * 4, Option.none⟩) | 6 => vz = .agg #[.int .i64 (exAt r.ps k).k, .int .i64 (exAt r.ps k).n, .string (exAt r.ps k).s, .slice A1 (exAt r.ps k).ps.length c1] | 7 => ChV m wr.heap.size (exAt r.ps k) wz vz | 8 => ChR m wr.heap.size (exAt r.ps k) wz vz | 9 => CpA m g r W (k + 1) wz vz | 10 => vz = .pointer (some ⟨g, 3, Option.none⟩) | _ => True) (fun _ _ => True) (fun i w w' => (i = 9 ∨ i = 11) ∨ Below w.heap.size w w') (fun j => match j with | 7 => some 9 | 8 => some 9 | 9 => some 11 | _ => Option.none) (by kernel_rfl) (by kernel_rfl) (by kernel_rfl) ?stab5 ?stabG5 ?stabH5 trivial (ext_drew (Below.refl _ _)) ?all5 ?fin5
      case stab5 =>
        intro i j wa wb v hR hk hne hd h3 h2 hT
        match j, hk, hne, hd, h3, h2, hT with
        | 0, hk, hne, hd, h3, h2, hT => exact (hT)
        | 1, hk, hne, hd, h3, h2, hT => exact (hT)
        | 2, hk, hne, hd, h3, h2, hT => exact (hT)
        | 3, hk, hne, hd, h3, h2, hT => exact (hT)
        | 4, hk, hne, hd, h3, h2, hT => exact (hT)
        | 5, hk, hne, hd, h3, h2, hT => exact (hT)
        | 6, hk, hne, hd, h3, h2, hT => exact (hT)
        | 7, hk, hne, hd, h3, h2, hT => exact (ChV.below hT (hR.resolve_left (fun e => e.elim (fun e => hk (by subst e; rfl)) (fun e => by subst e; exact Bool.noConfusion ((h3 9 rfl).symm.trans (show depB _ 11 9 = true from by kernel_rfl))))))
        | 8, hk, hne, hd, h3, h2, hT => exact (ChR.below hT (hR.resolve_left (fun e => e.elim (fun e => hk (by subst e; rfl)) (fun e => by subst e; exact Bool.noConfusion ((h3 9 rfl).symm.trans (show depB _ 11 9 = true from by kernel_rfl))))))
        | 9, hk, hne, hd, h3, h2, hT => exact (CpA.below hT (hR.resolve_left (fun e => e.elim (fun e => hne (by rw [e])) (fun e => hk (by subst e; rfl)))))
        | 10, hk, hne, hd, h3, h2, hT => exact (hT)
        | n + 11, _, _, _, _, _, _ => trivial
      case stabG5 => exact fun i wa wb hR hne hd hG => ext_trans hG (hR.resolve_left (fun e => e.elim (fun e => hne (by rw [e])) (fun e => by subst e; exact Bool.noConfusion ((hd 9 rfl).symm.trans (show depB _ 11 9 = true from by kernel_rfl)))))
      case stabH5 => exact fun i wa wb hR hne hd h => (by have hb := hR.resolve_left (fun e => e.elim (fun e => by subst e; exact Bool.noConfusion ((hd 11 rfl).symm.trans (show depB _ 11 9 = true from by kernel_rfl))) (fun e => hne (by rw [e]))); exact CpH.below h hb)
      case all5 =>
        refine RAllK.cons rfl ?_ (RAllK.cons rfl ?_ (RAllK.cons rfl ?_ (RAllK.cons rfl ?_ (RAllK.cons rfl ?_ (RAllK.cons rfl ?_ (RAllK.cons rfl ?_ (RAllK.cons rfl ?_ (RAllK.cons rfl ?_ (RAllK.cons rfl ?_ (RAllK.cons rfl ?_ (RAllK.cons rfl ?_ (RAllK.none_))))))))))))
        · intro a kq_ wa K Q _ _ hp hK0
          have hI : Below wr.heap.size wr wa := hp.pre 9 (fun c hc => by cases hc; kernel_rfl)
          have hK := fun v w' h1 h2 (_ : Below wr.heap.size wr w') => hK0 v w' h1 (.inr h2) trivial (fun e => by cases e)
          have e3 := tmp_of (show a.eval (.tmp 3) = .pointer (some ⟨g, 0, none⟩) from hp.keep 3 (by kernel_rfl))
          go_simp
          exact hK _ _ rfl (Below.refl _ _) hI
        · intro a kq_ wa K Q _ _ hp hK0
          have hI : Below wr.heap.size wr wa := hp.pre 9 (fun c hc => by cases hc; kernel_rfl)
          have hK := fun v w' h1 h2 (_ : Below wr.heap.size wr w') => hK0 v w' h1 (.inr h2) trivial (fun e => by cases e)
          have e19 := tmp_of (show a.eval (.tmp 19) = .pointer (some ⟨g, 3, Option.none⟩) from hp.dep 0 19 (by kernel_rfl))
          have x3_ := below_cell hI x3
          go_simp
          exact hK _ _ rfl (Below.refl _ _) hI
        · intro a kq_ wa K Q _ _ hp hK0
          have hI : Below wr.heap.size wr wa := hp.pre 9 (fun c hc => by cases hc; kernel_rfl)
          have hK := fun v w' h1 h2 (_ : Below wr.heap.size wr w') => hK0 v w' h1 (.inr h2) trivial (fun e => by cases e)
          have e1 := tmp_of (show a.eval (.tmp 1) = .pointer (some ⟨gx, 0, none⟩) from hp.keep 1 (by kernel_rfl))
          go_simp
          exact hK _ _ rfl (Below.refl _ _) hI
        · intro a kq_ wa K Q _ _ hp hK0
          have hI : Below wr.heap.size wr wa := hp.pre 9 (fun c hc => by cases hc; kernel_rfl)
          have hK := fun v w' h1 h2 (_ : Below wr.heap.size wr w') => hK0 v w' h1 (.inr h2) trivial (fun e => by cases e)
          have e21 := tmp_of (show a.eval (.tmp 21) = .pointer (some ⟨gx, 3, Option.none⟩) from hp.dep 2 21 (by kernel_rfl))
          have b3_ := below_cell hI b3
          go_simp
          exact hK _ _ rfl (Below.refl _ _) hI
        · intro a kq_ wa K Q _ _ hp hK0
          have hI : Below wr.heap.size wr wa := hp.pre 9 (fun c hc => by cases hc; kernel_rfl)
          have hK := fun v w' h1 h2 (_ : Below wr.heap.size wr w') => hK0 v w' h1 (.inr h2) trivial (fun e => by cases e)
          exact op_move _ (.inl rfl) (hK _ _ (hp.keep 4 (by kernel_rfl)) (Below.refl _ _) hI)
        · intro a kq_ wa K Q _ _ hp hK0
          have hI : Below wr.heap.size wr wa := hp.pre 9 (fun c hc => by cases hc; kernel_rfl)
          have hK := fun v w' h1 h2 (_ : Below wr.heap.size wr w') => hK0 v w' h1 (.inr h2) trivial (fun e => by cases e)
          have e22 := tmp_of (show a.eval (.tmp 22) = .slice (some ⟨b, off, none⟩) r.ps.length c from hp.dep 3 22 (by kernel_rfl))
          have e23 := tmp_of (show a.eval (.tmp 23) = .int .i64 k from hp.dep 4 23 (by kernel_rfl))
          go_simp
          exact hK _ _ rfl (Below.refl _ _) hI
        · intro a kq_ wa K Q _ _ hp hK0
          have hI : Below wr.heap.size wr wa := hp.pre 9 (fun c hc => by cases hc; kernel_rfl)
          have hK := fun v w' h1 h2 (_ : Below wr.heap.size wr w') => hK0 v w' h1 (.inr h2) trivial (fun e => by cases e)
          have e24 := tmp_of (show a.eval (.tmp 24) = .pointer (some ⟨b, off + k * 4, Option.none⟩) from hp.dep 5 24 (by kernel_rfl))
          have p0_ := below_cell hI p0
          have p1_ := below_cell hI p1
          have p2_ := below_cell hI p2
          have p3_ := below_cell hI p3
          go_simp
          exact hK _ _ rfl (Below.refl _ _) hI
        · intro a kq_ wa K Q _ _ hp hK0
          have hI : Below wr.heap.size wr wa := hp.pre 9 (fun c hc => by cases hc; kernel_rfl)
          have hK := fun v w' h1 h2 (_ : Below wr.heap.size wr w') => hK0 v w' h1 (.inr h2) trivial (fun e => by cases e)
          have e25 := tmp_of (show a.eval (.tmp 25) = .agg #[.int .i64 (exAt r.ps k).k, .int .i64 (exAt r.ps k).n, .string (exAt r.ps k).s, .slice A1 (exAt r.ps k).ps.length c1] from hp.dep 6 25 (by kernel_rfl))
          go_simp
          refine (HQ1.out _ _ _ _ (HFD.out.below hI) HS1.out HCN.out).mono ?_
          rintro e wb ⟨A8, c8, rfl, h8, hb⟩
          exact hK _ _ ⟨A8, c8, _, _, rfl, ⟨hI.size, hb.size, Nat.le_refl _⟩, h8⟩ hb (ext_trans hI hb)
        · intro a kq_ wa K Q _ _ hp hK0
          have hI : Below wr.heap.size wr wa := hp.pre 9 (fun c hc => by cases hc; kernel_rfl)
          have hK := fun v w' h1 h2 (_ : Below wr.heap.size wr w') => hK0 v w' h1 (.inr h2) trivial (fun e => by cases e)
          have t26 : ChV m wr.heap.size (exAt r.ps k) wa (a.eval (.tmp 26)) := hp.dep 7 26 (by kernel_rfl)
          obtain ⟨A8, c8, a8, b8, e26, h1, h2⟩ := t26
          replace e26 := tmp_of e26
          go_simp
          exact hK _ _ ⟨_, A8, c8, a8, b8, rfl, heap_alloc_new _ _, ⟨h1.1, h1.2.1, by simp; omega⟩, h2.below h1.2.2 (below_alloc _ _)⟩ (below_alloc _ _) (ext_alloc hI _)
        · intro a kq_ wa K Q _ _ hp hK0
          have hI : Below wr.heap.size wr wa := hp.pre 9 (fun c hc => by cases hc; kernel_rfl)
          have hA := fun v w' h => hK0 v w' h (.inl (.inl rfl)) trivial (fun e => by cases e)
          have e20 := tmp_of (show a.eval (.tmp 20) = .slice Ak k ck from hp.dep 1 20 (by kernel_rfl))
          have t27 : ChR m wr.heap.size (exAt r.ps k) wa (a.eval (.tmp 27)) := hp.dep 8 27 (by kernel_rfl)
          obtain ⟨g8, A8, c8, a8, b8, e27, hg8, h1, h2⟩ := t27
          have hO := HO.out.below hI
          have hge := HO.out.2.2.ge
          have hN := HO.out.2.1
          refine op_appendG (R := ExA m (.slice Ak k ck) b8) (l := l') (l2 := [(exAt r.ps k, a8, b8)]) (.tmp 20) (.tmp 27) 26 28 _ 4 56 rfl Try.underlying26 Try.infoExpr rfl (by decide) (fun a cs h => h.1.one) (hp.dep 1 20 (by kernel_rfl)) (hO.2.2.lower (Nat.le_refl _) (fun x cs q => ⟨q.1, q.2.1, by have := q.2.2.1; omega, q.2.2.2⟩)) e27 (rd_blockG hg8 rfl ⟨⟨_, rfl, h2, HS1.out⟩, h1.2.1, Nat.le_refl _, fun q hq => by have := (hge q hq).2; have := h1.1; exact .inl (by show q < a8; omega)⟩) (fun w' hg a cs h => h.row h1.2.2 hg) (by have := HML.out; simp; omega) (by have := HML.out; simp; omega) (by have := hI.size; omega) ?_
          intro v' wb ho' hb' hgr hv
          obtain ⟨A7, c7, rfl⟩ : ∃ A7 c7, v' = .slice A7 (k + 1) c7 := by obtain ⟨A7, c7, _, e7, _⟩ := ho'; exact ⟨A7, c7, by rw [e7]; simp [HML.out]⟩
          have hwa := hI.size
          exact hA _ _ ⟨A7, c7, .slice Ak k ck, l' ++ [(exAt r.ps k, a8, b8)], b8, rfl, (hgr.block g (by omega) (fun e => by have := (hge g e.symm).1; omega)).trans (block_below HBX.out hI), by rw [List.map_append, HMAP.out, List.take_succ_eq_append_getElem hlt, ← exAt_eq hlt]; rfl, ExO.add HO.out.1 (Nat.le_trans hN h1.1) h1.2.1 (by have := h1.1; omega) h1.2.2 hgr.size ho' hv, (HBG.out.trans (hI.mono (by omega))).trans (hb'.mono (by omega))⟩
        · intro a kq_ wa K Q _ _ hp hK0
          have hK := fun v w' h1 (h2 : Below wa.heap.size wa w') => hK0 v w' h1 (.inr h2) trivial (fun e => by cases e)
          have e3 := tmp_of (show a.eval (.tmp 3) = .pointer (some ⟨g, 0, none⟩) from hp.keep 3 (by kernel_rfl))
          go_simp
          exact hK _ _ rfl (Below.refl _ _)
        · intro a kq_ wa K Q _ _ hp hK0
          have hS := fun v w' h => hK0 v w' trivial (.inl (.inr rfl)) trivial (fun _ => h)
          have t28 : CpA m g r W (k + 1) wa (a.eval (.tmp 28)) := hp.dep 9 28 (by kernel_rfl)
          have e29 := tmp_of (show a.eval (.tmp 29) = .pointer (some ⟨g, 3, Option.none⟩) from hp.dep 10 29 (by kernel_rfl))
          obtain ⟨A9, c9, u9, l9, N9, e28, hb9, hm9, ho9, hB9⟩ := t28
          replace e28 := tmp_of e28
          have cw : wa.cell? ⟨g, 3, none⟩ = some u9 := (cell_of_row wa g 3 _ _ _ hb9).trans rfl
          have zw : wa.frozen? ⟨g, 3, none⟩ = false := frozen_of_row wa g 3 _ _ hb9
          go_simp
          exact hS (.tuple #[]) _ ⟨A9, c9, l9, N9, setCells_atG [.slice A9 (k + 1) c9] 3 hb9 (by simp), hm9, ExO.grown ho9 (setCells_grown g [.slice A9 (k + 1) c9] wa 3) (fun q e => by cases e; omega), setCells_below (Nat.le_refl _) [.slice A9 (k + 1) c9] 3 hB9⟩
      case fin5 =>
        intro f w9 hT _ hH
        have hH := hH 11 rfl (by decide)
        have hr6 : (f 10) = .pointer (some ⟨g, 3, Option.none⟩) := hT 10 (by decide) rfl rfl
        clear hT
        clear hr6
        simp only [putAll]
        go_simp
        go_wp2
        go_roundw
        case rel => exact ⟨k + 1, by omega, by go_num, hH⟩
        case measure => simp [intOf]; omega
    · obtain rfl : k = r.ps.length := by omega
      have x0 : wr.cell? ⟨g, 0, none⟩ = some (.int .i64 r.k) := (cell_of_row wr g 0 _ _ _ HBX.out).trans rfl
      have x1 : wr.cell? ⟨g, 1, none⟩ = some (.int .i64 r.n) := (cell_of_row wr g 1 _ _ _ HBX.out).trans rfl
      have x2 : wr.cell? ⟨g, 2, none⟩ = some (.string r.s) := (cell_of_row wr g 2 _ _ _ HBX.out).trans rfl
      have hr2 : wr.heap[gx + 1]? = some (.cells #[.int .i64 0, .int .i64 0, .string ⟨#[]⟩, .slice Option.none 0 0] 28 (0, 0)) := by rw [HGX.out]; exact (hB.block _ (by have := HG.out; omega)).trans HG2.out
      have y0 : wr.cell? ⟨gx + 1, 0, none⟩ = some _ := (cell_of_row wr (gx + 1) 0 _ _ _ hr2).trans rfl
      have y1 : wr.cell? ⟨gx + 1, 1, none⟩ = some _ := (cell_of_row wr (gx + 1) 1 _ _ _ hr2).trans rfl
      have y2 : wr.cell? ⟨gx + 1, 2, none⟩ = some _ := (cell_of_row wr (gx + 1) 2 _ _ _ hr2).trans rfl
      have y3 : wr.cell? ⟨gx + 1, 3, none⟩ = some _ := (cell_of_row wr (gx + 1) 3 _ _ _ hr2).trans rfl
      have z0 := frozen_of_row wr (gx + 1) 0 _ _ hr2
      have z1 := frozen_of_row wr (gx + 1) 1 _ _ hr2
      have z2 := frozen_of_row wr (gx + 1) 2 _ _ hr2
      have z3 := frozen_of_row wr (gx + 1) 3 _ _ hr2
      clear hr2 hUW
      have HU1 := HU0.out
      have hm := HMAP.out
      rw [List.take_length] at hm
      have hgr := setCells_grown (gx + 1) [.int .i64 r.k, .int .i64 r.n, .string r.s, .slice Ak r.ps.length ck] wr 0
      have HT : Hid (exT d w.heap.size (setCells wr (gx + 1) 0 [.int .i64 r.k, .int .i64 r.n, .string r.s, .slice Ak r.ps.length ck]).heap.size (setCells wr (gx + 1) 0 [.int .i64 r.k, .int .i64 r.n, .string r.s, .slice Ak r.ps.length ck]) (.slice Ak r.ps.length ck) r.ps) := Lib.hid (by
        cases d with
        | zero =>
          have h0 := exS.zero HU1
          exact ⟨h0, Ak, ck, by rw [h0]; rfl⟩
        | succ m =>
          have h1 := (HO.out.grown hgr (fun q e => by cases e; omega)).t
          rw [hm] at h1
          exact h1.wide (by have := HGX.out; omega) (Nat.le_refl _))
      have HBF : Hid (Below w.heap.size w (setCells wr (gx + 1) 0 [.int .i64 r.k, .int .i64 r.n, .string r.s, .slice Ak r.ps.length ck])) := Lib.hid (setCells_below (by have := HGX.out; omega) _ 0 (HBW.out.trans (HBG.out.mono (by have := HGX.out; omega))))
      clear hgr hm HU1
      go_wp2
      refine bodyPost_ret (v := .agg #[.int .i64 r.k, .int .i64 r.n, .string r.s, .slice Ak r.ps.length ck]) (by simp [results, go_sem, y0, y1, y2, y3]) rfl ⟨_, _, rfl, HT.out, HBF.out⟩
theorem cpQ_all : ∀ d, CpQ d
  | 0 => cpQ_of (fun m h => by cases h)
  | d + 1 => cpQ_of (fun m h => by cases h; exact cpQ_all d)
end Go.Proofs.Ytodjokdaofefdaa
/- Guards, by the reference: whether an expression is guarded. -/
namespace Go.Proofs.Ytodjokdaofefdaa
set_option linter.unusedSimpArgs false
set_option linter.unusedVariables false
open Go.RowKit

def GsQ (d D : Nat) : Prop := ∀ (A Ak : Option Addr) (r : Ex) (kl : ExL) (c ck : Nat) (w : World), exW d w A r.ps → r.s.size ≤ 9223372036854775807 → exW D w Ak kl → d + 1 ≤ D → gdR (d + 1) r = true → kl.length + 1 + cntR (d + 1) r ≤ 1048576 →
  Calls Try.prog 73 #[.agg #[.int .i64 r.k, .int .i64 r.n, .string r.s, .slice A r.ps.length c], .slice Ak kl.length ck] w fun e w' => e = .returned (.bool (guS (d + 1) r kl)) ∧ Below w.heap.size w w'
theorem cnt_part {d : Nat} {t : Ex} {k : Nat} (hk : k < t.ps.length) : 1 + cntR d (exAt t.ps k) ≤ cntR (d + 1) t := by
  have := cnt_at (d := d) hk
  rw [cntR]; omega
theorem guS_no {d : Nat} {r : Ex} {kl : ExL} {k : Nat} (h7 : ¬ r.k = 7) (h8 : ¬ r.k = 8) (h14 : ¬ r.k = 14) (hk : k < r.ps.length) (h : guS d (exAt r.ps k) kl = false) : guS (d + 1) r kl = false := by
  rw [guS, if_neg h7, if_neg h8, if_neg h14, List.all_eq_false]
  exact ⟨_, List.getElem_mem hk, by rw [← exAt_eq hk, h]; simp⟩
theorem guS_yes {d : Nat} {r : Ex} {kl : ExL} (h7 : ¬ r.k = 7) (h8 : ¬ r.k = 8) (h14 : ¬ r.k = 14) (h : ∀ k, k < r.ps.length → guS d (exAt r.ps k) kl = true) : guS (d + 1) r kl = true := by
  rw [guS, if_neg h7, if_neg h8, if_neg h14, all_at]
  exact h
theorem exW.one {d : Nat} {w : World} {A : Option Addr} {l : ExL} (h : exW (d + 1) w A l) (hl : l.length = 1) : ∃ b off A0 c0, A = some ⟨b, off, none⟩ ∧ exW d w A0 (exAt l 0).ps ∧ (exAt l 0).s.size ≤ 9223372036854775807 ∧
    w.cell? ⟨b, off, none⟩ = some (.int .i64 (exAt l 0).k) ∧ w.cell? ⟨b, off + 1, none⟩ = some (.int .i64 (exAt l 0).n) ∧ w.cell? ⟨b, off + 2, none⟩ = some (.string (exAt l 0).s) ∧ w.cell? ⟨b, off + 3, none⟩ = some (.slice A0 (exAt l 0).ps.length c0) := by
  obtain ⟨b, off, rfl, hc⟩ := h.cells (by omega)
  obtain ⟨A0, c0, g0⟩ := hc 0 (by omega)
  rw [show off + 0 * 4 = off by omega] at g0
  exact ⟨b, off, A0, c0, rfl, g0⟩
set_option maxRecDepth 100000 in
set_option maxHeartbeats 8000000 in
theorem gsQ_of {d D : Nat} (hQ : ∀ m, d = m + 1 → GsQ m D) : GsQ d D := by
  intro A Ak r kl c ck w hU hs hK0 hD hg hn
  have hlen := exS.len hU
  have HG := Lib.hid hg
  have HQ := Lib.hid hQ
  have HN := Lib.hid hn
  clear hg hQ hn
  obtain ⟨W, hW⟩ : ∃ W, W = w.alloc (.cells #[.int .i64 r.k, .int .i64 r.n, .string r.s, .slice A r.ps.length c] 28) := ⟨_, rfl⟩
  obtain ⟨gx, hgx⟩ : ∃ g, g = w.heap.size := ⟨_, rfl⟩
  have hBW : Below w.heap.size w W := by rw [hW]; (repeat (first | exact Below.refl _ _ | refine ext_alloc ?_ _ | refine Below.setCell ?_ (by simp) _))
  have b0 : W.cell? ⟨gx, 0, none⟩ = some (.int .i64 r.k) := by rw [hW, hgx]; exact box_cell w _ _ 0 _ rfl
  have b1 : W.cell? ⟨gx, 1, none⟩ = some (.int .i64 r.n) := by rw [hW, hgx]; exact box_cell w _ _ 1 _ rfl
  have b2 : W.cell? ⟨gx, 2, none⟩ = some (.string r.s) := by rw [hW, hgx]; exact box_cell w _ _ 2 _ rfl
  have b3 : W.cell? ⟨gx, 3, none⟩ = some (.slice A r.ps.length c) := by rw [hW, hgx]; exact box_cell w _ _ 3 _ rfl
  have hUW := hU.below hBW
  have hKW := hK0.below hBW
  have HW := Lib.hid hW
  have HGX := Lib.hid hgx
  have HBW := Lib.hid hBW
  clear hW hgx hBW hU hK0
  by_cases h7 : r.k = 7
  · have e7 : (r.k == 7) = true := by simp [h7]
    have HR : Hid (guS (d + 1) r kl = false) := Lib.hid (by rw [guS, if_pos h7])
    clear h7
    go_enter Try.func73, Try.ntmps73
    go_wp2
    rw [← HW.out]
    go_ret
    exact ⟨by rw [HR.out]; rfl, HBW.out⟩
  have e7 : (r.k == 7) = false := by simp [h7]
  by_cases h8 : r.k = 8
  · have e8 : (r.k == 8) = true := by simp [h8]
    have hl := (head_8 (gd_head HG.out) h8).2
    have hd : ∃ m, d = m + 1 := by
      cases d with
      | zero => have := exS.zero hUW; rw [this] at hl; simp at hl
      | succ m => exact ⟨m, rfl⟩
    obtain ⟨m, hm⟩ := hd
    subst hm
    obtain ⟨D', hD'⟩ : ∃ D', D = D' + 1 := ⟨D - 1, by omega⟩
    subst hD'
    have HR : Hid (guS (m + 1 + 1) r kl = (hasB kl (asHas0 r) && guS (m + 1) (exAt r.ps 0) kl)) := Lib.hid (by rw [guS, if_neg h7, if_pos h8])
    have hcp := cnt_part (d := m + 1) (t := r) (k := 0) (by omega)
    have HC := Lib.hid (show kl.length + 1 + cntR (m + 1) (exAt r.ps 0) ≤ 1048576 by have := HN.out; omega)
    have HG0 := Lib.hid (gd_part HG.out (k := 0) (by omega))
    have HQ1 := Lib.hid (HQ.out m rfl)
    have HW2 := Lib.hid (show W = w.alloc (.cells #[.int .i64 r.k, .int .i64 r.n, .string r.s, .slice A 1 c] 28) by rw [HW.out, hl])
    obtain ⟨b, off, A0, c0, rfl, u0, s0, p0, p1, p2, p3⟩ := exW.one hUW hl
    rw [hl] at b3
    rw [hl]
    have HL := Lib.hid hl
    clear hcp h7 h8 hl hlen
    obtain ⟨Y, hY⟩ : ∃ Y, Y = W.alloc (.cells #[.int .i64 9, .int .i64 0, .string r.s, .slice (some ⟨b, off, none⟩) 1 c] 28) := ⟨_, rfl⟩
    have hBY : Below W.heap.size W Y := by rw [hY]; (repeat (first | exact Below.refl _ _ | refine ext_alloc ?_ _ | refine Below.setCell ?_ (by simp) _))
    have HUY := Lib.hid ((hUW.below hBY).deeper (show m + 1 ≤ D' by omega))
    have HKY := Lib.hid (hKW.below hBY)
    have HY := Lib.hid hY
    have HBY := Lib.hid hBY
    clear hY hBY
    obtain ⟨y, hy⟩ : ∃ y, hasB kl (asHas0 r) = y := ⟨_, rfl⟩
    have hcon : ∀ (X : World), X = Y → Calls Try.prog 120 #[.slice Ak kl.length ck, .agg #[.int .i64 9, .int .i64 0, .string r.s, .slice (some ⟨b, off, none⟩) 1 c]] X fun e w' => e = .returned (.bool y) ∧ Below Y.heap.size Y w' := by
      rintro X rfl
      have h := specHas_any (D := D') (l := kl) (r := asHas0 r) (A := Ak) (A' := some ⟨b, off, none⟩) (c := ck) (c' := c) (w := X) HKY.out HUY.out
      rw [hy] at h
      have hl2 : (asHas0 r).ps.length = 1 := HL.out
      rw [hl2] at h
      exact h
    have HCON := Lib.hid hcon
    have HYY := Lib.hid hy
    clear hcon hy
    cases y
    · go_enter Try.func73, Try.ntmps73
      go_wp2_with fail
      rw [← HW2.out]
      first | refine (HCON.out _ HY.out.symm).mono ?_ | (rw [← HY.out]; refine (HCON.out _ rfl).mono ?_)
      rintro e w1 ⟨rfl, hB⟩
      replace hB := ext_trans HBW.out (ext_trans HBY.out hB)
      clear b0 b1 b2 b3 p0 p1 p2 p3
      go_wp2
      go_ret
      exact ⟨by rw [HR.out, HYY.out]; rfl, hB⟩
    · go_enter Try.func73, Try.ntmps73
      go_wp2_with fail
      rw [← HW2.out, ← HGX.out]
      first | refine (HCON.out _ HY.out.symm).mono ?_ | (rw [← HY.out]; refine (HCON.out _ rfl).mono ?_)
      rintro e w1 ⟨rfl, hB⟩
      replace hB := ext_trans HBY.out hB
      replace b0 := below_cell hB b0
      replace b1 := below_cell hB b1
      replace b2 := below_cell hB b2
      replace b3 := below_cell hB b3
      replace p0 := below_cell hB p0
      replace p1 := below_cell hB p1
      replace p2 := below_cell hB p2
      replace p3 := below_cell hB p3
      replace u0 := u0.below hB
      replace hKW := hKW.below hB
      have HB := Lib.hid (ext_trans HBW.out hB)
      clear hB
      go_wp2_with fail
      refine (HQ1.out _ _ _ kl c0 ck _ u0 s0 hKW (by omega) HG0.out HC.out).mono ?_
      rintro e w2 ⟨rfl, hB⟩
      replace hB := ext_trans HB.out hB
      clear b0 b1 b2 b3 p0 p1 p2 p3
      go_wp2
      go_ret
      exact ⟨by rw [HR.out, HYY.out]; rfl, hB⟩
  have e8 : (r.k == 8) = false := by simp [h8]
  by_cases h14 : r.k = 14
  · have e14 : (r.k == 14) = true := by simp [h14]
    have hl := head_14 (gd_head HG.out) h14
    have HW2 := Lib.hid (show W = w.alloc (.cells #[.int .i64 r.k, .int .i64 r.n, .string r.s, .slice A 2 c] 28) by rw [HW.out, hl])
    have hd : ∃ m, d = m + 1 := by
      cases d with
      | zero => have := exS.zero hUW; rw [this] at hl; simp at hl
      | succ m => exact ⟨m, rfl⟩
    obtain ⟨m, hm⟩ := hd
    subst hm
    have HQ1 := Lib.hid (HQ.out m rfl)
    have HR : Hid (guS (m + 1 + 1) r kl = (guS (m + 1) (exAt r.ps 0) kl && guS (m + 1) (exAt r.ps 1) (knS (m + 1) (exAt r.ps 0) kl))) := Lib.hid (by rw [guS, if_neg h7, if_neg h8, if_pos h14])
    have hg0 := gd_part HG.out (k := 0) (by omega)
    have hg1 := gd_part HG.out (k := 1) (by omega)
    have hct := cnt_two (d := m + 1) hl
    have hkl := kn_len (m + 1) (exAt r.ps 0) kl hg0
    have hn := HN.out
    have hn0 : kl.length + 1 + cntR (m + 1) (exAt r.ps 0) ≤ 1048576 := by omega
    have hn1 : (knS (m + 1) (exAt r.ps 0) kl).length + 1 + cntR (m + 1) (exAt r.ps 1) ≤ 1048576 := by omega
    obtain ⟨b, off, A0, A1, c0, c1, rfl, ⟨u0, s0, p0, p1, p2, p3⟩, ⟨u1, s1, q0, q1, q2, q3⟩⟩ := exW.two hUW hl
    obtain ⟨K1, hK1⟩ : ∃ K1, K1 = knS (m + 1) (exAt r.ps 0) kl := ⟨_, rfl⟩
    rw [← hK1] at hn1
    have HC1 := Lib.hid hn0
    have HC2 := Lib.hid hn1
    have HG0 := Lib.hid hg0
    have HG1 := Lib.hid hg1
    have HK1 := Lib.hid hK1
    rw [hl] at b3
    rw [hl]
    have HL := Lib.hid hl
    obtain ⟨x, hx⟩ : ∃ x, guS (m + 1) (exAt r.ps 0) kl = x := ⟨_, rfl⟩
    obtain ⟨y, hy⟩ : ∃ y, guS (m + 1) (exAt r.ps 1) K1 = y := ⟨_, rfl⟩
    have HX := Lib.hid hx
    have HY := Lib.hid hy
    clear hlen hl h7 h8 h14 hn hn0 hn1 hct hkl hg0 hg1 hK1 hx hy
    cases x
    · go_enter Try.func73, Try.ntmps73
      go_wp2_with fail
      rw [← HW2.out, ← HGX.out]
      go_wp2_with fail
      refine wp_region_kinds2 (fun i wz vz => match i with | 0 => vz = .pointer (some ⟨gx, 3, Option.none⟩) | 1 => vz = .slice (some ⟨b, off, none⟩) 2 c | 2 => vz = .pointer (some ⟨b, off, Option.none⟩) | 3 => vz = .agg #[.int .i64 (exAt r.ps 0).k, .int .i64 (exAt r.ps 0).n, .string (exAt r.ps 0).s, .slice A0 (exAt r.ps 0).ps.length c0] | 4 => vz = .slice Ak kl.length ck | 5 => vz = .bool false | 6 => vz = .bool false | 18 => vz = .bool false | 19 => vz = .bool false | _ => True) (fun _ wz => Below W.heap.size W wz) (fun i w w' => Below w.heap.size w w') (fun _ => Option.none) (by kernel_rfl) (by kernel_rfl) (by kernel_rfl) ?stab8 (ext_drew (Below.refl _ _)) ?all8 ?fin8
      case stab8 =>
        intro i j wa wb v hR hk hne hd _ h2 hT
        match j, hk, hne, hd, h2, hT with
        | 0, hk, hne, hd, h2, hT => exact hT
        | 1, hk, hne, hd, h2, hT => exact hT
        | 2, hk, hne, hd, h2, hT => exact hT
        | 3, hk, hne, hd, h2, hT => exact hT
        | 4, hk, hne, hd, h2, hT => exact hT
        | 5, hk, hne, hd, h2, hT => exact hT
        | 6, hk, hne, hd, h2, hT => exact hT
        | 18, hk, hne, hd, h2, hT => exact hT
        | 19, hk, hne, hd, h2, hT => exact hT
        | 7, _, _, _, _, _ => trivial
        | 8, _, _, _, _, _ => trivial
        | 9, _, _, _, _, _ => trivial
        | 10, _, _, _, _, _ => trivial
        | 11, _, _, _, _, _ => trivial
        | 12, _, _, _, _, _ => trivial
        | 13, _, _, _, _, _ => trivial
        | 14, _, _, _, _, _ => trivial
        | 15, _, _, _, _, _ => trivial
        | 16, _, _, _, _, _ => trivial
        | 17, _, _, _, _, _ => trivial
        | n + 20, _, _, _, _, _ => trivial
      case all8 =>
        refine RAll.cons rfl ?_ (RAll.cons rfl ?_ (RAll.cons rfl ?_ (RAll.cons rfl ?_ (RAll.cons rfl ?_ (RAll.cons rfl ?_ (RAll.cons rfl ?_ (RAll.skipped 6 37 true rfl (by kernel_rfl) (fun _ _ h => h) ?_ (RAll.skipped 6 37 true rfl (by kernel_rfl) (fun _ _ h => h) ?_ (RAll.skipped 6 37 true rfl (by kernel_rfl) (fun _ _ h => h) ?_ (RAll.skipped 6 37 true rfl (by kernel_rfl) (fun _ _ h => h) ?_ (RAll.skipped 6 37 true rfl (by kernel_rfl) (fun _ _ h => h) ?_ (RAll.skipped 6 37 true rfl (by kernel_rfl) (fun _ _ h => h) ?_ (RAll.skipped 6 37 true rfl (by kernel_rfl) (fun _ _ h => h) ?_ (RAll.skipped 6 37 true rfl (by kernel_rfl) (fun _ _ h => h) ?_ (RAll.skipped 6 37 true rfl (by kernel_rfl) (fun _ _ h => h) ?_ (RAll.skipped 6 37 true rfl (by kernel_rfl) (fun _ _ h => h) ?_ (RAll.skipped 6 37 true rfl (by kernel_rfl) (fun _ _ h => h) ?_ (RAll.cons rfl ?_ (RAll.cons rfl ?_ (RAll.none_))))))))))))))))))))
        · intro a k wa K Q _ hI hp hK
          have e2 := tmp_of (show a.eval (.tmp 2) = .pointer (some ⟨gx, 0, none⟩) from hp.keep 2 (by kernel_rfl))
          go_simp
          exact hK _ _ rfl (Below.refl _ _) hI
        · intro a k wa K Q _ hI hp hK
          have e31 := tmp_of (show a.eval (.tmp 31) = .pointer (some ⟨gx, 3, Option.none⟩) from hp.dep 0 31 (by kernel_rfl))
          have b3_ := below_cell hI b3
          go_simp
          exact hK _ _ rfl (Below.refl _ _) hI
        · intro a k wa K Q _ hI hp hK
          have e32 := tmp_of (show a.eval (.tmp 32) = .slice (some ⟨b, off, none⟩) 2 c from hp.dep 1 32 (by kernel_rfl))
          go_simp
          exact hK _ _ (rfl) (Below.refl _ _) hI
        · intro a k wa K Q _ hI hp hK
          have e33 := tmp_of (show a.eval (.tmp 33) = .pointer (some ⟨b, off, Option.none⟩) from hp.dep 2 33 (by kernel_rfl))
          have p0_ := below_cell hI p0
          have p1_ := below_cell hI p1
          have p2_ := below_cell hI p2
          have p3_ := below_cell hI p3
          go_simp
          exact hK _ _ rfl (Below.refl _ _) hI
        · intro a k wa K Q _ hI hp hK
          exact op_move _ (.inl rfl) (hK _ _ (hp.keep 1 (by kernel_rfl)) (Below.refl _ _) hI)
        · intro a k wa K Q _ hI hp hK
          have e34 := tmp_of (show a.eval (.tmp 34) = .agg #[.int .i64 (exAt r.ps 0).k, .int .i64 (exAt r.ps 0).n, .string (exAt r.ps 0).s, .slice A0 (exAt r.ps 0).ps.length c0] from hp.dep 3 34 (by kernel_rfl))
          have e35 := tmp_of (show a.eval (.tmp 35) = .slice Ak kl.length ck from hp.dep 4 35 (by kernel_rfl))
          go_simp
          refine (HQ1.out _ _ _ kl c0 ck _ (u0.below hI) s0 (hKW.below hI) (by omega) HG0.out HC1.out).mono ?_
          rw [HX.out]
          rintro e wb ⟨rfl, hb⟩
          exact hK _ _ rfl hb (ext_trans hI hb)
        · intro a k wa K Q _ hI hp hK
          exact op_move _ (.inl rfl) (hK _ _ (hp.dep 5 36 (by kernel_rfl)) (Below.refl _ _) hI)
        · exact fun k wa hI => ⟨trivial, Below.refl _ _, hI⟩
        · exact fun k wa hI => ⟨trivial, Below.refl _ _, hI⟩
        · exact fun k wa hI => ⟨trivial, Below.refl _ _, hI⟩
        · exact fun k wa hI => ⟨trivial, Below.refl _ _, hI⟩
        · exact fun k wa hI => ⟨trivial, Below.refl _ _, hI⟩
        · exact fun k wa hI => ⟨trivial, Below.refl _ _, hI⟩
        · exact fun k wa hI => ⟨trivial, Below.refl _ _, hI⟩
        · exact fun k wa hI => ⟨trivial, Below.refl _ _, hI⟩
        · exact fun k wa hI => ⟨trivial, Below.refl _ _, hI⟩
        · exact fun k wa hI => ⟨trivial, Below.refl _ _, hI⟩
        · exact fun k wa hI => ⟨trivial, Below.refl _ _, hI⟩
        · intro a k wa K Q _ hI hp hK
          exact op_pick_f _ _ _ rfl (hp.dep 6 37 (by kernel_rfl)) (hK _ _ (rfl) (Below.refl _ _) hI)
        · intro a k wa K Q _ hI hp hK
          exact op_move _ (.inr rfl) (hK _ _ (hp.dep 18 49 (by kernel_rfl)) (Below.refl _ _) hI)
      case fin8 =>
        intro f w9 hT hI0
        have hI : Below W.heap.size W w9 := hI0
        have hr6 : (f 19) = .bool false := hT 19 (by decide) rfl rfl
        clear hT hI0
        simp only [putAll, hr6]
        go_simp
        go_wp2
        go_ret
        exact ⟨by rw [HR.out, HX.out]; rfl, ext_trans HBW.out hI⟩
    · go_enter Try.func73, Try.ntmps73
      go_wp2_with fail
      rw [← HW2.out, ← HGX.out]
      go_wp2_with fail
      refine wp_region_kinds2 (fun i wz vz => match i with | 0 => vz = .pointer (some ⟨gx, 3, Option.none⟩) | 1 => vz = .slice (some ⟨b, off, none⟩) 2 c | 2 => vz = .pointer (some ⟨b, off, Option.none⟩) | 3 => vz = .agg #[.int .i64 (exAt r.ps 0).k, .int .i64 (exAt r.ps 0).n, .string (exAt r.ps 0).s, .slice A0 (exAt r.ps 0).ps.length c0] | 4 => vz = .slice Ak kl.length ck | 5 => vz = .bool true | 6 => vz = .bool true | 7 => vz = .pointer (some ⟨gx, 3, Option.none⟩) | 8 => vz = .slice (some ⟨b, off, none⟩) 2 c | 9 => vz = .pointer (some ⟨b, off + 4, Option.none⟩) | 10 => vz = .agg #[.int .i64 (exAt r.ps 1).k, .int .i64 (exAt r.ps 1).n, .string (exAt r.ps 1).s, .slice A1 (exAt r.ps 1).ps.length c1] | 11 => vz = .pointer (some ⟨gx, 3, Option.none⟩) | 12 => vz = .slice (some ⟨b, off, none⟩) 2 c | 13 => vz = .pointer (some ⟨b, off, Option.none⟩) | 14 => vz = .agg #[.int .i64 (exAt r.ps 0).k, .int .i64 (exAt r.ps 0).n, .string (exAt r.ps 0).s, .slice A0 (exAt r.ps 0).ps.length c0] | 15 => vz = .slice Ak kl.length ck | 16 => KnV D K1 wz vz | 17 => vz = .bool y | 18 => vz = .bool y | 19 => vz = .bool y | _ => True) (fun _ wz => Below W.heap.size W wz) (fun i w w' => Below w.heap.size w w') (fun _ => Option.none) (by kernel_rfl) (by kernel_rfl) (by kernel_rfl) ?stab8 (ext_drew (Below.refl _ _)) ?all8 ?fin8
      case stab8 =>
        intro i j wa wb v hR hk hne hd _ h2 hT
        match j, hk, hne, hd, h2, hT with
        | 0, hk, hne, hd, h2, hT => exact hT
        | 1, hk, hne, hd, h2, hT => exact hT
        | 2, hk, hne, hd, h2, hT => exact hT
        | 3, hk, hne, hd, h2, hT => exact hT
        | 4, hk, hne, hd, h2, hT => exact hT
        | 5, hk, hne, hd, h2, hT => exact hT
        | 6, hk, hne, hd, h2, hT => exact hT
        | 7, hk, hne, hd, h2, hT => exact hT
        | 8, hk, hne, hd, h2, hT => exact hT
        | 9, hk, hne, hd, h2, hT => exact hT
        | 10, hk, hne, hd, h2, hT => exact hT
        | 11, hk, hne, hd, h2, hT => exact hT
        | 12, hk, hne, hd, h2, hT => exact hT
        | 13, hk, hne, hd, h2, hT => exact hT
        | 14, hk, hne, hd, h2, hT => exact hT
        | 15, hk, hne, hd, h2, hT => exact hT
        | 16, hk, hne, hd, h2, hT => exact KnV.below hT hR
        | 17, hk, hne, hd, h2, hT => exact hT
        | 18, hk, hne, hd, h2, hT => exact hT
        | 19, hk, hne, hd, h2, hT => exact hT
        | n + 20, _, _, _, _, _ => trivial
      case all8 =>
        refine RAll.cons rfl ?_ (RAll.cons rfl ?_ (RAll.cons rfl ?_ (RAll.cons rfl ?_ (RAll.cons rfl ?_ (RAll.cons rfl ?_ (RAll.cons rfl ?_ (RAll.guarded 6 37 true rfl (by kernel_rfl) (fun _ _ h => h) ?_ (RAll.guarded 6 37 true rfl (by kernel_rfl) (fun _ _ h => h) ?_ (RAll.guarded 6 37 true rfl (by kernel_rfl) (fun _ _ h => h) ?_ (RAll.guarded 6 37 true rfl (by kernel_rfl) (fun _ _ h => h) ?_ (RAll.guarded 6 37 true rfl (by kernel_rfl) (fun _ _ h => h) ?_ (RAll.guarded 6 37 true rfl (by kernel_rfl) (fun _ _ h => h) ?_ (RAll.guarded 6 37 true rfl (by kernel_rfl) (fun _ _ h => h) ?_ (RAll.guarded 6 37 true rfl (by kernel_rfl) (fun _ _ h => h) ?_ (RAll.guarded 6 37 true rfl (by kernel_rfl) (fun _ _ h => h) ?_ (RAll.guarded 6 37 true rfl (by kernel_rfl) (fun _ _ h => h) ?_ (RAll.guarded 6 37 true rfl (by kernel_rfl) (fun _ _ h => h) ?_ (RAll.cons rfl ?_ (RAll.cons rfl ?_ (RAll.none_))))))))))))))))))))
        · intro a k wa K Q _ hI hp hK
          have e2 := tmp_of (show a.eval (.tmp 2) = .pointer (some ⟨gx, 0, none⟩) from hp.keep 2 (by kernel_rfl))
          go_simp
          exact hK _ _ rfl (Below.refl _ _) hI
        · intro a k wa K Q _ hI hp hK
          have e31 := tmp_of (show a.eval (.tmp 31) = .pointer (some ⟨gx, 3, Option.none⟩) from hp.dep 0 31 (by kernel_rfl))
          have b3_ := below_cell hI b3
          go_simp
          exact hK _ _ rfl (Below.refl _ _) hI
        · intro a k wa K Q _ hI hp hK
          have e32 := tmp_of (show a.eval (.tmp 32) = .slice (some ⟨b, off, none⟩) 2 c from hp.dep 1 32 (by kernel_rfl))
          go_simp
          exact hK _ _ (rfl) (Below.refl _ _) hI
        · intro a k wa K Q _ hI hp hK
          have e33 := tmp_of (show a.eval (.tmp 33) = .pointer (some ⟨b, off, Option.none⟩) from hp.dep 2 33 (by kernel_rfl))
          have p0_ := below_cell hI p0
          have p1_ := below_cell hI p1
          have p2_ := below_cell hI p2
          have p3_ := below_cell hI p3
          go_simp
          exact hK _ _ rfl (Below.refl _ _) hI
        · intro a k wa K Q _ hI hp hK
          exact op_move _ (.inl rfl) (hK _ _ (hp.keep 1 (by kernel_rfl)) (Below.refl _ _) hI)
        · intro a k wa K Q _ hI hp hK
          have e34 := tmp_of (show a.eval (.tmp 34) = .agg #[.int .i64 (exAt r.ps 0).k, .int .i64 (exAt r.ps 0).n, .string (exAt r.ps 0).s, .slice A0 (exAt r.ps 0).ps.length c0] from hp.dep 3 34 (by kernel_rfl))
          have e35 := tmp_of (show a.eval (.tmp 35) = .slice Ak kl.length ck from hp.dep 4 35 (by kernel_rfl))
          go_simp
          refine (HQ1.out _ _ _ kl c0 ck _ (u0.below hI) s0 (hKW.below hI) (by omega) HG0.out HC1.out).mono ?_
          rw [HX.out]
          rintro e wb ⟨rfl, hb⟩
          exact hK _ _ rfl hb (ext_trans hI hb)
        · intro a k wa K Q _ hI hp hK
          exact op_move _ (.inl rfl) (hK _ _ (hp.dep 5 36 (by kernel_rfl)) (Below.refl _ _) hI)
        · intro a k wa K Q _ hI hp hK
          have e2 := tmp_of (show a.eval (.tmp 2) = .pointer (some ⟨gx, 0, none⟩) from hp.keep 2 (by kernel_rfl))
          go_simp
          exact hK _ _ rfl (Below.refl _ _) hI
        · intro a k wa K Q _ hI hp hK
          have e38 := tmp_of (show a.eval (.tmp 38) = .pointer (some ⟨gx, 3, Option.none⟩) from hp.dep 7 38 (by kernel_rfl))
          have b3_ := below_cell hI b3
          go_simp
          exact hK _ _ rfl (Below.refl _ _) hI
        · intro a k wa K Q _ hI hp hK
          have e39 := tmp_of (show a.eval (.tmp 39) = .slice (some ⟨b, off, none⟩) 2 c from hp.dep 8 39 (by kernel_rfl))
          go_simp
          exact hK _ _ (rfl) (Below.refl _ _) hI
        · intro a k wa K Q _ hI hp hK
          have e40 := tmp_of (show a.eval (.tmp 40) = .pointer (some ⟨b, off + 4, Option.none⟩) from hp.dep 9 40 (by kernel_rfl))
          have q0_ := below_cell hI q0
          have q1_ := below_cell hI q1
          have q2_ := below_cell hI q2
          have q3_ := below_cell hI q3
          go_simp
          exact hK _ _ rfl (Below.refl _ _) hI
        · intro a k wa K Q _ hI hp hK
          have e2 := tmp_of (show a.eval (.tmp 2) = .pointer (some ⟨gx, 0, none⟩) from hp.keep 2 (by kernel_rfl))
          go_simp
          exact hK _ _ rfl (Below.refl _ _) hI
        · intro a k wa K Q _ hI hp hK
          have e42 := tmp_of (show a.eval (.tmp 42) = .pointer (some ⟨gx, 3, Option.none⟩) from hp.dep 11 42 (by kernel_rfl))
          have b3_ := below_cell hI b3
          go_simp
          exact hK _ _ rfl (Below.refl _ _) hI
        · intro a k wa K Q _ hI hp hK
          have e43 := tmp_of (show a.eval (.tmp 43) = .slice (some ⟨b, off, none⟩) 2 c from hp.dep 12 43 (by kernel_rfl))
          go_simp
          exact hK _ _ (rfl) (Below.refl _ _) hI
        · intro a k wa K Q _ hI hp hK
          have e44 := tmp_of (show a.eval (.tmp 44) = .pointer (some ⟨b, off, Option.none⟩) from hp.dep 13 44 (by kernel_rfl))
          have p0_ := below_cell hI p0
          have p1_ := below_cell hI p1
          have p2_ := below_cell hI p2
          have p3_ := below_cell hI p3
          go_simp
          exact hK _ _ rfl (Below.refl _ _) hI
        · intro a k wa K Q _ hI hp hK
          exact op_move _ (.inl rfl) (hK _ _ (hp.keep 1 (by kernel_rfl)) (Below.refl _ _) hI)
        · intro a k wa K Q _ hI hp hK
          have e45 := tmp_of (show a.eval (.tmp 45) = .agg #[.int .i64 (exAt r.ps 0).k, .int .i64 (exAt r.ps 0).n, .string (exAt r.ps 0).s, .slice A0 (exAt r.ps 0).ps.length c0] from hp.dep 14 45 (by kernel_rfl))
          have e46 := tmp_of (show a.eval (.tmp 46) = .slice Ak kl.length ck from hp.dep 15 46 (by kernel_rfl))
          go_simp
          refine (knQ_all D m _ _ _ kl c0 ck _ (u0.below hI) s0 (hKW.below hI) (by omega) HG0.out HC1.out).mono ?_
          rw [← HK1.out]
          rintro e wb ⟨A5, c5, rfl, hk5, hb⟩
          exact hK _ _ ⟨A5, c5, rfl, hk5⟩ hb (ext_trans hI hb)
        · intro a k wa K Q _ hI hp hK
          have e41 := tmp_of (show a.eval (.tmp 41) = .agg #[.int .i64 (exAt r.ps 1).k, .int .i64 (exAt r.ps 1).n, .string (exAt r.ps 1).s, .slice A1 (exAt r.ps 1).ps.length c1] from hp.dep 10 41 (by kernel_rfl))
          have t47 : KnV D K1 wa (a.eval (.tmp 47)) := hp.dep 16 47 (by kernel_rfl)
          obtain ⟨A5, c5, e47, hk5⟩ := t47
          replace e47 := tmp_of e47
          go_simp
          refine (HQ1.out _ _ _ K1 c1 c5 _ (u1.below hI) s1 hk5 (by omega) HG1.out HC2.out).mono ?_
          rw [HY.out]
          rintro e wb ⟨rfl, hb⟩
          exact hK _ _ rfl hb (ext_trans hI hb)
        · intro a k wa K Q _ hI hp hK
          exact op_pick_t _ _ _ rfl (hp.dep 6 37 (by kernel_rfl)) (hK _ _ (hp.dep 17 48 (by kernel_rfl)) (Below.refl _ _) hI)
        · intro a k wa K Q _ hI hp hK
          exact op_move _ (.inr rfl) (hK _ _ (hp.dep 18 49 (by kernel_rfl)) (Below.refl _ _) hI)
      case fin8 =>
        intro f w9 hT hI0
        have hI : Below W.heap.size W w9 := hI0
        have hr6 : (f 19) = .bool y := hT 19 (by decide) rfl rfl
        clear hT hI0
        simp only [putAll, hr6]
        go_simp
        go_wp2
        go_ret
        exact ⟨by rw [HR.out, HX.out, ← HK1.out, HY.out]; rfl, ext_trans HBW.out hI⟩
  have e14 : (r.k == 14) = false := by simp [h14]
  have H7 := Lib.hid h7
  have H8 := Lib.hid h8
  have H14 := Lib.hid h14
  have HB3 := Lib.hid b3
  clear h7 h8 h14 b1 b2 b3
  go_enter Try.func73, Try.ntmps73
  go_wp2
  rw [← HW.out]
  have b3 := HB3.out
  first | rw [← HGX.out] | skip
  clear b0
  go_loopw [6] (fun i wr => ∃ k : Nat, k ≤ r.ps.length ∧ i = .int .i64 k ∧ Hid (∀ j, j < k → guS d (exAt r.ps j) kl = true) ∧ Below W.heap.size W wr) (fun i _ => r.ps.length - (intOf i).toNat)
  case atStart => exact ⟨0, Nat.zero_le _, rfl, Lib.hid (fun j h => by omega), Below.refl _ _⟩
  case round =>
    clear b3
    obtain ⟨k, hk, rfl, HA, hB⟩ := hrel
    have b3 := below_cell hB HB3.out
    by_cases hlt : k < r.ps.length
    · have hd : ∃ m, d = m + 1 := by
        cases d with
        | zero => have := exS.zero hUW; rw [this] at hlt; simp at hlt
        | succ m => exact ⟨m, rfl⟩
      obtain ⟨m, hm⟩ := hd
      subst hm
      have HQ1 := Lib.hid (HQ.out m rfl)
      obtain ⟨b, off, rfl, hc⟩ := hUW.cells (by omega)
      obtain ⟨A1, c1, hfd, hs1, p0, p1, p2, p3⟩ := hc k hlt
      replace p0 := below_cell hB p0
      replace p1 := below_cell hB p1
      replace p2 := below_cell hB p2
      replace p3 := below_cell hB p3
      replace hfd := hfd.below hB
      have hK2 := hKW.below hB
      have HC := Lib.hid (show kl.length + 1 + cntR (m + 1) (exAt r.ps k) ≤ 1048576 by have := HN.out; have := cnt_part (d := m + 1) hlt; omega)
      have HG0 := Lib.hid (gd_part HG.out hlt)
      clear hc
      obtain ⟨y, hy⟩ : ∃ y, guS (m + 1) (exAt r.ps k) kl = y := ⟨_, rfl⟩
      have HY := Lib.hid hy
      clear hy
      cases y
      all_goals
        go_wp2_with fail
        refine (HQ1.out _ _ _ kl c1 ck _ hfd hs1 hK2 (by omega) HG0.out HC.out).mono ?_
        rintro e w4 ⟨rfl, hb⟩
        rw [HY.out]
        replace hB := ext_trans hB hb
        clear hb p0 p1 p2 p3 b3
        go_wp2
      · go_ret
        exact ⟨by rw [guS_no H7.out H8.out H14.out hlt HY.out]; rfl, ext_trans HBW.out hB⟩
      · go_roundw
        case rel => exact ⟨k + 1, by omega, by go_num, Lib.hid (all_succ HA.out HY.out), hB⟩
        case measure => simp [intOf]; omega
    · obtain rfl : k = r.ps.length := by omega
      go_wp2
      go_ret
      exact ⟨by rw [guS_yes H7.out H8.out H14.out HA.out]; rfl, ext_trans HBW.out hB⟩
theorem gsQ_all (D : Nat) : ∀ d, GsQ d D
  | 0 => gsQ_of (fun m h => by cases h)
  | d + 1 => gsQ_of (fun m h => by cases h; exact gsQ_all D d)
end Go.Proofs.Ytodjokdaofefdaa
/- Expressions: sameness by the program. Printed by gen_same.py. -/
namespace Go.Proofs.Ytodjokdaofefdaa
set_option linter.unusedSimpArgs false
set_option linter.unusedVariables false
open Go.RowKit

def SmI (d : Nat) : Prop := ∀ (A A' : Option Addr) (r r' : Ex) (c c' : Nat) (w : World), exW d w A r.ps → exW d w A' r'.ps →
  Calls Try.prog 31 #[.agg #[.int .i64 r.k, .int .i64 r.n, .string r.s, .slice A r.ps.length c], .agg #[.int .i64 r'.k, .int .i64 r'.n, .string r'.s, .slice A' r'.ps.length c']] w fun e w' => e = .returned (.bool (sameX r r')) ∧ Below w.heap.size w w'
set_option maxRecDepth 100000 in
set_option maxHeartbeats 4000000 in
theorem smI_of {d : Nat} (hQ : ∀ m, d = m + 1 → SmI m) : SmI d := by
  intro A A' r r' c c' w hU hV
  have hl := exS.len hU
  have hl' := exS.len hV
  have HQ := Lib.hid hQ
  clear hQ
  have HD := Lib.hid (ex_sameX2 r r')
  by_cases h1 : r.k = r'.k
  · have e1 : (r.k != r'.k) = false := by simp [h1]
    have H1 := Lib.hid h1
    clear h1
    by_cases h2 : r.n = r'.n
    · have e2 : (r.n != r'.n) = false := by simp [h2]
      have H2 := Lib.hid h2
      clear h2
      by_cases h3 : r.s = r'.s
      · have e3 : (r.s.toList == r'.s.toList) = true := by simp [h3]
        have H3 := Lib.hid h3
        clear h3
        by_cases h4 : r.ps.length = r'.ps.length
        · have e4 : ((r.ps.length : Int) != r'.ps.length) = false := by simp [h4]
          have H4 := Lib.hid h4
          clear h4
          obtain ⟨W, hW⟩ : ∃ W, W = (w.alloc (.cells #[.int .i64 r.k, .int .i64 r.n, .string r.s, .slice A r.ps.length c] 28)).alloc (.cells #[.int .i64 r'.k, .int .i64 r'.n, .string r'.s, .slice A' r'.ps.length c'] 28) := ⟨_, rfl⟩
          have hBW : Below w.heap.size w W := by rw [hW]; (repeat (first | exact Below.refl _ _ | refine ext_alloc ?_ _ | refine Below.setCell ?_ (by simp) _))
          have b0 : W.cell? ⟨w.heap.size, 3, none⟩ = some (.slice A r.ps.length c) := by rw [hW]; exact below_cell (below_alloc _ _) (box_cell w _ _ 3 _ rfl)
          have b1 : W.cell? ⟨w.heap.size + 1, 3, none⟩ = some (.slice A' r'.ps.length c') := by rw [hW]; exact box_cell_at (by simp) rfl
          have HW := Lib.hid hW
          have HB0 := Lib.hid b0
          have HB1 := Lib.hid b1
          have HBW := Lib.hid hBW
          clear hW b0 b1 hBW
          go_enter Try.func31, Try.ntmps31
          go_wp2
          go_loopw [38] (fun i wr => ∃ k : Nat, k ≤ r.ps.length ∧ i = .int .i64 k ∧ Below W.heap.size W wr ∧ (∀ j, j < k → exAt r.ps j = exAt r'.ps j)) (fun i _ => r.ps.length - (intOf i).toNat)
          case atStart => exact ⟨0, Nat.zero_le _, rfl, by rw [HW.out]; exact Below.refl _ _, fun j h => by omega⟩
          case round =>
            obtain ⟨k, hk, rfl, hB, hgood⟩ := hrel
            have HG := Lib.hid hgood
            clear hgood
            have b0 := below_cell hB HB0.out
            have b1 := below_cell hB HB1.out
            by_cases hlt : k < r.ps.length
            · have hlt' : k < r'.ps.length := by rw [← H4.out]; exact hlt
              have hd : ∃ m, d = m + 1 := by
                cases d with
                | zero => have := exS.zero hU; rw [this] at hlt; simp at hlt
                | succ m => exact ⟨m, rfl⟩
              obtain ⟨m, hm⟩ := hd
              subst hm
              have HQ1 := Lib.hid (HQ.out m rfl)
              obtain ⟨b, off, rfl, hc⟩ := (hU.below HBW.out).cells (by omega)
              obtain ⟨b', off', rfl, hc'⟩ := (hV.below HBW.out).cells (by omega)
              obtain ⟨A1, c1, hfd, _, p0, p1, p2, p3⟩ := hc k hlt
              obtain ⟨A2, c2, hfd2, _, q0, q1, q2, q3⟩ := hc' k hlt'
              replace p0 := below_cell hB p0
              replace p1 := below_cell hB p1
              replace p2 := below_cell hB p2
              replace p3 := below_cell hB p3
              replace q0 := below_cell hB q0
              replace q1 := below_cell hB q1
              replace q2 := below_cell hB q2
              replace q3 := below_cell hB q3
              replace hfd := hfd.below hB
              replace hfd2 := hfd2.below hB
              clear hc hc'
              obtain ⟨W2, hW2⟩ : ∃ x, x = wr.alloc (.cells #[.int .i64 (exAt r.ps k).k, .int .i64 (exAt r.ps k).n, .string (exAt r.ps k).s, .slice A1 (exAt r.ps k).ps.length c1] 28) := ⟨_, rfl⟩
              have hB2 : Below wr.heap.size wr W2 := by rw [hW2]; exact below_alloc _ _
              have n0 : W2.cell? ⟨wr.heap.size, 0, none⟩ = some (.int .i64 (exAt r.ps k).k) := by rw [hW2]; exact box_cell wr _ _ 0 _ rfl
              have n1 : W2.cell? ⟨wr.heap.size, 1, none⟩ = some (.int .i64 (exAt r.ps k).n) := by rw [hW2]; exact box_cell wr _ _ 1 _ rfl
              have n2 : W2.cell? ⟨wr.heap.size, 2, none⟩ = some (.string (exAt r.ps k).s) := by rw [hW2]; exact box_cell wr _ _ 2 _ rfl
              have n3 : W2.cell? ⟨wr.heap.size, 3, none⟩ = some (.slice A1 (exAt r.ps k).ps.length c1) := by rw [hW2]; exact box_cell wr _ _ 3 _ rfl
              replace n0 := cell_regrown n0
              replace n1 := cell_regrown n1
              replace n2 := cell_regrown n2
              replace n3 := cell_regrown n3
              replace q0 := cell_regrown (below_cell hB2 q0)
              replace q1 := cell_regrown (below_cell hB2 q1)
              replace q2 := cell_regrown (below_cell hB2 q2)
              replace q3 := cell_regrown (below_cell hB2 q3)
              replace b1 := cell_regrown (below_cell hB2 b1)
              have HW2 := Lib.hid hW2
              have HB2 := Lib.hid hB2
              have HE := Lib.hid (fun (n : Nat) (os : Array Obj) => HQ1.out _ _ _ _ c1 c2 _ ((hfd.below hB2).regrown n os) ((hfd2.below hB2).regrown n os))
              clear hW2 hB2 b0 HQ1
              cases g : sameX (exAt r.ps k) (exAt r'.ps k)
              all_goals
                rw [g] at HE
                go_wp2
                rw [← HW2.out]
                refine wp_region_quiet_below (by kernel_rfl) (by kernel_rfl) ?_
                repeat (go_big_quiet_step ((go_at_call 31; (with_reducible exact Calls.regrown_of (HE.out _ _)))))
                refine wpQuiet_nil ?_
                intro w2 hw'regrown
                replace hB := ext_trans (ext_trans hB HB2.out) (below_of_regrown hw'regrown (Nat.le_refl _))
                clear hw'regrown p0 q0 p1 q1 p2 q2 p3 q3 b1 n0 n1 n2 n3
                go_wp2
              · go_ret
                exact ⟨ret_bool (by rw [eq_comm, sameX_false]; intro h; rw [h, sameX_self] at g; cases g), HBW.out.trans (hB.mono HBW.out.size)⟩
              · go_roundw
                case rel => exact ⟨k + 1, by omega, by go_num, hB, all_succ HG.out (sameX_true.1 g)⟩
                case measure => simp [intOf]; omega
            · obtain rfl : k = r.ps.length := by omega
              go_wp2
              go_ret
              exact ⟨ret_bool (by rw [eq_comm, sameX_true]; exact Ex.ext H1.out H2.out H3.out (by have := ex_same H4.out HG.out; exact sameX_true.1 this.symm)), HBW.out.trans (hB.mono HBW.out.size)⟩
        · have e4 : ((r.ps.length : Int) != r'.ps.length) = true := by simp; omega
          have H4 := Lib.hid h4
          clear h4
          go_enter Try.func31, Try.ntmps31
          go_wp2
          go_ret
          exact ⟨ret_bool (by rw [eq_comm, sameX_false]; intro h; exact H4.out (by rw [h])), by (repeat (first | exact Below.refl _ _ | refine ext_alloc ?_ _ | refine Below.setCell ?_ (by simp) _))⟩
      · have e3 : (r.s.toList == r'.s.toList) = false := by rw [str_beq]; simp [h3]
        have H3 := Lib.hid h3
        clear h3
        go_enter Try.func31, Try.ntmps31
        go_wp2
        go_ret
        exact ⟨ret_bool (by rw [eq_comm, sameX_false]; intro h; exact H3.out (by rw [h])), by (repeat (first | exact Below.refl _ _ | refine ext_alloc ?_ _ | refine Below.setCell ?_ (by simp) _))⟩
    · have e2 : (r.n != r'.n) = true := by simp [h2]
      have H2 := Lib.hid h2
      clear h2
      go_enter Try.func31, Try.ntmps31
      go_wp2
      go_ret
      exact ⟨ret_bool (by rw [eq_comm, sameX_false]; intro h; exact H2.out (by rw [h])), by (repeat (first | exact Below.refl _ _ | refine ext_alloc ?_ _ | refine Below.setCell ?_ (by simp) _))⟩
  · have e1 : (r.k != r'.k) = true := by simp [h1]
    have H1 := Lib.hid h1
    clear h1
    go_enter Try.func31, Try.ntmps31
    go_wp2
    go_ret
    exact ⟨ret_bool (by rw [eq_comm, sameX_false]; intro h; exact H1.out (by rw [h])), by (repeat (first | exact Below.refl _ _ | refine ext_alloc ?_ _ | refine Below.setCell ?_ (by simp) _))⟩
theorem smI_all : ∀ d, SmI d
  | 0 => smI_of (fun m h => by cases h)
  | d + 1 => smI_of (fun m h => by cases h; exact smI_all d)
end Go.Proofs.Ytodjokdaofefdaa

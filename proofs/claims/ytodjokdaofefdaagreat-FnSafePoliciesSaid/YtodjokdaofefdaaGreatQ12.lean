/- A region that draws its order with an append and stores behind it in any order: what holds ahead of the append, what holds behind each store, of the value that the append gave. -/
import Derived.Test.YtodjokdaofefdaaGreatQ9
import Derived.Test.YtodjokdaofefdaaGreatQ2
import Derived.Test.YtodjokdaofefdaaGreatQ8
namespace Go.Proofs.YtodjokdaofefdaaGreat
set_option linter.unusedSimpArgs false
set_option linter.unusedVariables false
open Go.RowKit

structure RPreL (ops : Array Oper) (a0 : Act) (T : Nat → Value → World → Value → Prop) (gc : Option Nat) (m0 : Nat) (s0 : Tmp) (G : World → Prop) (i : Nat) (a : Act) (w : World) : Prop where
  dep : ∀ j s, depSlot ops i s j = true → T j (a.eval (.tmp s0)) w (a.eval (.tmp s))
  keep : ∀ s, keepSlot ops i s = true → a.eval (.tmp s) = a0.eval (.tmp s)
  pre : ∀ n, (∀ c, gc = some c → reachB ops n c i = true) → G w
  base : depB ops i m0 = true → T m0 (a.eval (.tmp s0)) w (a.eval (.tmp s0))
structure RGoodL (ops : Array Oper) (a0 : Act) (T : Nat → Value → World → Value → Prop) (Inv : Nat → World → Prop) (kill : Nat → Option Nat) (gc : Option Nat) (gd : Nat → Bool) (s0 : Tmp) (G : World → Prop) (H : Nat → Value → World → Prop) (k : Nat) (listed : Array Bool) (a : Act) (w : World) : Prop where
  size : a.tmps.size = a0.tmps.size
  defers : a.defers = a0.defers
  inv : Inv k w
  lsize : listed.size = ops.size
  closed : ∀ i j, listed.getD i false = true → depB ops i j = true → listed.getD j false = true
  done : ∀ i d, dstOf ops i = some d → listed.getD i false = true → (∀ c, kill i = some c → listed.getD c false = false) → T i (a.eval (.tmp s0)) w (a.eval (.tmp d))
  todo : ∀ s, (∀ i, dstOf ops i = some s → listed.getD i false = false) → a.eval (.tmp s) = a0.eval (.tmp s)
  pre : (∀ c, gc = some c → listed.getD c false = false) → G w
  post : ∀ c, gd c = true → listed.getD c false = true → H c (a.eval (.tmp s0)) w

def ROneL (P : Program) (ops : Array Oper) (a0 : Act) (T : Nat → Value → World → Value → Prop) (Inv : Nat → World → Prop) (Rel : Nat → World → World → Prop) (gc : Option Nat) (gd : Nat → Bool) (m0 : Nat) (s0 : Tmp) (G : World → Prop) (H : Nat → Value → World → Prop) (i : Nat) (o : Oper) : Prop :=
  ∀ (a : Act) (k : Nat) (w : World) (K : Act → World → Prop) (Q : Exit → Act → World → Prop), k < ops.size → Inv k w → RPreL ops a0 T gc m0 s0 G i a w →
    (∀ v w', T i (if i = m0 then v else a.eval (.tmp s0)) w' v → Rel i w w' → Inv (k + 1) w' → (gd i = true → H i (a.eval (.tmp s0)) w') → K (a.put o.dst v) w') → if Region.wanted o (yielded ops a.tmps) = true then o.wp P a w K Q else K (a.put o.dst undef) w

section
variable {P : Program} {ops : Array Oper} {n : Nat} {a0 : Act} {T : Nat → Value → World → Value → Prop} {Inv : Nat → World → Prop} {Rel : Nat → World → World → Prop} {kill : Nat → Option Nat} {gc : Option Nat} {gd : Nat → Bool} {m0 : Nat} {s0 : Tmp} {G : World → Prop} {H : Nat → Value → World → Prop}
theorem region_any_stepL (hok : okRegion ops a0.tmps.size = true) (hkill : okKill ops kill = true) (hstab : ∀ i j w w' v, Rel i w w' → kill j ≠ some i → j ≠ i → depB ops j i = false → (∀ c, kill j = some c → depB ops i c = false) → (∀ m, depB ops j m = true → depB ops m i = false) → ∀ u, T j u w v → T j u w' v)
    (hstabG : ∀ i w w', Rel i w w' → gc ≠ some i → (∀ c, gc = some c → depB ops i c = false) → G w → G w') (hm0 : dstOf ops m0 = some s0) (hdm : ∀ c, gd c = true → depB ops c m0 = true) (hkm : kill m0 = Option.none) (hTu : ∀ i u u' w v, depB ops i m0 = false → i ≠ m0 → T i u w v → T i u' w v) (hstabH : ∀ c i w w' u, gd c = true → Rel i w w' → c ≠ i → depB ops c i = false → H c u w → H c u w') (hone : ∀ i o, ops[i]? = some o → ROneL P ops a0 T Inv Rel gc gd m0 s0 G H i o) {Q : Exit → Act → World → Prop}
    (hQ : ∀ listed a w, (∀ i, i < ops.size → listed.getD i true = true) → RGoodL ops a0 T Inv kill gc gd s0 G H ops.size listed a w → Q .normal a w) :
    ∀ (fuel k : Nat) (listed : Array Bool) (a : Act) (w : World), k + fuel = ops.size → unl ops.size (fun i => !listed.getD i true) = fuel → RGoodL ops a0 T Inv kill gc gd s0 G H k listed a w → wpAny P .any ops Q fuel listed a w := by
  intro fuel
  induction fuel with
  | zero =>
    intro k listed a w hk hu hg
    have hall := unl_zero hu
    have hr : Region.ready .any ops listed = [] := by
      apply List.eq_nil_iff_forall_not_mem.2
      intro i hi
      obtain ⟨h1, h2, _⟩ := mem_ready_iff.1 hi
      have := hall i h1
      simp [h2] at this
    obtain rfl : k = ops.size := by omega
    exact ⟨hr, hQ listed a w (fun i hi => by simpa using hall i hi) hg⟩
  | succ fuel ih =>
    intro k listed a w hk hu hg
    refine ⟨fun hr => ?_, fun i hi => ?_⟩
    · exfalso
      have hex : ∃ i, i < ops.size ∧ listed.getD i true = false := by
        by_cases h : ∃ i, i < ops.size ∧ listed.getD i true = false
        · exact h
        · exfalso
          have : unl ops.size (fun i => !listed.getD i true) = 0 := by
            unfold unl
            rw [List.filter_eq_nil_iff.2]
            · rfl
            · intro j hj
              simp only [Bool.not_eq_true', Bool.not_eq_false]
              cases hh : listed.getD j true with
              | true => rfl
              | false => exact absurd ⟨j, List.mem_range.1 hj, hh⟩ h
          omega
      have hmin : ∀ m, (∃ i, i < m ∧ i < ops.size ∧ listed.getD i true = false) → ∃ i, i < ops.size ∧ listed.getD i true = false ∧ ∀ j, j < i → listed.getD j true = true := by
        intro m
        induction m with
        | zero => rintro ⟨i, h, _⟩; omega
        | succ m ihm =>
          rintro ⟨i, h1, h2, h3⟩
          by_cases h : ∃ i, i < m ∧ i < ops.size ∧ listed.getD i true = false
          · exact ihm h
          · refine ⟨i, h2, h3, fun j hj => ?_⟩
            cases hh : listed.getD j true with
            | true => rfl
            | false => exact absurd ⟨j, by omega, by omega, hh⟩ h
      obtain ⟨i, h1, h2⟩ := hex
      obtain ⟨i, h1, h2, h3⟩ := hmin (i + 1) ⟨i, by omega, h1, h2⟩
      have := ready_first hok hg.lsize h1 h2 h3
      rw [hr] at this
      cases this
    · obtain ⟨h1, h2, h3⟩ := mem_ready_iff.1 hi
      have hli : listed.getD i false = false := by
        rw [Array.getD_eq_getD_getElem?, Array.getElem?_eq_getElem (by rw [hg.lsize]; exact h1)] at h2 ⊢
        exact h2
      have hdeps : ∀ j, depB ops i j = true → listed.getD j false = true := by
        intro j hd
        simp only [depB, Array.getElem?_eq_getElem h1, Option.map_some, Option.getD_some] at hd
        obtain ⟨e, he, hd⟩ := Array.any_eq_true.1 hd
        rw [Array.getElem?_eq_getElem h1] at h3
        simp only [Option.map_some, Option.getD_some] at h3
        have := Array.all_eq_true.1 h3 e he
        simp only [Bool.and_eq_true, beq_iff_eq] at hd
        rw [hd.1, hd.2] at this
        simpa using this
      have hpre : RPreL ops a0 T gc m0 s0 G i a w := by
        refine ⟨fun j s hd => ?_, fun s hs => ?_, fun n hpr => hg.pre fun c hc => ?_, fun hd => hg.done m0 s0 hm0 (hdeps m0 hd) (fun c hc => by rw [hkm] at hc; cases hc)⟩
        · simp only [depSlot, Bool.and_eq_true, beq_iff_eq] at hd
          have hd1 := readB_dep hd.1
          refine hg.done j s hd.2 (hdeps j hd1) (fun c hc => ?_)
          have hji := okRegion_dep hok hd1
          have := List.all_eq_true.1 (List.all_eq_true.1 hkill i (List.mem_range.2 hji.2)) j (List.mem_range.2 (by omega))
          simp only [hd.1, hc, Bool.not_true, Bool.false_or, Bool.or_eq_true, beq_iff_eq] at this
          rcases this with rfl | hci
          · exact hli
          · cases hh : listed.getD c false with
            | false => rfl
            | true =>
              have := hg.closed c i hh hci
              rw [hli] at this
              cases this
        · refine hg.todo s (fun j hj => ?_)
          have hjs : j < ops.size := by
            unfold dstOf at hj
            cases ho : ops[j]? with
            | none => simp [ho] at hj
            | some o => exact (Array.getElem?_eq_some_iff.1 ho).1
          have := List.all_eq_true.1 hs j (List.mem_range.2 hjs)
          simp only [hj, bne_self_eq_false, Bool.false_or] at this
          cases hh : listed.getD j false with
          | false => rfl
          | true =>
            have := hg.closed j i hh this
            rw [hli] at this
            cases this
        · cases hh : listed.getD c false with
          | false => rfl
          | true =>
            have := reach_listed hg.closed n c i hh (hpr c hc)
            rw [hli] at this
            cases this
      have hgood : ∀ v w', T i (if i = m0 then v else a.eval (.tmp s0)) w' v → Rel i w w' → Inv (k + 1) w' → (gd i = true → H i (a.eval (.tmp s0)) w') → RGoodL ops a0 T Inv kill gc gd s0 G H (k + 1) (listed.setIfInBounds i true) (a.put ((ops[i]?).bind (·.dst)) v) w' := by
        intro v w' hT hR hI hH
        have hset : ∀ j, (listed.setIfInBounds i true).getD j false = if j = i then true else listed.getD j false := by
          intro j
          simp only [Array.getD_eq_getD_getElem?, Array.getElem?_setIfInBounds]
          by_cases hji : j = i
          · subst hji; simp [hg.lsize, h1]
          · rw [if_neg (fun e => hji e.symm), if_neg hji]
        have hkeep : i ≠ m0 → (a.put ((ops[i]?).bind (·.dst)) v).eval (.tmp s0) = a.eval (.tmp s0) := fun hne => by
          cases h : (ops[i]?).bind (·.dst) with
          | none => rfl
          | some d' =>
            rw [eval_put, if_neg]
            rintro ⟨rfl, _⟩
            exact hne (okRegion_uniq hok h hm0)
        have hu : (a.put ((ops[i]?).bind (·.dst)) v).eval (.tmp s0) = if i = m0 then v else a.eval (.tmp s0) := by
          by_cases e : i = m0
          · rw [if_pos e]
            have hd' : (ops[i]?).bind (·.dst) = some s0 := by rw [e]; exact hm0
            rw [hd', eval_put, if_pos ⟨rfl, by rw [hg.size]; exact (okRegion_dst hok (by rw [e] at hd'; exact hd')).1⟩]
          · rw [if_neg e]; exact hkeep e
        refine ⟨?_, ?_, hI, by simpa using hg.lsize, ?_, ?_, ?_, fun hpr => hstabG i w w' hR (fun e => ?_) (fun c hc => ?_) (hg.pre fun c hc => ?_), fun c hc hl => ?_⟩
        · cases h : (ops[i]?).bind (·.dst) <;> simpa [Act.put] using hg.size
        · cases h : (ops[i]?).bind (·.dst) <;> simpa [Act.put] using hg.defers
        · intro x y hx hd
          rw [hset] at hx ⊢
          by_cases hyi : y = i
          · rw [if_pos hyi]
          · rw [if_neg hyi]
            by_cases hxi : x = i
            · subst hxi; exact hdeps y hd
            · rw [if_neg hxi] at hx; exact hg.closed x y hx hd
        · intro x d hd hx hkx
          rw [hset] at hx
          by_cases hxi : x = i
          · subst hxi
            have hd' : (ops[x]?).bind (·.dst) = some d := hd
            have ev : (a.put ((ops[x]?).bind (·.dst)) v).eval (.tmp d) = v := by rw [hd', eval_put, if_pos ⟨rfl, by rw [hg.size]; exact (okRegion_dst hok hd).1⟩]
            rw [hu, ev]
            exact hT
          · rw [if_neg hxi] at hx
            have hv : (a.put ((ops[i]?).bind (·.dst)) v).eval (.tmp d) = a.eval (.tmp d) := by
              cases h : (ops[i]?).bind (·.dst) with
              | none => rfl
              | some d' =>
                rw [eval_put, if_neg]
                rintro ⟨rfl, _⟩
                exact hxi (okRegion_uniq hok hd h)
            rw [hv, hu]
            suffices hs : T x (a.eval (.tmp s0)) w' (a.eval (.tmp d)) by
              by_cases e : i = m0
              · rw [if_pos e]
                refine hTu _ _ _ _ _ ?_ (fun e2 => hxi (e2.trans e.symm)) hs
                cases hh : depB ops x m0 with
                | false => rfl
                | true =>
                  have := hg.closed x m0 hx hh
                  rw [← e, hli] at this
                  cases this
              · rw [if_neg e]; exact hs
            refine hstab _ _ _ _ _ hR (fun e => ?_) hxi ?_ (fun c hc => ?_) (fun m hm => ?_) _ (hg.done x d hd hx (fun c hc => ?_))
            · have := hkx i e
              rw [hset, if_pos rfl] at this
              cases this
            · cases hh : depB ops x i with
              | false => rfl
              | true =>
                have := hg.closed x i hx hh
                rw [hli] at this
                cases this
            · cases hh : depB ops i c with
              | false => rfl
              | true =>
                have hl1 := hdeps c hh
                have hl2 := hkx c hc
                rw [hset] at hl2
                by_cases hci : c = i
                · subst hci; exact Bool.noConfusion (hl1.symm.trans hli)
                · rw [if_neg hci, hl1] at hl2; cases hl2
            · cases hh : depB ops m i with
              | false => rfl
              | true =>
                have := hg.closed m i (hg.closed x m hx hm) hh
                rw [hli] at this
                cases this
            · have := hkx c hc
              rw [hset] at this
              by_cases hci : c = i
              · subst hci; exact hli
              · rwa [if_neg hci] at this
        · intro s hs
          have hsi : dstOf ops i ≠ some s := fun e => by
            have := hs i e
            rw [hset, if_pos rfl] at this
            cases this
          have hv : (a.put ((ops[i]?).bind (·.dst)) v).eval (.tmp s) = a.eval (.tmp s) := by
            cases h : (ops[i]?).bind (·.dst) with
            | none => rfl
            | some d' =>
              rw [eval_put, if_neg]
              rintro ⟨rfl, _⟩
              exact hsi h
          rw [hv]
          refine hg.todo s (fun j hj => ?_)
          have := hs j hj
          rw [hset] at this
          by_cases hji : j = i
          · subst hji; exact hli
          · rwa [if_neg hji] at this
        · have := hpr i e
          rw [hset, if_pos rfl] at this
          cases this
        · cases hh : depB ops i c with
          | false => rfl
          | true =>
            have h1 := hdeps c hh
            have := hpr c hc
            rw [hset] at this
            by_cases hci : c = i
            · subst hci; rw [if_pos rfl] at this; cases this
            · rw [if_neg hci, h1] at this; cases this
        · have := hpr c hc
          rw [hset] at this
          by_cases hji : c = i
          · subst hji; exact hli
          · rwa [if_neg hji] at this
        · rw [hset] at hl
          by_cases hci : c = i
          · subst hci
            rw [hkeep (fun e => by
              have := hdeps m0 (hdm c hc)
              rw [← e, hli] at this
              cases this)]
            exact hH hc
          · rw [if_neg hci] at hl
            rw [hkeep (fun e => by
              have := hg.closed c m0 hl (hdm c hc)
              rw [← e, hli] at this
              cases this)]
            refine hstabH c i w w' _ hc hR hci ?_ (hg.post c hc hl)
            cases hh : depB ops c i with
            | false => rfl
            | true =>
              have := hg.closed c i hl hh
              rw [hli] at this
              cases this
      have hunl : unl ops.size (fun j => !(listed.setIfInBounds i true).getD j true) = fuel := by
        have := unl_set (p := fun j => !listed.getD j true) (p' := fun j => !(listed.setIfInBounds i true).getD j true) (i := i) (by simp [h2]) (by
          simp [Array.getD_eq_getD_getElem?, Array.getElem?_setIfInBounds, hg.lsize, h1]) (fun j hj => by
          simp only [Array.getD_eq_getD_getElem?, Array.getElem?_setIfInBounds]
          rw [if_neg (fun e => hj e.symm)]) ops.size
        rw [if_pos h1] at this
        omega
      have h := hone i ops[i] (Array.getElem?_eq_getElem h1) a k w (wpAny P .any ops Q fuel (listed.setIfInBounds i true)) Q (by omega) hg.inv hpre (fun v w' hT hR hI hH => by
        have := hgood v w' hT hR hI hH
        rw [Array.getElem?_eq_getElem h1] at this
        exact ih (k + 1) _ _ _ (by omega) hunl this)
      unfold wpOp
      rw [Array.getElem?_eq_getElem h1]
      simp only
      split
      · rename_i hw; rw [if_pos hw] at h; exact .inl h
      · rename_i hw; rw [if_neg hw] at h; exact h

/-- The obligations, an operation at a time. -/
def RAllL (P : Program) (ops : Array Oper) (a0 : Act) (T : Nat → Value → World → Value → Prop) (Inv : Nat → World → Prop) (Rel : Nat → World → World → Prop) (gc : Option Nat) (gd : Nat → Bool) (m0 : Nat) (s0 : Tmp) (G : World → Prop) (H : Nat → Value → World → Prop) : List Oper → Nat → Prop
  | [], _ => True
  | o :: l, i => ROneL P ops a0 T Inv Rel gc gd m0 s0 G H i o ∧ RAllL P ops a0 T Inv Rel gc gd m0 s0 G H l (i + 1)
theorem RAllL.at {l : List Oper} {i : Nat} (h : RAllL P ops a0 T Inv Rel gc gd m0 s0 G H l i) : ∀ (j : Nat) (o : Oper), l[j]? = some o → ROneL P ops a0 T Inv Rel gc gd m0 s0 G H (i + j) o := by
  induction l generalizing i with
  | nil => intro j o hj; simp at hj
  | cons o' l ih =>
    intro j o hj
    cases j with
    | zero => obtain rfl : o' = o := by simpa using hj
              exact h.1
    | succ j =>
      have := ih h.2 j o (by simpa using hj)
      rwa [show i + 1 + j = i + (j + 1) by omega] at this

theorem wp_region_draws2L (gc : Option Nat) (gd : Nat → Bool) (m0 : Nat) (s0 : Tmp) (G : World → Prop) (H : Nat → Value → World → Prop) (T : Nat → Value → World → Value → Prop) (Inv : Nat → World → Prop) (Rel : Nat → World → World → Prop) (kill : Nat → Option Nat) {id : Nat} {Q : Exit → Act → World → Prop} {w : World} {l : List Oper} (hm : P.follows .mixedOrders = true)
    (hok : okRegion l.toArray a0.tmps.size = true) (hkill : okKill l.toArray kill = true) (hstab : ∀ i j w w' v, Rel i w w' → kill j ≠ some i → j ≠ i → depB l.toArray j i = false → (∀ c, kill j = some c → depB l.toArray i c = false) → (∀ m, depB l.toArray j m = true → depB l.toArray m i = false) → ∀ u, T j u w v → T j u w' v) (hstabG : ∀ i w w', Rel i w w' → gc ≠ some i → (∀ c, gc = some c → depB l.toArray i c = false) → G w → G w') (hm0 : dstOf l.toArray m0 = some s0) (hdm : ∀ c, gd c = true → depB l.toArray c m0 = true) (hkm : kill m0 = Option.none) (hTu : ∀ i u u' w v, depB l.toArray i m0 = false → i ≠ m0 → T i u w v → T i u' w v) (hstabH : ∀ c i w w' u, gd c = true → Rel i w w' → c ≠ i → depB l.toArray c i = false → H c u w → H c u w') (hI : Inv 0 w.drew) (hG : G w.drew) (hone : RAllL P l.toArray a0 T Inv Rel gc gd m0 s0 G H l 0)
    (hQ : ∀ (f : Nat → Value) (w' : World), (∀ i, i < l.length → (dstOf l.toArray i).isSome = true → (kill i).isNone = true → T i (f m0) w' (f i)) → Inv l.length w' → (∀ c, gd c = true → c < l.length → H c (f m0) w') → Q .normal (putAll f l 0 a0) w') : (Code.region id l.toArray true).wp P Q a0 w := by
  refine wp_region_any hm (region_any_stepL (a0 := a0) (T := T) (Inv := Inv) (Rel := Rel) (kill := kill) (gc := gc) (gd := gd) (m0 := m0) (s0 := s0) (G := G) (H := H) hok hkill hstab hstabG hm0 hdm hkm hTu hstabH (fun i o ho => by
    have := RAllL.at hone i o (by simpa using ho)
    simpa using this) ?_ _ 0 _ a0 _ (by simp) ?_ ?_)
  · intro listed a w' hall hg
    have hlist : ∀ i, i < l.length → listed.getD i false = true := fun i hi => by
      have := hall i (by simpa using hi)
      rw [Array.getD_eq_getD_getElem?, Array.getElem?_eq_getElem (by rw [hg.lsize]; simpa using hi)] at this ⊢
      exact this
    have hlt : ∀ i d, dstOf l.toArray i = some d → i < l.length := fun i d hd => by
      unfold dstOf at hd
      cases ho : l.toArray[i]? with
      | none => simp [ho] at hd
      | some o => simpa using (Array.getElem?_eq_some_iff.1 ho).1
    have he : a = putAll (fun i => a.eval (.tmp ((dstOf l.toArray i).getD 0))) l 0 a0 := by
      have hp := putAll_defers (fun i => a.eval (.tmp ((dstOf l.toArray i).getD 0))) l 0 a0
      refine act_ext (hg.size.trans hp.2.symm) (hg.defers.trans hp.1.symm) (fun s hs => ?_)
      by_cases h : ∃ i, dstOf l.toArray i = some s
      · obtain ⟨i, hi⟩ := h
        have hi' := hi
        unfold dstOf at hi'
        cases ho : l.toArray[i]? with
        | none => simp [ho] at hi'
        | some o =>
          simp only [ho, Option.bind_some] at hi'
          rw [putAll_some _ l 0 a0 s i o (by simpa using ho) hi' (fun j o' ho' hd' => okRegion_uniq hok (d := s) (by simp [dstOf, ho', hd']) hi) (by rw [← hg.size]; exact hs)]
          simp [hi]
      · rw [putAll_none _ l 0 a0 s (fun j o ho hd => h ⟨j, by simp [dstOf, ho, hd]⟩)]
        exact hg.todo s (fun i hi => absurd ⟨i, hi⟩ h)
    rw [he]
    refine hQ _ _ (fun i hi hs hk => ?_) (by simpa using hg.inv) (fun c hc hl => by
      have := hg.post c hc (hlist c hl)
      simp only [hm0, Option.getD_some]
      exact this)
    obtain ⟨d, hd⟩ := Option.isSome_iff_exists.1 hs
    simp only [hd, hm0, Option.getD_some]
    exact hg.done i d hd (hlist i hi) (fun c hc => by rw [hc] at hk; cases hk)
  · have : ∀ N, unl N (fun i => !(Array.replicate N false).getD i true) = N := by
      intro N
      unfold unl
      rw [List.filter_eq_self.2]
      · simp
      · intro i hi
        simp [Array.getD_eq_getD_getElem?, List.mem_range.1 hi]
    exact this _
  · refine ⟨rfl, rfl, hI, by simp, ?_, ?_, fun _ _ => rfl, fun _ => hG, fun c _ h => ?_⟩
    · intro i j h
      simp [Array.getD_eq_getD_getElem?, Array.getElem?_replicate] at h
      split at h <;> simp at h
    · intro i d _ h _
      simp [Array.getD_eq_getD_getElem?, Array.getElem?_replicate] at h
      split at h <;> simp at h
    · simp [Array.getD_eq_getD_getElem?, Array.getElem?_replicate] at h
      split at h <;> simp at h

end
section
variable {P : Program} {ops : Array Oper} {a0 : Act} {T : Nat → Value → World → Value → Prop} {Inv : Nat → World → Prop} {Rel : Nat → World → World → Prop} {gc : Option Nat} {gd : Nat → Bool} {m0 : Nat} {s0 : Tmp} {G : World → Prop} {H : Nat → Value → World → Prop}
theorem RAllL.none_ {i : Nat} : RAllL P ops a0 T Inv Rel gc gd m0 s0 G H [] i := trivial
theorem RAllL.cons {o : Oper} {l : List Oper} {i : Nat} (hg : o.guard = Option.none) (h : ∀ (a : Act) (k : Nat) (w : World) (K : Act → World → Prop) (Q : Exit → Act → World → Prop), k < ops.size → Inv k w → RPreL ops a0 T gc m0 s0 G i a w →
    (∀ v w', T i (if i = m0 then v else a.eval (.tmp s0)) w' v → Rel i w w' → Inv (k + 1) w' → (gd i = true → H i (a.eval (.tmp s0)) w') → K (a.put o.dst v) w') → o.wp P a w K Q) (hl : RAllL P ops a0 T Inv Rel gc gd m0 s0 G H l (i + 1)) : RAllL P ops a0 T Inv Rel gc gd m0 s0 G H (o :: l) i :=
  ⟨fun a k w K Q h1 h2 h3 h4 => by
    have : Region.wanted o (yielded ops a.tmps) = true := by simp [Region.wanted, hg]
    rw [if_pos this]
    exact h a k w K Q h1 h2 h3 h4, hl⟩
end
end Go.Proofs.YtodjokdaofefdaaGreat
/- A region that draws its order: constants, one box that it makes, and one store into it. -/
namespace Go.Proofs.YtodjokdaofefdaaGreat
set_option linter.unusedSimpArgs false
set_option linter.unusedVariables false
open Go.RowKit

/-- A box that the region has made. -/
def BoxA (W : World) (T : TypeId) (n : Nat) (w : World) (g : Nat) : Prop := W.heap.size ≤ g ∧ ∃ cs : Array Value, w.heap[g]? = some (.cells cs T (0, 0)) ∧ cs.size = n
def BoxV (W : World) (T : TypeId) (n : Nat) (w : World) (v : Value) : Prop := ∃ g, v = .pointer (some ⟨g, 0, none⟩) ∧ BoxA W T n w g
def BoxF (W : World) (T : TypeId) (cs : Array Value) (w : World) (v : Value) : Prop := ∃ g, v = .pointer (some ⟨g, 0, none⟩) ∧ W.heap.size ≤ g ∧ w.heap[g]? = some (.cells cs T (0, 0))
def RelB (W : World) (T : TypeId) (n N i : Nat) (w w' : World) : Prop := (∀ g, BoxA W T n w g → BoxA W T n w' g) ∧ (i ≠ N → Below w.heap.size w w')
theorem BoxA.below {W w w' : World} {T : TypeId} {n g : Nat} (h : BoxA W T n w g) (hb : Below w.heap.size w w') : BoxA W T n w' g := let ⟨h1, cs, h2, h3⟩ := h; ⟨h1, cs, block_in h2 hb, h3⟩
theorem RelB.of_below {W w w' : World} {T : TypeId} {n N i : Nat} (hb : Below w.heap.size w w') : RelB W T n N i w w' := ⟨fun _ h => h.below hb, fun _ => hb⟩
theorem BoxF.below {W w w' : World} {T : TypeId} {cs : Array Value} {v : Value} (h : BoxF W T cs w v) (hb : Below w.heap.size w w') : BoxF W T cs w' v := let ⟨g, e, h1, h2⟩ := h; ⟨g, e, h1, block_in h2 hb⟩
theorem arr2 {cs : Array Value} (h : cs.size = 2) : ∃ a b, cs = #[a, b] := by
  rcases cs with ⟨l⟩
  match l, h with
  | [a, b], _ => exact ⟨a, b, rfl⟩
theorem nbox_cells {w : World} {g : Nat} {T : TypeId} {cs : Array Value} (h : w.heap[g]? = some (.cells cs T (0, 0))) (hn : cs.size = 2) :
    ∃ a b, w.cell? ⟨g, 0, none⟩ = some a ∧ w.cell? ⟨g, 1, none⟩ = some b ∧ w.frozen? ⟨g, 0, none⟩ = false ∧ w.frozen? ⟨g, 1, none⟩ = false := by
  obtain ⟨a, b, rfl⟩ := arr2 hn
  exact ⟨a, b, (cells2 h).1, (cells2 h).2, (froz2 h).1, (froz2 h).2⟩
theorem nbox_put {W w : World} {g N : Nat} {T : TypeId} {cs : Array Value} (v0 v1 : Value) (hgB : W.heap.size ≤ g) (h : w.heap[g]? = some (.cells cs T (0, 0))) (hn : cs.size = 2) (hI : Below W.heap.size W w) :
    RelB W T 2 N N w (setCells w g 0 [v0, v1]) ∧ Below W.heap.size W (setCells w g 0 [v0, v1]) ∧ (setCells w g 0 [v0, v1]).heap[g]? = some (.cells #[v0, v1] T (0, 0)) := by
  obtain ⟨a, b, rfl⟩ := arr2 hn
  have h2 : (setCells w g 0 [v0, v1]).heap[g]? = some (.cells #[v0, v1] T (0, 0)) := setCells_atG [v0, v1] 0 h (by simp)
  have hg := setCells_grown g [v0, v1] w 0
  refine ⟨⟨fun k hk => ⟨hk.1, ?_⟩, fun e => absurd rfl e⟩, setCells_below hgB [v0, v1] 0 hI, h2⟩
  by_cases e : k = g
  · subst e; exact ⟨_, h2, rfl⟩
  · obtain ⟨_, cs, h3, h4⟩ := hk
    exact ⟨cs, (hg.block k (Array.getElem?_eq_some_iff.1 h3).1 (fun e2 => e (by cases e2; rfl))).trans h3, h4⟩
theorem wp_region_nbox {P : Program} {a0 : Act} {id : Nat} {Q : Exit → Act → World → Prop} {l : List Oper} (W : World) (Ty : TypeId) (n m0 N : Nat) (s0 : Tmp) (cs : Array Value) (T : Nat → World → Value → Prop)
    (hm : P.follows .mixedOrders = true) (hok : okRegion l.toArray a0.tmps.size = true) (hkill : okKill l.toArray (fun _ => none) = true) (hm0 : dstOf l.toArray m0 = some s0) (hdN : depB l.toArray N m0 = true)
    (hT0 : ∀ w v, T m0 w v → BoxV W Ty n w v) (hT1 : ∀ w v, BoxV W Ty n w v → T m0 w v) (hTc : ∀ i w w' v, i ≠ m0 → T i w v → T i w' v)
    (hone : RAllL P l.toArray a0 (fun i _ w v => T i w v) (fun _ w => Below W.heap.size W w) (fun i w w' => RelB W Ty n N i w w') none (fun c => c == N) m0 s0 (fun _ => True) (fun _ u w => BoxF W Ty cs w u) l 0)
    (hN : N < l.length)
    (hQ : ∀ (f : Nat → Value) (w' : World), (∀ i, i < l.length → (dstOf l.toArray i).isSome = true → T i w' (f i)) → BoxF W Ty cs w' (f m0) → Below W.heap.size W w' → Q .normal (putAll f l 0 a0) w') : (Code.region id l.toArray true).wp P Q a0 W := by
  refine wp_region_draws2L none (fun c => c == N) m0 s0 (fun _ => True) (fun _ u w => BoxF W Ty cs w u) (fun i _ w v => T i w v) (fun _ w => Below W.heap.size W w) (fun i w w' => RelB W Ty n N i w w') (fun _ => none) hm hok hkill ?_ (fun _ _ _ _ _ _ _ => trivial) hm0 ?_ rfl ?_ ?_ (ext_drew (Below.refl _ _)) trivial hone ?_
  · intro i j w w' v hR _ _ _ _ _ u hT
    by_cases e : j = m0
    · subst e
      obtain ⟨g, e1, h1⟩ := hT0 w v hT
      exact hT1 w' v ⟨g, e1, hR.1 g h1⟩
    · exact hTc j w w' v e hT
  · intro c hc
    rw [beq_iff_eq.1 hc]; exact hdN
  · intro i u u' w v _ _ hT; exact hT
  · intro c i w w' u hc hR hne _ hH
    rw [beq_iff_eq.1 hc] at hne
    exact hH.below (hR.2 (fun e => hne e.symm))
  · intro f w' h1 h2 h3
    exact hQ f w' (fun i hi hd => h1 i hi hd rfl) (h3 N (beq_self_eq_true N) hN) h2
end Go.Proofs.YtodjokdaofefdaaGreat

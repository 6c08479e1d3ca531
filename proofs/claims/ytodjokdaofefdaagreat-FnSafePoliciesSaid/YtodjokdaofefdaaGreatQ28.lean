/- Kinds, continued: a region that draws its order, reads a field of a box ahead of the one store into it. -/
import Derived.Test.YtodjokdaofefdaaGreatQ27
namespace Go.Proofs.YtodjokdaofefdaaGreat
set_option linter.unusedSimpArgs false
set_option linter.unusedVariables false
open Go.RowKit

def absDrawnR (T : Conf) (nt : Nat) (ops : List Oper) (A : SB) : Option SB :=
  match A.st.ph, ops with
  | .run N, o0 :: o1 :: l => match o0.op, o0.guard, o1.op, o1.guard, l.reverse with
    | .fieldAddr sT (.tmp p) f, Option.none, .load t (.tmp s1), Option.none, oS :: lr => match findBx p A.bx, absFieldAddr T.P sT f (A.st.look p), fieldOff T.P sT f with
      | some (E, off), some _, some fo => match rowLoad T.P E.row (off + fo) t with
        | some k1 => if okRegion ops.toArray nt && keepSlot ops.toArray 0 p && (depIx ops.toArray 1 s1 == some 0) && depB ops.toArray (lr.length + 2) 1 && oS.dst.isNone && oS.guard.isNone then
            match absD (T.minus [E.T]) ops.toArray A.st lr.reverse [(.ck .any, Option.none), (k1, Option.none)] 0 with
            | some (D, C) => match absOp T (lookD ops.toArray A.st D (lr.length + 2)) (fun _ _ => false) oS.op with
              | some (_, .no, _) => if N + C * ops.length ≤ T.J.lim then some ⟨{ env := A.st.env.filter (fun q => !(dsts ops).contains q.1), facts := [], ph := .run (N + C * ops.length) }, []⟩ else Option.none
              | _ => Option.none
            | Option.none => Option.none
          else Option.none
        | Option.none => Option.none
      | _, _, _ => Option.none
    | _, _, _, _, _ => Option.none
  | _, _ => Option.none
section
variable {T : Conf} {c : Ctx} {w0 : World} {nt : Nat} {A : SB} {a : Act} {w w' : World} {v : Value}
/-- What a value is; the first one is this pointer. -/
def TDR (c : Ctx) (tab : Tab) (D : DL) (a0 : Act) (ptr : Value) (i : Nat) (w : World) (v : Value) : Prop := TD c tab D a0 i w v ∧ (i = 0 → v = ptr)
def IR (T : Conf) (c : Ctx) (w0 : World) (A : St) (a0 : Act) (N C : Nat) (k : Nat) (wz : World) : Prop := Inv c w0 T.J (.run (N + C * k)) wz ∧ ∀ s, (A.look s).den c T.tab wz (a0.eval (.tmp s))
def RR (T : Conf) (c : Ctx) (T0 : TypeId) (NN : Nat) (i : Nat) (wa wb : World) : Prop := Rel c T.tab T.S wa wb ∧ (i ≠ NN → Rel c T.tab (minusS T.S [T0]) wa wb)
theorem IR.step {A : St} {a0 : Act} {N C k : Nat} (h : Inv c w0 T.J (.run (N + C * k)) w) (hk : ∀ s, (A.look s).den c T.tab w (a0.eval (.tmp s))) : IR T c w0 A a0 N C (k + 1) w :=
  let ⟨g1, g2, g3, g4, g5⟩ := h
  ⟨⟨g1, g2, g3, g4, g5.mono (by rw [Nat.mul_add, Nat.mul_one]; omega)⟩, hk⟩
theorem look_at (hT : Good T) {ops : Array Oper} {A : St} {a0 : Act} {D : DL} {D' : DL} {i : Nat} {a' : Act} {wa : World} {ptr : Value} {gc : Option Nat} {G : World → Prop} (hDj : ∀ j, j < D.length → D'[j]? = D[j]?) (hp : RPre ops a0 (TDR c T.tab D' a0 ptr) gc G i a' wa) (hk : ∀ s, (A.look s).den c T.tab wa (a0.eval (.tmp s))) (s : Nat) :
    (lookD ops A D i s).den c T.tab wa (a'.eval (.tmp s)) := by
  unfold lookD
  split
  · rename_i j hj
    have h3 := (hp.dep j s (depIx_ok hj)).1
    unfold TD at h3
    cases hD : D[j]? with
    | none => exact any_den
    | some kq =>
      have hjl := (List.getElem?_eq_some_iff.1 hD).1
      rw [hDj j hjl, hD] at h3
      exact h3.1
  · split
    · rename_i hk2
      rw [hp.keep s hk2]
      exact hk s
    · exact any_den
theorem src_at {ops : Array Oper} {a0 : Act} {D : DL} {D' : DL} {i : Nat} {a' : Act} {wa : World} {ptr : Value} {gc : Option Nat} {G : World → Prop} {tab : Tab} (hDj : ∀ j, j < D.length → D'[j]? = D[j]?) (hp : RPre ops a0 (TDR c tab D' a0 ptr) gc G i a' wa) (s s0 : Nat) (h : srcD ops D i s = some s0) : a'.eval (.tmp s) = a0.eval (.tmp s0) := by
  unfold srcD at h
  split at h
  · rename_i j hj
    have h3 := (hp.dep j s (depIx_ok hj)).1
    unfold TD at h3
    cases hD : D[j]? with
    | none => rw [hD] at h; simp at h
    | some kq =>
      have hjl := (List.getElem?_eq_some_iff.1 hD).1
      rw [hDj j hjl, hD] at h3
      rw [hD] at h
      exact h3.2 s0 (by simpa using h)
  · split at h
    · rename_i hk
      cases h
      exact hp.keep s hk
    · cases h
theorem absD_allR (hT : Good T) {T0 : TypeId} {NN : Nat} {ops : Array Oper} {A : St} {a0 : Act} {N : Nat} {ptr : Value} {G H : World → Prop} (hH : ∀ w, H w) (hS : ∀ f ∈ A.facts, f.holds fun s => a0.eval (.tmp s)) {D' : DL} {C' : Nat} (hlim : N + C' * ops.size ≤ T.J.lim) (hlen : D'.length = NN) {o : Oper}
    (hlast : RAllH T.P ops a0 (TDR c T.tab D' a0 ptr) (IR T c w0 A a0 N C') (RR T c T0 NN) (some NN) G H [o] NN) :
    ∀ {l : List Oper} {D : DL} {C : Nat}, absD (T.minus [T0]) ops A l D C = some (D', C') → 0 < D.length →
    RAllH T.P ops a0 (TDR c T.tab D' a0 ptr) (IR T c w0 A a0 N C') (RR T c T0 NN) (some NN) G H (l ++ [o]) D.length
  | [], D, C, h, _ => by
    simp only [absD, Option.some.injEq, Prod.mk.injEq] at h
    obtain ⟨rfl, rfl⟩ := h
    rw [hlen]
    exact hlast
  | o' :: r, D, C, h, hpos => by
    simp only [absD] at h
    split at h <;> try (cases h; done)
    rename_i hgd
    split at h <;> try (cases h; done)
    rename_i k eff e h1
    split at h <;> try (cases h; done)
    rename_i n h2
    have hrest := absD_allR hT hH hS hlim hlen hlast h (by simp)
    obtain ⟨hl1, hl2, hl3⟩ := absD_len h
    simp only [List.length_append, List.length_singleton] at hrest hl1 hl3
    have hDi : D'[D.length]? = some (k, srcEx ops D D.length e) := by
      rw [hl3 _ (by omega)]; simp
    have hDj : ∀ j, j < D.length → D'[j]? = D[j]? := fun j hj => by
      rw [hl3 j (by omega), List.getElem?_append_left hj]
    refine RAllH.cons (by simpa using hgd) (fun a i wa K Q hi hI hp hK => ?_) hrest
    obtain ⟨hInv, hkinds⟩ := hI
    have hi1 : i + 1 ≤ ops.size := hi
    have hmul := Nat.mul_le_mul_left C' hi1
    rw [Nat.mul_add, Nat.mul_one] at hmul
    have hnC : n ≤ C' := by omega
    refine absOp_ok (hT.minus [T0]) (c := c) (w0 := w0) h1 (app_cost h2 (show N + C' * i + n ≤ T.J.lim by omega)) a wa K Q hInv (look_at hT hDj hp hkinds) (fun x s hx => ?_) (fun v wb hv hr hIb he => ?_)
    · unfold ltD at hx
      split at hx
      · rename_i x0 s0 e1 e2
        rw [src_at hDj hp x x0 e1, src_at hDj hp s s0 e2]
        have := less_ok (ρ := fun s => a0.eval (.tmp s)) hS hx
        simp only [St.root, root_ok (ρ := fun s => a0.eval (.tmp s)) hS] at this
        exact this
      · cases hx
    · have hr2 : Rel c T.tab T.S wa wb := rel_up hr
      refine hK v wb ⟨?_, fun e0 => by omega⟩ ⟨hr2, fun _ => hr⟩ ?_ (fun _ => hH _)
      · unfold TD
        rw [hDi]
        refine ⟨hv, fun s hs => ?_⟩
        unfold srcEx at hs
        split at hs
        · rename_i x
          rw [he]
          exact src_at hDj hp x s hs
        · cases hs
      · obtain ⟨g1, g2, g3, g4, g5⟩ : Inv c w0 T.J (.run (N + C' * i + n)) wb := hIb
        exact ⟨⟨g1, g2, g3, g4, g5.mono (by rw [Nat.mul_add, Nat.mul_one]; omega)⟩, fun s => Kd.stab hT.tab hT.sto _ _ _ _ hr2 (hkinds s)⟩
theorem absDrawnR_ok (hT : Good T) {id : Nat} {ops : List Oper} {B : SB} (h : absDrawnR T nt ops A = some B) (hS : SatB T c w0 nt A a w) {Q : Exit → Act → World → Prop} (hQ : ∀ a' w', SatB T c w0 nt B a' w' → Q .normal a' w') : (Code.region id ops.toArray true).wp T.P Q a w := by
  unfold absDrawnR at h
  split at h <;> try (cases h; done)
  rename_i N o0 o1 l hN
  split at h <;> try (cases h; done)
  rename_i sT p f t s1 oS lr ho0 hg0 ho1 hg1 hrev
  split at h <;> try (cases h; done)
  rename_i E off kp fo hf hkp hfo
  split at h <;> try (cases h; done)
  rename_i k1 hk1
  split at h <;> try (cases h; done)
  rename_i hc
  split at h <;> try (cases h; done)
  rename_i D C hD
  split at h <;> try (cases h; done)
  rename_i kS eS hoS
  split at h <;> try (cases h; done)
  rename_i hlim
  cases h
  have hl : l = lr.reverse ++ [oS] := by rw [← List.reverse_reverse l, hrev, List.reverse_cons]
  subst hl
  simp only [Bool.and_eq_true, beq_iff_eq, Option.isNone_iff_eq_none] at hc
  obtain ⟨⟨⟨⟨⟨hok, hkeep⟩, hdep⟩, hdb⟩, hdS⟩, hgS⟩ := hc
  obtain ⟨⟨h1, h2, h3, h4, h5⟩, hbx⟩ := hS
  rw [hN] at h5
  obtain ⟨hl1, _, hl3⟩ := absD_len hD
  simp only [List.length_cons, List.length_nil, List.length_reverse] at hl1 hl3
  obtain ⟨hE, hpf⟩ := findBx_ok hf
  obtain ⟨g, o', cs, r, b1, b2, b3, b4, b5, b6, b7⟩ := hbx E hE
  have hv := b6 _ hpf
  simp only at hv
  obtain ⟨ptr, hptr⟩ : ∃ ptr, ptr = Value.pointer (some ⟨g, o' + off + fo, Option.none⟩) := ⟨_, rfl⟩
  have hst : ∀ k : Kd, Stab c T.tab T.S (k.den c T.tab) := Kd.stab hT.tab hT.sto
  have hD0 : D[0]? = some (Kd.ck CK.any, Option.none) := by rw [hl3 0 (by omega)]; rfl
  have hD1 : D[1]? = some (k1, Option.none) := by rw [hl3 1 (by omega)]; rfl
  have hlen : (o0 :: o1 :: (lr.reverse ++ [oS])).length = lr.length + 3 := by simp
  refine wp_region_draws2H (some (lr.length + 2)) (fun wz => E.holds c T.tab a wz) (fun _ => True) (TDR c T.tab D a ptr) (IR T c w0 A.st a N C) (RR T c E.T (lr.length + 2)) (fun _ => Option.none) hT.mixed (by rw [h1]; exact hok) (by simp [okKill]) ?_ ?_ (fun _ _ _ _ _ _ _ => trivial)
    ⟨by simpa using h5.drew (ph := .pre 0), fun s => hst _ _ _ _ (RelK.drew w) (h3 s)⟩ ?_ ?_ ?_
  · rintro i j wa wb v ⟨hr, _⟩ _ _ _ _ _ ⟨ht, ht0⟩
    refine ⟨?_, ht0⟩
    unfold TD at ht ⊢
    split
    · rename_i k q e
      rw [e] at ht
      exact ⟨hst _ _ _ _ hr ht.1, ht.2⟩
    · trivial
  · rintro i wa wb ⟨_, hr⟩ hne hG
    have := Bx.holds.keep (v := undef) hT hG (okSto_minus hT.sto) (hr (fun e => hne (by rw [e]))) (sto_minus (by simp)) Option.none
    simpa [Bx.drop, Act.put] using this
  · have := Bx.holds.keep (v := undef) hT (hbx E hE) (S' := []) (by simp [okSto]) (RelK.drew w) rfl Option.none
    simpa [Bx.drop, Act.put] using this
  · refine RAllH.cons hg0 (fun a' i wa K Q' hi hI hp hK => ?_) (RAllH.cons hg1 (fun a' i wa K Q' hi hI hp hK => ?_) ?_)
    · obtain ⟨g0, st, q1, q2, _⟩ := fieldAddr_run (G := T.cfg c w0) (w := wa) ho0 hkp hfo (show (A.st.look p).den c T.tab wa (a'.eval (.tmp p)) by rw [hp.keep p hkeep]; exact hI.2 p)
      rw [hp.keep p hkeep, hv] at q1
      simp only [Value.pointer.injEq, Option.some.injEq, Addr.mk.injEq, and_true] at q1
      obtain ⟨rfl, rfl⟩ := q1
      refine op_val (hK _ _ ⟨?_, fun _ => hptr.symm⟩ ⟨RelK.refl _, fun _ => RelK.refl _⟩ (IR.step hI.1 hI.2) (fun _ => trivial)) q2
      unfold TD
      rw [hD0]
      exact ⟨any_den, fun s hs => nomatch hs⟩
    · have hG := hp.pre (fun x hx => by cases hx; rw [hdb, Bool.or_true])
      have hs1 := (hp.dep 0 s1 (depIx_ok hdep)).2 rfl
      obtain ⟨g2, o2, cs2, r2, e1, e2, e3, e4, e5, e6, _⟩ := hG
      have e7 := e6 _ hpf
      simp only at e7
      rw [hv] at e7
      simp only [Value.pointer.injEq, Option.some.injEq, Addr.mk.injEq, and_true] at e7
      obtain ⟨rfl, e8⟩ := e7
      obtain rfl : o' = o2 := by omega
      obtain ⟨v, hrun, hden, _⟩ := rowLoad_ok (o := o') (g := g) hk1 e4 (fun f u hu => by rw [cell_of_row wa g _ cs2 E.T (0, 0) e3]; exact e5 f u hu)
      rw [hptr, Nat.add_assoc] at hs1
      refine op_val (hK v wa ⟨?_, fun e => by omega⟩ ⟨RelK.refl _, fun _ => RelK.refl _⟩ (IR.step hI.1 hI.2) (fun _ => trivial)) (by simp [execOp, ho1, hs1, Instr.loadAt, Instr.sureAddr, hrun])
      unfold TD
      rw [hD1]
      exact ⟨hden, fun s hs => nomatch hs⟩
    · refine absD_allR (D := [(.ck .any, Option.none), (k1, Option.none)]) hT (fun _ => trivial) h4 (by simpa using hlim) (by omega) ?_ hD (by simp)
      refine RAllH.cons hgS (fun a' i wa K Q' hi hI hp hK => ?_) RAllH.none_
      have hx : Eff.no.app T.J (.run (N + C * i)) = some (.run (N + C * i)) := rfl
      refine absOp_ok hT (c := c) (w0 := w0) hoS hx a' wa K Q' hI.1 (look_at hT (fun _ _ => rfl) hp hI.2) (fun x s hx => by cases hx) (fun v wb hv hr hIb he => ?_)
      refine hK v wb ⟨?_, fun e => by omega⟩ ⟨hr, fun e => absurd rfl e⟩ (IR.step hIb (fun s => hst _ _ _ _ hr (hI.2 s))) (fun _ => trivial)
      unfold TD
      rw [List.getElem?_eq_none (by omega)]
      trivial
  · intro f w' hT' hI' _
    have hp := putAll_defers f (o0 :: o1 :: (lr.reverse ++ [oS])) 0 a
    refine hQ _ _ ⟨⟨hp.2.trans h1, hp.1.trans h2, fun s => ?_, fun f hf => by simp at hf, by simpa using hI'.1⟩, fun E hE => by simp at hE⟩
    show Kd.den c T.tab (((A.st.env.filter (fun q => !(dsts (o0 :: o1 :: (lr.reverse ++ [oS]))).contains q.1)).lookup s).getD (.ck .any)) w' _
    by_cases hs : s ∈ dsts (o0 :: o1 :: (lr.reverse ++ [oS]))
    · have : (A.st.env.filter (fun q => !(dsts (o0 :: o1 :: (lr.reverse ++ [oS]))).contains q.1)).lookup s = Option.none := by
        cases hl : (A.st.env.filter (fun q => !(dsts (o0 :: o1 :: (lr.reverse ++ [oS]))).contains q.1)).lookup s with
        | none => rfl
        | some k =>
          have hm := lookup_mem hl
          have := (List.mem_filter.1 hm).2
          simp only [Bool.not_eq_true', List.contains_eq_mem, decide_eq_false_iff_not] at this
          exact absurd hs this
      rw [this]
      exact any_den
    · rw [lookup_filter_not hs, putAll_none f _ 0 a s (fun j o' ho' hd' => hs (by
        unfold dsts
        exact List.mem_filterMap.2 ⟨o', List.mem_of_getElem? ho', hd'⟩))]
      exact hI'.2 s
end
end Go.Proofs.YtodjokdaofefdaaGreat
/- Kinds, continued: functions with such regions. -/
namespace Go.Proofs.YtodjokdaofefdaaGreat
set_option linter.unusedSimpArgs false
set_option linter.unusedVariables false
open Go.RowKit

def absR (T : Conf) (nt fu : Nat) (keep : List Nat) (V : Prv) : Code → SB → Option OutP
  | .seq x y, A => match finC T nt V x y A with
    | some R => some ⟨[], [], R⟩
    | Option.none => (absR T nt fu keep V x A).bind fun O => (bindP (absR T nt fu keep V y) O.norm).map fun O' => ⟨O'.norm, O.exits ++ O'.exits, O.rets ++ O'.rets⟩
  | .cond q x y, A => match kop A.st.look q with
    | .one (.c (.bool (some true))) => absR T nt fu keep V x A
    | .one (.c (.bool (some false))) => absR T nt fu keep V y A
    | .one (.c (.bool Option.none)) => (match q with
      | .tmp d => (absR T nt fu keep V x (A.learn 3 d true)).bind fun O => (absR T nt fu keep V y (A.learn 3 d false)).map fun O' => ⟨joinAllB T (O.norm ++ O'.norm), O.exits ++ O'.exits, O.rets ++ O'.rets⟩
      | _ => Option.none)
    | _ => Option.none
  | .block id b, A => (absR T nt fu keep V b A).map fun O => ⟨joinAllB T (O.norm ++ (O.exits.filter fun p => p.1 == id).map (·.2)), O.exits.filter fun p => p.1 != id, O.rets⟩
  | .skip, A => plainP T nt fu keep .skip A
  | .region id ops dr, A => match plainP T nt fu keep (.region id ops dr) A with
    | some O => some O
    | Option.none => if dr = true then (absDrawnR T nt ops.toList A).map fun B => ⟨[B], [], []⟩ else Option.none
  | .exit id, A => plainP T nt fu keep (.exit id) A
  | _, _ => Option.none
section
variable {T : Conf} {c : Ctx} {w0 : World} {nt : Nat} {A : SB} {a : Act} {w w' : World} {v : Value} {V : Prv} {pb : Nat}
theorem absR_ok (hT : Good T) (hH : Here T c w0 V pb) {fu : Nat} {keep : List Nat} : ∀ (code : Code) {A : SB} {O : OutP} {a : Act} {w : World}, absR T nt fu keep V code A = some O → (∀ r ∈ O.rets, ∃ N, r.1 = .run N) → SatP T c w0 nt V pb A a w → code.wp T.P (OutPS T c w0 nt V pb O) a w := by
  intro code
  induction code with
  | skip => intro A O a w h _ hS; simp only [absR] at h; exact plainP_ok hT h hS
  | region id ops draw =>
    intro A O a w h _ hS
    simp only [absR] at h
    split at h
    · rename_i O1 h1
      cases h
      exact plainP_ok hT h1 hS
    · split at h <;> try (cases h; done)
      rename_i hdr
      subst hdr
      obtain ⟨B, h1, rfl⟩ := Option.map_eq_some_iff.1 h
      obtain ⟨w1, hoff, hc, hSB⟩ := hS
      rw [show ops = ops.toList.toArray by simp]
      exact absDrawnR_ok hT h1 hSB (fun a' w' hB => ⟨B, by simp, w1, hoff, hc, hB⟩)
  | exit id => intro A O a w h _ hS; simp only [absR] at h; exact plainP_ok hT h hS
  | seq x y ihx ihy =>
    intro A O a w h hph hS
    simp only [absR] at h
    split at h
    · rename_i R hR
      cases h
      unfold finC at hR
      split at hR <;> try (cases hR; done)
      rename_i id ops dr
      split at hR <;> try (cases hR; done)
      rename_i o lr hlr
      have hops : ops = (lr.reverse ++ [o]).toArray := by
        have : ops.toList = lr.reverse ++ [o] := by
          rw [← List.reverse_reverse ops.toList, hlr, List.reverse_cons]
        rw [← this]
      subst hops
      refine wp_seq (finO_ok hT hH hR hph hS (fun a' w' hf => ?_))
      exact wp_ret hf
    · obtain ⟨O1, h1, h2⟩ := Option.bind_eq_some_iff.1 h
      obtain ⟨O2, h3, rfl⟩ := Option.map_eq_some_iff.1 h2
      refine wp_seq (Code.wp_mono (fun e a' w' he => ?_) (ihx h1 (fun r hr => hph r (by simp [hr])) hS))
      cases e with
      | normal =>
        obtain ⟨B, hB, hSB⟩ := he
        obtain ⟨O', h4, h5, h6, h7⟩ := bindP_mem h3 B hB
        exact Code.wp_mono (OutPS.mono h5 (fun D hD => by simp [h6 D hD]) (fun D hD => by simp [h7 D hD])) (ihy h4 (fun r hr => hph r (by simp [h7 r hr])) hSB)
      | exit id => obtain ⟨D, hD, hSD⟩ := he; exact ⟨D, by simp [hD], hSD⟩
      | ret => obtain ⟨D, hD, hSD⟩ := he; exact ⟨D, by simp [hD], hSD⟩
      | _ => exact he
  | cond q x y ihx ihy =>
    intro A O a w h hph hS
    simp only [absR] at h
    obtain ⟨w1, hoff, hc, hSB⟩ := hS
    have hq := kop_den (c := c) (tab := T.tab) (w := w) hSB.1.2.2.1 q
    split at h <;> try (cases h; done)
    · rename_i e; rw [e] at hq; obtain ⟨b, hb, hb2⟩ := hq; obtain rfl := hb2 _ rfl
      exact wp_cond_true hb (ihx h hph ⟨w1, hoff, hc, hSB⟩)
    · rename_i e; rw [e] at hq; obtain ⟨b, hb, hb2⟩ := hq; obtain rfl := hb2 _ rfl
      exact wp_cond_false hb (ihy h hph ⟨w1, hoff, hc, hSB⟩)
    · rename_i e; rw [e] at hq; obtain ⟨b, hb, _⟩ := hq
      split at h <;> try (cases h; done)
      rename_i d
      obtain ⟨O1, h1, h2⟩ := Option.bind_eq_some_iff.1 h
      obtain ⟨O2, h3, rfl⟩ := Option.map_eq_some_iff.1 h2
      have fin : ∀ O', (∀ B ∈ O'.norm, B ∈ O1.norm ++ O2.norm) → (∀ B ∈ O'.exits, B ∈ O1.exits ++ O2.exits) → (∀ B ∈ O'.rets, B ∈ O1.rets ++ O2.rets) → ∀ e a w, OutPS T c w0 nt V pb O' e a w → OutPS T c w0 nt V pb ⟨joinAllB T (O1.norm ++ O2.norm), O1.exits ++ O2.exits, O1.rets ++ O2.rets⟩ e a w := by
        intro O' g1 g2 g3 e a w he
        cases e with
        | normal => obtain ⟨B, hB, hSB⟩ := he; exact joinP_ok hT ⟨B, g1 B hB, hSB⟩
        | exit id => obtain ⟨B, hB, hSB⟩ := he; exact ⟨B, g2 _ hB, hSB⟩
        | ret => obtain ⟨B, hB, hSB⟩ := he; exact ⟨B, g3 B hB, hSB⟩
        | _ => exact he
      refine wp_cond_split hb (fun e => ?_) (fun e => ?_)
      · subst e
        exact Code.wp_mono (fin O1 (fun B hB => by simp [hB]) (fun B hB => by simp [hB]) (fun B hB => by simp [hB])) (ihx h1 (fun r hr => hph r (by simp [hr])) ⟨w1, hoff, hc, hSB.learn hb⟩)
      · subst e
        exact Code.wp_mono (fin O2 (fun B hB => by simp [hB]) (fun B hB => by simp [hB]) (fun B hB => by simp [hB])) (ihy h3 (fun r hr => hph r (by simp [hr])) ⟨w1, hoff, hc, hSB.learn hb⟩)
  | block id b ih =>
    intro A O a w h hph hS
    simp only [absR] at h
    obtain ⟨O1, h1, rfl⟩ := Option.map_eq_some_iff.1 h
    refine wp_block (Code.wp_mono (fun e a' w' he => ?_) (ih h1 hph hS))
    cases e with
    | normal => obtain ⟨B, hB, hSB⟩ := he; exact joinP_ok hT ⟨B, by simp [hB], hSB⟩
    | exit id' =>
      obtain ⟨B, hB, hSB⟩ := he
      show (if id' = id then _ else _)
      by_cases e : id' = id
      · rw [if_pos e]
        subst e
        refine joinP_ok hT ⟨B, ?_, hSB⟩
        simp only [List.mem_append, List.mem_map, List.mem_filter]
        exact .inr ⟨(id', B), ⟨hB, by simp⟩, rfl⟩
      · rw [if_neg e]
        exact ⟨B, List.mem_filter.2 ⟨hB, by simpa using e⟩, hSB⟩
    | ret => exact he
    | _ => exact he
  | _ => intro A O a w h; simp [absR] at h
end
section
variable {T : Conf} {c c' : Ctx} {w0 : World} {nt : Nat} {a : Act} {w w' : World} {v : Value} {tab : Tab}
def absFnR (T : Conf) (fn : Func) (fu : Nat) (keep : List Nat) (aks : List Kd) (rk : List CK) : Bool := match fn.body, fn.results.toList with
  | some (.seq (.region _ ops false) rest), [.cell p Tp] => match ops.toList with
    | [o] => match o.op, o.dst, o.guard, T.P.info? Tp with
      | .alloc e, some d, Option.none, some ie => match ie.zero with
        | some z => decide (d = p) && decide (e = Tp) && decide (p < fn.ntmps) && decide (aks.length ≤ fn.ntmps) && decide (z.cells.size = ie.size) && (rowT T.P Tp == some true) &&
          (match absR T fn.ntmps fu keep ⟨p, Tp, ie.size⟩ rest ⟨(St.mk (argEnv 0 aks) [] (.run 0)).put (some p) (.ck .code) (.run 0) .no, []⟩ with
            | some O => O.norm.isEmpty && O.exits.isEmpty && O.rets.all fun r => match r.1 with
              | .run n => decide (n ≤ T.J.lim) && all2 (CK.le T.tab T.fu) r.2 rk && r.2.all (fun k => k != .code)
              | _ => false
            | Option.none => false)
        | Option.none => false
      | _, _, _, _ => false
    | _ => false
  | _, _ => false
theorem conR_of (hT : Good T) {f : FuncId} {fn : Func} (hf : T.P.funcs[f]? = some fn) (hname : (fn.name == "runtime.NumGoroutine") = false) {fu : Nat} {keep : List Nat} {aks : List Kd} {rk : List CK} (hb : aks.all bareArg2 = true) (hnc : noCode T.tab = true) (h : absFnR T fn fu keep aks rk = true) : ConOk T.P T.tab ⟨f, aks, .ag rk, T.J.lim⟩ := by
  unfold absFnR at h
  split at h <;> try (cases h; done)
  rename_i id ops rest p Tp hbody hres
  split at h <;> try (cases h; done)
  rename_i o hops
  split at h <;> try (cases h; done)
  rename_i e d ie hop hd hg hie
  split at h <;> try (cases h; done)
  rename_i z hz
  simp only [Bool.and_eq_true, decide_eq_true_eq, beq_iff_eq] at h
  obtain ⟨⟨⟨⟨⟨⟨rfl, rfl⟩, hpn⟩, hal⟩, hzs⟩, hrt⟩, h⟩ := h
  split at h <;> try (cases h; done)
  rename_i O hO
  simp only [Bool.and_eq_true, List.isEmpty_iff] at h
  obtain ⟨⟨hn, he⟩, hall⟩ := h
  refine ⟨⟨fn, _, hf, hname, hbody⟩, fun c w N args hB hcb hR hN hA => ?_⟩
  have hbw := below_alloc w (.cells z.cells e)
  have hbrlt := RdrT.lt hR
  obtain ⟨c2, hc2⟩ : ∃ c2 : Ctx, c2 = { c with B := w.heap.size + 1, N0 := N, cv := .pointer (some ⟨w.heap.size, 0, Option.none⟩) } := ⟨_, rfl⟩
  have e1 : c2.B = w.heap.size + 1 := by rw [hc2]
  have e2 : c2.br = c.br := by rw [hc2]
  have e3 : c2.cv = .pointer (some ⟨w.heap.size, 0, Option.none⟩) := by rw [hc2]
  have e4 : c2.cb = c.cb := by rw [hc2]
  have e5 : c2.N0 = N := by rw [hc2]
  clear hc2
  have hI : Inv c2 (w.alloc (.cells z.cells e)) T.J (.run 0) (w.alloc (.cells z.cells e)) := ⟨GrownP.refl _ _, by rw [e1]; simp, by omega, by rw [e5]; exact hN, by rw [e2, e4, e5]; simpa using hR.below hbw⟩
  have hH : Here T c2 (w.alloc (.cells z.cells e)) ⟨d, e, ie.size⟩ w.heap.size := { cv := e3, lt := by omega, ne := by rw [e2]; omega, cb := by rw [e4]; omega, old := by simp, size := by rw [hie]; rfl, agg := hrt }
  have hargl : args.length = aks.length := hA.length
  have hrets : ∀ r ∈ O.rets, ∃ n, r.1 = .run n ∧ n ≤ T.J.lim ∧ all2 (CK.le T.tab T.fu) r.2 rk = true ∧ ∀ k ∈ r.2, k ≠ .code := fun r hr => by
    have h1 := List.all_eq_true.1 hall r hr
    split at h1 <;> try (cases h1; done)
    rename_i n hn
    simp only [Bool.and_eq_true, decide_eq_true_eq, List.all_eq_true, bne_iff_ne] at h1
    exact ⟨n, hn, h1.1.1, h1.1.2, h1.2⟩
  have hsz0 : (args.toArray ++ Array.replicate (fn.ntmps - args.toArray.size) undef).size = fn.ntmps := by simp; omega
  have hSat0 : Sat T c2 (w.alloc (.cells z.cells e)) fn.ntmps (St.mk (argEnv 0 aks) [] (.run 0)) { tmps := args.toArray ++ Array.replicate (fn.ntmps - args.toArray.size) undef, defers := [] } (w.alloc (.cells z.cells e)) := by
    refine ⟨hsz0, rfl, fun s => ?_, fun f hf => by simp at hf, hI⟩
    show Kd.den c2 T.tab (((argEnv 0 aks).lookup s).getD (.ck .any)) (w.alloc (.cells z.cells e)) _
    have hA2 : ArgsR c2 T.tab (w.alloc (.cells z.cells e)) aks args := args_bare2 (c := c) e2 hb hA
    rcases argEnv_look (i := 0) hA2 s with h1 | h1
    · simp only [Nat.not_lt_zero, if_false, Nat.sub_zero] at h1
      cases hs : args[s]? with
      | some v =>
        rw [hs] at h1
        have : (args.toArray ++ Array.replicate (fn.ntmps - args.toArray.size) undef).getD s undef = v := by
          have hlt := (List.getElem?_eq_some_iff.1 hs).1
          rw [Array.getD_eq_getD_getElem?, Array.getElem?_append_left (by simpa using hlt)]
          simp [hs]
        simp only [Act.eval, this]
        exact h1
      | none =>
        rw [hs] at h1
        have : (args.toArray ++ Array.replicate (fn.ntmps - args.toArray.size) undef).getD s undef = undef := by
          have hlt := List.getElem?_eq_none_iff.1 hs
          rw [Array.getD_eq_getD_getElem?, Array.getElem?_append_right (by simpa using hlt)]
          simp only [Array.getElem?_replicate]
          split <;> rfl
        simp only [Act.eval, this]
        exact h1
    · rw [h1]; exact any_den
  have hSat1 := hSat0.put (v := .pointer (some ⟨w.heap.size, 0, Option.none⟩)) hT (d := some d) (fun x hx => by cases hx; exact hpn) (k := .ck .code) (ph := .run 0) (e := .no) (by show _ = c2.cv; rw [e3]) (RelK.refl _) hI trivial
  have hops' : ops = [o].toArray := by rw [← hops]
  subst hops'
  refine calls_of_wp hf hbody (wp_seq (wp_region_list ?_))
  simp only [List.toList_toArray]
  refine wpList_step fun K hK => ?_
  rw [if_pos (by simp [Region.wanted, hg])]
  refine op_val (v := .pointer (some ⟨w.heap.size, 0, Option.none⟩)) (w' := w.alloc (.cells z.cells e)) (hK _ _ ?_) (by simp [execOp, hop, Instr.alloc, zeroValue, typeInfo, hie, hz, newVar, newRow])
  rw [hd]
  refine Code.wp_mono (fun ex a' w' hq => ?_) (absR_ok (w0 := w.alloc (.cells z.cells e)) hT hH rest hO (fun r hr => let ⟨n, hn, _⟩ := hrets r hr; ⟨n, hn⟩) ⟨w.alloc (.cells z.cells e), ⟨rfl, rfl, rfl, rfl, fun _ _ => rfl⟩, ⟨z.cells, heap_alloc_new w _, hzs⟩, hSat1, fun E hE => by simp at hE⟩)
  cases ex with
  | ret =>
    obtain ⟨r, hr, w1, hoff, hI1, hdef, hev, hrn, cs, hat, hrow⟩ := hq
    obtain ⟨n, hrn1, hnl, hle, hncode⟩ := hrets r hr
    rw [hrn1] at hI1
    have hrn' : r.2.length = ie.size := hrn
    have hload : rowLoad T.P r.2 0 e = some (.ag r.2) := by
      unfold rowLoad
      rw [hrt, hie]
      simp only [Nat.zero_add]
      rw [if_pos (by omega), List.drop_zero, List.take_of_length_le (by omega)]
    obtain ⟨v, hrun, hden, _⟩ := rowLoad_ok (tab := T.tab) (o := 0) (g := w.heap.size) hload hrow (fun f u hu => by rw [Nat.zero_add, cell_of_row _ _ _ _ _ _ hat]; simpa using hu)
    obtain ⟨⟨g1, g2, g3, g4, g5⟩, i2, i3, i4, i5⟩ := hI1
    have hbase : ∀ k, k < w.heap.size → k ≠ c.br → w'.heap[k]? = w.heap[k]? := fun k hk hne => by
      rw [g5 k (by rw [hoff.2.2.2.1]; simp; omega) (fun hR => by rcases hR with hR | hR; exact hne (by rw [hR, e2]); omega), hoff.2.2.2.2 k (by omega)]
      exact hbw.block k hk
    refine ⟨hdef, v, ?_, v, rfl, ?_, ?_, ?_⟩
    · rw [results_eq, Array.mapM_eq_mapM_toList, hres]
      have hev' : a'.tmps.getD d undef = .pointer (some ⟨w.heap.size, 0, Option.none⟩) := hev
      simp only [List.mapM_cons, List.mapM_nil, resRun, hev', asAddr]
      simp [hrun]
    · obtain ⟨cs', rfl, hrow'⟩ := hden
      have h1 : RowK (r.2.map (cden { c2 with cv := c.cv } T.tab)) w' cs' := by
        rw [show r.2.map (cden { c2 with cv := c.cv } T.tab) = r.2.map (cden c2 T.tab) from List.map_congr_left fun k hk => cden_cv (c := c2) (c' := { c2 with cv := c.cv }) hnc rfl rfl (hncode k hk)]
        exact hrow'
      have h2 : RowK (r.2.map (cden c T.tab)) w' cs' := row_lower (fun k v h => ck_lower (c := { c2 with cv := c.cv }) (c' := c) (by show c.B ≤ c2.B; omega) e2.symm rfl k h) h1
      exact ⟨cs', rfl, row_weaken (fun a b h v hv => le_den hT.tab T.fu a b h v hv) hle h2⟩
    · have h3 : RdrT w' c2.br c2.cb (c2.N0 + n) := i5
      rw [e2, e4, e5] at h3
      exact h3.mono (by show N + n ≤ N + T.J.lim; omega)
    · exact ⟨g1.trans hoff.1, g2.trans hoff.2.1, g3.trans hoff.2.2.1, by have h1 := hoff.2.2.2.1; have h2 := hbw.size; omega, fun k hk hne => hbase k hk (fun e => hne (by rw [e]))⟩
  | normal => obtain ⟨A, hA, _⟩ := hq; rw [hn] at hA; simp at hA
  | exit id => obtain ⟨A, hA, _⟩ := hq; rw [he] at hA; simp at hA
  | _ => exact hq.elim
end
end Go.Proofs.YtodjokdaofefdaaGreat
/- Worlds and requests: what is drawn, by kinds. -/
namespace Go.Proofs.YtodjokdaofefdaaGreat
set_option linter.unusedSimpArgs false
set_option linter.unusedVariables false
open Go.RowKit

/-! ### A contract holds over more shapes -/
def K1.lowT (n : Nat) : K1 → Bool
  | .c k => k.below n
  | .agg ks => ks.all (CK.below n)
def Kd.lowT (n : Nat) : Kd → Bool
  | .one k => k.lowT n
  | .tup ks => ks.all (K1.lowT n)
def Con.lowT (n : Nat) (e : Con) : Bool := e.aks.all (Kd.lowT n) && e.rk.lowT n
theorem k1_up {c : Ctx} {x : TypeId × List CK} {r : Tab} {k : K1} (h : k.lowT r.length = true) : k.den c (x :: r) = k.den c r := by
  cases k with
  | c k => exact den_cons h
  | agg ks =>
    show AggK (ks.map (cden c (x :: r))) = AggK (ks.map (cden c r))
    rw [List.map_congr_left fun k hk => show cden c (x :: r) k = cden c r k from den_cons (List.all_eq_true.1 h k hk)]
theorem kd_up {c : Ctx} {x : TypeId × List CK} {r : Tab} {k : Kd} (h : k.lowT r.length = true) : k.den c (x :: r) = k.den c r := by
  cases k with
  | one k => exact k1_up h
  | tup ks =>
    show TupK (ks.map (K1.den c (x :: r))) = TupK (ks.map (K1.den c r))
    rw [List.map_congr_left fun k hk => k1_up (List.all_eq_true.1 h k hk)]
theorem args_up {c : Ctx} {x : TypeId × List CK} {r : Tab} {w : World} : ∀ {aks : List Kd} {args : List Value}, aks.all (Kd.lowT r.length) = true → ArgsR c (x :: r) w aks args → ArgsR c r w aks args
  | [], [], _, _ => trivial
  | k :: l, v :: q, h, hh => by
    simp only [List.all_cons, Bool.and_eq_true] at h
    exact ⟨by rw [← kd_up (x := x) h.1]; exact hh.1, args_up h.2 hh.2⟩
  | [], _ :: _, _, h => h.elim
  | _ :: _, [], _, h => h.elim
theorem con_up {x : TypeId × List CK} {r : Tab} {e : Con} (hl : e.lowT r.length = true) (h : ConOk Tryz.prog r e) : ConOk Tryz.prog (x :: r) e := by
  simp only [Con.lowT, Bool.and_eq_true] at hl
  refine ⟨h.1, fun c w N args hB hcb hR hN hA => (h.2 c w N args hB hcb hR hN (args_up hl.1 hA)).mono ?_⟩
  rintro ed w' ⟨v, e1, e2, e3, e4⟩
  exact ⟨v, e1, by rw [kd_up hl.2]; exact e2, e3, e4⟩
/-- What is drawn stays, whatever stands elsewhere. -/
theorem cden_stay {c : Ctx} {tab : Tab} (ht : okTab tab = true) {k : CK} {w w' : World} {row : Option Nat} {v : Value} (h : cden c tab k w v) (hg : w.grownBy w' row) (hr : ∀ j, row = some j → j = c.br ∨ j < c.B) : cden c tab k w' v :=
  den_stab (S := []) ht (by simp [okSto]) k w w' v (RelK.grown hg hr) h

/-! ### Worlds, requests -/
abbrev ckI : CK := .int .i64 i64lo i64hi
def thTab : Tab := (65, [.sl 2 0 8, .sl 10 0 8]) :: (89, [.str 16, ckI, ckI]) :: (87, [ckI, ckI]) :: exTab
def thSto : Sto := [(65, 11), (89, 10), (87, 9), (3, 2)]
theorem th_good {J lim : Nat} {cons : List Con} (hc : ∀ e ∈ cons, ConOk Tryz.prog thTab e) : Good (dConf Tryz.prog thTab thSto J lim cons) := good_of (by kernel_rfl) (by kernel_rfl) hc
theorem th_nc : noCode thTab = true := by kernel_rfl
def thValC : Con := ⟨49, [.ck .rdr, .ck (.int .i64 0 8), .ck (.int .i64 0 100)], .ag [ckI, ckI], 100⟩
theorem thVal_con : ConOk Tryz.prog thTab thValC := conP_of (T := dConf Tryz.prog thTab thSto 0 100 []) (fu := 20) (keep := List.range 200) (th_good cons_nil) Tryz.func49 (by kernel_rfl) (by kernel_rfl) th_nc (by kernel_rfl)
def thKinC : Con := ⟨72, [.ck .rdr, .ck (.str 16), .ck (.int .i64 0 8)], .ag [ckI, ckI], 10⟩
theorem thKin_con : ConOk Tryz.prog thTab thKinC := conP_of (T := dConf Tryz.prog thTab thSto 0 10 []) (fu := 20) (keep := List.range 200) (th_good cons_nil) Tryz.func72 (by kernel_rfl) (by kernel_rfl) th_nc (by kernel_rfl)
def thTruC : Con := ⟨48, [.ck (.bool Option.none)], .ag [ckI, ckI], 0⟩
theorem thTru_con : ConOk Tryz.prog thTab thTruC := conP_of (T := dConf Tryz.prog thTab thSto 0 0 []) (fu := 20) (keep := List.range 200) (th_good cons_nil) Tryz.func48 (by kernel_rfl) (by kernel_rfl) th_nc (by kernel_rfl)
def thFldC : Con := ⟨47, [.ck .rdr, .ck (.int .i64 0 8)], .ck (.sl 10 0 5), 2000⟩
theorem thFld_con : ConOk Tryz.prog thTab thFldC := con_ofB (T := dConf Tryz.prog thTab thSto 0 2000 [thKinC]) (fu := 20) (keep := List.range 200) (th_good (cons_cons thKin_con cons_nil)) Tryz.func47 (by kernel_rfl) (by kernel_rfl) (by kernel_rfl)
abbrev thCs : List Con := [thFldC, thTruC]
theorem thCs_ok : ∀ e ∈ thCs, ConOk Tryz.prog thTab e := cons_cons thFld_con (cons_cons thTru_con cons_nil)
def thThsC : Con := ⟨24, [.ck .rdr, .ck (.int .i64 0 100)], .ck (.sl 11 0 8), 40000⟩
theorem thThs_con : ConOk Tryz.prog thTab thThsC := con_ofB (T := dConf Tryz.prog thTab thSto 0 40000 thCs) (fu := 20) (keep := List.range 200) (th_good thCs_ok) Tryz.func24 (by kernel_rfl) (by kernel_rfl) (by kernel_rfl)
def rqTab : Tab := (33, [ckI, ckI, ckI, .sl 10 0 8]) :: thTab
def rqSto : Sto := (33, 12) :: thSto
theorem rq_good {J lim : Nat} {cons : List Con} (hc : ∀ e ∈ cons, ConOk Tryz.prog rqTab e) : Good (dConf Tryz.prog rqTab rqSto J lim cons) := good_of (by kernel_rfl) (by kernel_rfl) hc
theorem rq_nc : noCode rqTab = true := by kernel_rfl
abbrev rqCs : List Con := [thFldC, thValC]
theorem rqCs_ok : ∀ e ∈ rqCs, ConOk Tryz.prog rqTab e := cons_cons (con_up (by kernel_rfl) thFld_con) (cons_cons (con_up (by kernel_rfl) thVal_con) cons_nil)
def rqC : Con := ⟨25, [.ck .rdr, .ck (.sl0 0 8), .ck (.int .i64 0 100)], .ag [ckI, ckI, ckI, .sl 10 0 8], 10000⟩
theorem rq_con : ConOk Tryz.prog rqTab rqC := conR_of (T := dConf Tryz.prog rqTab rqSto 0 10000 rqCs) (fu := 20) (keep := List.range 200) (rq_good rqCs_ok) Tryz.func25 (by kernel_rfl) (by kernel_rfl) rq_nc (by kernel_rfl)
end Go.Proofs.YtodjokdaofefdaaGreat

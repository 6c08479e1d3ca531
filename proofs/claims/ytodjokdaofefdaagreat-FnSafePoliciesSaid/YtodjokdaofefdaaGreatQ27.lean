/- Kinds, continued: functions that hand back an aggregate from a variable made at their beginning; that variable is written once, ahead of the return. -/
import Derived.Test.YtodjokdaofefdaaGreatQ26
import Derived.Test.YtodjokdaofefdaaGreatQ10
import Derived.Test.YtodjokdaofefdaaGreatQ25
import Derived.Test.YtodjokdaofefdaaGreatQ21
namespace Go.Proofs.YtodjokdaofefdaaGreat
set_option linter.unusedSimpArgs false
set_option linter.unusedVariables false
open Go.RowKit

/-- The worlds differ in one block at most. -/
def OffBy (pb : Nat) (a b : World) : Prop := b.os = a.os ∧ b.tape = a.tape ∧ b.output = a.output ∧ b.heap.size = a.heap.size ∧ ∀ k, k ≠ pb → b.heap[k]? = a.heap[k]?
def isCode : Kd → Bool
  | .one (.c .code) => true
  | _ => false
def allO {α β : Type} (f : α → Option β) : List α → Option (List β)
  | [] => some []
  | x :: l => (f x).bind fun y => (allO f l).map fun r => y :: r
theorem allO_mem {α β : Type} {f : α → Option β} : ∀ {l : List α} {r : List β}, allO f l = some r → ∀ x ∈ l, ∃ y ∈ r, f x = some y
  | [], _, _, x, hx => by simp at hx
  | x :: l, r, h, z, hz => by
    simp only [allO] at h
    obtain ⟨y, h1, h2⟩ := Option.bind_eq_some_iff.1 h
    obtain ⟨r', h3, rfl⟩ := Option.map_eq_some_iff.1 h2
    rcases List.mem_cons.1 hz with rfl | hz
    · exact ⟨y, by simp, h1⟩
    · obtain ⟨y', h4, h5⟩ := allO_mem h3 z hz
      exact ⟨y', by simp [h4], h5⟩
/-- The variable: its slot, its type, how many cells it has. -/
structure Prv where
  p : Nat
  Tp : TypeId
  n : Nat
abbrev FinR := List (Ph × List CK)
def absDrawnP (T : Conf) (nt : Nat) (V : Prv) (l : List Oper) (o : Oper) (y : Operand) (A : St) : Option (Ph × List CK) :=
  match A.ph with
  | .run N => if okRegion (l ++ [o]).toArray nt && keepSlot (l ++ [o]).toArray l.length V.p && (l ++ [o]).all (fun x => x.dst != some V.p) then match absD T (l ++ [o]).toArray A l [] 0 with
      | some (D, C) => match kcells (kop (lookD (l ++ [o]).toArray A D l.length) y) with
        | some ks => if N + C * (l.length + 1) ≤ T.J.lim ∧ ks.length = V.n then some (.run (N + C * (l.length + 1)), ks) else Option.none
        | Option.none => Option.none
      | Option.none => Option.none
    else Option.none
  | _ => Option.none
def finO (T : Conf) (nt : Nat) (V : Prv) (l : List Oper) (o : Oper) (dr : Bool) (A : SB) : Option FinR := match o.op, o.dst, o.guard with
  | .store t (.tmp s) y, Option.none, Option.none => if s = V.p ∧ t = V.Tp then
      (if dr then (if isCode (A.st.look V.p) then (absDrawnP T nt V l o y A.st).map fun r => [r] else Option.none)
      else (absOpsB T nt (l ++ [o]).toArray l A).bind (allO fun B => if isCode (B.st.look V.p) then (kcells (kop B.st.look y)).bind fun ks => if ks.length = V.n then some (B.st.ph, ks) else Option.none else Option.none))
    else Option.none
  | _, _, _ => Option.none
def finC (T : Conf) (nt : Nat) (V : Prv) (x y : Code) (A : SB) : Option FinR := match x, y with
  | .region _ ops dr, .ret => (match ops.toList.reverse with
    | o :: lr => finO T nt V lr.reverse o dr A
    | [] => Option.none)
  | _, _ => Option.none
structure OutP where
  norm : List SB
  exits : List (Nat × SB)
  rets : FinR
def bindP (f : SB → Option OutP) : List SB → Option OutP
  | [] => some ⟨[], [], []⟩
  | A :: l => (f A).bind fun O => (bindP f l).map fun O' => ⟨O.norm ++ O'.norm, O.exits ++ O'.exits, O.rets ++ O'.rets⟩
def plainP (T : Conf) (nt fu : Nat) (keep : List Nat) (code : Code) (A : SB) : Option OutP := (absCB T nt fu keep code A).bind fun O => if O.rets.isEmpty then some ⟨O.norm, O.exits, []⟩ else Option.none
def absP (T : Conf) (nt fu : Nat) (keep : List Nat) (V : Prv) : Code → SB → Option OutP
  | .seq x y, A => match finC T nt V x y A with
    | some R => some ⟨[], [], R⟩
    | Option.none => (absP T nt fu keep V x A).bind fun O => (bindP (absP T nt fu keep V y) O.norm).map fun O' => ⟨O'.norm, O.exits ++ O'.exits, O.rets ++ O'.rets⟩
  | .cond q x y, A => match kop A.st.look q with
    | .one (.c (.bool (some true))) => absP T nt fu keep V x A
    | .one (.c (.bool (some false))) => absP T nt fu keep V y A
    | .one (.c (.bool Option.none)) => (match q with
      | .tmp d => (absP T nt fu keep V x (A.learn 3 d true)).bind fun O => (absP T nt fu keep V y (A.learn 3 d false)).map fun O' => ⟨joinAllB T (O.norm ++ O'.norm), O.exits ++ O'.exits, O.rets ++ O'.rets⟩
      | _ => Option.none)
    | _ => Option.none
  | .block id b, A => (absP T nt fu keep V b A).map fun O => ⟨joinAllB T (O.norm ++ (O.exits.filter fun p => p.1 == id).map (·.2)), O.exits.filter fun p => p.1 != id, O.rets⟩
  | .skip, A => plainP T nt fu keep .skip A
  | .region id ops dr, A => plainP T nt fu keep (.region id ops dr) A
  | .exit id, A => plainP T nt fu keep (.exit id) A
  | _, _ => Option.none
section
variable {T : Conf} {c : Ctx} {w0 : World} {nt : Nat} {A : SB} {a : Act} {w w' : World} {v : Value} {V : Prv} {pb : Nat}
/-- What stands still: where the variable lies. -/
structure Here (T : Conf) (c : Ctx) (w0 : World) (V : Prv) (pb : Nat) : Prop where
  cv : c.cv = .pointer (some ⟨pb, 0, Option.none⟩)
  lt : pb < c.B
  ne : pb ≠ c.br
  cb : c.cb ≤ pb
  old : pb < w0.heap.size
  size : (T.P.info? V.Tp).map (·.size) = some V.n
  agg : rowT T.P V.Tp = some true
def SatP (T : Conf) (c : Ctx) (w0 : World) (nt : Nat) (V : Prv) (pb : Nat) (A : SB) (a : Act) (w : World) : Prop := ∃ w1, OffBy pb w0 w1 ∧ (∃ cs : Array Value, w1.heap[pb]? = some (.cells cs V.Tp (0, 0)) ∧ cs.size = V.n) ∧ SatB T c w1 nt A a w
def FinP (T : Conf) (c : Ctx) (w0 : World) (V : Prv) (pb : Nat) (r : Ph × List CK) (a : Act) (w : World) : Prop := ∃ w1, OffBy pb w0 w1 ∧ Inv c w1 T.J r.1 w ∧ a.defers = [] ∧ a.eval (.tmp V.p) = .pointer (some ⟨pb, 0, Option.none⟩) ∧ r.2.length = V.n ∧ ∃ cs : List Value, w.heap[pb]? = some (.cells cs.toArray V.Tp (0, 0)) ∧ RowK (r.2.map (cden c T.tab)) w cs
def OutPS (T : Conf) (c : Ctx) (w0 : World) (nt : Nat) (V : Prv) (pb : Nat) (O : OutP) : Exit → Act → World → Prop
  | .normal, a, w => ∃ A ∈ O.norm, SatP T c w0 nt V pb A a w
  | .exit id, a, w => ∃ A, (id, A) ∈ O.exits ∧ SatP T c w0 nt V pb A a w
  | .ret, a, w => ∃ r ∈ O.rets, FinP T c w0 V pb r a w
  | _, _, _ => False
theorem isCode_ok {k : Kd} (h : isCode k = true) (hH : Here T c w0 V pb) (hv : k.den c T.tab w v) : v = .pointer (some ⟨pb, 0, Option.none⟩) := by
  unfold isCode at h
  split at h
  · have : v = c.cv := hv
    rw [this, hH.cv]
  · cases h
/-- The block stays while nothing is written into it. -/
theorem here_cell (hH : Here T c w0 V pb) {w1 : World} (hO : OffBy pb w0 w1) {ph : Ph} {wa : World} (hI : Inv c w1 T.J ph wa) : wa.heap[pb]? = w1.heap[pb]? :=
  hI.1.2.2.2.2 pb (by rw [hO.2.2.2.1]; exact hH.old) (fun h => by rcases h with h | h; exact hH.ne h; have := hH.lt; omega)
/-- The store. -/
theorem store_here (hT : Good T) (hH : Here T c w0 V pb) {o : Oper} {y : Operand} {s : Nat} (hop : o.op = .store V.Tp (.tmp s) y) (hd : o.dst = Option.none) (hp : a.eval (.tmp s) = .pointer (some ⟨pb, 0, Option.none⟩)) {ks : List CK} {ky : Kd} (hks : kcells ky = some ks) (hn : ks.length = V.n) (hky : ky.den c T.tab w (a.eval y))
    {w1 : World} (hO : OffBy pb w0 w1) {cs0 : Array Value} (hc : w1.heap[pb]? = some (.cells cs0 V.Tp (0, 0))) (hcs0 : cs0.size = V.n) {ph : Ph} {N : Nat} (hph : ph = .run N) (hI : Inv c w1 T.J ph w) {K : Act → World → Prop} {Q : Exit → Act → World → Prop}
    (hK : ∀ (cs : List Value) (w' w2 : World), Rel c T.tab T.S w w' → OffBy pb w0 w2 → (∃ cs1 : Array Value, w2.heap[pb]? = some (.cells cs1 V.Tp (0, 0)) ∧ cs1.size = V.n) → Inv c w2 T.J ph w' → w'.heap[pb]? = some (.cells cs.toArray V.Tp (0, 0)) → RowK (ks.map (cden c T.tab)) w' cs → K a w') : o.wp T.P a w K Q := by
  subst hph
  obtain ⟨hf, cs, hcs, hr⟩ := kcells_ok hks hky
  have hcl : cs.length = ks.length := by rw [hr.length]; simp
  have hblk : w.heap[pb]? = some (.cells cs0 V.Tp (0, 0)) := (here_cell hH hO hI).trans hc
  have hblk' : w.heap[pb]? = some (.cells cs0.toList.toArray V.Tp (0, 0)) := by simpa using hblk
  have hc' : w1.heap[pb]? = some (.cells cs0.toList.toArray V.Tp (0, 0)) := by simpa using hc
  have hlist : (List.take 0 cs0.toList ++ cs ++ List.drop (0 + cs.length) cs0.toList) = cs := by
    rw [List.drop_eq_nil_of_le (by simp; omega)]; simp
  have hat := setCells_at cs 0 hblk' (by simp; omega)
  have hat1 := setCells_at cs 0 hc' (by simp; omega)
  rw [hlist] at hat hat1
  have hg := setCells_grown pb cs w 0
  have hg1 := setCells_grown pb cs w1 0
  have hrel : Rel c T.tab T.S w (setCells w pb 0 cs) := RelK.grown hg (fun k e => by cases e; exact .inr hH.lt)
  have hoff : OffBy pb w0 (setCells w1 pb 0 cs) := ⟨hg1.os.trans hO.1, hg1.tape.trans hO.2.1, hg1.output.trans hO.2.2.1, (setCells_size pb cs w1 0).trans hO.2.2.2.1, fun k hk => (setCells_other pb cs w1 0 k hk).trans (hO.2.2.2.2 k hk)⟩
  have hpw : pb < w.heap.size := (Array.getElem?_eq_some_iff.1 hblk).1
  obtain ⟨⟨g1, g2, g3, g4, g5⟩, i2, i3, i4, i5⟩ := hI
  have hI' : Inv c (setCells w1 pb 0 cs) T.J (.run N) (setCells w pb 0 cs) := by
    refine ⟨⟨(hg.os.trans g1).trans hg1.os.symm, (hg.tape.trans g2).trans hg1.tape.symm, (hg.output.trans g3).trans hg1.output.symm, by rw [setCells_size, setCells_size]; exact g4, fun k hk hR => ?_⟩, by rw [setCells_size]; exact i2, i3, i4, i5.grown hg (fun k e => by cases e; exact ⟨hH.ne, hH.cb⟩)⟩
    by_cases e : k = pb
    · subst e; rw [hat, hat1]
    · rw [setCells_other pb cs w 0 k e, setCells_other pb cs w1 0 k e]
      exact g5 k (by rw [setCells_size] at hk; exact hk) hR
  have hsz := hH.size
  obtain ⟨ie, e4, e5⟩ := Option.map_eq_some_iff.1 hsz
  have hthere : w.there pb 0 cs.length := fun j hj => by
    refine ⟨?_, frozen_of_row _ _ _ _ _ hblk⟩
    rw [cell_of_row _ _ _ _ _ _ hblk, Nat.zero_add, Array.getElem?_eq_getElem (by omega)]
    rfl
  have hrun : (Instr.storeAt V.Tp (.pointer (some ⟨pb, 0, Option.none⟩)) (a.eval y)).run T.P w = .ok () (setCells w pb 0 cs) := by
    have := run_storeCells_cells (P := T.P) pb 0 cs 0 w (fun j hj => by simpa using (hthere j hj).1) (fun j hj => by simpa using (hthere j hj).2) (flat_one hf hr)
    rw [setCells_eq]
    simp only [Nat.add_zero] at this
    have hsz : ¬ ((a.eval y).cells.size ≠ ie.size) := by rw [hcs]; simp; omega
    simp [Instr.storeAt, Instr.sureAddr, storeVar, sizeOf, typeInfo, e4, hcs, this]
    omega
  unfold Oper.wp
  rw [show (execOp a.eval o).run T.P w = .ok .skip (setCells w pb 0 cs) by
    simp only [execOp, hop, hp, Sem.run_bind, hrun, Result.andThen_ok, Sem.run_pure]]
  show K (a.put o.dst undef) _
  rw [hd]
  exact hK cs _ _ hrel hoff ⟨cs.toArray, hat1, by simp; omega⟩ hI' hat (RowK.rel (S := sto T.S) (sh := stoShape c T.tab T.S) (fun k hk => by
    obtain ⟨k0, _, rfl⟩ := List.mem_map.1 hk
    exact den_stab hT.tab hT.sto k0) hrel hr)
theorem absOpsB_app (hT : Good T) {ops : Array Oper} {Q : Exit → Act → World → Prop} {tl : List Oper} : ∀ {l : List Oper} {A : SB} {L : List SB} {a : Act} {w : World}, absOpsB T nt ops l A = some L → SatB T c w0 nt A a w → (∀ a' w', (∃ B ∈ L, SatB T c w0 nt B a' w') → wpList T.P ops Q tl a' w') → wpList T.P ops Q (l ++ tl) a w
  | [], A, L, a, w, h, hS, hQ => by
    cases h
    exact hQ a w ⟨A, by simp, hS⟩
  | [o], A, L, a, w, h, hS, hQ => by
    refine wpList_step fun K hK => ?_
    exact guardB_ok hT h hS (fun B hB a' w' hSB => hK _ _ (hQ a' w' ⟨B, hB, hSB⟩))
  | o :: o2 :: r, A, L, a, w, h, hS, hQ => by
    simp only [absOpsB] at h
    split at h
    · rename_i B hB
      refine wpList_step fun K hK => ?_
      obtain ⟨g1, g2, g3⟩ := pairB_ok hT hB hS (K := fun a' w' => wpList T.P ops Q (r ++ tl) a' w') (Q := Q) (fun a' w' hSB => absOpsB_app hT h hSB hQ)
      rw [if_pos (by simp [Region.wanted, g1])]
      refine Oper.wp_mono ?_ g3
      intro a1 w1 h1
      refine hK _ _ (wpList_step fun K2 hK2 => ?_)
      rw [if_pos (by simp [Region.wanted, g2])]
      exact Oper.wp_mono (fun a2 w2 h2 => hK2 _ _ h2) h1
    · obtain ⟨l1, h1, h2⟩ := Option.bind_eq_some_iff.1 h
      refine wpList_step fun K hK => ?_
      exact guardB_ok hT h1 hS (fun B hB a' w' hSB => by
        obtain ⟨r', h3, h4⟩ := bindL_mem h2 B hB
        exact hK _ _ (absOpsB_app hT h3 hSB (fun a2 w2 ⟨D, hD, hSD⟩ => hQ a2 w2 ⟨D, h4 D hD, hSD⟩)))
/-- The obligations, ahead of the store. -/
theorem absD_allP (hT : Good T) (hH : Here T c w0 V pb) {H : World → Prop} {NN : Nat} {ops : Array Oper} {A : St} {a0 : Act} {N : Nat} (hS : ∀ f ∈ A.facts, f.holds fun s => a0.eval (.tmp s)) {D' : DL} {C' : Nat} (hlim : N + C' * ops.size ≤ T.J.lim) (hlen : D'.length = NN) (hops : NN + 1 = ops.size) {o : Oper}
    (hlast : RAllH T.P ops a0 (TD c T.tab D' a0) (fun k wz => ∃ w1, OffBy pb w0 w1 ∧ (∃ cs : Array Value, w1.heap[pb]? = some (.cells cs V.Tp (0, 0)) ∧ cs.size = V.n) ∧ Inv c w1 T.J (.run (N + C' * k)) wz ∧ ∀ s, (A.look s).den c T.tab wz (a0.eval (.tmp s))) (fun i wa wb => Rel c T.tab T.S wa wb ∧ (i ≠ NN → wb.heap[pb]? = wa.heap[pb]?)) (some NN) (fun _ => True) H [o] NN) :
    ∀ {l : List Oper} {D : DL} {C : Nat}, absD T ops A l D C = some (D', C') →
    RAllH T.P ops a0 (TD c T.tab D' a0) (fun k wz => ∃ w1, OffBy pb w0 w1 ∧ (∃ cs : Array Value, w1.heap[pb]? = some (.cells cs V.Tp (0, 0)) ∧ cs.size = V.n) ∧ Inv c w1 T.J (.run (N + C' * k)) wz ∧ ∀ s, (A.look s).den c T.tab wz (a0.eval (.tmp s))) (fun i wa wb => Rel c T.tab T.S wa wb ∧ (i ≠ NN → wb.heap[pb]? = wa.heap[pb]?)) (some NN) (fun _ => True) H (l ++ [o]) D.length
  | [], D, C, h => by
    simp only [absD, Option.some.injEq, Prod.mk.injEq] at h
    obtain ⟨rfl, rfl⟩ := h
    rw [hlen]
    exact hlast
  | o' :: r, D, C, h => by
    simp only [absD] at h
    split at h <;> try (cases h; done)
    rename_i hgd
    split at h <;> try (cases h; done)
    rename_i k eff e h1
    split at h <;> try (cases h; done)
    rename_i n h2
    have hrest := absD_allP hT hH hS hlim hlen hops hlast h
    obtain ⟨hl1, hl2, hl3⟩ := absD_len h
    simp only [List.length_append, List.length_singleton] at hrest hl1 hl3
    have hDi : D'[D.length]? = some (k, srcEx ops D D.length e) := by
      rw [hl3 _ (by omega)]; simp
    have hDj : ∀ j, j < D.length → D'[j]? = D[j]? := fun j hj => by
      rw [hl3 j (by omega), List.getElem?_append_left hj]
    refine RAllH.cons (by simpa using hgd) (fun a i wa K Q hi hI hp hK => ?_) hrest
    obtain ⟨w1, hoff, hcell, hInv, hkinds⟩ := hI
    have hok : ∀ s j, depIx ops D.length s = some j → (∃ k q, D'[j]? = some (k, q) ∧ (D[j]? = some (k, q) ∨ D[j]? = Option.none) ∧ k.den c T.tab wa (a.eval (.tmp s)) ∧ ∀ s0, q = some s0 → a.eval (.tmp s) = a0.eval (.tmp s0)) ∨ D[j]? = Option.none := fun s j hj => by
      have h3 := hp.dep j s (depIx_ok hj)
      unfold TD at h3
      cases hD : D[j]? with
      | none => exact .inr rfl
      | some kq =>
        obtain ⟨k, q⟩ := kq
        have hjl := (List.getElem?_eq_some_iff.1 hD).1
        rw [hDj j hjl, hD] at h3
        exact .inl ⟨k, q, by rw [hDj j hjl, hD], .inl rfl, h3.1, h3.2⟩
    have hlook : ∀ s, (lookD ops A D D.length s).den c T.tab wa (a.eval (.tmp s)) := fun s => by
      unfold lookD
      split
      · rename_i j hj
        rcases hok s j hj with ⟨k, q, _, h4, h5, _⟩ | h4
        · rcases h4 with h4 | h4 <;> rw [h4]
          · exact h5
          · exact any_den
        · rw [h4]; exact any_den
      · split
        · rename_i hk
          rw [hp.keep s hk]
          exact hkinds s
        · exact any_den
    have hsrc : ∀ s s0, srcD ops D D.length s = some s0 → a.eval (.tmp s) = a0.eval (.tmp s0) := fun s s0 h => by
      unfold srcD at h
      split at h
      · rename_i j hj
        rcases hok s j hj with ⟨k, q, _, h4, _, h5⟩ | h4
        · rcases h4 with h4 | h4 <;> rw [h4] at h
          · exact h5 s0 (by simpa using h)
          · simp at h
        · rw [h4] at h; simp at h
      · split at h
        · rename_i hk
          cases h
          exact hp.keep s hk
        · cases h
    have hi1 : i + 1 ≤ ops.size := hi
    have hmul := Nat.mul_le_mul_left C' hi1
    rw [Nat.mul_add, Nat.mul_one] at hmul
    have hnC : n ≤ C' := by omega
    refine absOp_ok hT (c := c) (w0 := w1) h1 (app_cost h2 (by omega)) a wa K Q hInv hlook (fun x s hx => ?_) (fun v wb hv hr hIb he => ?_)
    · unfold ltD at hx
      split at hx
      · rename_i x0 s0 e1 e2
        rw [hsrc x x0 e1, hsrc s s0 e2]
        have := less_ok (ρ := fun s => a0.eval (.tmp s)) hS hx
        simp only [St.root, root_ok (ρ := fun s => a0.eval (.tmp s)) hS] at this
        exact this
      · cases hx
    · refine hK v wb ?_ ⟨hr, fun _ => ?_⟩ ⟨w1, hoff, hcell, ?_, fun s => Kd.stab hT.tab hT.sto _ _ _ _ hr (hkinds s)⟩ (fun e => ?_)
      · unfold TD
        rw [hDi]
        refine ⟨hv, fun s hs => ?_⟩
        unfold srcEx at hs
        split at hs
        · rename_i x
          rw [he]
          exact hsrc x s hs
        · cases hs
      · have hIb' : Inv c w1 T.J (.run (N + C' * i + n)) wb := hIb
        exact (here_cell hH hoff hIb').trans (here_cell hH hoff hInv).symm
      · obtain ⟨g1, g2, g3, g4, g5⟩ : Inv c w1 T.J (.run (N + C' * i + n)) wb := hIb
        exact ⟨g1, g2, g3, g4, g5.mono (by rw [Nat.mul_add, Nat.mul_one]; omega)⟩
      · simp only [Option.some.injEq] at e
        omega
theorem absDrawnP_ok (hT : Good T) (hH : Here T c w0 V pb) {id : Nat} {l : List Oper} {o : Oper} {y : Operand} {r : Ph × List CK} (hop : o.op = .store V.Tp (.tmp V.p) y) (hd : o.dst = Option.none) (hgd : o.guard = Option.none) (hcode : isCode (A.st.look V.p) = true) (h : absDrawnP T nt V l o y A.st = some r) (hS : SatP T c w0 nt V pb A a w) {Q : Exit → Act → World → Prop} (hQ : ∀ a' w', FinP T c w0 V pb r a' w' → Q .normal a' w') : (Code.region id (l ++ [o]).toArray true).wp T.P Q a w := by
  unfold absDrawnP at h
  split at h <;> try (cases h; done)
  rename_i N hN
  split at h <;> try (cases h; done)
  rename_i hok0
  simp only [Bool.and_eq_true] at hok0
  obtain ⟨⟨hok, hkeep⟩, hall⟩ := hok0
  split at h <;> try (cases h; done)
  rename_i D C hD
  split at h <;> try (cases h; done)
  rename_i ks hks
  split at h <;> try (cases h; done)
  rename_i hlim
  obtain ⟨hlim, hn⟩ := hlim
  cases h
  obtain ⟨w1, hoff, hcell, ⟨h1, h2, h3, h4, h5⟩, _⟩ := hS
  rw [hN] at h5
  obtain ⟨hl1, _, _⟩ := absD_len hD
  simp only [List.length_nil, Nat.zero_add] at hl1
  have hst : ∀ k : Kd, Stab c T.tab T.S (k.den c T.tab) := Kd.stab hT.tab hT.sto
  have hpv : a.eval (.tmp V.p) = .pointer (some ⟨pb, 0, Option.none⟩) := isCode_ok hcode hH (h3 V.p)
  refine wp_region_draws2H (some l.length) (fun _ => True) (fun wz => ∃ cs : List Value, wz.heap[pb]? = some (.cells cs.toArray V.Tp (0, 0)) ∧ RowK (ks.map (cden c T.tab)) wz cs) (TD c T.tab D a)
    (fun k wz => ∃ w1, OffBy pb w0 w1 ∧ (∃ cs : Array Value, w1.heap[pb]? = some (.cells cs V.Tp (0, 0)) ∧ cs.size = V.n) ∧ Inv c w1 T.J (.run (N + C * k)) wz ∧ ∀ s, (A.st.look s).den c T.tab wz (a.eval (.tmp s))) (fun i wa wb => Rel c T.tab T.S wa wb ∧ (i ≠ l.length → wb.heap[pb]? = wa.heap[pb]?)) (fun _ => Option.none) hT.mixed (by rw [h1]; exact hok) (by simp [okKill]) ?_ (fun _ _ _ _ _ _ => trivial) ?_
    ⟨w1, hoff, hcell, by simpa using h5.drew (ph := .pre 0), fun s => hst _ _ _ _ (RelK.drew w) (h3 s)⟩ trivial (absD_allP hT hH h4 (by simpa using hlim) hl1 (by simp) ?_ hD) ?_
  · intro i j wa wb v hr _ _ _ _ _ ht
    unfold TD at ht ⊢
    split
    · rename_i k q e
      rw [e] at ht
      exact ⟨hst _ _ _ _ hr.1 ht.1, ht.2⟩
    · trivial
  · rintro i wa wb ⟨hr, hpb⟩ hne _ ⟨cs, k1, k2⟩
    exact ⟨cs, (hpb (fun e => hne (by rw [e]))).trans k1, RowK.rel (S := sto T.S) (sh := stoShape c T.tab T.S) (fun k hk => by
      obtain ⟨k0, _, rfl⟩ := List.mem_map.1 hk
      exact den_stab hT.tab hT.sto k0) hr k2⟩
  · refine RAllH.cons hgd (fun a' i wa K Q' hi hI hp hK => ?_) RAllH.none_
    obtain ⟨w2, hoff2, ⟨cs0, hc0, hcs0⟩, hInv, hkinds⟩ := hI
    have hlook : ∀ s, (lookD (l ++ [o]).toArray A.st D l.length s).den c T.tab wa (a'.eval (.tmp s)) := fun s => by
      unfold lookD
      split
      · rename_i j hj
        have h3 := hp.dep j s (depIx_ok hj)
        unfold TD at h3
        cases hDj : D[j]? with
        | none => exact any_den
        | some kq =>
          rw [hDj] at h3
          exact h3.1
      · split
        · rename_i hk
          rw [hp.keep s hk]
          exact hkinds s
        · exact any_den
    refine store_here hT hH hop hd ((hp.keep V.p hkeep).trans hpv) hks hn (kop_den hlook y) hoff2 hc0 hcs0 rfl hInv (fun cs w' w3 hr ho3 hc3 hI3 hat hrow => ?_)
    have hK2 := hK undef w'
    have hput : a'.put o.dst undef = a' := by rw [hd]; rfl
    rw [hput] at hK2
    refine hK2 ?_ ⟨hr, fun e => absurd rfl e⟩ ⟨w3, ho3, hc3, ?_, fun s => hst _ _ _ _ hr (hkinds s)⟩ (fun _ => ⟨cs, hat, hrow⟩)
    · unfold TD
      rw [List.getElem?_eq_none (by omega)]
      trivial
    · obtain ⟨g1, g2, g3, g4, g5⟩ := hI3
      exact ⟨g1, g2, g3, g4, g5.mono (by rw [Nat.mul_add, Nat.mul_one]; omega)⟩
  · intro f w' hT' hI' hH'
    obtain ⟨w2, hoff2, _, hInv, _⟩ := hI'
    obtain ⟨cs, hat, hrow⟩ := hH' l.length rfl (by simp)
    have hp := putAll_defers f (l ++ [o]) 0 a
    refine hQ _ _ ⟨w2, hoff2, by simpa using hInv, hp.1.trans h2, ?_, hn, cs, hat, hrow⟩
    rw [putAll_none f (l ++ [o]) 0 a V.p (fun j o' ho' hd' => ?_)]
    · exact hpv
    · have := List.all_eq_true.1 hall o' (List.mem_of_getElem? ho')
      rw [hd'] at this
      simp at this
theorem finO_ok (hT : Good T) (hH : Here T c w0 V pb) {id : Nat} {l : List Oper} {o : Oper} {dr : Bool} {R : FinR} (h : finO T nt V l o dr A = some R) (hph : ∀ r ∈ R, ∃ N, r.1 = .run N) (hS : SatP T c w0 nt V pb A a w) {Q : Exit → Act → World → Prop} (hQ : ∀ a' w', (∃ r ∈ R, FinP T c w0 V pb r a' w') → Q .normal a' w') : (Code.region id (l ++ [o]).toArray dr).wp T.P Q a w := by
  unfold finO at h
  split at h <;> try (cases h; done)
  rename_i t s y hop hd hg
  split at h <;> try (cases h; done)
  rename_i hst
  obtain ⟨rfl, rfl⟩ := hst
  split at h
  · rename_i hdr
    subst hdr
    split at h <;> try (cases h; done)
    rename_i hcode
    obtain ⟨r, hr, rfl⟩ := Option.map_eq_some_iff.1 h
    exact absDrawnP_ok hT hH hop hd hg hcode hr hS (fun a' w' hf => hQ a' w' ⟨r, by simp, hf⟩)
  · rename_i hdr
    have hdr : dr = false := by simpa using hdr
    subst hdr
    obtain ⟨L, h1, h2⟩ := Option.bind_eq_some_iff.1 h
    obtain ⟨w1, hoff, ⟨cs0, hc0, hcs0⟩, hSB⟩ := hS
    refine wp_region_list ?_
    simp only [List.toList_toArray]
    refine absOpsB_app hT h1 hSB (fun a' w' ⟨B, hB, hSB'⟩ => ?_)
    obtain ⟨r, hr, h3⟩ := allO_mem h2 B hB
    split at h3 <;> try (cases h3; done)
    rename_i hcode
    obtain ⟨ks, hks, h4⟩ := Option.bind_eq_some_iff.1 h3
    split at h4 <;> try (cases h4; done)
    rename_i hn
    cases h4
    obtain ⟨N, hN⟩ := hph _ hr
    have hpv := isCode_ok hcode hH (hSB'.1.2.2.1 V.p)
    refine wpList_step fun K hK => ?_
    rw [if_pos (by simp [Region.wanted, hg])]
    exact store_here hT hH hop hd hpv hks hn (kop_den hSB'.1.2.2.1 y) hoff hc0 hcs0 hN hSB'.1.2.2.2.2 (fun cs w2 w3 _ ho3 _ hI3 hat hrow => hK _ _ (hQ _ _ ⟨_, hr, w3, ho3, hI3, hSB'.1.2.1, hpv, hn, cs, hat, hrow⟩))
theorem bindP_mem {f : SB → Option OutP} : ∀ {l : List SB} {O : OutP}, bindP f l = some O → ∀ A ∈ l, ∃ O', f A = some O' ∧ (∀ B ∈ O'.norm, B ∈ O.norm) ∧ (∀ B ∈ O'.exits, B ∈ O.exits) ∧ (∀ B ∈ O'.rets, B ∈ O.rets)
  | [], _, _, A, hA => by simp at hA
  | B :: l, O, h, A, hA => by
    simp only [bindP] at h
    obtain ⟨O1, h1, h2⟩ := Option.bind_eq_some_iff.1 h
    obtain ⟨O2, h3, rfl⟩ := Option.map_eq_some_iff.1 h2
    rcases List.mem_cons.1 hA with rfl | hA
    · exact ⟨O1, h1, fun _ h => by simp [h], fun _ h => by simp [h], fun _ h => by simp [h]⟩
    · obtain ⟨O', h4, h5, h6, h7⟩ := bindP_mem h3 A hA
      exact ⟨O', h4, fun B hB => by simp [h5 B hB], fun B hB => by simp [h6 B hB], fun B hB => by simp [h7 B hB]⟩
theorem OutPS.mono {O O' : OutP} (h1 : ∀ A ∈ O.norm, A ∈ O'.norm) (h2 : ∀ A ∈ O.exits, A ∈ O'.exits) (h3 : ∀ A ∈ O.rets, A ∈ O'.rets) : ∀ e a w, OutPS T c w0 nt V pb O e a w → OutPS T c w0 nt V pb O' e a w := by
  intro e a w h
  cases e with
  | normal => obtain ⟨A, hA, hS⟩ := h; exact ⟨A, h1 A hA, hS⟩
  | exit id => obtain ⟨A, hA, hS⟩ := h; exact ⟨A, h2 _ hA, hS⟩
  | ret => obtain ⟨A, hA, hS⟩ := h; exact ⟨A, h3 A hA, hS⟩
  | _ => exact h
theorem joinP_ok (hT : Good T) {L : List SB} (h : ∃ A ∈ L, SatP T c w0 nt V pb A a w) : ∃ A ∈ joinAllB T L, SatP T c w0 nt V pb A a w := by
  obtain ⟨A, hA, w1, hoff, hc, hS⟩ := h
  obtain ⟨B, hB, hSB⟩ := joinAllB_ok hT ⟨A, hA, hS⟩
  exact ⟨B, hB, w1, hoff, hc, hSB⟩
theorem plainP_ok (hT : Good T) {fu : Nat} {keep : List Nat} {code : Code} {O : OutP} (h : plainP T nt fu keep code A = some O) (hS : SatP T c w0 nt V pb A a w) : code.wp T.P (OutPS T c w0 nt V pb O) a w := by
  obtain ⟨O1, h1, h2⟩ := Option.bind_eq_some_iff.1 h
  split at h2 <;> try (cases h2; done)
  rename_i he
  cases h2
  obtain ⟨w1, hoff, hc, hSB⟩ := hS
  refine Code.wp_mono (fun e a' w' hq => ?_) (absCB_ok hT code h1 hSB)
  cases e with
  | normal => obtain ⟨B, hB, hSB⟩ := hq; exact ⟨B, hB, w1, hoff, hc, hSB⟩
  | exit id => obtain ⟨B, hB, hSB⟩ := hq; exact ⟨B, hB, w1, hoff, hc, hSB⟩
  | ret => obtain ⟨B, hB, _⟩ := hq; rw [List.isEmpty_iff.1 he] at hB; simp at hB
  | _ => exact hq.elim
theorem absP_ok (hT : Good T) (hH : Here T c w0 V pb) {fu : Nat} {keep : List Nat} : ∀ (code : Code) {A : SB} {O : OutP} {a : Act} {w : World}, absP T nt fu keep V code A = some O → (∀ r ∈ O.rets, ∃ N, r.1 = .run N) → SatP T c w0 nt V pb A a w → code.wp T.P (OutPS T c w0 nt V pb O) a w := by
  intro code
  induction code with
  | skip => intro A O a w h _ hS; simp only [absP] at h; exact plainP_ok hT h hS
  | region id ops draw => intro A O a w h _ hS; simp only [absP] at h; exact plainP_ok hT h hS
  | exit id => intro A O a w h _ hS; simp only [absP] at h; exact plainP_ok hT h hS
  | seq x y ihx ihy =>
    intro A O a w h hph hS
    simp only [absP] at h
    split at h
    · rename_i R hR
      cases h
      unfold finC at hR
      split at hR <;> try (cases hR; done)
      rename_i id ops dr
      split at hR <;> try (cases hR; done)
      rename_i o lr hlr
      have hops : ops = (lr.reverse ++ [o]).toArray := by
        have : ops.toList = lr.reverse ++ [o] := by
          rw [← List.reverse_reverse ops.toList, hlr, List.reverse_cons]
        rw [← this]
      subst hops
      refine wp_seq (finO_ok hT hH hR hph hS (fun a' w' hf => ?_))
      exact wp_ret hf
    · obtain ⟨O1, h1, h2⟩ := Option.bind_eq_some_iff.1 h
      obtain ⟨O2, h3, rfl⟩ := Option.map_eq_some_iff.1 h2
      refine wp_seq (Code.wp_mono (fun e a' w' he => ?_) (ihx h1 (fun r hr => hph r (by simp [hr])) hS))
      cases e with
      | normal =>
        obtain ⟨B, hB, hSB⟩ := he
        obtain ⟨O', h4, h5, h6, h7⟩ := bindP_mem h3 B hB
        exact Code.wp_mono (OutPS.mono h5 (fun D hD => by simp [h6 D hD]) (fun D hD => by simp [h7 D hD])) (ihy h4 (fun r hr => hph r (by simp [h7 r hr])) hSB)
      | exit id => obtain ⟨D, hD, hSD⟩ := he; exact ⟨D, by simp [hD], hSD⟩
      | ret => obtain ⟨D, hD, hSD⟩ := he; exact ⟨D, by simp [hD], hSD⟩
      | _ => exact he
  | cond q x y ihx ihy =>
    intro A O a w h hph hS
    simp only [absP] at h
    obtain ⟨w1, hoff, hc, hSB⟩ := hS
    have hq := kop_den (c := c) (tab := T.tab) (w := w) hSB.1.2.2.1 q
    split at h <;> try (cases h; done)
    · rename_i e; rw [e] at hq; obtain ⟨b, hb, hb2⟩ := hq; obtain rfl := hb2 _ rfl
      exact wp_cond_true hb (ihx h hph ⟨w1, hoff, hc, hSB⟩)
    · rename_i e; rw [e] at hq; obtain ⟨b, hb, hb2⟩ := hq; obtain rfl := hb2 _ rfl
      exact wp_cond_false hb (ihy h hph ⟨w1, hoff, hc, hSB⟩)
    · rename_i e; rw [e] at hq; obtain ⟨b, hb, _⟩ := hq
      split at h <;> try (cases h; done)
      rename_i d
      obtain ⟨O1, h1, h2⟩ := Option.bind_eq_some_iff.1 h
      obtain ⟨O2, h3, rfl⟩ := Option.map_eq_some_iff.1 h2
      have fin : ∀ O', (∀ B ∈ O'.norm, B ∈ O1.norm ++ O2.norm) → (∀ B ∈ O'.exits, B ∈ O1.exits ++ O2.exits) → (∀ B ∈ O'.rets, B ∈ O1.rets ++ O2.rets) → ∀ e a w, OutPS T c w0 nt V pb O' e a w → OutPS T c w0 nt V pb ⟨joinAllB T (O1.norm ++ O2.norm), O1.exits ++ O2.exits, O1.rets ++ O2.rets⟩ e a w := by
        intro O' g1 g2 g3 e a w he
        cases e with
        | normal => obtain ⟨B, hB, hSB⟩ := he; exact joinP_ok hT ⟨B, g1 B hB, hSB⟩
        | exit id => obtain ⟨B, hB, hSB⟩ := he; exact ⟨B, g2 _ hB, hSB⟩
        | ret => obtain ⟨B, hB, hSB⟩ := he; exact ⟨B, g3 B hB, hSB⟩
        | _ => exact he
      refine wp_cond_split hb (fun e => ?_) (fun e => ?_)
      · subst e
        exact Code.wp_mono (fin O1 (fun B hB => by simp [hB]) (fun B hB => by simp [hB]) (fun B hB => by simp [hB])) (ihx h1 (fun r hr => hph r (by simp [hr])) ⟨w1, hoff, hc, hSB.learn hb⟩)
      · subst e
        exact Code.wp_mono (fin O2 (fun B hB => by simp [hB]) (fun B hB => by simp [hB]) (fun B hB => by simp [hB])) (ihy h3 (fun r hr => hph r (by simp [hr])) ⟨w1, hoff, hc, hSB.learn hb⟩)
  | block id b ih =>
    intro A O a w h hph hS
    simp only [absP] at h
    obtain ⟨O1, h1, rfl⟩ := Option.map_eq_some_iff.1 h
    refine wp_block (Code.wp_mono (fun e a' w' he => ?_) (ih h1 hph hS))
    cases e with
    | normal => obtain ⟨B, hB, hSB⟩ := he; exact joinP_ok hT ⟨B, by simp [hB], hSB⟩
    | exit id' =>
      obtain ⟨B, hB, hSB⟩ := he
      show (if id' = id then _ else _)
      by_cases e : id' = id
      · rw [if_pos e]
        subst e
        refine joinP_ok hT ⟨B, ?_, hSB⟩
        simp only [List.mem_append, List.mem_map, List.mem_filter]
        exact .inr ⟨(id', B), ⟨hB, by simp⟩, rfl⟩
      · rw [if_neg e]
        exact ⟨B, List.mem_filter.2 ⟨hB, by simpa using e⟩, hSB⟩
    | ret => exact he
    | _ => exact he
  | _ => intro A O a w h; simp [absP] at h
end
end Go.Proofs.YtodjokdaofefdaaGreat
/- Kinds at this program: the reader's three functions. -/
namespace Go.Proofs.YtodjokdaofefdaaGreat
set_option linter.unusedSimpArgs false
set_option linter.unusedVariables false
open Go.RowKit

/-- A configuration of this program. -/
abbrev dConf (P : Program) (tab : Tab) (S : Sto) (J lim : Nat) (cons : List Con) : Conf := { P := P, tab := tab, S := S, J := ⟨J, lim⟩, fu := 8, cons := cons, openF := 12, pickF := 16, oddF := 32 }
theorem entersF {f : FuncId} {fn : Func} (hf : Tryz.prog.funcs[f]? = some fn) (hname : (fn.name == "runtime.NumGoroutine") = false) (hb : fn.body.isSome = true) : Enters Tryz.prog f := by
  obtain ⟨c, hc⟩ := Option.isSome_iff_exists.1 hb
  exact ⟨fn, c, hf, hname, hc⟩
theorem good_of {tab : Tab} {S : Sto} {J lim : Nat} {cons : List Con} (ht : okTab tab = true) (hS : okSto tab S = true) (hc : ∀ e ∈ cons, ConOk Tryz.prog tab e) : Good (dConf Tryz.prog tab S J lim cons) where
  tab := ht
  sto := hS
  mixed := by kernel_rfl
  cons := hc
  enterO := entersF Tryz.func12 (by kernel_rfl) rfl
  enterP := entersF Tryz.func16 (by kernel_rfl) rfl
  enterD := entersF Tryz.func32 (by kernel_rfl) rfl
  openOk := fun A l c cb w h1 h2 h3 h4 => l20Open_any h1 h2 h3 h4
  pickOk := fun br cb N n w h1 h2 h3 h4 => pick_d h1 h2 h3 h4
  oddOk := fun br cb N n w h1 h2 h3 h4 => odd_d h1 h2 h3 h4
theorem cons_nil {tab : Tab} : ∀ e ∈ ([] : List Con), ConOk Tryz.prog tab e := fun _ h => absurd h (by simp)
theorem cons_cons {tab : Tab} {e : Con} {l : List Con} (h : ConOk Tryz.prog tab e) (h2 : ∀ e ∈ l, ConOk Tryz.prog tab e) : ∀ x ∈ e :: l, ConOk Tryz.prog tab x := fun x hx => by
  rcases List.mem_cons.1 hx with rfl | hx
  · exact h
  · exact h2 x hx
end Go.Proofs.YtodjokdaofefdaaGreat
/- Kinds, continued: the contract of a function that hands back an aggregate from a variable of its own. -/
namespace Go.Proofs.YtodjokdaofefdaaGreat
set_option linter.unusedSimpArgs false
set_option linter.unusedVariables false
open Go.RowKit

def bareArg2 (k : Kd) : Bool := bareArg k && !isCode k
def noCode (tab : Tab) : Bool := tab.all fun x => x.2.all fun k => k != .code
section
variable {T : Conf} {c c' : Ctx} {w0 : World} {nt : Nat} {a : Act} {w w' : World} {v : Value} {tab : Tab}
theorem bare2_den (hbr : c'.br = c.br) {k : Kd} (hk : bareArg2 k = true) (h : k.den c tab w v) : k.den c' tab w' v := by
  unfold bareArg2 bareArg at hk
  simp only [Bool.and_eq_true] at hk
  obtain ⟨hk, hk2⟩ := hk
  split at hk <;> try (cases hk; done)
  rename_i k0
  cases k0 <;> simp only [CK.bare, Bool.false_eq_true, isCode, Bool.not_true, Bool.false_eq_true] at hk hk2 <;> first
    | exact h
    | (show v = _; rw [hbr]; exact h)
theorem args_bare2 (hbr : c'.br = c.br) : ∀ {aks : List Kd} {args : List Value}, aks.all bareArg2 = true → ArgsR c tab w aks args → ArgsR c' tab w' aks args
  | [], [], _, _ => trivial
  | k :: l, v :: r, h, hh => by
    simp only [List.all_cons, Bool.and_eq_true] at h
    exact ⟨bare2_den hbr h.1 hh.1, args_bare2 hbr h.2 hh.2⟩
  | [], _ :: _, _, h => h.elim
  | _ :: _, [], _, h => h.elim
/-- Where no kind speaks of the code, it does not matter what it is. -/
theorem den_cv {tb : Nat → TypeId × List VK} {k : CK} (h : k ≠ .code) (hB : c'.B = c.B) (hbr : c'.br = c.br) : CK.den c' tb k = CK.den c tb k := by
  cases k <;> first | rfl | exact absurd rfl h | (simp only [CK.den, hB, hbr])
theorem tab_cv (hB : c'.B = c.B) (hbr : c'.br = c.br) : ∀ {tab : Tab}, noCode tab = true → ∀ i, tabOf c' tab i = tabOf c tab i
  | [], _, _ => rfl
  | (Ty, ks) :: r, h, i => by
    simp only [noCode, List.all_cons, Bool.and_eq_true, List.all_eq_true, bne_iff_ne] at h
    have ih : tabOf c' r = tabOf c r := funext (tab_cv hB hbr (by simp only [noCode, List.all_eq_true, bne_iff_ne]; exact h.2))
    rw [tabOf, tabOf]
    split
    · rw [ih]
      exact Prod.ext rfl (List.map_congr_left fun k hk => den_cv (h.1 k hk) hB hbr)
    · rw [ih]
theorem cden_cv (hn : noCode tab = true) (hB : c'.B = c.B) (hbr : c'.br = c.br) {k : CK} (h : k ≠ .code) : cden c' tab k = cden c tab k := by
  unfold cden
  rw [show tabOf c' tab = tabOf c tab from funext (tab_cv hB hbr hn)]
  exact den_cv h hB hbr
/-- The function gives an aggregate of such cells. -/
def absFnP (T : Conf) (fn : Func) (fu : Nat) (keep : List Nat) (aks : List Kd) (rk : List CK) : Bool := match fn.body, fn.results.toList with
  | some (.seq (.region _ ops false) rest), [.cell p Tp] => match ops.toList with
    | [o] => match o.op, o.dst, o.guard, T.P.info? Tp with
      | .alloc e, some d, Option.none, some ie => match ie.zero with
        | some z => decide (d = p) && decide (e = Tp) && decide (p < fn.ntmps) && decide (aks.length ≤ fn.ntmps) && decide (z.cells.size = ie.size) && (rowT T.P Tp == some true) &&
          (match absP T fn.ntmps fu keep ⟨p, Tp, ie.size⟩ rest ⟨(St.mk (argEnv 0 aks) [] (.run 0)).put (some p) (.ck .code) (.run 0) .no, []⟩ with
            | some O => O.norm.isEmpty && O.exits.isEmpty && O.rets.all fun r => match r.1 with
              | .run n => decide (n ≤ T.J.lim) && all2 (CK.le T.tab T.fu) r.2 rk && r.2.all (fun k => k != .code)
              | _ => false
            | Option.none => false)
        | Option.none => false
      | _, _, _, _ => false
    | _ => false
  | _, _ => false
theorem conP_of (hT : Good T) {f : FuncId} {fn : Func} (hf : T.P.funcs[f]? = some fn) (hname : (fn.name == "runtime.NumGoroutine") = false) {fu : Nat} {keep : List Nat} {aks : List Kd} {rk : List CK} (hb : aks.all bareArg2 = true) (hnc : noCode T.tab = true) (h : absFnP T fn fu keep aks rk = true) : ConOk T.P T.tab ⟨f, aks, .ag rk, T.J.lim⟩ := by
  unfold absFnP at h
  split at h <;> try (cases h; done)
  rename_i id ops rest p Tp hbody hres
  split at h <;> try (cases h; done)
  rename_i o hops
  split at h <;> try (cases h; done)
  rename_i e d ie hop hd hg hie
  split at h <;> try (cases h; done)
  rename_i z hz
  simp only [Bool.and_eq_true, decide_eq_true_eq, beq_iff_eq] at h
  obtain ⟨⟨⟨⟨⟨⟨rfl, rfl⟩, hpn⟩, hal⟩, hzs⟩, hrt⟩, h⟩ := h
  split at h <;> try (cases h; done)
  rename_i O hO
  simp only [Bool.and_eq_true, List.isEmpty_iff] at h
  obtain ⟨⟨hn, he⟩, hall⟩ := h
  refine ⟨⟨fn, _, hf, hname, hbody⟩, fun c w N args hB hcb hR hN hA => ?_⟩
  have hbw := below_alloc w (.cells z.cells e)
  have hbrlt := RdrT.lt hR
  obtain ⟨c2, hc2⟩ : ∃ c2 : Ctx, c2 = { c with B := w.heap.size + 1, N0 := N, cv := .pointer (some ⟨w.heap.size, 0, Option.none⟩) } := ⟨_, rfl⟩
  have e1 : c2.B = w.heap.size + 1 := by rw [hc2]
  have e2 : c2.br = c.br := by rw [hc2]
  have e3 : c2.cv = .pointer (some ⟨w.heap.size, 0, Option.none⟩) := by rw [hc2]
  have e4 : c2.cb = c.cb := by rw [hc2]
  have e5 : c2.N0 = N := by rw [hc2]
  clear hc2
  have hI : Inv c2 (w.alloc (.cells z.cells e)) T.J (.run 0) (w.alloc (.cells z.cells e)) := ⟨GrownP.refl _ _, by rw [e1]; simp, by omega, by rw [e5]; exact hN, by rw [e2, e4, e5]; simpa using hR.below hbw⟩
  have hH : Here T c2 (w.alloc (.cells z.cells e)) ⟨d, e, ie.size⟩ w.heap.size := { cv := e3, lt := by omega, ne := by rw [e2]; omega, cb := by rw [e4]; omega, old := by simp, size := by rw [hie]; rfl, agg := hrt }
  have hargl : args.length = aks.length := hA.length
  have hrets : ∀ r ∈ O.rets, ∃ n, r.1 = .run n ∧ n ≤ T.J.lim ∧ all2 (CK.le T.tab T.fu) r.2 rk = true ∧ ∀ k ∈ r.2, k ≠ .code := fun r hr => by
    have h1 := List.all_eq_true.1 hall r hr
    split at h1 <;> try (cases h1; done)
    rename_i n hn
    simp only [Bool.and_eq_true, decide_eq_true_eq, List.all_eq_true, bne_iff_ne] at h1
    exact ⟨n, hn, h1.1.1, h1.1.2, h1.2⟩
  have hsz0 : (args.toArray ++ Array.replicate (fn.ntmps - args.toArray.size) undef).size = fn.ntmps := by simp; omega
  have hSat0 : Sat T c2 (w.alloc (.cells z.cells e)) fn.ntmps (St.mk (argEnv 0 aks) [] (.run 0)) { tmps := args.toArray ++ Array.replicate (fn.ntmps - args.toArray.size) undef, defers := [] } (w.alloc (.cells z.cells e)) := by
    refine ⟨hsz0, rfl, fun s => ?_, fun f hf => by simp at hf, hI⟩
    show Kd.den c2 T.tab (((argEnv 0 aks).lookup s).getD (.ck .any)) (w.alloc (.cells z.cells e)) _
    have hA2 : ArgsR c2 T.tab (w.alloc (.cells z.cells e)) aks args := args_bare2 (c := c) e2 hb hA
    rcases argEnv_look (i := 0) hA2 s with h1 | h1
    · simp only [Nat.not_lt_zero, if_false, Nat.sub_zero] at h1
      cases hs : args[s]? with
      | some v =>
        rw [hs] at h1
        have : (args.toArray ++ Array.replicate (fn.ntmps - args.toArray.size) undef).getD s undef = v := by
          have hlt := (List.getElem?_eq_some_iff.1 hs).1
          rw [Array.getD_eq_getD_getElem?, Array.getElem?_append_left (by simpa using hlt)]
          simp [hs]
        simp only [Act.eval, this]
        exact h1
      | none =>
        rw [hs] at h1
        have : (args.toArray ++ Array.replicate (fn.ntmps - args.toArray.size) undef).getD s undef = undef := by
          have hlt := List.getElem?_eq_none_iff.1 hs
          rw [Array.getD_eq_getD_getElem?, Array.getElem?_append_right (by simpa using hlt)]
          simp only [Array.getElem?_replicate]
          split <;> rfl
        simp only [Act.eval, this]
        exact h1
    · rw [h1]; exact any_den
  have hSat1 := hSat0.put (v := .pointer (some ⟨w.heap.size, 0, Option.none⟩)) hT (d := some d) (fun x hx => by cases hx; exact hpn) (k := .ck .code) (ph := .run 0) (e := .no) (by show _ = c2.cv; rw [e3]) (RelK.refl _) hI trivial
  have hops' : ops = [o].toArray := by rw [← hops]
  subst hops'
  refine calls_of_wp hf hbody (wp_seq (wp_region_list ?_))
  simp only [List.toList_toArray]
  refine wpList_step fun K hK => ?_
  rw [if_pos (by simp [Region.wanted, hg])]
  refine op_val (v := .pointer (some ⟨w.heap.size, 0, Option.none⟩)) (w' := w.alloc (.cells z.cells e)) (hK _ _ ?_) (by simp [execOp, hop, Instr.alloc, zeroValue, typeInfo, hie, hz, newVar, newRow])
  rw [hd]
  refine Code.wp_mono (fun ex a' w' hq => ?_) (absP_ok (w0 := w.alloc (.cells z.cells e)) hT hH rest hO (fun r hr => let ⟨n, hn, _⟩ := hrets r hr; ⟨n, hn⟩) ⟨w.alloc (.cells z.cells e), ⟨rfl, rfl, rfl, rfl, fun _ _ => rfl⟩, ⟨z.cells, heap_alloc_new w _, hzs⟩, hSat1, fun E hE => by simp at hE⟩)
  cases ex with
  | ret =>
    obtain ⟨r, hr, w1, hoff, hI1, hdef, hev, hrn, cs, hat, hrow⟩ := hq
    obtain ⟨n, hrn1, hnl, hle, hncode⟩ := hrets r hr
    rw [hrn1] at hI1
    have hrn' : r.2.length = ie.size := hrn
    have hload : rowLoad T.P r.2 0 e = some (.ag r.2) := by
      unfold rowLoad
      rw [hrt, hie]
      simp only [Nat.zero_add]
      rw [if_pos (by omega), List.drop_zero, List.take_of_length_le (by omega)]
    obtain ⟨v, hrun, hden, _⟩ := rowLoad_ok (tab := T.tab) (o := 0) (g := w.heap.size) hload hrow (fun f u hu => by rw [Nat.zero_add, cell_of_row _ _ _ _ _ _ hat]; simpa using hu)
    obtain ⟨⟨g1, g2, g3, g4, g5⟩, i2, i3, i4, i5⟩ := hI1
    have hbase : ∀ k, k < w.heap.size → k ≠ c.br → w'.heap[k]? = w.heap[k]? := fun k hk hne => by
      rw [g5 k (by rw [hoff.2.2.2.1]; simp; omega) (fun hR => by rcases hR with hR | hR; exact hne (by rw [hR, e2]); omega), hoff.2.2.2.2 k (by omega)]
      exact hbw.block k hk
    refine ⟨hdef, v, ?_, v, rfl, ?_, ?_, ?_⟩
    · rw [results_eq, Array.mapM_eq_mapM_toList, hres]
      have hev' : a'.tmps.getD d undef = .pointer (some ⟨w.heap.size, 0, Option.none⟩) := hev
      simp only [List.mapM_cons, List.mapM_nil, resRun, hev', asAddr]
      simp [hrun]
    · obtain ⟨cs', rfl, hrow'⟩ := hden
      have h1 : RowK (r.2.map (cden { c2 with cv := c.cv } T.tab)) w' cs' := by
        rw [show r.2.map (cden { c2 with cv := c.cv } T.tab) = r.2.map (cden c2 T.tab) from List.map_congr_left fun k hk => cden_cv (c := c2) (c' := { c2 with cv := c.cv }) hnc rfl rfl (hncode k hk)]
        exact hrow'
      have h2 : RowK (r.2.map (cden c T.tab)) w' cs' := row_lower (fun k v h => ck_lower (c := { c2 with cv := c.cv }) (c' := c) (by show c.B ≤ c2.B; omega) e2.symm rfl k h) h1
      exact ⟨cs', rfl, row_weaken (fun a b h v hv => le_den hT.tab T.fu a b h v hv) hle h2⟩
    · have h3 : RdrT w' c2.br c2.cb (c2.N0 + n) := i5
      rw [e2, e4, e5] at h3
      exact h3.mono (by show N + n ≤ N + T.J.lim; omega)
    · exact ⟨g1.trans hoff.1, g2.trans hoff.2.1, g3.trans hoff.2.2.1, by have h1 := hoff.2.2.2.1; have h2 := hbw.size; omega, fun k hk hne => hbase k hk (fun e => hne (by rw [e]))⟩
  | normal => obtain ⟨A, hA, _⟩ := hq; rw [hn] at hA; simp at hA
  | exit id => obtain ⟨A, hA, _⟩ := hq; rw [he] at hA; simp at hA
  | _ => exact hq.elim
end
end Go.Proofs.YtodjokdaofefdaaGreat
/- Kinds and lists: a slice of a kind reads as a list; a list's row is of a kind. -/
namespace Go.Proofs.YtodjokdaofefdaaGreat
set_option linter.unusedSimpArgs false
set_option linter.unusedVariables false
open Go.RowKit

theorem RowK.of_at {w : World} : ∀ {ks : List VK} {cs : List Value}, cs.length = ks.length → (∀ (f : Nat) k u, ks[f]? = some k → cs[f]? = some u → k w u) → RowK ks w cs
  | [], cs, hl, _ => List.eq_nil_of_length_eq_zero hl
  | k :: ks, [], hl, _ => by simp at hl
  | k :: ks, u :: cs, hl, h => ⟨u, cs, rfl, h 0 k u rfl rfl, RowK.of_at (by simpa using hl) (fun f k' u' hk hu => h (f + 1) k' u' (by simpa using hk) (by simpa using hu))⟩
section
variable {α : Type} {R : World → α → List Value → Prop} {P : α → Prop} {w : World}
theorem typL_list {ks : List VK} (hdec : ∀ cs, RowK ks w cs → ∃ a, P a ∧ R w a cs) {xs : List Value} : ∀ n, TypL ks w n xs → n * ks.length ≤ xs.length → ∃ l : List α, l.length = n ∧ (∀ a ∈ l, P a) ∧ ∀ k (hk : k < l.length), ∃ cs : List Value, cs.length = ks.length ∧ R w l[k] cs ∧ ∀ j v, cs[j]? = some v → xs[k * ks.length + j]? = some v
  | 0, _, _ => ⟨[], rfl, by simp, by simp⟩
  | n + 1, h, hl => by
    rw [Nat.succ_mul] at hl
    obtain ⟨l, h1, h2, h3⟩ := typL_list hdec n (fun q f k u hq hk hu => h q f k u (by omega) hk hu) (by omega)
    have hat : ∀ j, j < ks.length → ((xs.drop (n * ks.length)).take ks.length)[j]? = xs[n * ks.length + j]? := fun j hj => by
      rw [List.getElem?_take_of_lt hj, List.getElem?_drop]
    have hrow : RowK ks w ((xs.drop (n * ks.length)).take ks.length) := RowK.of_at (by simp; omega) (fun f k u hk hu => by
      have hf := (List.getElem?_eq_some_iff.1 hk).1
      rw [hat f hf] at hu
      exact h n f k u (by omega) hk hu)
    obtain ⟨a, ha, hR⟩ := hdec _ hrow
    refine ⟨l ++ [a], by simp [h1], fun b hb => ?_, fun k hk => ?_⟩
    · rcases List.mem_append.1 hb with hb | hb
      · exact h2 b hb
      · rw [List.mem_singleton.1 hb]; exact ha
    · by_cases e : k < l.length
      · rw [List.getElem_append_left e]; exact h3 k e
      · obtain rfl : k = n := by simp at hk; omega
        have hla : (l ++ [a])[k] = a := by rw [List.getElem_append_right (by omega)]; simp
        refine ⟨_, hrow.length, by rw [hla]; exact hR, fun j v hv => ?_⟩
        have hj : j < ks.length := by
          have := (List.getElem?_eq_some_iff.1 hv).1
          simp at this; omega
        rw [hat j hj] at hv
        exact hv
theorem slK_rd {B br M sz : Nat} {e : TypeId} {ks : List VK} {v : Value} (hsz : ks.length = sz) (hdec : ∀ cs, RowK ks w cs → ∃ a, P a ∧ R w a cs) (hM : M ≤ 9223372036854775807) (h : SlK B br e ks M w v) :
    ∃ (l : List α) (A : Option Addr) (q : Nat), v = .slice A l.length q ∧ l.length ≤ M ∧ (∀ a ∈ l, P a) ∧ RdL R sz w A l ∧ l.length ≤ q ∧ q ≤ 9223372036854775807 ∧ (∀ a, A = some a → a.block < w.heap.size ∧ a.spot = Option.none) ∧ (A = Option.none → q = 0) := by
  subst hsz
  rcases h with rfl | ⟨g, o, n, q, rfl, h1, h2, h3, h4⟩
  · exact ⟨[], Option.none, 0, rfl, Nat.zero_le _, by simp, RdL.nil _, Nat.le_refl _, by omega, (fun a ha => nomatch ha), fun _ => rfl⟩
  · obtain ⟨xs, e1, e2, e3⟩ := h4.list (n := n) (Nat.le_refl _) (by omega)
    obtain ⟨l, f1, f2, f3⟩ := typL_list hdec n e2 (by omega)
    subst f1
    refine ⟨l, _, q, rfl, h1, f2, ⟨by omega, fun hn => ⟨g, o * ks.length, rfl, fun k hk => ?_⟩⟩, h2, h3, fun a ha => ?_, fun h => by cases h⟩
    · obtain ⟨cs, g1, g2, g3⟩ := f3 k hk
      exact ⟨cs, g1, g2, fun j v hv => by rw [Nat.add_assoc]; exact e3 _ v (g3 j v hv)⟩
    · cases ha
      obtain ⟨_, _, cs, hb, _⟩ := h4
      exact ⟨(Array.getElem?_eq_some_iff.1 hb).1, rfl⟩
theorem sl_rd {c : Ctx} {tab : Tab} {i lo hi : Nat} {v : Value} (ht : okTab tab = true) (hdec : ∀ cs, RowK ((shp tab i).2.map (cden c tab)) w cs → ∃ a, P a ∧ R w a cs) (hM : hi ≤ 9223372036854775807) (h : cden c tab (.sl i lo hi) w v) :
    ∃ (l : List α) (A : Option Addr) (q : Nat), v = .slice A l.length q ∧ lo ≤ l.length ∧ l.length ≤ hi ∧ (∀ a ∈ l, P a) ∧ RdL R (shp tab i).2.length w A l ∧ l.length ≤ q ∧ q ≤ 9223372036854775807 ∧ (∀ a, A = some a → a.block < w.heap.size ∧ a.spot = Option.none) ∧ (A = Option.none → q = 0) := by
  obtain ⟨hs, A', n', q', e, hlo⟩ := h
  rw [(tab_den (c := c) ht i).1] at hs
  obtain ⟨l, A, q, e2, h1, h2, h3, h4, h5, h6, h7⟩ := slK_rd (R := R) (P := P) (sz := (shp tab i).2.length) (by simp) hdec hM hs
  rw [e2] at e
  cases e
  exact ⟨l, _, _, e2, hlo, h1, h2, h3, h4, h5, h6, h7⟩
end
end Go.Proofs.YtodjokdaofefdaaGreat
/- Expressions: what is drawn, by kinds. -/
namespace Go.Proofs.YtodjokdaofefdaaGreat
set_option linter.unusedSimpArgs false
set_option linter.unusedVariables false
open Go.RowKit

abbrev exPart : Nat → CK
  | 0 => .nil
  | m + 1 => .sl (3 + m) 0 2
abbrev exRow (m : Nat) : List CK := [.intx .i64, .intx .i64, .str 16, exPart m]
def exTab : Tab := [
  (36, [.intx .i64, .intx .i64, .str 16, .sl 7 0 2]),
  (36, [.intx .i64, .intx .i64, .str 16, .sl 6 0 2]),
  (36, [.intx .i64, .intx .i64, .str 16, .sl 5 0 2]),
  (36, [.intx .i64, .intx .i64, .str 16, .sl 4 0 2]),
  (36, [.intx .i64, .intx .i64, .str 16, .sl 3 0 2]),
  (36, [.intx .i64, .intx .i64, .str 16, .nil]),
  (3, [.int .i64 i64lo i64hi]),
  (9, [.str 16]),
  (5, [.int .u8 0 255])]
def exSto : Sto := []
theorem ex_good {J lim : Nat} {cons : List Con} (hc : ∀ e ∈ cons, ConOk Tryz.prog exTab e) : Good (dConf Tryz.prog exTab exSto J lim cons) := good_of (by kernel_rfl) (by kernel_rfl) hc
theorem ex_nc : noCode exTab = true := by kernel_rfl
theorem cons_app {tab : Tab} {l r : List Con} (h : ∀ e ∈ l, ConOk Tryz.prog tab e) (h2 : ∀ e ∈ r, ConOk Tryz.prog tab e) : ∀ x ∈ l ++ r, ConOk Tryz.prog tab x := fun x hx => by
  rcases List.mem_append.1 hx with hx | hx
  · exact h x hx
  · exact h2 x hx
def exNameCon : Con := ⟨60, [.ck .rdr, .ck (.int .i64 0 100)], .ck (.str 16), 10⟩
theorem exName_con : ConOk Tryz.prog exTab exNameCon := con_ofB (T := dConf Tryz.prog exTab exSto 0 10 []) (rk := .ck (.str 16)) (fu := 20) (keep := List.range 200) (ex_good cons_nil) Tryz.func60 (by kernel_rfl) (by kernel_rfl) (by kernel_rfl)
def thC (m lim : Nat) : Con := ⟨52, [.ck .rdr, .ck (.int .i64 0 m)], .ag (exRow m), lim⟩
def nuC (m lim : Nat) : Con := ⟨51, [.ck .rdr, .ck (.int .i64 0 m)], .ag (exRow m), lim⟩
def trC (m k lim : Nat) : Con := ⟨50, [.ck .rdr, .ck (.int .i64 0 m)], .ag (exRow k), lim⟩
theorem th0_con : ConOk Tryz.prog exTab (thC 0 100) := conP_of (T := dConf Tryz.prog exTab exSto 0 100 []) (fu := 20) (keep := List.range 200) (ex_good cons_nil) Tryz.func52 (by kernel_rfl) (by kernel_rfl) ex_nc (by kernel_rfl)
abbrev exC1 : List Con := [exNameCon, thC 0 100]
theorem exC1_ok : ∀ e ∈ exC1, ConOk Tryz.prog exTab e := cons_cons exName_con (cons_cons th0_con cons_nil)
theorem nu0_con : ConOk Tryz.prog exTab (nuC 0 100) := conP_of (T := dConf Tryz.prog exTab exSto 0 100 exC1) (fu := 20) (keep := List.range 200) (ex_good exC1_ok) Tryz.func51 (by kernel_rfl) (by kernel_rfl) ex_nc (by kernel_rfl)
theorem tr0_con : ConOk Tryz.prog exTab (trC 0 0 100) := conP_of (T := dConf Tryz.prog exTab exSto 0 100 exC1) (fu := 20) (keep := List.range 200) (ex_good exC1_ok) Tryz.func50 (by kernel_rfl) (by kernel_rfl) ex_nc (by kernel_rfl)
theorem th1_con : ConOk Tryz.prog exTab (thC 1 2000) := conP_of (T := dConf Tryz.prog exTab exSto 0 2000 exC1) (fu := 20) (keep := List.range 200) (ex_good exC1_ok) Tryz.func52 (by kernel_rfl) (by kernel_rfl) ex_nc (by kernel_rfl)
theorem nu1_con : ConOk Tryz.prog exTab (nuC 1 2000) := conP_of (T := dConf Tryz.prog exTab exSto 0 2000 exC1) (fu := 20) (keep := List.range 200) (ex_good exC1_ok) Tryz.func51 (by kernel_rfl) (by kernel_rfl) ex_nc (by kernel_rfl)
abbrev exC2 : List Con := nuC 0 100 :: trC 0 0 100 :: exC1
theorem exC2_ok : ∀ e ∈ exC2, ConOk Tryz.prog exTab e := cons_cons nu0_con (cons_cons tr0_con exC1_ok)
theorem tr1_con : ConOk Tryz.prog exTab (trC 1 2 1000) := conP_of (T := dConf Tryz.prog exTab exSto 0 1000 exC2) (fu := 20) (keep := List.range 200) (ex_good exC2_ok) Tryz.func50 (by kernel_rfl) (by kernel_rfl) ex_nc (by kernel_rfl)
abbrev exC3 : List Con := exC2 ++ [thC 1 2000, nuC 1 2000, trC 1 2 1000]
theorem exC3_ok : ∀ e ∈ exC3, ConOk Tryz.prog exTab e := cons_app exC2_ok (cons_cons th1_con (cons_cons nu1_con (cons_cons tr1_con cons_nil)))
theorem th2_con : ConOk Tryz.prog exTab (thC 2 40000) := conP_of (T := dConf Tryz.prog exTab exSto 0 40000 exC3) (fu := 20) (keep := List.range 200) (ex_good exC3_ok) Tryz.func52 (by kernel_rfl) (by kernel_rfl) ex_nc (by kernel_rfl)
theorem nu2_con : ConOk Tryz.prog exTab (nuC 2 40000) := conP_of (T := dConf Tryz.prog exTab exSto 0 40000 exC3) (fu := 20) (keep := List.range 200) (ex_good exC3_ok) Tryz.func51 (by kernel_rfl) (by kernel_rfl) ex_nc (by kernel_rfl)
theorem tr2_con : ConOk Tryz.prog exTab (trC 2 3 20000) := conP_of (T := dConf Tryz.prog exTab exSto 0 20000 exC3) (fu := 20) (keep := List.range 200) (ex_good exC3_ok) Tryz.func50 (by kernel_rfl) (by kernel_rfl) ex_nc (by kernel_rfl)
abbrev exC4 : List Con := exC3 ++ [thC 2 40000, nuC 2 40000, trC 2 3 20000]
theorem exC4_ok : ∀ e ∈ exC4, ConOk Tryz.prog exTab e := cons_app exC3_ok (cons_cons th2_con (cons_cons nu2_con (cons_cons tr2_con cons_nil)))
theorem tr3_con : ConOk Tryz.prog exTab (trC 3 4 200000) := conP_of (T := dConf Tryz.prog exTab exSto 0 200000 exC4) (fu := 20) (keep := List.range 200) (ex_good exC4_ok) Tryz.func50 (by kernel_rfl) (by kernel_rfl) ex_nc (by kernel_rfl)
abbrev exC5 : List Con := exC4 ++ [trC 3 4 200000]
theorem exC5_ok : ∀ e ∈ exC5, ConOk Tryz.prog exTab e := cons_app exC4_ok (cons_cons tr3_con cons_nil)
def exprC : Con := ⟨26, [.ck .rdr, .ck (.int .i64 0 100)], .ag (exRow 5), 1000000⟩
theorem expr_con : ConOk Tryz.prog exTab exprC := conP_of (T := dConf Tryz.prog exTab exSto 0 1000000 exC5) (fu := 20) (keep := List.range 200) (ex_good exC5_ok) Tryz.func26 (by kernel_rfl) (by kernel_rfl) ex_nc (by kernel_rfl)
end Go.Proofs.YtodjokdaofefdaaGreat

/- Kinds, continued: what is in a box just now, flow by flow. -/
import Derived.Test.YtodjokdaofefdaaGreatQ25
namespace Go.Proofs.YtodjokdaofefdaaGreat
set_option linter.unusedSimpArgs false
set_option linter.unusedVariables false
open Go.RowKit

/-- A box of the type T whose cells are just now of the kinds row; the slots that point into it. -/
structure Bx where
  T : TypeId
  row : List CK
  fl : List (Nat × Nat)
  ca : List (Nat × Nat)
structure SB where
  st : St
  bx : List Bx
def Bx.holds (c : Ctx) (tab : Tab) (a : Act) (w : World) (E : Bx) : Prop := ∃ (g o : Nat) (cs : Array Value) (r : List Value), c.B ≤ g ∧ g ≠ c.br ∧ w.heap[g]? = some (.cells cs E.T (0, 0)) ∧ RowK (E.row.map (cden c tab)) w r ∧ (∀ (f : Nat) u, r[f]? = some u → cs[o + f]? = some u) ∧ (∀ p ∈ E.fl, a.eval (.tmp p.1) = .pointer (some ⟨g, o + p.2, Option.none⟩)) ∧ ∀ p ∈ E.ca, r[p.1]? = some (a.eval (.tmp p.2))
def Bx.drop (d : Option Nat) (E : Bx) : Bx := match d with | Option.none => E | some d => { E with fl := E.fl.filter (fun p => p.1 != d), ca := E.ca.filter fun p => p.2 != d }
def SatB (T : Conf) (c : Ctx) (w0 : World) (nt : Nat) (A : SB) (a : Act) (w : World) : Prop := Sat T c w0 nt A.st a w ∧ ∀ E ∈ A.bx, E.holds c T.tab a w
def minusS (S : Sto) (l : List TypeId) : Sto := S.filter fun p => !l.contains p.1
theorem lookup_minus {S : Sto} {l : List TypeId} {T : TypeId} : (minusS S l).lookup T = if l.contains T then Option.none else S.lookup T := by
  unfold minusS
  induction S with
  | nil => simp
  | cons p S ih =>
    obtain ⟨x, i⟩ := p
    by_cases e : T = x
    · subst e
      by_cases h : l.contains T
      · simp only [List.filter_cons, h, Bool.not_true, Bool.false_eq_true, if_false, ih, if_true]
      · simp only [Bool.not_eq_true] at h
        simp only [List.filter_cons, h, Bool.not_false, if_true, List.lookup_cons, beq_self_eq_true, Bool.false_eq_true, if_false]
    · have hb : (T == x) = false := by simpa using e
      by_cases h : l.contains x
      · simp only [List.filter_cons, h, Bool.not_true, Bool.false_eq_true, if_false, ih, List.lookup_cons, hb]
      · simp only [Bool.not_eq_true] at h
        simp only [List.filter_cons, h, Bool.not_false, if_true, List.lookup_cons, hb, ih]
theorem okSto_minus {tab : Tab} {S : Sto} {l : List TypeId} (h : okSto tab S = true) : okSto tab (minusS S l) = true := by
  simp only [okSto, Bool.and_eq_true, List.all_eq_true, List.mem_range] at h ⊢
  refine ⟨fun i hi => ?_, ?_⟩
  · have := h.1 i hi
    rw [lookup_minus]
    split
    · rename_i j hj
      split at hj
      · cases hj
      · rw [hj] at this; exact this
    · rfl
  · rw [lookup_minus]
    split
    · rfl
    · exact h.2
def Conf.minus (T : Conf) (l : List TypeId) : Conf := { T with S := minusS T.S l }
theorem Good.minus {T : Conf} (hT : Good T) (l : List TypeId) : Good (T.minus l) :=
  { tab := hT.tab, sto := okSto_minus hT.sto, mixed := hT.mixed, cons := hT.cons, enterO := hT.enterO, enterP := hT.enterP, enterD := hT.enterD, openOk := hT.openOk, pickOk := hT.pickOk, oddOk := hT.oddOk }
section
variable {T : Conf} {c : Ctx} {w0 : World} {nt : Nat} {A : SB} {a : Act} {w w' : World} {v : Value} {l : List TypeId}
theorem sto_minus {S : Sto} {T : TypeId} (h : T ∈ l) : sto (minusS S l) T = false := by
  unfold sto
  rw [lookup_minus, if_pos (by simpa using h)]
  rfl
theorem rel_up {tab : Tab} {S : Sto} (h : Rel c tab (minusS S l) w w') : Rel c tab S w w' := by
  refine ⟨h.1, fun g cs T h1 h2 h3 => ?_⟩
  obtain ⟨cs', g1, g2, g3, g4⟩ := h.2 g cs T h1 h2 h3
  refine ⟨cs', g1, g2, fun hs => g3 ?_, fun hs => ?_⟩
  · unfold sto at hs ⊢
    rw [lookup_minus]
    split
    · rfl
    · exact hs
  · by_cases hm : l.contains T
    · intro q f k u _ hu
      have := g3 (sto_minus (by simpa using hm))
      subst this
      exact .inl hu
    · have e : sto (minusS S l) T = sto S T := by unfold sto; rw [lookup_minus, if_neg hm]
      have e2 : stoShape c tab (minusS S l) T = stoShape c tab S T := by unfold stoShape; rw [lookup_minus, if_neg hm]
      rw [← e2]
      exact g4 (by rw [e]; exact hs)
theorem Bx.holds.keep (hT : Good T) {E : Bx} (h : E.holds c T.tab a w) {S' : Sto} (hS : okSto T.tab S' = true) (hr : Rel c T.tab S' w w') (hn : sto S' E.T = false) (d : Option Nat) : (E.drop d).holds c T.tab (a.put d v) w' := by
  obtain ⟨g, o, cs, r, h1, h2, h3, h4, h5, h6, h7⟩ := h
  obtain ⟨cs', g1, _, g3, _⟩ := hr.2 g cs E.T h1 h2 h3
  rw [g3 hn] at g1
  have hrow : RowK (E.row.map (cden c T.tab)) w' r := RowK.rel (S := sto S') (sh := stoShape c T.tab S') (fun k hk => by
    obtain ⟨k0, _, rfl⟩ := List.mem_map.1 hk
    exact den_stab hT.tab hS k0) hr h4
  cases d with
  | none => exact ⟨g, o, cs, r, h1, h2, g1, hrow, h5, h6, h7⟩
  | some d =>
    refine ⟨g, o, cs, r, h1, h2, g1, hrow, h5, fun p hp => ?_, fun p hp => ?_⟩
    · obtain ⟨hp1, hp2⟩ := List.mem_filter.1 hp
      rw [eval_put_ne (by simpa using hp2)]
      exact h6 p hp1
    · obtain ⟨hp1, hp2⟩ := List.mem_filter.1 hp
      rw [eval_put_ne (by simpa using hp2)]
      exact h7 p hp1
theorem Bx.holds.put (hT : Good T) {E : Bx} (h : E.holds c T.tab a w) (d : Option Nat) : (E.drop d).holds c T.tab (a.put d v) w :=
  h.keep hT (S' := []) (by
    unfold okSto
    simp) (RelK.refl _) rfl d
/-! ### An operation -/
def findBx (s : Nat) : List Bx → Option (Bx × Nat)
  | [] => Option.none
  | E :: l => match E.fl.lookup s with
    | some off => some (E, off)
    | Option.none => findBx s l
theorem lookup_mem {α : Type} {s : Nat} {v : α} : ∀ {l : List (Nat × α)}, l.lookup s = some v → (s, v) ∈ l
  | [], h => by simp at h
  | (x, y) :: l, h => by
    rw [List.lookup_cons] at h
    split at h
    · rename_i e
      simp only [beq_iff_eq] at e
      cases h; subst e; simp
    · exact List.mem_cons_of_mem _ (lookup_mem h)
theorem findBx_ok {s : Nat} {E : Bx} {off : Nat} : ∀ {l : List Bx}, findBx s l = some (E, off) → E ∈ l ∧ (s, off) ∈ E.fl
  | [], h => by simp [findBx] at h
  | F :: l, h => by
    simp only [findBx] at h
    split at h
    · rename_i e
      cases h
      exact ⟨by simp, lookup_mem e⟩
    · obtain ⟨h1, h2⟩ := findBx_ok h
      exact ⟨List.mem_cons_of_mem _ h1, h2⟩
def rowLoad (P : Program) (row : List CK) (off : Nat) (t : TypeId) : Option Kd := match rowT P t, P.info? t with
  | some true, some it => if off + it.size ≤ row.length then some (.ag ((row.drop off).take it.size)) else Option.none
  | some false, some _ => (row[off]?).map .ck
  | _, _ => Option.none
theorem rowLoad_ok {tab : Tab} {row : List CK} {off o g : Nat} {t : TypeId} {P : Program} {r : List Value} {k : Kd} (hk : rowLoad P row off t = some k) (hr : RowK (row.map (cden c tab)) w r) (hc : ∀ (f : Nat) u, r[f]? = some u → w.cell? ⟨g, o + f, Option.none⟩ = some u) :
    ∃ v, (loadVar t ⟨g, o + off, Option.none⟩).run P w = .ok v w ∧ k.den c tab w v ∧ (rowT P t = some false → r[off]? = some v) := by
  unfold rowLoad at hk
  have hl := hr.length
  rw [List.length_map] at hl
  split at hk <;> try (cases hk; done)
  · rename_i it e1 e2
    split at hk <;> try (cases hk; done)
    rename_i hfit
    cases hk
    have h1 : RowK (((row.drop off).take it.size).map (cden c tab)) w ((r.drop off).take it.size) := by
      rw [List.map_take, List.map_drop]
      exact (hr.drop off).take it.size
    have hcl : ((r.drop off).take it.size).length = it.size := by simp; omega
    unfold rowT at e1
    split at e1 <;> try (cases e1; done)
    rename_i fs e3
    refine ⟨.agg ((r.drop off).take it.size).toArray, run_loadVar_mid w g _ t _ _ (fun j v hj => ?_) e3 rfl (by rw [e2]; simp [hcl]), ⟨_, rfl, h1⟩, fun hh => by unfold rowT at hh; rw [e3] at hh; cases hh⟩
    have hj2 : j < it.size := by rw [← hcl]; exact (List.getElem?_eq_some_iff.1 hj).1
    rw [List.getElem?_take_of_lt hj2, List.getElem?_drop] at hj
    have := hc (off + j) v hj
    rwa [← Nat.add_assoc] at this
  · rename_i it e1 e2
    obtain ⟨k0, h1, rfl⟩ := Option.map_eq_some_iff.1 hk
    have hlt := (List.getElem?_eq_some_iff.1 h1).1
    have hu : r[off]? = some (r[off]'(by omega)) := List.getElem?_eq_getElem _
    have h4 := hr.at off _ _ (by rw [List.getElem?_map, h1]; rfl) hu
    have h3 := hc off _ hu
    refine ⟨_, ?_, h4, fun _ => hu⟩
    unfold rowT at e1
    split at e1 <;> try (cases e1; done)
    rename_i d _ _ e3
    have hagg : (isAgg t).run P w = .ok false w := by
      unfold isAgg
      rw [Sem.run_bind, run_underlying e3 w]
      cases d <;> simp_all
    simp [loadVar, Sem.run_bind, hagg, h3]
def dropD (d : Option Nat) (l : List Bx) : List Bx := l.map (Bx.drop d)
def stepGen (T : Conf) (nt : Nat) (o : Oper) (A : SB) : Option SB :=
  match stepOp (T.minus (A.bx.map (·.T))) nt o A.st with
  | some B => some ⟨B, dropD o.dst A.bx⟩
  | Option.none => (stepOp T nt o A.st).map fun B => ⟨B, []⟩
/-- As stepOp_ok, and memory's turn is told. -/
theorem stepOp_ok2 (hT : Good T) {o : Oper} {A B : St} (h : stepOp T nt o A = some B) (hS : Sat T c w0 nt A a w) {K : Act → World → Prop} {Q : Exit → Act → World → Prop} (hK : ∀ v w', Sat T c w0 nt B (a.put o.dst v) w' → Rel c T.tab T.S w w' → K (a.put o.dst v) w') : o.wp T.P a w K Q := by
  unfold stepOp at h
  split at h <;> try (cases h; done)
  rename_i k eff e h1
  split at h <;> try (cases h; done)
  rename_i ph h2
  refine absOp_ok hT (c := c) (w0 := w0) h1 h2 a w K Q hS.2.2.2.2 hS.2.2.1 (fun x s hx => ?_) (fun v w' hk hr hI he => ?_)
  · have := less_ok (ρ := fun s => a.eval (.tmp s)) hS.2.2.2.1 hx
    simp only [St.root, root_ok (ρ := fun s => a.eval (.tmp s)) hS.2.2.2.1] at this
    exact this
  · refine hK v w' ?_ hr
    split at h
    · rename_i d hd
      split at h <;> cases h
      rename_i hdn
      rw [hd]
      exact hS.put hT (fun x hx => by cases hx; exact hdn) hk hr hI he
    · rename_i hd
      cases h
      rw [hd]
      exact hS.put hT (fun x hx => by cases hx) hk hr hI he
theorem dropD_ok (hT : Good T) {S' : Sto} (hS : okSto T.tab S' = true) (hr : Rel c T.tab S' w w') {L : List Bx} (hn : ∀ E ∈ L, sto S' E.T = false) (h : ∀ E ∈ L, E.holds c T.tab a w) (d : Option Nat) : ∀ E ∈ dropD d L, E.holds c T.tab (a.put d v) w' := fun E hE => by
  obtain ⟨F, hF, rfl⟩ := List.mem_map.1 hE
  exact (h F hF).keep hT hS hr (hn F hF) d
theorem stepGen_ok (hT : Good T) {o : Oper} {B : SB} (h : stepGen T nt o A = some B) (hS : SatB T c w0 nt A a w) {K : Act → World → Prop} {Q : Exit → Act → World → Prop} (hK : ∀ v w', SatB T c w0 nt B (a.put o.dst v) w' → K (a.put o.dst v) w') : o.wp T.P a w K Q := by
  unfold stepGen at h
  split at h
  · rename_i B1 h1
    cases h
    refine stepOp_ok2 (hT.minus _) h1 hS.1 (fun v w' h2 hr => hK v w' ⟨h2, dropD_ok hT (okSto_minus hT.sto) hr (fun E hE => sto_minus (List.mem_map.2 ⟨E, hE, rfl⟩)) hS.2 _⟩)
  · obtain ⟨B1, h1, rfl⟩ := Option.map_eq_some_iff.1 h
    exact stepOp_ok2 hT h1 hS.1 (fun v w' h2 _ => hK v w' ⟨h2, fun E hE => by simp at hE⟩)
def fieldOff (P : Program) (s : TypeId) (f : Nat) : Option Nat := match P.underlying s with
  | some (.struct fields) => (fields[f]?).map (·.offset)
  | _ => Option.none
/-- A field's address, and where it stands. -/
theorem fieldAddr_run {G : Cfg} {o : Oper} {s : TypeId} {f fo : Nat} {x : Operand} {kx k : Kd} (ho : o.op = .fieldAddr s x f) (hk : absFieldAddr G.P s f kx = some k) (hf : fieldOff G.P s f = some fo) (hx : kx.den G.c G.tab w (a.eval x)) :
    ∃ g st, a.eval x = .pointer (some ⟨g, st, Option.none⟩) ∧ (execOp a.eval o).run G.P w = .ok (.value (.pointer (some ⟨g, st + fo, Option.none⟩))) w ∧ k.den G.c G.tab w (.pointer (some ⟨g, st + fo, Option.none⟩)) := by
  unfold absFieldAddr at hk
  split at hk <;> try (cases hk; done)
  rename_i i off fields e1
  obtain ⟨g, q, vx, hb⟩ := hx
  split at hk <;> try (cases hk; done)
  rename_i fd e2
  split at hk <;> try (cases hk; done)
  rename_i it e3
  split at hk <;> try (cases hk; done)
  rename_i h0
  cases hk
  have hfo : fd.offset = fo := by simpa [fieldOff, e1, e2] using hf
  subst hfo
  refine ⟨g, _, vx, ?_, ⟨g, q, by rw [Nat.add_assoc], hb⟩⟩
  simp [execOp, ho, vx, Instr.fieldAt, Instr.sureAddr, run_underlying e1, e2, fieldPlace, sizeOf, typeInfo, e3, h0, Addr.add, Nat.add_assoc]
/-- A store, and what it leaves. -/
theorem store_run {G : Cfg} {o : Oper} {look : Nat → Kd} {fu : Nat} (ht : okTab G.tab = true) {t : TypeId} {x y : Operand} {ph : Ph} (ho : o.op = .store t x y) (hk : absStore G.P G.tab G.S fu t (kop look x) (kop look y) = true) (hI : Inv G.c G.w0 G.J ph w) (hl : ∀ s, (look s).den G.c G.tab w (a.eval (.tmp s))) :
    ∃ (i off g start : Nat) (ks : List CK) (cs : List Value), kop look x = .ck (.ptr i off) ∧ kcells (kop look y) = some ks ∧ off + ks.length ≤ (shp G.tab i).2.length ∧ a.eval x = .pointer (some ⟨g, start, Option.none⟩) ∧ RowK (ks.map (cden G.c G.tab)) w cs ∧ G.c.B ≤ g ∧ g ≠ G.c.br ∧
      (∃ (bs : Array Value), w.heap[g]? = some (.cells bs (shp G.tab i).1 (0, 0)) ∧ start + cs.length ≤ bs.size) ∧ (execOp a.eval o).run G.P w = .ok .skip (setCells w g start cs) ∧ Rel G.c G.tab G.S w (setCells w g start cs) ∧ Inv G.c G.w0 G.J ph (setCells w g start cs) := by
  have hx := kop_den hl x
  have hy := kop_den hl y
  unfold absStore at hk
  split at hk <;> try (cases hk; done)
  rename_i i off ex
  rw [ex] at hx
  obtain ⟨g, q, vx, hb⟩ := hx
  split at hk <;> try (cases hk; done)
  rename_i it ks e2 e3
  simp only [Bool.and_eq_true, decide_eq_true_eq, beq_iff_eq] at hk
  obtain ⟨⟨⟨h1, h2⟩, h3⟩, h4⟩ := hk
  obtain ⟨hf, cs, hcs, hr⟩ := kcells_ok e3 hy
  have htd := (tab_den (c := G.c) ht i).1
  have hlen : (tabOf G.c G.tab i).2.length = (shp G.tab i).2.length := by rw [htd]; simp
  have hcl : cs.length = ks.length := by rw [hr.length]; simp
  have hr2 := row_weaken (fun a b h v hv => le_den ht fu a b h v hv) h3 hr
  have hT : (tabOf G.c G.tab i).1 = (shp G.tab i).1 := by rw [htd]
  have hSt : sto G.S (tabOf G.c G.tab i).1 = true := by simp [sto, hT, h4]
  have hsh : stoShape G.c G.tab G.S (tabOf G.c G.tab i).1 = (tabOf G.c G.tab i).2 := by simp [stoShape, hT, h4]
  have hrel : Rel G.c G.tab G.S w (setCells w g (q * (tabOf G.c G.tab i).2.length + off) cs) := RelK.store hb hSt hsh (Nat.lt_succ_self _) (by omega) (fun j k0 u hj hu => by
    rw [htd] at hj
    simp only [List.getElem?_map] at hj
    obtain ⟨k1, hj1, rfl⟩ := Option.map_eq_some_iff.1 hj
    have hju : j < cs.length := (List.getElem?_eq_some_iff.1 hu).1
    refine hr2.at j _ u ?_ hu
    rw [List.getElem?_map, List.getElem?_take_of_lt (by omega), List.getElem?_drop, hj1]
    rfl)
  have hg := setCells_grown g cs w (q * (tabOf G.c G.tab i).2.length + off)
  have hI' := hI.cells (g := 0) hg (fun k e => by cases e; exact ⟨hb.1, hb.2.1⟩) (setCells_size g cs w _)
  have hthere : w.there g (q * (tabOf G.c G.tab i).2.length + off) cs.length := fun j hj => by
    have hfree := hb.free (q * (tabOf G.c G.tab i).2.length + off + j)
    refine ⟨?_, hfree⟩
    have hjl : off + j < (shp G.tab i).2.length := by omega
    have : (tabOf G.c G.tab i).2[off + j]? = some (cden G.c G.tab ((shp G.tab i).2[off + j])) := by rw [htd]; simp [List.getElem?_eq_getElem hjl, cden]
    obtain ⟨u, hu, _⟩ := hb.cell (Nat.le_refl _) (Nat.lt_succ_self q) this
    rw [Nat.add_assoc, hu]; rfl
  have hrun : (Instr.storeAt t (.pointer (some ⟨g, q * (tabOf G.c G.tab i).2.length + off, Option.none⟩)) (a.eval y)).run G.P w = .ok () (setCells w g (q * (tabOf G.c G.tab i).2.length + off) cs) := by
    have := run_storeCells_cells (P := G.P) g (q * (tabOf G.c G.tab i).2.length + off) cs 0 w (fun j hj => by simpa using (hthere j hj).1) (fun j hj => by simpa using (hthere j hj).2) (flat_one hf hr)
    rw [setCells_eq]
    simp only [Nat.add_zero] at this
    have hsz : ¬ ((a.eval y).cells.size ≠ it.size) := by rw [hcs]; simp; omega
    have hl2 : (a.eval y).cells.toList = cs := by rw [hcs]
    simp [Instr.storeAt, Instr.sureAddr, storeVar, sizeOf, typeInfo, e2, hcs, this]
    omega
  have hb1 := hb.1
  have hb2 := hb.2.1
  obtain ⟨_, _, bs, hbs, hbsz, _⟩ := hb
  rw [hT] at hbs
  refine ⟨i, off, g, _, ks, cs, ex, e3, h2, vx, hr, hb1, hb2, ⟨bs, hbs, ?_⟩, ?_, hrel, hI'⟩
  · rw [Nat.succ_mul] at hbsz; omega
  · simp [execOp, ho, vx, hrun]
def stepStore (T : Conf) (nt : Nat) (o : Oper) (A : SB) (t : TypeId) (s : Nat) (y : Operand) : Option SB :=
  match A.st.look s, kcells (kop A.st.look y), o.dst with
  | .one (.c (.ptr i off0)), some ks, Option.none =>
    let e := (shp T.tab i).1
    let others := A.bx.filter fun E => E.T != e
    let T1 := T.minus (others.map (·.T))
    if absStore T1.P T1.tab T1.S T1.fu t (kop A.st.look (.tmp s)) (kop A.st.look y) then
      match findBx s A.bx with
      | some (E, off) => some ⟨A.st, (if off + ks.length ≤ E.row.length then [{ E with row := splice E.row off ks, ca := [] }] else []) ++ others⟩
      | Option.none => some ⟨A.st, (if off0 = 0 ∧ ks.length = (shp T.tab i).2.length then [⟨e, ks, [(s, 0)], []⟩] else []) ++ others⟩
    else stepGen T nt o A
  | _, _, _ => stepGen T nt o A
theorem splice_row {tab : Tab} {row ks : List CK} {off : Nat} {r cs : List Value} (h : off + ks.length ≤ row.length) (hr : RowK (row.map (cden c tab)) w r) (hk : RowK (ks.map (cden c tab)) w cs) : RowK ((splice row off ks).map (cden c tab)) w (r.take off ++ cs ++ r.drop (off + ks.length)) := by
  have := ((hr.take off).append hk).append (hr.drop (off + ks.length))
  simpa [splice, List.map_take, List.map_drop] using this
theorem stepStore_ok (hT : Good T) {o : Oper} {t : TypeId} {s : Nat} {y : Operand} (ho : o.op = .store t (.tmp s) y) {B : SB} (h : stepStore T nt o A t s y = some B) (hS : SatB T c w0 nt A a w) {K : Act → World → Prop} {Q : Exit → Act → World → Prop} (hK : ∀ v w', SatB T c w0 nt B (a.put o.dst v) w' → K (a.put o.dst v) w') : o.wp T.P a w K Q := by
  unfold stepStore at h
  split at h <;> try exact stepGen_ok hT h hS hK
  rename_i i off0 ks hlk hks hdst
  simp only at h
  split at h
  case isFalse => exact stepGen_ok hT h hS hK
  rename_i hst
  obtain ⟨hS1, hSB⟩ := hS
  obtain ⟨i', off', g, start, ks', cs, e1, e2, e3, e4, hr, hgB, hgb, ⟨bs, hbs, hfit⟩, hrun, hrel, hI⟩ := store_run (G := (T.minus (((A.bx.filter fun E => E.T != (shp T.tab i).1)).map (·.T))).cfg c w0) (a := a) (look := A.st.look) (fu := T.fu) hT.tab ho hst hS1.2.2.2.2 hS1.2.2.1
  have e1' : A.st.look s = .ck (.ptr i' off') := e1
  rw [hlk] at e1'
  simp only [Kd.ck, Kd.one.injEq, K1.c.injEq, CK.ptr.injEq] at e1'
  obtain ⟨rfl, rfl⟩ := e1'
  rw [hks] at e2
  obtain rfl : ks = ks' := by simpa using e2
  have hrow : RowK (ks.map (cden c T.tab)) w cs := hr
  replace hbs : w.heap[g]? = some (.cells bs (shp T.tab i).1 (0, 0)) := hbs
  have hcl : cs.length = ks.length := by rw [hrow.length]; simp
  have hbs' : w.heap[g]? = some (.cells bs.toList.toArray (shp T.tab i).1 (0, 0)) := by simpa using hbs
  have hat := setCells_at cs start hbs' (by simpa using hfit)
  have hrelT : Rel c T.tab T.S w (setCells w g start cs) := rel_up hrel
  have hstab : ∀ {ks : List CK} {r : List Value}, RowK (ks.map (cden c T.tab)) w r → RowK (ks.map (cden c T.tab)) (setCells w g start cs) r := fun hr => RowK.rel (S := sto T.S) (sh := stoShape c T.tab T.S) (fun k hk => by
    obtain ⟨k0, _, rfl⟩ := List.mem_map.1 hk
    exact den_stab hT.tab hT.sto k0) hrelT hr
  have hput : a.put o.dst undef = a := by rw [hdst]; rfl
  have hSt : Sat T c w0 nt A.st a (setCells w g start cs) := ⟨hS1.1, hS1.2.1, fun x => Kd.stab hT.tab hT.sto _ _ _ _ hrelT (hS1.2.2.1 x), hS1.2.2.2.1, hI⟩
  have hoth : ∀ E ∈ A.bx.filter (fun E => E.T != (shp T.tab i).1), E.holds c T.tab a (setCells w g start cs) := fun E hE => by
    have := (hSB E (List.mem_filter.1 hE).1).keep (v := undef) hT (okSto_minus hT.sto) hrel (sto_minus (List.mem_map.2 ⟨E, hE, rfl⟩)) Option.none
    exact this
  have hmid : ∀ (f : Nat) (u : Value), cs[f]? = some u → ((bs.toList.take start ++ cs ++ bs.toList.drop (start + cs.length)).toArray)[start + f]? = some u := fun f u hu => by
    have hfl := (List.getElem?_eq_some_iff.1 hu).1
    have hst2 : (bs.toList.take start).length = start := by simp; omega
    simp only [List.getElem?_toArray, List.append_assoc]
    rw [List.getElem?_append_right (by omega), hst2, Nat.add_sub_cancel_left, List.getElem?_append_left hfl]
    exact hu
  have hend : ∀ B', B' = B → SatB T c w0 nt B' a (setCells w g start cs) → o.wp T.P a w K Q := fun B' hB' hSB' => by
    subst hB'
    have := hK undef _ (by rw [hput]; exact hSB')
    unfold Oper.wp
    have hrun' : (execOp a.eval o).run T.P w = .ok .skip (setCells w g start cs) := hrun
    rw [hrun']
    exact this
  split at h
  · rename_i E off hf
    cases h
    obtain ⟨hE, hp⟩ := findBx_ok hf
    refine hend _ rfl ⟨hSt, fun F hF => ?_⟩
    rcases List.mem_append.1 hF with hF | hF
    · split at hF
      · rename_i hle
        rw [List.mem_singleton.1 hF]
        obtain ⟨g', o', cs0, r, h1, h2, h3, h4, h5, h6, _⟩ := hSB E hE
        have e5 := h6 _ hp
        rw [e4] at e5
        simp only [Value.pointer.injEq, Option.some.injEq, Addr.mk.injEq, and_true] at e5
        obtain ⟨rfl, rfl⟩ := e5
        rw [hbs] at h3
        simp only [Option.some.injEq, Obj.cells.injEq, and_true] at h3
        obtain ⟨rfl, hET⟩ := h3
        have hrl : r.length = E.row.length := by rw [h4.length]; simp
        refine ⟨g, o', _, r.take off ++ cs ++ r.drop (off + ks.length), hgB, hgb, by rw [hat, hET], splice_row hle (hstab h4) (hstab hrow), fun f u hu => ?_, h6, fun p hp => by simp at hp⟩
        have ht1 : (r.take off).length = off := by simp; omega
        by_cases a1 : f < off
        · rw [List.append_assoc, List.getElem?_append_left (by omega), List.getElem?_take_of_lt a1] at hu
          have h7 := h5 f u hu
          simp only [List.getElem?_toArray, List.append_assoc]
          rw [List.getElem?_append_left (by simp; omega), List.getElem?_take_of_lt (by omega)]
          simpa using h7
        · by_cases a2 : f < off + cs.length
          · rw [List.append_assoc, List.getElem?_append_right (by omega), ht1, List.getElem?_append_left (by omega)] at hu
            have := hmid (f - off) u hu
            rwa [show o' + off + (f - off) = o' + f by omega] at this
          · rw [List.getElem?_append_right (by simp; omega), List.length_append, ht1, List.getElem?_drop, show off + ks.length + (f - (off + cs.length)) = f by omega] at hu
            have h7 := h5 f u hu
            simp only [List.getElem?_toArray]
            rw [List.getElem?_append_right (by simp; omega), List.getElem?_drop]
            have e6 : (bs.toList.take (o' + off) ++ cs).length = o' + off + cs.length := by simp; omega
            rw [e6, show o' + off + cs.length + (o' + f - (o' + off + cs.length)) = o' + f by omega]
            simpa using h7
      · simp at hF
    · exact hoth F hF
  · rename_i hf
    cases h
    refine hend _ rfl ⟨hSt, fun F hF => ?_⟩
    rcases List.mem_append.1 hF with hF | hF
    · split at hF
      · rename_i hle
        rw [List.mem_singleton.1 hF]
        refine ⟨g, start, _, cs, hgB, hgb, hat, hstab hrow, hmid, fun p hp => ?_, fun p hp => by simp at hp⟩
        rw [List.mem_singleton.1 hp]
        exact e4
      · simp at hF
    · exact hoth F hF
def stepB (T : Conf) (nt : Nat) (o : Oper) (A : SB) : Option SB :=
  match o.op with
  | .load t (.tmp s) => (match findBx s A.bx, o.dst with
    | some (E, off), some d => (match rowLoad T.P E.row off t with
      | some k => if d < nt then (if rowT T.P t = some false then (match E.ca.lookup off with
          | some s0 => some ⟨A.st.put (some d) (A.st.look s0) A.st.ph (.same (.tmp s0)), dropD (some d) A.bx⟩
          | Option.none => some ⟨A.st.put (some d) k A.st.ph .no, { (E.drop (some d)) with ca := (off, d) :: (E.drop (some d)).ca } :: dropD (some d) A.bx⟩)
        else some ⟨A.st.put (some d) k A.st.ph .no, dropD (some d) A.bx⟩) else Option.none
      | Option.none => stepGen T nt o A)
    | _, _ => stepGen T nt o A)
  | .fieldAddr sT (.tmp s) f => (match findBx s A.bx, o.dst, absFieldAddr T.P sT f (A.st.look s), fieldOff T.P sT f with
    | some (E, off), some d, some k, some fo => if d < nt then some ⟨A.st.put (some d) k A.st.ph .no, { (E.drop (some d)) with fl := (d, off + fo) :: (E.drop (some d)).fl } :: dropD (some d) A.bx⟩ else Option.none
    | _, _, _, _ => stepGen T nt o A)
  | .store t (.tmp s) y => stepStore T nt o A t s y
  | _ => stepGen T nt o A
theorem stepB_ok (hT : Good T) {o : Oper} {B : SB} (h : stepB T nt o A = some B) (hS : SatB T c w0 nt A a w) {K : Act → World → Prop} {Q : Exit → Act → World → Prop} (hK : ∀ v w', SatB T c w0 nt B (a.put o.dst v) w' → K (a.put o.dst v) w') : o.wp T.P a w K Q := by
  unfold stepB at h
  split at h
  · rename_i t s hop
    split at h
    · rename_i E off d hf hd
      split at h
      · rename_i k hk
        split at h <;> try (cases h; done)
        rename_i hdn
        obtain ⟨hE, hp⟩ := findBx_ok hf
        obtain ⟨g, o', cs, r, h1, h2, h3, h4, h5, h6, h7⟩ := hS.2 E hE
        obtain ⟨v, hrun, hden, hsc⟩ := rowLoad_ok (o := o') (g := g) hk h4 (fun f u hu => by rw [cell_of_row w g _ cs E.T (0, 0) h3]; exact h5 f u hu)
        have hv := h6 _ hp
        have hgo : K (a.put o.dst v) w → o.wp T.P a w K Q := fun hfin => op_val hfin (by simp [execOp, hop, hv, Instr.loadAt, Instr.sureAddr, hrun])
        have hdr := dropD_ok (v := v) hT (S' := []) (by unfold okSto; simp) (RelK.refl w) (fun _ _ => rfl) hS.2 (some d)
        have hput : ∀ (k' : Kd) (e : Xp), k'.den c T.tab w v → e.holds a.eval v → Sat T c w0 nt (A.st.put (some d) k' A.st.ph e) (a.put o.dst v) w := fun k' e hk' he => by rw [hd]; exact hS.1.put hT (fun x hx => by cases hx; exact hdn) hk' (RelK.refl _) hS.1.2.2.2.2 he
        split at h
        · rename_i hrt
          have hrv := hsc hrt
          split at h
          · rename_i s0 hs0
            cases h
            have hv0 : v = a.eval (.tmp s0) := by
              have := h7 _ (lookup_mem hs0)
              simp only at this
              rw [hrv] at this
              exact Option.some.inj this
            exact hgo (hK v w ⟨hput _ _ (by rw [hv0]; exact hS.1.2.2.1 s0) hv0, by rw [hd]; exact hdr⟩)
          · cases h
            refine hgo (hK v w ⟨hput _ _ hden trivial, ?_⟩)
            rw [hd]
            intro F hF
            rcases List.mem_cons.1 hF with rfl | hF
            · obtain ⟨g', o2, cs', r', a1, a2, a3, a4, a5, a6, a7⟩ := (show (E.drop (some d)).holds c T.tab (a.put (some d) v) w from hdr _ (List.mem_map.2 ⟨E, hE, rfl⟩))
              refine ⟨g, o', cs, r, h1, h2, h3, h4, h5, fun p hp => ?_, fun p hp => ?_⟩
              · obtain ⟨hp1, hp2⟩ := List.mem_filter.1 hp
                rw [eval_put_ne (by simpa using hp2)]
                exact h6 p hp1
              · rcases List.mem_cons.1 hp with rfl | hp
                · rw [eval_put, if_pos ⟨rfl, by rw [hS.1.1]; exact hdn⟩]
                  exact hrv
                · obtain ⟨hp1, hp2⟩ := List.mem_filter.1 hp
                  rw [eval_put_ne (by simpa using hp2)]
                  exact h7 p hp1
            · exact hdr F hF
        · cases h
          exact hgo (hK v w ⟨hput _ _ hden trivial, by rw [hd]; exact hdr⟩)
      · exact stepGen_ok hT h hS hK
    · exact stepGen_ok hT h hS hK
  · rename_i sT s f hop
    split at h
    · rename_i E off d k fo hf hd hk hfo
      split at h <;> try (cases h; done)
      rename_i hdn
      cases h
      obtain ⟨hE, hp⟩ := findBx_ok hf
      obtain ⟨g, st, vx, hrun, hden⟩ := fieldAddr_run (G := T.cfg c w0) (a := a) hop hk hfo (hS.1.2.2.1 s)
      have hrun' : (execOp a.eval o).run T.P w = .ok (.value (.pointer (some ⟨g, st + fo, Option.none⟩))) w := hrun
      have hdr := fun F hF => dropD_ok (v := .pointer (some ⟨g, st + fo, Option.none⟩)) hT (S' := []) (by unfold okSto; simp) (RelK.refl w) (fun _ _ => rfl) hS.2 (some d) F hF
      refine op_val (hK _ w ⟨by rw [hd]; exact hS.1.put hT (fun x hx => by cases hx; exact hdn) hden (RelK.refl _) hS.1.2.2.2.2 trivial, ?_⟩) hrun'
      rw [hd]
      intro F hF
      rcases List.mem_cons.1 hF with rfl | hF
      · obtain ⟨g', o', cs, r, h1, h2, h3, h4, h5, h6, h7⟩ := hS.2 E hE
        have e5 := h6 _ hp
        rw [vx] at e5
        simp only [Value.pointer.injEq, Option.some.injEq, Addr.mk.injEq, and_true] at e5
        obtain ⟨rfl, rfl⟩ := e5
        refine ⟨g, o', cs, r, h1, h2, h3, h4, h5, fun p hp => ?_, fun p hp => ?_⟩
        · rcases List.mem_cons.1 hp with rfl | hp
          · rw [eval_put, if_pos ⟨rfl, by rw [hS.1.1]; exact hdn⟩, Nat.add_assoc]
          · obtain ⟨hp1, hp2⟩ := List.mem_filter.1 hp
            rw [eval_put_ne (by simpa using hp2)]
            exact h6 p hp1
        · obtain ⟨hp1, hp2⟩ := List.mem_filter.1 hp
          rw [eval_put_ne (by simpa using hp2)]
          exact h7 p hp1
      · exact hdr F hF
    · exact stepGen_ok hT h hS hK
  · rename_i t s y hop
    exact stepStore_ok hT hop h hS hK
  · exact stepGen_ok hT h hS hK
def skipB (nt : Nat) (o : Oper) (A : SB) : Option SB := (skipOp nt o A.st).map fun B => ⟨B, dropD o.dst A.bx⟩
theorem skipB_ok (hT : Good T) {o : Oper} {B : SB} (h : skipB nt o A = some B) (hS : SatB T c w0 nt A a w) : SatB T c w0 nt B (a.put o.dst undef) w := by
  obtain ⟨B1, h1, rfl⟩ := Option.map_eq_some_iff.1 h
  exact ⟨skipOp_ok hT h1 hS.1, dropD_ok hT (S' := []) (by unfold okSto; simp) (RelK.refl _) (fun _ _ => rfl) hS.2 _⟩
def SB.learn (f : Nat) (A : SB) (d : Nat) (t : Bool) : SB := ⟨A.st.learn f d t, A.bx⟩
theorem SatB.learn {f : Nat} {d : Nat} {t : Bool} (hS : SatB T c w0 nt A a w) (h : a.eval (.tmp d) = .bool t) : SatB T c w0 nt (A.learn f d t) a w := ⟨hS.1.learn h, hS.2⟩
def guardB (T : Conf) (nt : Nat) (ops : Array Oper) (o : Oper) (A : SB) : Option (List SB) :=
  match o.guard with
  | Option.none => (stepB T nt o A).map fun B => [B]
  | some (g, b) => match (ops[g]?).bind (·.dst) with
    | Option.none => Option.none
    | some gd => match A.st.look gd with
      | .one (.c (.bool (some x))) => (if x = b then stepB T nt o A else skipB nt o A).map fun B => [B]
      | .one (.c (.bool Option.none)) => (stepB T nt o (A.learn 2 gd b)).bind fun B => (skipB nt o (A.learn 2 gd !b)).map fun D => [B, D]
      | .tup [] => (skipB nt o A).map fun B => [B]
      | _ => Option.none
def notTmp (d : Nat) : Operand → Bool
  | .tmp s => s != d
  | _ => true
/-- A variable is made and at once given its value; its type is none of those that are stored into. -/
def pairB (T : Conf) (nt : Nat) (o o2 : Oper) (A : SB) : Option SB := match o.op, o.dst, o.guard, o2.op, o2.dst, o2.guard with
  | .alloc e, some d, Option.none, .store e2 (.tmp d2) y, Option.none, Option.none => match T.P.info? e, kcells (kop A.st.look y), A.st.ph.alloc T.J with
    | some ie, some ks, some ph => match ie.zero, findShape T.tab T.fu e 1 ks with
      | some z, some i => if e = e2 ∧ d = d2 ∧ d < nt ∧ notTmp d y = true ∧ z.cells.size = ie.size ∧ ks.length = ie.size ∧ sto T.S e = false then some ⟨A.st.put (some d) (.ck (.ptr i 0)) ph .no, dropD (some d) A.bx⟩ else Option.none
      | _, _ => Option.none
    | _, _, _ => Option.none
  | _, _, _, _, _, _ => Option.none
theorem pairB_ok (hT : Good T) {o o2 : Oper} {B : SB} (h : pairB T nt o o2 A = some B) (hS : SatB T c w0 nt A a w) {K : Act → World → Prop} {Q : Exit → Act → World → Prop} (hK : ∀ a' w', SatB T c w0 nt B a' w' → K a' w') : o.guard = Option.none ∧ o2.guard = Option.none ∧ o.wp T.P a w (fun a1 w1 => o2.wp T.P a1 w1 K Q) Q := by
  unfold pairB at h
  split at h <;> try (cases h; done)
  rename_i e d e2 d2 y hop hd hg hop2 hd2 hg2
  split at h <;> try (cases h; done)
  rename_i ie ks ph e4 e5 e6
  split at h <;> try (cases h; done)
  rename_i z i e7 e8
  split at h <;> try (cases h; done)
  rename_i hc
  obtain ⟨rfl, rfl, hdn, hny, hz, hks, hsto⟩ := hc
  cases h
  refine ⟨hg, hg2, ?_⟩
  obtain ⟨hS1, hSB⟩ := hS
  have hI := hS1.2.2.2.2
  have hy := kop_den hS1.2.2.1 y
  obtain ⟨_, cs, h1, h2⟩ := kcells_ok e5 hy
  have hcl : cs.length = ks.length := by rw [h2.length]; simp
  obtain ⟨s1, s2, s3⟩ := findShape_ok e8
  obtain ⟨hI1, hne⟩ := hI.grow (o := .cells z.cells e) e6
  obtain ⟨h3, h4⟩ := leRep_ok (c := c) hT.tab s3 h2
  have hblk := heap_alloc_new w (.cells z.cells e)
  have hblk' : (w.alloc (.cells z.cells e)).heap[w.heap.size]? = some (.cells z.cells.toList.toArray e (0, 0)) := by simpa using hblk
  have hat := setCells_at cs 0 hblk' (by simp; omega)
  have hg3 := setCells_grown w.heap.size cs (w.alloc (.cells z.cells e)) 0
  have hbel : Below w.heap.size w (setCells (w.alloc (.cells z.cells e)) w.heap.size 0 cs) := setCells_below (Nat.le_refl _) cs 0 (below_alloc w _)
  have hrel : ∀ S, Rel c T.tab S w (setCells (w.alloc (.cells z.cells e)) w.heap.size 0 cs) := fun S => RelK.below hbel
  have hI2 : Inv c w0 T.J ph (setCells (w.alloc (.cells z.cells e)) w.heap.size 0 cs) := hI1.cells (g := 0) hg3 (fun k e => by cases e; exact ⟨hI.2.1, hne⟩) (setCells_size _ cs _ 0)
  have hlist : (List.take 0 z.cells.toList ++ cs ++ List.drop (0 + cs.length) z.cells.toList) = cs := by
    rw [List.drop_eq_nil_of_le (by simp; omega)]; simp
  rw [hlist] at hat
  have htd := (tab_den (c := c) hT.tab i).1
  have hden : cden c T.tab (.ptr i 0) (setCells (w.alloc (.cells z.cells e)) w.heap.size 0 cs) (.pointer (some ⟨w.heap.size, 0, Option.none⟩)) := by
    refine ⟨w.heap.size, 0, by simp, ?_⟩
    rw [htd]
    simp only
    rw [s1]
    refine ⟨hI.2.1, hne, _, hat, by simp [h4], fun q f k u hq hk hu => ?_⟩
    refine (h3.rel (S := sto T.S) (sh := stoShape c T.tab T.S) (fun k hk => ?_) (hrel T.S)) q f k u (by omega) hk (by simpa using hu)
    obtain ⟨k0, _, rfl⟩ := List.mem_map.1 hk
    exact den_stab hT.tab hT.sto k0
  have hfin : SatB T c w0 nt ⟨A.st.put (some d) (.ck (.ptr i 0)) ph .no, dropD (some d) A.bx⟩ (a.put (some d) (.pointer (some ⟨w.heap.size, 0, Option.none⟩))) (setCells (w.alloc (.cells z.cells e)) w.heap.size 0 cs) :=
    ⟨hS1.put hT (fun x hx => by cases hx; exact hdn) hden (hrel T.S) hI2 trivial, dropD_ok hT (S' := []) (by unfold okSto; simp) (hrel []) (fun _ _ => rfl) hSB (some d)⟩
  refine op_val (v := .pointer (some ⟨w.heap.size, 0, Option.none⟩)) (w' := w.alloc (.cells z.cells e)) ?_ (by simp [execOp, hop, Instr.alloc, zeroValue, typeInfo, e4, e7, newVar, newRow])
  have hptr : (a.put o.dst (.pointer (some ⟨w.heap.size, 0, Option.none⟩))).eval (.tmp d) = .pointer (some ⟨w.heap.size, 0, Option.none⟩) := by
    rw [hd, eval_put, if_pos ⟨rfl, by rw [hS1.1]; exact hdn⟩]
  have hval : (a.put o.dst (.pointer (some ⟨w.heap.size, 0, Option.none⟩))).eval y = a.eval y := by
    rw [hd]
    cases y with
    | tmp s => exact eval_put_ne (by simpa [notTmp] using hny)
    | _ => rfl
  have hthere : (w.alloc (.cells z.cells e)).there w.heap.size 0 cs.length := fun j hj => by
    refine ⟨?_, frozen_of_row _ _ _ _ _ hblk⟩
    rw [cell_of_row _ _ _ _ _ _ hblk, Nat.zero_add, Array.getElem?_eq_getElem (by omega)]
    rfl
  have hrun : (Instr.storeAt e (.pointer (some ⟨w.heap.size, 0, Option.none⟩)) (a.eval y)).run T.P (w.alloc (.cells z.cells e)) = .ok () (setCells (w.alloc (.cells z.cells e)) w.heap.size 0 cs) := by
    have hf := (kcells_ok e5 hy).1
    have := run_storeCells_cells (P := T.P) w.heap.size 0 cs 0 (w.alloc (.cells z.cells e)) (fun j hj => by simpa using (hthere j hj).1) (fun j hj => by simp) (flat_one hf h2)
    rw [setCells_eq]
    simp only [Nat.add_zero] at this
    have hsz : ¬ ((a.eval y).cells.size ≠ ie.size) := by rw [h1]; simp; omega
    have hl2 : (a.eval y).cells.toList = cs := by rw [h1]
    simp [Instr.storeAt, Instr.sureAddr, storeVar, sizeOf, typeInfo, e4, h1, this]
    omega
  unfold Oper.wp
  rw [show (execOp (a.put o.dst (.pointer (some ⟨w.heap.size, 0, Option.none⟩))).eval o2).run T.P (w.alloc (.cells z.cells e)) = .ok .skip (setCells (w.alloc (.cells z.cells e)) w.heap.size 0 cs) by
    simp only [execOp, hop2, hptr, hval, Sem.run_bind, hrun, Result.andThen_ok, Sem.run_pure]]
  show K ((a.put o.dst (.pointer (some ⟨w.heap.size, 0, Option.none⟩))).put o2.dst undef) _
  rw [hd2, hd]
  exact hK _ _ hfin
def absOpsB (T : Conf) (nt : Nat) (ops : Array Oper) : List Oper → SB → Option (List SB)
  | [], A => some [A]
  | [o], A => guardB T nt ops o A
  | o :: o2 :: r, A => match pairB T nt o o2 A with
    | some B => absOpsB T nt ops r B
    | Option.none => (guardB T nt ops o A).bind fun l => bindL (absOpsB T nt ops (o2 :: r)) l
theorem guardB_ok (hT : Good T) {ops : Array Oper} {o : Oper} {A : SB} {l1 : List SB} {a : Act} {w : World} {K : Act → World → Prop} {Q : Exit → Act → World → Prop} (h1 : guardB T nt ops o A = some l1) (hS : SatB T c w0 nt A a w) (hgo : ∀ B ∈ l1, ∀ a' w', SatB T c w0 nt B a' w' → K a' w') : if Region.wanted o (yielded ops a.tmps) = true then o.wp T.P a w K Q else K (a.put o.dst undef) w := by
  unfold guardB at h1
  split at h1
  · rename_i hgd
    rw [if_pos (by simp [Region.wanted, hgd])]
    obtain ⟨B, h3, rfl⟩ := Option.map_eq_some_iff.1 h1
    exact stepB_ok hT h3 hS (fun v w' h => hgo B (by simp) _ _ h)
  · rename_i g b hgd
    split at h1 <;> try (cases h1; done)
    rename_i gd hdst
    have hval := hS.1.2.2.1 gd
    split at h1 <;> try (cases h1; done)
    · rename_i x hx
      rw [hx] at hval
      obtain ⟨y, hy, hy2⟩ := hval
      obtain rfl := hy2 _ rfl
      have hw : Region.wanted o (yielded ops a.tmps) = (y == b) := by
        simp only [Region.wanted, hgd, yields_of hdst hy]
        rfl
      obtain ⟨B, h3, rfl⟩ := Option.map_eq_some_iff.1 h1
      rw [hw]
      by_cases e : y = b
      · rw [if_pos e] at h3
        rw [if_pos (by simpa using e)]
        exact stepB_ok hT h3 hS (fun v w' h => hgo B (by simp) _ _ h)
      · rw [if_neg e] at h3
        rw [if_neg (by simpa using e)]
        exact hgo B (by simp) _ _ (skipB_ok hT h3 hS)
    · rename_i hx
      rw [hx] at hval
      obtain ⟨y, hy, _⟩ := hval
      have hw : Region.wanted o (yielded ops a.tmps) = (y == b) := by
        simp only [Region.wanted, hgd, yields_of hdst hy]
        rfl
      obtain ⟨B, h3, h4⟩ := Option.bind_eq_some_iff.1 h1
      obtain ⟨D, h5, rfl⟩ := Option.map_eq_some_iff.1 h4
      rw [hw]
      by_cases e : y = b
      · subst e
        rw [if_pos (by simp)]
        exact stepB_ok hT h3 (hS.learn hy) (fun v w' h => hgo B (by simp) _ _ h)
      · rw [if_neg (by simpa using e)]
        have : y = !b := by cases y <;> cases b <;> simp_all
        subst this
        exact hgo D (by simp) _ _ (skipB_ok hT h5 (hS.learn hy))
    · rename_i hx
      rw [hx] at hval
      obtain ⟨cs, hy, hcs⟩ := hval
      obtain rfl : cs = [] := hcs
      have hw : Region.wanted o (yielded ops a.tmps) = false := by
        simp only [Region.wanted, hgd, yields_not hdst hy]
        cases b <;> rfl
      obtain ⟨B, h3, rfl⟩ := Option.map_eq_some_iff.1 h1
      rw [hw, if_neg (by simp)]
      exact hgo B (by simp) _ _ (skipB_ok hT h3 hS)
theorem absOpsB_ok (hT : Good T) {ops : Array Oper} {Q : Exit → Act → World → Prop} : ∀ {l : List Oper} {A : SB} {L : List SB} {a : Act} {w : World}, absOpsB T nt ops l A = some L → SatB T c w0 nt A a w → (∀ a' w', (∃ B ∈ L, SatB T c w0 nt B a' w') → Q .normal a' w') → wpList T.P ops Q l a w
  | [], A, L, a, w, h, hS, hQ => by
    cases h
    exact hQ a w ⟨A, by simp, hS⟩
  | [o], A, L, a, w, h, hS, hQ => by
    refine wpList_step fun K hK => ?_
    exact guardB_ok hT h hS (fun B hB a' w' hSB => hK _ _ (hQ a' w' ⟨B, hB, hSB⟩))
  | o :: o2 :: r, A, L, a, w, h, hS, hQ => by
    simp only [absOpsB] at h
    split at h
    · rename_i B hB
      refine wpList_step fun K hK => ?_
      obtain ⟨g1, g2, g3⟩ := pairB_ok hT hB hS (K := fun a' w' => wpList T.P ops Q r a' w') (Q := Q) (fun a' w' hSB => absOpsB_ok hT h hSB hQ)
      rw [if_pos (by simp [Region.wanted, g1])]
      refine Oper.wp_mono ?_ g3
      intro a1 w1 h1
      refine hK _ _ (wpList_step fun K2 hK2 => ?_)
      rw [if_pos (by simp [Region.wanted, g2])]
      exact Oper.wp_mono (fun a2 w2 h2 => hK2 _ _ h2) h1
    · obtain ⟨l1, h1, h2⟩ := Option.bind_eq_some_iff.1 h
      refine wpList_step fun K hK => ?_
      exact guardB_ok hT h1 hS (fun B hB a' w' hSB => by
        obtain ⟨r', h3, h4⟩ := bindL_mem h2 B hB
        exact hK _ _ (absOpsB_ok hT h3 hSB (fun a2 w2 ⟨D, hD, hSD⟩ => hQ a2 w2 ⟨D, h4 D hD, hSD⟩)))
/-! ### A region that draws its order, and the boxes made there -/
def Conf.re (T : Conf) (T0 : TypeId) (row : List CK) (r : Tab) : Conf := { T with tab := (T0, row) :: r, cons := [] }
theorem Good.re {T0 : TypeId} {row : List CK} {r : Tab} (hT : Good T) (h1 : okTab ((T0, row) :: r) = true) (h2 : okSto ((T0, row) :: r) T.S = true) : Good (T.re T0 row r) :=
  { tab := h1, sto := h2, mixed := hT.mixed, cons := (fun e he => by cases he), enterO := hT.enterO, enterP := hT.enterP, enterD := hT.enterD, openOk := hT.openOk, pickOk := hT.pickOk, oddOk := hT.oddOk }
def Kd.low (n : Nat) : Kd → Bool
  | .one (.c k) => k.below n
  | .one (.agg ks) => ks.all (CK.below n)
  | .tup ks => ks.isEmpty
theorem cden_re {T0 : TypeId} {x y : List CK} {r : Tab} {k : CK} (h : k.below r.length = true) : cden c ((T0, x) :: r) k = cden c ((T0, y) :: r) k :=
  (den_cons (x := (T0, x)) h).trans (den_cons (x := (T0, y)) h).symm
theorem map_re {T0 : TypeId} {x y : List CK} {r : Tab} {ks : List CK} (h : ks.all (CK.below r.length) = true) : ks.map (cden c ((T0, x) :: r)) = ks.map (cden c ((T0, y) :: r)) :=
  List.map_congr_left fun k hk => cden_re (List.all_eq_true.1 h k hk)
theorem low_den {T0 : TypeId} {x y : List CK} {r : Tab} {k : Kd} (h : k.low r.length = true) (hv : k.den c ((T0, x) :: r) w v) : k.den c ((T0, y) :: r) w v := by
  cases k with
  | one k =>
    cases k with
    | c k =>
      have hv2 : cden c ((T0, x) :: r) k w v := hv
      show cden c ((T0, y) :: r) k w v
      rw [← cden_re (x := x) (y := y) h]; exact hv2
    | agg ks =>
      obtain ⟨cs, e, hr⟩ := hv
      exact ⟨cs, e, by rw [← map_re (x := x) (y := y) h]; exact hr⟩
  | tup ks =>
    cases ks with
    | nil => exact hv
    | cons k ks => cases h
theorem tabOf_head {T0 : TypeId} {ks : List CK} {r : Tab} : tabOf c ((T0, ks) :: r) r.length = (T0, ks.map (CK.den c (tabOf c r))) := by rw [tabOf, if_pos rfl]
theorem rel_re {T0 : TypeId} {row ks : List CK} {r : Tab} {S : Sto} {f0 : Nat} (hok : okTab r = true) (hle : all2 (CK.le r f0) row ks = true) (h : Rel c ((T0, row) :: r) S w w') : Rel c ((T0, ks) :: r) S w w' := by
  obtain ⟨hl, hat⟩ := all2_at hle
  refine ⟨h.1, fun g cs Tt h1 h2 h3 => ?_⟩
  obtain ⟨cs', g1, g2, g3, g4⟩ := h.2 g cs Tt h1 h2 h3
  refine ⟨cs', g1, g2, g3, fun hs q f k u hk hu => ?_⟩
  have g5 := g4 hs
  unfold stoShape at hk hu g5 ⊢
  cases hlk : S.lookup Tt with
  | none => unfold sto at hs; rw [hlk] at hs; cases hs
  | some i =>
    simp only [hlk] at hk hu g5 ⊢
    by_cases e : i = r.length
    · subst e
      rw [tabOf_head] at hk hu g5 ⊢
      simp only [List.length_map] at hu g5 ⊢
      rw [List.getElem?_map] at hk
      obtain ⟨k0, hk0, rfl⟩ := Option.map_eq_some_iff.1 hk
      have hf : f < row.length := by rw [hl]; exact (List.getElem?_eq_some_iff.1 hk0).1
      have hk1 : row[f]? = some row[f] := List.getElem?_eq_getElem hf
      rw [← hl] at hu ⊢
      rcases g5 q f (CK.den c (tabOf c r) row[f]) u (by rw [List.getElem?_map, hk1]; rfl) hu with h6 | h6
      · exact .inl h6
      · exact .inr (le_den hok f0 _ _ (hat f _ _ hk1 hk0) u h6)
    · have et : ∀ x, tabOf c ((T0, x) :: r) i = tabOf c r i := fun x => by rw [tabOf, if_neg e]
      rw [et] at hk hu g5 ⊢
      rcases g5 q f k u hk hu with h6 | h6
      · exact .inl h6
      · exact .inr h6
theorem RowK.at2 {w : World} : ∀ {ks : List VK} {cs : List Value}, cs.length = ks.length → (∀ (f : Nat) k u, ks[f]? = some k → cs[f]? = some u → k w u) → RowK ks w cs
  | [], cs, hl, _ => List.eq_nil_of_length_eq_zero hl
  | k :: ks, [], hl, _ => by simp at hl
  | k :: ks, u :: cs, hl, h => ⟨u, cs, rfl, h 0 k u rfl rfl, RowK.at2 (by simpa using hl) (fun f k' u' hk hu => h (f + 1) k' u' (by simpa using hk) (by simpa using hu))⟩
theorem ptr_box {T0 : TypeId} {row ks : List CK} {r : Tab} {d off : Nat} (hrow : row.all (CK.below r.length) = true) (h : cden c ((T0, row) :: r) (.ptr r.length off) w (a.eval (.tmp d))) : (Bx.mk T0 row [(d, off)] []).holds c ((T0, ks) :: r) a w := by
  obtain ⟨g, q, hv, hb⟩ := h
  rw [tabOf_head] at hv hb
  obtain ⟨h1, h2, cs, h3, h4, h5⟩ := hb
  simp only [List.length_map] at hv h4 h5
  have hat : ∀ j, j < row.length → ((cs.toList.drop (q * row.length)).take row.length)[j]? = cs[q * row.length + j]? := fun j hj => by
    rw [List.getElem?_take_of_lt hj, List.getElem?_drop]; simp
  rw [Nat.add_mul, Nat.one_mul] at h4
  refine ⟨g, q * row.length, cs, (cs.toList.drop (q * row.length)).take row.length, h1, h2, h3, RowK.at2 (by simp; omega) (fun f k u hk hu => ?_), fun f u hu => ?_, fun p hp => ?_, fun p hp => by simp at hp⟩
  · have hf : f < row.length := by have := (List.getElem?_eq_some_iff.1 hk).1; simpa using this
    rw [hat f hf] at hu
    rw [map_re (y := row) hrow] at hk
    refine h5 q f k u (by omega) ?_ hu
    rw [← hk]
    congr 1
    exact List.map_congr_left fun k hk => (den_cons (x := (T0, row)) (List.all_eq_true.1 hrow k hk)).symm
  · have hf : f < row.length := by have := (List.getElem?_eq_some_iff.1 hu).1; simp at this; omega
    rw [hat f hf] at hu
    exact hu
  · simp only [List.mem_singleton] at hp
    subst hp
    exact hv
def lowOr (n : Nat) (k : Kd) : Kd := if k.low n then k else match k with
  | .one (.c (.ptr i off)) => if i = n then .ck (.ptr i off) else .ck .any
  | _ => .ck .any
theorem lowOr_den {T0 : TypeId} {row ks : List CK} {r : Tab} {k : Kd} {f0 : Nat} (hok : okTab r = true) (hle : all2 (CK.le r f0) row ks = true) (hv : k.den c ((T0, row) :: r) w v) : (lowOr r.length k).den c ((T0, ks) :: r) w v := by
  unfold lowOr
  split
  · rename_i h; exact low_den h hv
  · split
    · rename_i i off
      split
      · rename_i e
        subst e
        obtain ⟨hl, hat⟩ := all2_at hle
        obtain ⟨g, q, hv, hb⟩ := hv
        rw [tabOf_head] at hv hb
        refine ⟨g, q, ?_, ?_⟩
        · rw [tabOf_head]; simp only [List.length_map] at hv ⊢; rw [← hl]; exact hv
        · rw [tabOf_head]
          refine BlkK.weaken (by simp [hl]) (fun f k k' hk hk' u hu => ?_) hb
          rw [List.getElem?_map] at hk hk'
          obtain ⟨k0, e0, rfl⟩ := Option.map_eq_some_iff.1 hk
          obtain ⟨k1, e1, rfl⟩ := Option.map_eq_some_iff.1 hk'
          exact le_den hok f0 _ _ (hat f _ _ e0 e1) u hu
      · exact any_den
    · exact any_den
theorem lookup_dsts {F : Nat → Kd} {s : Nat} : ∀ {l : List Nat}, (l.map fun d => (d, F d)).lookup s = if s ∈ l then some (F s) else Option.none
  | [] => rfl
  | x :: l => by
    have ih := lookup_dsts (F := F) (s := s) (l := l)
    rw [List.map_cons, List.lookup_cons]
    by_cases e : s = x
    · subst e; simp
    · have hb : (s == x) = false := by simpa using e
      rw [hb]
      simp only [ih, List.mem_cons, e, false_or]
theorem lookup_mapK {F : Kd → Kd} {s : Nat} : ∀ {l : List (Nat × Kd)}, (l.map fun p => (p.1, F p.2)).lookup s = (l.lookup s).map F
  | [] => rfl
  | (x, k) :: l => by
    have ih := lookup_mapK (F := F) (s := s) (l := l)
    rw [List.map_cons, List.lookup_cons, List.lookup_cons]
    cases s == x
    · exact ih
    · rfl
def absDrawnT (T : Conf) (T0 : TypeId) (ks row : List CK) (r : Tab) (nt : Nat) (l : List Oper) (A : SB) : Option SB :=
  if okTab ((T0, row) :: r) && okSto ((T0, row) :: r) T.S && all2 (CK.le r T.fu) row ks then
    (absDrawn (T.re T0 row r) nt l { A.st with env := A.st.env.map fun p => (p.1, if p.2.low r.length then p.2 else .ck .any) }).map fun B =>
      ⟨{ env := (dsts l).map (fun d => (d, lowOr r.length (B.look d))) ++ A.st.env.filter (fun p => !(dsts l).contains p.1), facts := B.facts, ph := B.ph },
       (dsts l).filterMap fun d => match B.look d with
         | .one (.c (.ptr i off)) => if i = r.length then some ⟨T0, row, [(d, off)], []⟩ else Option.none
         | _ => Option.none⟩
  else Option.none
theorem absDrawnT_ok (hT : Good T) {T0 : TypeId} {ks row : List CK} {r : Tab} (htab : T.tab = (T0, ks) :: r) {id : Nat} {l : List Oper} {B : SB} (h : absDrawnT T T0 ks row r nt l A = some B) (hS : SatB T c w0 nt A a w) {Q : Exit → Act → World → Prop} (hQ : ∀ a' w', SatB T c w0 nt B a' w' → Q .normal a' w') : (Code.region id l.toArray true).wp T.P Q a w := by
  unfold absDrawnT at h
  split at h <;> try (cases h; done)
  rename_i hc
  simp only [Bool.and_eq_true] at hc
  obtain ⟨⟨c1, c2⟩, c3⟩ := hc
  have hrow : row.all (CK.below r.length) = true := by simp only [okTab, Bool.and_eq_true] at c1; exact c1.1
  have hokr : okTab r = true := by simp only [okTab, Bool.and_eq_true] at c1; exact c1.2
  obtain ⟨B1, h1, rfl⟩ := Option.map_eq_some_iff.1 h
  obtain ⟨⟨s1, s2, s3, s4, s5⟩, _⟩ := hS
  rw [htab] at s3
  refine absDrawn_ok2 (hT.re c1 c2) (G := fun w => ∀ s, (A.st.look s).den c ((T0, ks) :: r) w (a.eval (.tmp s))) (fun w w' hr hg s => ?_) s3 h1 ⟨s1, s2, fun s => ?_, s4, s5⟩ (fun a' w' hB hG hsame => hQ a' w' ⟨⟨hB.1, hB.2.1, fun s => ?_, hB.2.2.2.1, hB.2.2.2.2⟩, fun E hE => ?_⟩)
  · have hr2 : Rel c ((T0, ks) :: r) T.S w w' := rel_re hokr c3 hr
    have hst := Kd.stab (c := c) hT.tab hT.sto (A.st.look s)
    rw [htab] at hst
    exact hst _ _ _ hr2 (hg s)
  · show Kd.den c ((T0, row) :: r) (((A.st.env.map fun p => (p.1, if p.2.low r.length then p.2 else .ck .any)).lookup s).getD (.ck .any)) w _
    rw [lookup_mapK (F := fun k => if k.low r.length then k else .ck .any)]
    have h3 := s3 s
    unfold St.look at h3
    cases hl : A.st.env.lookup s with
    | none => exact any_den
    | some k =>
      rw [hl] at h3
      simp only [Option.map_some, Option.getD_some] at h3 ⊢
      split
      · rename_i hlow; exact low_den hlow h3
      · exact any_den
  · rw [htab]
    show Kd.den c ((T0, ks) :: r) ((((dsts l).map (fun d => (d, lowOr r.length (B1.look d))) ++ A.st.env.filter (fun p => !(dsts l).contains p.1)).lookup s).getD (.ck .any)) w' _
    rw [lookup_append, lookup_dsts (F := fun d => lowOr r.length (B1.look d))]
    by_cases hs : s ∈ dsts l
    · rw [if_pos hs, Option.some_or, Option.getD_some]
      exact lowOr_den hokr c3 (hB.2.2.1 s)
    · rw [if_neg hs, Option.none_or, lookup_filter_not hs, hsame s hs]
      exact hG s
  · obtain ⟨d, hd, he⟩ := List.mem_filterMap.1 hE
    split at he <;> try (cases he; done)
    rename_i i off hlk
    split at he <;> try (cases he; done)
    rename_i e
    cases he
    subst e
    rw [htab]
    refine ptr_box hrow ?_
    have := hB.2.2.1 d
    rw [hlk] at this
    exact this
def tightRow (T : Conf) (T0 : TypeId) (nt : Nat) (l : List Oper) (A : SB) : Option (List CK) := (absDrawn T nt l A.st).bind fun B => l.findSome? fun o => match o.op with
  | .store t _ (.tmp y) => if t = T0 then match B.look y with
      | .one (.agg row) => some row
      | _ => Option.none
    else Option.none
  | _ => Option.none
def absDrawn0 (T : Conf) (nt : Nat) (l : List Oper) (A : SB) : Option SB := (absDrawn T nt l A.st).map fun B => ⟨B, []⟩
theorem absDrawn0_ok (hT : Good T) {id : Nat} {l : List Oper} {B : SB} (h : absDrawn0 T nt l A = some B) (hS : SatB T c w0 nt A a w) {Q : Exit → Act → World → Prop} (hQ : ∀ a' w', SatB T c w0 nt B a' w' → Q .normal a' w') : (Code.region id l.toArray true).wp T.P Q a w := by
  obtain ⟨B1, h1, rfl⟩ := Option.map_eq_some_iff.1 h
  exact absDrawn_ok hT h1 hS.1 (fun a' w' h2 => hQ a' w' ⟨h2, fun E hE => by simp at hE⟩)
def absDrawnB (T : Conf) (nt : Nat) (l : List Oper) (A : SB) : Option SB := match T.tab with
  | (T0, ks) :: r => match tightRow T T0 nt l A with
    | some row => match absDrawnT T T0 ks row r nt l A with
      | some B => some B
      | Option.none => absDrawn0 T nt l A
    | Option.none => absDrawn0 T nt l A
  | [] => absDrawn0 T nt l A
theorem absDrawnB_ok (hT : Good T) {id : Nat} {l : List Oper} {B : SB} (h : absDrawnB T nt l A = some B) (hS : SatB T c w0 nt A a w) {Q : Exit → Act → World → Prop} (hQ : ∀ a' w', SatB T c w0 nt B a' w' → Q .normal a' w') : (Code.region id l.toArray true).wp T.P Q a w := by
  unfold absDrawnB at h
  split at h
  · rename_i T0 ks r htab
    split at h
    · rename_i row hrow
      split at h
      · rename_i B1 h1
        cases h
        exact absDrawnT_ok hT htab h1 hS hQ
      · exact absDrawn0_ok hT h hS hQ
    · exact absDrawn0_ok hT h hS hQ
  · exact absDrawn0_ok hT h hS hQ
/-! ### Meeting -/
def Bx.join (T : Conf) (E F : Bx) : Option Bx := if E.T = F.T then
    match Kd.join T.tab T.fu (.ag E.row) (.ag F.row) with
    | .one (.agg row) => some ⟨E.T, row, E.fl.filter (fun p => F.fl.contains p), E.ca.filter fun p => F.ca.contains p⟩
    | _ => Option.none
  else Option.none
theorem Bx.den {E : Bx} {tab : Tab} {r : List Value} (h : RowK (E.row.map (cden c tab)) w r) : (Kd.ag E.row).den c tab w (.agg r.toArray) := ⟨r, rfl, h⟩
theorem agg_row {tab : Tab} {row : List CK} {r : List Value} (h : (Kd.one (.agg row)).den c tab w (.agg r.toArray)) : RowK (row.map (cden c tab)) w r := by
  obtain ⟨cs, e, h⟩ := h
  simp only [Value.agg.injEq] at e
  obtain rfl : r = cs := by simpa using congrArg Array.toList e
  exact h
theorem Bx.join_ok (hT : Good T) {E F D : Bx} (h : Bx.join T E F = some D) (hS : E.holds c T.tab a w ∨ F.holds c T.tab a w) : D.holds c T.tab a w := by
  unfold Bx.join at h
  split at h <;> try (cases h; done)
  rename_i hTT
  split at h <;> try (cases h; done)
  rename_i row hj
  cases h
  rcases hS with ⟨g, o, cs, r, h1, h2, h3, h4, h5, h6, h7⟩ | ⟨g, o, cs, r, h1, h2, h3, h4, h5, h6, h7⟩
  · have := Kd.join_l (f := T.fu) (b := .ag F.row) hT.tab (Bx.den (E := E) h4)
    rw [hj] at this
    exact ⟨g, o, cs, r, h1, h2, h3, agg_row this, h5, fun p hp => h6 p (List.mem_filter.1 hp).1, fun p hp => h7 p (List.mem_filter.1 hp).1⟩
  · have := Kd.join_r (f := T.fu) (a := .ag E.row) hT.tab (Bx.den (E := F) h4)
    rw [hj] at this
    exact ⟨g, o, cs, r, h1, h2, by rw [h3, hTT], agg_row this, h5, fun p hp => h6 p (by simpa using (List.mem_filter.1 hp).2), fun p hp => h7 p (by simpa using (List.mem_filter.1 hp).2)⟩
def meetBx (T : Conf) (E : Bx) : List Bx → Option Bx
  | [] => Option.none
  | F :: l => if E.fl.any (fun p => F.fl.contains p) then Bx.join T E F else meetBx T E l
theorem meetBx_mem {E D : Bx} : ∀ {l : List Bx}, meetBx T E l = some D → ∃ F ∈ l, Bx.join T E F = some D
  | [], h => by simp [meetBx] at h
  | F :: l, h => by
    simp only [meetBx] at h
    split at h
    · exact ⟨F, by simp, h⟩
    · obtain ⟨G, hG, h2⟩ := meetBx_mem h
      exact ⟨G, by simp [hG], h2⟩
def SB.join (T : Conf) (A B : SB) : Option SB := (St.join T A.st B.st).map fun s => ⟨s, A.bx.filterMap fun E => meetBx T E B.bx⟩
theorem joinB_ok (hT : Good T) {A B D : SB} (h : SB.join T A B = some D) (hS : SatB T c w0 nt A a w ∨ SatB T c w0 nt B a w) : SatB T c w0 nt D a w := by
  obtain ⟨s, h1, rfl⟩ := Option.map_eq_some_iff.1 h
  refine ⟨Proofs.YtodjokdaofefdaaGreat.join_ok hT h1 (hS.elim (fun h => .inl h.1) (fun h => .inr h.1)), fun D hD => ?_⟩
  obtain ⟨E, hE, hm⟩ := List.mem_filterMap.1 hD
  obtain ⟨F, hF, hj⟩ := meetBx_mem hm
  exact Bx.join_ok hT hj (hS.elim (fun h => .inl (h.2 E hE)) (fun h => .inr (h.2 F hF)))
def SB.prune (keep : List Nat) (A : SB) : SB := ⟨A.st.prune keep, A.bx⟩
theorem pruneB_ok {keep : List Nat} (hS : SatB T c w0 nt A a w) : SatB T c w0 nt (A.prune keep) a w := ⟨prune_ok hS.1, hS.2⟩
end
section
variable {T : Conf} {c : Ctx} {w0 : World} {nt : Nat} {A : SB} {a : Act} {w w' : World} {v : Value}
/-! ### Code -/
structure OutB where
  norm : List SB
  exits : List (Nat × SB)
  rets : List SB
def joinAllB (T : Conf) : List SB → List SB
  | [] => []
  | A :: l => match joinAllB T l with
    | [] => [A]
    | B :: r => match SB.join T A B with
      | some D => D :: r
      | Option.none => A :: B :: r
def bindOB (f : SB → Option OutB) : List SB → Option OutB
  | [] => some ⟨[], [], []⟩
  | A :: l => (f A).bind fun O => (bindOB f l).map fun O' => ⟨O.norm ++ O'.norm, O.exits ++ O'.exits, O.rets ++ O'.rets⟩
def loopNB (T : Conf) : Nat → (SB → Option OutB) → SB → Option OutB
  | 0, _, _ => Option.none
  | n + 1, f, A => (f A).bind fun O => (bindOB (loopNB T n f) (joinAllB T O.norm)).map fun O' => ⟨[], O.exits ++ O'.exits, O.rets ++ O'.rets⟩
def absCB (T : Conf) (nt fu : Nat) (keep : List Nat) : Code → SB → Option OutB
  | .skip, A => some ⟨[A], [], []⟩
  | .region _ ops false, A => (absOpsB T nt ops ops.toList A).map fun L => ⟨L.map (SB.prune keep), [], []⟩
  | .region _ ops true, A => (absDrawnB T nt ops.toList A).map fun B => ⟨[B.prune keep], [], []⟩
  | .seq x y, A => (absCB T nt fu keep x A).bind fun O => (bindOB (absCB T nt fu keep y) O.norm).map fun O' => ⟨O'.norm, O.exits ++ O'.exits, O.rets ++ O'.rets⟩
  | .cond q x y, A => match kop A.st.look q with
    | .one (.c (.bool (some true))) => absCB T nt fu keep x A
    | .one (.c (.bool (some false))) => absCB T nt fu keep y A
    | .one (.c (.bool Option.none)) => (match q with
      | .tmp d => (absCB T nt fu keep x (A.learn 3 d true)).bind fun O => (absCB T nt fu keep y (A.learn 3 d false)).map fun O' => ⟨joinAllB T (O.norm ++ O'.norm), O.exits ++ O'.exits, O.rets ++ O'.rets⟩
      | _ => Option.none)
    | _ => Option.none
  | .block id b, A => (absCB T nt fu keep b A).map fun O => ⟨joinAllB T (O.norm ++ (O.exits.filter fun p => p.1 == id).map (·.2)), O.exits.filter fun p => p.1 != id, O.rets⟩
  | .loop b, A => loopNB T fu (absCB T nt fu keep b) A
  | .exit id, A => some ⟨[], [(id, A)], []⟩
  | .ret, A => some ⟨[], [], [A]⟩
  | _, _ => Option.none
abbrev SatLB (T : Conf) (c : Ctx) (w0 : World) (nt : Nat) (L : List SB) (a : Act) (w : World) : Prop := ∃ A ∈ L, SatB T c w0 nt A a w
def OutSB (T : Conf) (c : Ctx) (w0 : World) (nt : Nat) (O : OutB) : Exit → Act → World → Prop
  | .normal, a, w => SatLB T c w0 nt O.norm a w
  | .exit id, a, w => ∃ A, (id, A) ∈ O.exits ∧ SatB T c w0 nt A a w
  | .ret, a, w => SatLB T c w0 nt O.rets a w
  | _, _, _ => False
theorem joinAllB_ok (hT : Good T) : ∀ {L : List SB}, SatLB T c w0 nt L a w → SatLB T c w0 nt (joinAllB T L) a w
  | [], ⟨_, h, _⟩ => by simp at h
  | A :: l, ⟨B, hB, hS⟩ => by
    simp only [joinAllB]
    split
    · rename_i hj
      rcases List.mem_cons.1 hB with rfl | hB
      · exact ⟨B, by simp, hS⟩
      · obtain ⟨D, hD, _⟩ := joinAllB_ok hT ⟨B, hB, hS⟩
        rw [hj] at hD; simp at hD
    · rename_i D r hj
      have hl : B ∈ l → SatLB T c w0 nt (D :: r) a w := fun hB => by
        have := joinAllB_ok hT ⟨B, hB, hS⟩
        rwa [hj] at this
      split
      · rename_i E hE
        rcases List.mem_cons.1 hB with rfl | hB
        · exact ⟨E, by simp, joinB_ok hT hE (.inl hS)⟩
        · obtain ⟨F, hF, hSF⟩ := hl hB
          rcases List.mem_cons.1 hF with rfl | hF
          · exact ⟨E, by simp, joinB_ok hT hE (.inr hSF)⟩
          · exact ⟨F, by simp [hF], hSF⟩
      · rcases List.mem_cons.1 hB with rfl | hB
        · exact ⟨B, by simp, hS⟩
        · obtain ⟨F, hF, hSF⟩ := hl hB
          exact ⟨F, by simp only [List.mem_cons] at hF ⊢; exact .inr hF, hSF⟩
theorem OutSB.mono {O O' : OutB} (h1 : ∀ A ∈ O.norm, A ∈ O'.norm) (h2 : ∀ A ∈ O.exits, A ∈ O'.exits) (h3 : ∀ A ∈ O.rets, A ∈ O'.rets) : ∀ e a w, OutSB T c w0 nt O e a w → OutSB T c w0 nt O' e a w := by
  intro e a w h
  cases e with
  | normal => obtain ⟨A, hA, hS⟩ := h; exact ⟨A, h1 A hA, hS⟩
  | exit id => obtain ⟨A, hA, hS⟩ := h; exact ⟨A, h2 _ hA, hS⟩
  | ret => obtain ⟨A, hA, hS⟩ := h; exact ⟨A, h3 A hA, hS⟩
  | _ => exact h
theorem bindO_memB {f : SB → Option OutB} : ∀ {l : List SB} {O : OutB}, bindOB f l = some O → ∀ A ∈ l, ∃ O', f A = some O' ∧ (∀ B ∈ O'.norm, B ∈ O.norm) ∧ (∀ B ∈ O'.exits, B ∈ O.exits) ∧ (∀ B ∈ O'.rets, B ∈ O.rets)
  | [], _, _, A, hA => by simp at hA
  | B :: l, O, h, A, hA => by
    simp only [bindOB] at h
    obtain ⟨O1, h1, h2⟩ := Option.bind_eq_some_iff.1 h
    obtain ⟨O2, h3, rfl⟩ := Option.map_eq_some_iff.1 h2
    rcases List.mem_cons.1 hA with rfl | hA
    · exact ⟨O1, h1, fun _ h => by simp [h], fun _ h => by simp [h], fun _ h => by simp [h]⟩
    · obtain ⟨O', h4, h5, h6, h7⟩ := bindO_memB h3 A hA
      exact ⟨O', h4, fun B hB => by simp [h5 B hB], fun B hB => by simp [h6 B hB], fun B hB => by simp [h7 B hB]⟩
theorem loopNB_ok (hT : Good T) {body : Code} {f : SB → Option OutB} (hf : ∀ A O a w, f A = some O → SatB T c w0 nt A a w → body.wp T.P (OutSB T c w0 nt O) a w) : ∀ {n : Nat} {A : SB} {O : OutB} {a : Act} {w : World}, loopNB T n f A = some O → SatB T c w0 nt A a w → Code.rounds T.P body (OutSB T c w0 nt O) n a w
  | 0, A, O, a, w, h, _ => by cases h
  | n + 1, A, O, a, w, h, hS => by
    simp only [loopNB] at h
    obtain ⟨O1, h1, h2⟩ := Option.bind_eq_some_iff.1 h
    obtain ⟨O2, h3, rfl⟩ := Option.map_eq_some_iff.1 h2
    rw [rounds_succ]
    refine Code.wp_mono (fun e a' w' he => ?_) (hf A O1 a w h1 hS)
    cases e with
    | normal =>
      obtain ⟨B, hB, hSB⟩ := joinAllB_ok hT he
      obtain ⟨O', h4, h5, h6, h7⟩ := bindO_memB h3 B hB
      have := loopNB_ok hT hf h4 hSB
      -- the later rounds
      have mono : ∀ (n : Nat) (Q Q' : Exit → Act → World → Prop) a w, (∀ e a w, Q e a w → Q' e a w) → Code.rounds T.P body Q n a w → Code.rounds T.P body Q' n a w := by
        intro n
        induction n with
        | zero => intro Q Q' a w _ h; exact h
        | succ n ih =>
          intro Q Q' a w hq h
          rw [rounds_succ] at h ⊢
          refine Code.wp_mono (fun e a w he => ?_) h
          cases e with
          | normal => exact ih Q Q' a w hq he
          | _ => exact hq _ _ _ he
      have hn : ∀ e a w, OutSB T c w0 nt O' e a w → OutSB T c w0 nt ⟨[], O1.exits ++ O2.exits, O1.rets ++ O2.rets⟩ e a w := by
        intro e a w he
        cases e with
        | normal =>
          obtain ⟨D, hD, _⟩ := he
          have : O'.norm = [] := by
            cases n with
            | zero => cases h4
            | succ n =>
              simp only [loopNB] at h4
              obtain ⟨O3, _, h8⟩ := Option.bind_eq_some_iff.1 h4
              obtain ⟨O4, _, rfl⟩ := Option.map_eq_some_iff.1 h8
              rfl
          rw [this] at hD; simp at hD
        | exit id => obtain ⟨D, hD, hSD⟩ := he; exact ⟨D, by simp [h6 _ hD], hSD⟩
        | ret => obtain ⟨D, hD, hSD⟩ := he; exact ⟨D, by simp [h7 _ hD], hSD⟩
        | _ => exact he
      exact mono n _ _ a' w' hn this
    | exit id => obtain ⟨D, hD, hSD⟩ := he; exact ⟨D, by simp [hD], hSD⟩
    | ret => obtain ⟨D, hD, hSD⟩ := he; exact ⟨D, by simp [hD], hSD⟩
    | _ => exact he
theorem absCB_ok (hT : Good T) {fu : Nat} {keep : List Nat} : ∀ (code : Code) {A : SB} {O : OutB} {a : Act} {w : World}, absCB T nt fu keep code A = some O → SatB T c w0 nt A a w → code.wp T.P (OutSB T c w0 nt O) a w := by
  intro code
  induction code with
  | skip => intro A O a w h hS; cases h; exact wp_skip ⟨A, by simp, hS⟩
  | region id ops draw =>
    intro A O a w h hS
    cases draw with
    | false =>
      simp only [absCB] at h
      obtain ⟨L, h1, rfl⟩ := Option.map_eq_some_iff.1 h
      refine wp_region_list (absOpsB_ok hT h1 hS (fun a' w' ⟨B, hB, hSB⟩ => ⟨B.prune keep, List.mem_map.2 ⟨B, hB, rfl⟩, pruneB_ok hSB⟩))
    | true =>
      simp only [absCB] at h
      obtain ⟨B, h1, rfl⟩ := Option.map_eq_some_iff.1 h
      have := absDrawnB_ok hT (id := id) h1 hS (Q := OutSB T c w0 nt ⟨[B.prune keep], [], []⟩) (fun a' w' hSB => ⟨B.prune keep, by simp, pruneB_ok hSB⟩)
      simpa using this
  | seq x y ihx ihy =>
    intro A O a w h hS
    simp only [absCB] at h
    obtain ⟨O1, h1, h2⟩ := Option.bind_eq_some_iff.1 h
    obtain ⟨O2, h3, rfl⟩ := Option.map_eq_some_iff.1 h2
    refine wp_seq (Code.wp_mono (fun e a' w' he => ?_) (ihx h1 hS))
    cases e with
    | normal =>
      obtain ⟨B, hB, hSB⟩ := he
      obtain ⟨O', h4, h5, h6, h7⟩ := bindO_memB h3 B hB
      exact Code.wp_mono (OutSB.mono h5 (fun D hD => by simp [h6 D hD]) (fun D hD => by simp [h7 D hD])) (ihy h4 hSB)
    | exit id => obtain ⟨D, hD, hSD⟩ := he; exact ⟨D, by simp [hD], hSD⟩
    | ret => obtain ⟨D, hD, hSD⟩ := he; exact ⟨D, by simp [hD], hSD⟩
    | _ => exact he
  | cond q x y ihx ihy =>
    intro A O a w h hS
    simp only [absCB] at h
    have hq := kop_den (c := c) (tab := T.tab) (w := w) hS.1.2.2.1 q
    split at h <;> try (cases h; done)
    · rename_i e; rw [e] at hq; obtain ⟨b, hb, hb2⟩ := hq; obtain rfl := hb2 _ rfl
      exact wp_cond_true hb (ihx h hS)
    · rename_i e; rw [e] at hq; obtain ⟨b, hb, hb2⟩ := hq; obtain rfl := hb2 _ rfl
      exact wp_cond_false hb (ihy h hS)
    · rename_i e; rw [e] at hq; obtain ⟨b, hb, _⟩ := hq
      split at h <;> try (cases h; done)
      rename_i d
      obtain ⟨O1, h1, h2⟩ := Option.bind_eq_some_iff.1 h
      obtain ⟨O2, h3, rfl⟩ := Option.map_eq_some_iff.1 h2
      have fin : ∀ O', (∀ B ∈ O'.norm, B ∈ O1.norm ++ O2.norm) → (∀ B ∈ O'.exits, B ∈ O1.exits ++ O2.exits) → (∀ B ∈ O'.rets, B ∈ O1.rets ++ O2.rets) → ∀ e a w, OutSB T c w0 nt O' e a w → OutSB T c w0 nt ⟨joinAllB T (O1.norm ++ O2.norm), O1.exits ++ O2.exits, O1.rets ++ O2.rets⟩ e a w := by
        intro O' g1 g2 g3 e a w he
        cases e with
        | normal => obtain ⟨B, hB, hSB⟩ := he; exact joinAllB_ok hT ⟨B, g1 B hB, hSB⟩
        | exit id => obtain ⟨B, hB, hSB⟩ := he; exact ⟨B, g2 _ hB, hSB⟩
        | ret => obtain ⟨B, hB, hSB⟩ := he; exact ⟨B, g3 B hB, hSB⟩
        | _ => exact he
      refine wp_cond_split hb (fun e => ?_) (fun e => ?_)
      · subst e
        exact Code.wp_mono (fin O1 (fun B hB => by simp [hB]) (fun B hB => by simp [hB]) (fun B hB => by simp [hB])) (ihx h1 (hS.learn hb))
      · subst e
        exact Code.wp_mono (fin O2 (fun B hB => by simp [hB]) (fun B hB => by simp [hB]) (fun B hB => by simp [hB])) (ihy h3 (hS.learn hb))
  | block id b ih =>
    intro A O a w h hS
    simp only [absCB] at h
    obtain ⟨O1, h1, rfl⟩ := Option.map_eq_some_iff.1 h
    refine wp_block (Code.wp_mono (fun e a' w' he => ?_) (ih h1 hS))
    cases e with
    | normal => obtain ⟨B, hB, hSB⟩ := he; exact joinAllB_ok hT ⟨B, by simp [hB], hSB⟩
    | exit id' =>
      obtain ⟨B, hB, hSB⟩ := he
      show (if id' = id then _ else _)
      by_cases e : id' = id
      · rw [if_pos e]
        subst e
        refine joinAllB_ok hT ⟨B, ?_, hSB⟩
        simp only [List.mem_append, List.mem_map, List.mem_filter]
        exact .inr ⟨(id', B), ⟨hB, by simp⟩, rfl⟩
      · rw [if_neg e]
        exact ⟨B, List.mem_filter.2 ⟨hB, by simpa using e⟩, hSB⟩
    | ret => exact he
    | _ => exact he
  | loop b ih =>
    intro A O a w h hS
    simp only [absCB] at h
    exact wp_loop_rounds fu (loopNB_ok hT (fun A O a w h hS => ih h hS) h hS)
  | exit id => intro A O a w h hS; cases h; exact wp_exit ⟨A, by simp, hS⟩
  | ret => intro A O a w h hS; cases h; exact wp_ret ⟨A, by simp, hS⟩
  | _ => intro A O a w h; cases h
/-- The function gives the kind, from such arguments on; at most lim draws. -/
def absFnB (T : Conf) (fn : Func) (fu : Nat) (keep : List Nat) (aks : List Kd) (ph : Ph) (rk : Kd) : Bool := match fn.body with
  | some code => decide (aks.length ≤ fn.ntmps) && (match absCB T fn.ntmps fu keep code ⟨⟨argEnv 0 aks, [], ph⟩, []⟩ with
    | some O => O.exits.isEmpty && (O.norm ++ O.rets).all fun A => match resOf T fn A.st, A.st.ph with
      | some k, .run n => Kd.le T.tab T.fu k rk && decide (n ≤ T.J.lim)
      | _, _ => false
    | Option.none => false)
  | Option.none => false
theorem absFnB_ok (hT : Good T) {f : FuncId} {fn : Func} (hf : T.P.funcs[f]? = some fn) {fu : Nat} {keep : List Nat} {aks : List Kd} {ph : Ph} {rk : Kd} (h : absFnB T fn fu keep aks ph rk = true) {args : List Value} (hI : Inv c w0 T.J ph w) (hA : ArgsR c T.tab w aks args) :
    Calls T.P f args.toArray w fun e w' => ∃ v, e = .returned v ∧ rk.den c T.tab w' v ∧ ∃ n, n ≤ T.J.lim ∧ Inv c w0 T.J (.run n) w' := by
  unfold absFnB at h
  split at h <;> try (cases h; done)
  rename_i code hcode
  simp only [Bool.and_eq_true, decide_eq_true_eq] at h
  obtain ⟨hn, h⟩ := h
  split at h <;> try (cases h; done)
  rename_i O hO
  simp only [Bool.and_eq_true, List.isEmpty_iff] at h
  obtain ⟨he, hall⟩ := h
  have hal := hA.length
  refine calls_of_wp hf hcode (Code.wp_mono (fun e a' w' hq => ?_) (absCB_ok hT code (a := { tmps := args.toArray ++ Array.replicate (fn.ntmps - args.toArray.size) undef, defers := [] }) hO ⟨⟨?_, rfl, fun s => ?_, fun f hf => by simp at hf, hI⟩, fun E hE => by simp at hE⟩))
  · have fin : ∀ A ∈ O.norm ++ O.rets, SatB T c w0 fn.ntmps A a' w' → a'.defers = [] ∧ ∃ v, (results fn a'.tmps).run T.P w' = .ok v w' ∧ ∃ v', Ending.returned v = .returned v' ∧ rk.den c T.tab w' v' ∧ ∃ n, n ≤ T.J.lim ∧ Inv c w0 T.J (.run n) w' := fun A hA hS => by
      have h1 := List.all_eq_true.1 hall A hA
      split at h1 <;> try (cases h1; done)
      rename_i k n hk hph
      simp only [Bool.and_eq_true, decide_eq_true_eq] at h1
      obtain ⟨v, h2, h3⟩ := resOf_ok hT hk hS.1
      have hI := hS.1.2.2.2.2
      rw [hph] at hI
      exact ⟨hS.1.2.1, v, h2, v, rfl, Kd.le_den hT.tab h1.1 h3, n, h1.2, hI⟩
    cases e with
    | normal => obtain ⟨A, hA, hS⟩ := hq; exact fin A (by simp [hA]) hS
    | ret => obtain ⟨A, hA, hS⟩ := hq; exact fin A (by simp [hA]) hS
    | exit id => obtain ⟨A, hA, _⟩ := hq; rw [he] at hA; simp at hA
    | _ => exact hq.elim
  · simp; omega
  · show Kd.den c T.tab (((argEnv 0 aks).lookup s).getD (.ck .any)) w _
    rcases argEnv_look (i := 0) hA s with h1 | h1
    · simp only [Nat.not_lt_zero, if_false, Nat.sub_zero] at h1
      cases hs : args[s]? with
      | some v =>
        rw [hs] at h1
        have : (args.toArray ++ Array.replicate (fn.ntmps - args.toArray.size) undef).getD s undef = v := by
          have hlt := (List.getElem?_eq_some_iff.1 hs).1
          rw [Array.getD_eq_getD_getElem?, Array.getElem?_append_left (by simpa using hlt)]
          simp [hs]
        simp only [Act.eval, this]
        exact h1
      | none =>
        rw [hs] at h1
        have : (args.toArray ++ Array.replicate (fn.ntmps - args.toArray.size) undef).getD s undef = undef := by
          have hlt := List.getElem?_eq_none_iff.1 hs
          rw [Array.getD_eq_getD_getElem?, Array.getElem?_append_right (by simpa using hlt)]
          simp only [Array.getElem?_replicate]
          split <;> rfl
        simp only [Act.eval, this]
        exact h1
    · rw [h1]; exact any_den
/-- THE CONTRACT of a function that draws. -/
theorem con_ofB (hT : Good T) {f : FuncId} {fn : Func} (hf : T.P.funcs[f]? = some fn) (hname : (fn.name == "runtime.NumGoroutine") = false) {fu : Nat} {keep : List Nat} {aks : List Kd} {rk : Kd} (hb : aks.all bareArg = true) (h : absFnB T fn fu keep aks (.run 0) rk = true) : ConOk T.P T.tab ⟨f, aks, rk, T.J.lim⟩ := by
  have hbody : ∃ code, fn.body = some code := by
    unfold absFnB at h
    split at h
    · rename_i code hc; exact ⟨code, hc⟩
    · cases h
  obtain ⟨code, hcode⟩ := hbody
  refine ⟨⟨fn, code, hf, hname, hcode⟩, fun c w N args hB hcb hR hN hA => ?_⟩
  obtain ⟨c2, hc2⟩ : ∃ c2 : Ctx, c2 = { c with B := w.heap.size, N0 := N } := ⟨_, rfl⟩
  have e1 : c2.B = w.heap.size := by rw [hc2]
  have e2 : c2.br = c.br := by rw [hc2]
  have e3 : c2.cv = c.cv := by rw [hc2]
  have e4 : c2.cb = c.cb := by rw [hc2]
  have e5 : c2.N0 = N := by rw [hc2]
  clear hc2
  have hI : Inv c2 w T.J (.run 0) w := ⟨GrownP.refl _ _, by omega, by omega, by rw [e5]; exact hN, by rw [e2, e4, e5]; simpa using hR⟩
  refine (absFnB_ok hT hf h hI (args_bare (c := c) e2 e3 hb hA)).mono ?_
  rintro e w' ⟨v, rfl, hv, n, hn, hI'⟩
  obtain ⟨g1, g2, g3, g4, g5⟩ := hI'
  rw [e2, e4, e5] at g5
  refine ⟨v, rfl, kd_lower (c := c2) (c' := c) (by omega) e2.symm e3.symm rk hv, g5.mono (by show N + n ≤ N + T.J.lim; omega), g1.1, g1.2.1, g1.2.2.1, g1.2.2.2.1, fun k hk hne => g1.2.2.2.2 k hk (fun hh => ?_)⟩
  rcases hh with hh | hh
  · exact hne (by rw [hh, e2])
  · omega
/-- THE CONTRACT of a function that opens a reader on its code. -/
theorem draw_ofB (hT : Good T) {f : FuncId} {fn : Func} (hf : T.P.funcs[f]? = some fn) {fu : Nat} {keep : List Nat} {rk : Kd} (hlim : T.J.lim ≤ 1000000000) (h : absFnB T fn fu keep [.ck .code] (.pre 0) rk = true) {A : Option Addr} {l : List Int} {q : Nat} {w : World} (hC : CodeR w w.heap.size A l) (hq : l.length ≤ q) :
    Calls T.P f #[.slice A l.length q] w fun e w' => ∃ v c, e = .returned v ∧ c.B = w.heap.size ∧ rk.den c T.tab w' v ∧ Below w.heap.size w w' := by
  obtain ⟨c, hc⟩ : ∃ c : Ctx, c = { B := w.heap.size, br := w.heap.size + T.J.J, cb := w.heap.size, cv := .slice A l.length q, N0 := 0 } := ⟨_, rfl⟩
  have hI : Inv c w T.J (.pre 0) w := by
    rw [hc]
    exact ⟨GrownP.refl _ _, Nat.le_refl _, Nat.le_refl _, by simpa using hlim, rfl, Nat.zero_le _, rfl, A, l, q, rfl, hq, hC⟩
  refine (absFnB_ok (args := [.slice A l.length q]) hT hf h hI ⟨by rw [hc]; rfl, trivial⟩).mono ?_
  rintro e w' ⟨v, rfl, hv, n, hn, hI'⟩
  obtain ⟨g1, g2, g3, g4, g5⟩ := hI'
  refine ⟨v, c, rfl, by rw [hc], hv, g1.1, g1.2.1, g1.2.2.1, g1.2.2.2.1, fun k hk => g1.2.2.2.2 k hk (fun hh => ?_)⟩
  rw [hc] at hh
  simp only at hh
  omega
end
end Go.Proofs.YtodjokdaofefdaaGreat

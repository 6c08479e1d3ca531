/- Kinds of values: lengths, append, calls; all operations in one. -/
import Derived.Test.YtodjokdaofefdaaGreatQ23
namespace Go.Proofs.YtodjokdaofefdaaGreat
set_option linter.unusedSimpArgs false
set_option linter.unusedVariables false
open Go.RowKit

/-- A function of the program, by its kinds: what it is handed, what it gives, how often it draws at most. -/
structure Con where
  f : FuncId
  aks : List Kd
  rk : Kd
  cost : Nat
def ArgsR (c : Ctx) (tab : Tab) (w : World) : List Kd → List Value → Prop
  | [], [] => True
  | k :: l, v :: r => k.den c tab w v ∧ ArgsR c tab w l r
  | _, _ => False
def Enters (P : Program) (f : FuncId) : Prop := ∃ fn c, P.funcs[f]? = some fn ∧ (fn.name == "runtime.NumGoroutine") = false ∧ fn.body = some c
def ConOk (P : Program) (tab : Tab) (e : Con) : Prop := Enters P e.f ∧ ∀ (c : Ctx) (w : World) (N : Nat) (args : List Value), c.B ≤ w.heap.size → c.cb ≤ c.B → RdrT w c.br c.cb N → N + e.cost ≤ 1000000000 → ArgsR c tab w e.aks args →
  Calls P e.f args.toArray w fun ed w' => ∃ v, ed = .returned v ∧ e.rk.den c tab w' v ∧ RdrT w' c.br c.cb (N + e.cost) ∧ w.grownBy w' (some c.br)
/-- What an operation does to the state. -/
inductive Eff where
  | no | alloc | rows | opened
  | cost (c : Nat)
def Eff.app (J : Lim) : Eff → Ph → Option Ph
  | .no, ph => some ph
  | .alloc, ph => ph.alloc J
  | .rows, .run N => some (.run N)
  | .opened, .pre na => if na = J.J then some (.run 0) else Option.none
  | .cost c, .run N => if N + c ≤ J.lim then some (.run (N + c)) else Option.none
  | _, _ => Option.none
structure Conf where
  P : Program
  tab : Tab
  S : Sto
  J : Lim
  fu : Nat
  cons : List Con
  openF : FuncId
  pickF : FuncId
  oddF : FuncId
structure Good (T : Conf) : Prop where
  tab : okTab T.tab = true
  sto : okSto T.tab T.S = true
  mixed : T.P.follows .mixedOrders = true
  cons : ∀ e ∈ T.cons, ConOk T.P T.tab e
  enterO : Enters T.P T.openF
  enterP : Enters T.P T.pickF
  enterD : Enters T.P T.oddF
  openOk : ∀ (A : Option Addr) (l : List Int) (c cb : Nat) (w : World), cb ≤ w.heap.size → CodeR w cb A l → l.length ≤ c → l.length ≤ 9223372036854775807 →
    Calls T.P T.openF #[.slice A l.length c] w fun e w' => e = .returned (.pointer (some ⟨w.heap.size, 0, Option.none⟩)) ∧ Rdr w' w.heap.size cb 0 ∧ Below w.heap.size w w'
  pickOk : ∀ (br cb N : Nat) (n : Int) (w : World), RdrT w br cb N → N ≤ 1000000000 → 1 ≤ n → n ≤ 1000000 →
    Calls T.P T.pickF #[.pointer (some ⟨br, 0, Option.none⟩), .int .i64 n] w fun e w' => ∃ x : Int, e = .returned (.int .i64 x) ∧ 0 ≤ x ∧ x < n ∧ RdrT w' br cb (N + 1) ∧ w.grownBy w' (some br)
  oddOk : ∀ (br cb N : Nat) (n : Int) (w : World), RdrT w br cb N → N ≤ 1000000000 → 0 ≤ n → n ≤ 1000000 →
    Calls T.P T.oddF #[.pointer (some ⟨br, 0, Option.none⟩), .int .i64 n] w fun e w' => ∃ x : Bool, e = .returned (.bool x) ∧ RdrT w' br cb (N + 1) ∧ w.grownBy w' (some br)
/-- Where a walk stands. -/
abbrev Conf.cfg (T : Conf) (c : Ctx) (w0 : World) : Cfg := ⟨T.P, T.tab, T.S, T.J, c, w0⟩
theorem run_enter {P : Program} {f : FuncId} {fn : Func} {c : Code} (hf : P.funcs[f]? = some fn) (hname : (fn.name == "runtime.NumGoroutine") = false) (hb : fn.body = some c) (args : Array Value) (w : World) : (callFunc f args).run P w = .ok (.enter f args) w := by
  have h1 : fn.name ≠ "runtime.NumGoroutine" := by simpa using hname
  simp [callFunc, hf, h1, hb]
theorem op_calls {P : Program} {o : Oper} {a : Act} {w : World} {K : Act → World → Prop} {Q : Exit → Act → World → Prop} {f : FuncId} {args : Array Operand} {ats : Array TypeId} (hf : Enters P f) (ho : o.op = .call { callee := .value (.func f), args := args, argTypes := ats })
    {R : Ending → World → Prop} (hc : Calls P f (args.map a.eval) w R) (h : ∀ e w', R e w' → ∃ v, e = .returned v ∧ K (a.put o.dst v) w') : o.wp P a w K Q := by
  obtain ⟨fn, c, h1, h2, h3⟩ := hf
  have hr : (execOp a.eval o).run P w = .ok (.enter f (args.map a.eval)) w := by
    simp [execOp, ho, resolve, invoke, Deferred.ofValue, Act.eval, run_enter h1 h2 h3]
  unfold Oper.wp
  rw [hr, Oper.upon_enter]
  refine hc.mono fun e w' hh => ?_
  obtain ⟨v, rfl, hk⟩ := h e w' hh
  exact hk
section
variable {T : Conf} {c : Ctx} {w0 : World} {o : Oper} {look : Nat → Kd} {lt : Nat → Nat → Bool} {ph ph' : Ph} {k : Kd}
theorem args_ok {tab : Tab} {w : World} {a : Act} (h : ∀ s, (look s).den c tab w (a.eval (.tmp s))) : ∀ {l : List Operand} {aks : List Kd} {fu : Nat}, okTab tab = true → all2 (Kd.le tab fu) (l.map (kop look)) aks = true → ArgsR c tab w aks (l.map a.eval)
  | [], [], _, _, _ => trivial
  | x :: l, k :: aks, fu, ht, h2 => by
    simp only [List.map_cons, all2, Bool.and_eq_true] at h2
    exact ⟨Kd.le_den ht h2.1 (kop_den h x), args_ok h ht h2.2⟩
  | [], _ :: _, _, _, h2 => by simp [all2] at h2
  | _ :: _, [], _, _, h2 => by simp [all2] at h2
/-- len -/
def absLen (P : Program) (t : TypeId) (kx : Kd) : Option CK :=
  match kx, P.underlying t with
  | .one (.c (.sl _ lo hi)), some (.slice _) => some (.int .i64 lo hi)
  | .one (.c (.sl0 lo hi)), some (.slice _) => some (.int .i64 lo hi)
  | .one (.c .nil), some (.slice _) => some (.int .i64 0 0)
  | .one (.c (.str m)), some .string => some (.int .i64 0 m)
  | _, _ => Option.none
theorem s_len {x : Operand} {t : TypeId} {kc : CK} (ho : o.op = .call { callee := .builtin .len, args := #[x], argTypes := #[t] }) (hk : absLen T.P t (kop look x) = some kc) : OpS (T.cfg c w0) o look lt ph (.ck kc) ph (.len x) := by
  intro a w K Q hI hl _ hK
  have hx := kop_den hl x
  have slc : ∀ e A n q, T.P.underlying t = some (.slice e) → a.eval x = .slice A n q → cden c T.tab kc w (.int .i64 n) → o.wp T.P a w K Q := fun e A n q h1 h2 h3 => by
    refine op_val (hK (.int .i64 n) w h3 (RelK.refl _) hI (fun A' n' q' h => by rw [h2] at h; cases h; rfl)) ?_
    simp [execOp, ho, resolve, invoke, builtin, Builtin.len_, run_underlying h1, h2, goInt]
  unfold absLen at hk
  split at hk <;> try (cases hk; done)
  · rename_i i lo hi e ex e1
    rw [ex] at hx
    cases hk
    obtain ⟨hs, A, n, q, vx, hn⟩ := hx
    obtain ⟨A', n', q', h6, h7, _⟩ := hs.shape
    rw [vx] at h6
    cases h6
    exact slc e A n q e1 vx ⟨_, rfl, by omega, by omega⟩
  · rename_i lo hi e ex e1
    rw [ex] at hx
    cases hk
    obtain ⟨A, n, q, vx, hn, hn2⟩ := hx
    exact slc e A n q e1 vx ⟨_, rfl, by omega, by omega⟩
  · rename_i e ex e1
    rw [ex] at hx
    cases hk
    exact slc e _ _ _ e1 hx ⟨_, rfl, by omega, by omega⟩
  · rename_i m ex e1
    rw [ex] at hx
    cases hk
    obtain ⟨s, vx, hs⟩ := hx
    refine op_val (hK (.int .i64 s.size) w ⟨_, rfl, by omega, by omega⟩ (RelK.refl _) hI (fun A' n' q' h => by rw [vx] at h; cases h)) ?_
    simp [execOp, ho, resolve, invoke, builtin, Builtin.len_, run_underlying e1, vx, goInt]
/-- append -/
def slOf : Kd → Option (Option Nat × Nat × Nat)
  | .one (.c (.sl i lo hi)) => some (some i, lo, hi)
  | .one (.c .nil) => some (Option.none, 0, 0)
  | _ => Option.none
def absAppend (P : Program) (tab : Tab) (S : Sto) (fu : Nat) (t : TypeId) (ks kx : Kd) : Option Kd :=
  match P.underlying t, slOf ks, slOf kx with
  | some (.slice e), some (_, lo, hi), some (_, lo', hi') =>
    match P.info? e, S.lookup e with
    | some ie, some i => match ie.zero with
      | some z => if z.cells.size = ie.size ∧ 0 < ie.size ∧ (shp tab i).1 = e ∧ (shp tab i).2.length = ie.size ∧ flatRow (shp tab i).2 = true ∧ Kd.le tab fu ks (.ck (.sl i 0 hi)) = true ∧ Kd.le tab fu kx (.ck (.sl i 0 hi')) = true ∧ (hi + hi') * ie.bytes ≤ 140737488355328 ∧ hi + hi' ≤ 1000000
          then some (.ck (.sl i (lo + lo') (hi + hi'))) else Option.none
      | _ => Option.none
    | _, _ => Option.none
  | _, _, _ => Option.none
theorem slOf_ok {tab : Tab} {w : World} {v : Value} {x : Option Nat} {lo hi : Nat} (h : slOf k = some (x, lo, hi)) (hv : k.den c tab w v) : ∃ A n q, v = .slice A n q ∧ lo ≤ n := by
  unfold slOf at h
  split at h <;> cases h
  · exact hv.2
  · exact ⟨_, _, _, hv, Nat.le_refl _⟩
theorem s_append (hT : Good T) {s x : Operand} {t : TypeId} (ho : o.op = .call { callee := .builtin .append, args := #[s, x], argTypes := #[t, t] }) (hk : absAppend T.P T.tab T.S T.fu t (kop look s) (kop look x) = some k) {N : Nat} (hN : ph = .run N) : OpS (T.cfg c w0) o look lt ph k ph .no := by
  subst hN
  intro a w K Q hI hl _ hK
  have hs := kop_den hl s
  have hx := kop_den hl x
  unfold absAppend at hk
  split at hk <;> try (cases hk; done)
  rename_i e xs lo hi xx lo' hi' e1 e2 e3
  split at hk <;> try (cases hk; done)
  rename_i ie i e4 e5
  split at hk <;> try (cases hk; done)
  rename_i z e6
  split at hk <;> try (cases hk; done)
  rename_i hc
  cases hk
  obtain ⟨c1, c2, c3, c4, c5, c6, c7, c8, c9⟩ := hc
  obtain ⟨A1, n1, q1, v1, l1⟩ := slOf_ok e2 hs
  obtain ⟨A2, n2, q2, v2, l2⟩ := slOf_ok e3 hx
  have hs' := (Kd.le_den hT.tab c6 hs).1
  have hx' := (Kd.le_den hT.tab c7 hx).1
  have htd := (tab_den (c := c) hT.tab i).1
  have hT1 : (tabOf c T.tab i).1 = e := by rw [htd]; exact c3
  have hlen : (tabOf c T.tab i).2.length = ie.size := by rw [htd]; simpa using c4
  rw [hT1] at hs' hx'
  have hbr := RdrT.lt hI.2.2.2.2
  refine op_append_K (S := sto T.S) (sh := stoShape c T.tab T.S) s x t z ie.size ie.bytes ho e1 (by rw [e4]; simp [e6]) c1 c2 hlen (fun k hk w u hu => ?_) (by simp [sto, e5]) (by simp [stoShape, e5]) (shape_stab hT.tab hT.sto i) hs' hx' hI.2.1 hbr c8 c9 ?_
  · rw [htd] at hk
    obtain ⟨k0, hk0, rfl⟩ := List.mem_map.1 hk
    exact (flat_cell (List.all_eq_true.1 c5 k0 hk0) hu).2
  · rintro v' w' h1 h2 ⟨row, h3, h4⟩ h5
    obtain ⟨A, q, rfl⟩ := h5 _ _ _ _ _ _ v1 v2
    refine hK _ w' ⟨by rw [hT1]; exact h1, _, _, _, rfl, by omega⟩ h2 (hI.rows h3 h4) trivial
/-- max, min -/
def absMax (b : Bool) : Kd → Kd → Option CK
  | .one (.c (.int .i64 lo hi)), .one (.c (.int .i64 lo' hi')) => some (if b then .int .i64 (max lo lo') (max hi hi') else .int .i64 (min lo lo') (min hi hi'))
  | _, _ => Option.none
theorem s_max {x y : Operand} {ts : Array TypeId} {kc : CK} {b : Bool} (ho : o.op = .call { callee := .builtin (if b then .max else .min), args := #[x, y], argTypes := ts }) (hk : absMax b (kop look x) (kop look y) = some kc) : OpS (T.cfg c w0) o look lt ph (.ck kc) ph .no := by
  intro a w K Q hI hl _ hK
  have hx := kop_den hl x
  have hy := kop_den hl y
  unfold absMax at hk
  split at hk <;> try (cases hk; done)
  rename_i lo hi lo' hi' ex ey
  rw [ex] at hx; rw [ey] at hy
  cases hk
  obtain ⟨m, vx, m1, m2⟩ := hx
  obtain ⟨n, vy, n1, n2⟩ := hy
  cases b
  · refine op_val (v := .int .i64 (if n < m then n else m)) (hK _ w ⟨_, rfl, by split <;> omega, by split <;> omega⟩ (RelK.refl _) hI trivial) ?_
    simp [execOp, ho, resolve, invoke, builtin, Builtin.min_, Builtin.min2, vx, vy]
  · refine op_val (v := .int .i64 (if m < n then n else m)) (hK _ w ⟨_, rfl, by split <;> omega, by split <;> omega⟩ (RelK.refl _) hI trivial) ?_
    simp [execOp, ho, resolve, invoke, builtin, Builtin.max_, Builtin.max2, vx, vy]
/-- calls -/
def absCall (T : Conf) (look : Nat → Kd) (f : FuncId) (args : List Operand) : Option (Kd × Eff × Xp) :=
  if f = T.openF then (match args with
      | [x] => (match kop look x with | .one (.c .code) => some (.ck .rdr, .opened, .no) | _ => Option.none)
      | _ => Option.none)
  else if f = T.pickF then (match args with
      | [x, y] => (match kop look x, kop look y with
        | .one (.c .rdr), .one (.c (.int .i64 lo hi)) => if 1 ≤ lo ∧ hi ≤ 1000000 then some (.ck (.int .i64 0 (hi - 1)), .cost 1, .less y) else Option.none
        | _, _ => Option.none)
      | _ => Option.none)
  else if f = T.oddF then (match args with
      | [x, y] => (match kop look x, kop look y with
        | .one (.c .rdr), .one (.c (.int .i64 lo hi)) => if 0 ≤ lo ∧ hi ≤ 1000000 then some (.ck (.bool Option.none), .cost 1, .no) else Option.none
        | _, _ => Option.none)
      | _ => Option.none)
  else match T.cons.find? (fun e => e.f == f && all2 (Kd.le T.tab T.fu) (args.map (kop look)) e.aks) with
      | some e => some (e.rk, .cost e.cost, .no)
      | _ => Option.none
theorem cost_app {J : Lim} {n : Nat} {ph ph' : Ph} (h : (Eff.cost n).app J ph = some ph') : ∃ N, ph = .run N ∧ N + n ≤ J.lim ∧ ph' = .run (N + n) := by
  cases ph with
  | pre na => cases h
  | run N =>
    simp only [Eff.app, Option.ite_none_right_eq_some, Option.some.injEq] at h
    exact ⟨N, rfl, h.1, h.2.symm⟩
theorem s_call (hT : Proofs.YtodjokdaofefdaaGreat.Good T) {f : FuncId} {args : Array Operand} {ats : Array TypeId} {x : Xp} {eff : Eff} (ho : o.op = .call { callee := .value (.func f), args := args, argTypes := ats }) (hk : absCall T look f args.toList = some (k, eff, x)) (hp : eff.app T.J ph = some ph') : OpS (T.cfg c w0) o look lt ph k ph' x := by
  intro a w K Q hI hl _ hK
  have hat : (args.toList.map a.eval).toArray = args.map a.eval := by
    rw [← Array.toList_map]
  unfold absCall at hk
  split at hk
  · rename_i hf
    subst hf
    split at hk <;> try (cases hk; done)
    rename_i y ea
    split at hk <;> try (cases hk; done)
    rename_i ey
    cases hk
    cases ph with
    | run N => cases hp
    | pre na =>
    simp only [Eff.app, Option.ite_none_right_eq_some, Option.some.injEq] at hp
    obtain ⟨rfl, rfl⟩ := hp
    have hy := kop_den hl y
    rw [ey] at hy
    have hI0 : Inv c w0 T.J (.pre T.J.J) w := hI
    obtain ⟨h1, h2, h3, g0, g1, g2, g3, A, l, q, g4, g5, g6⟩ := hI0
    have hy' : a.eval y = .slice A l.length q := hy.trans g4
    have hargs : args.map a.eval = #[.slice A l.length q] := by rw [← hat, ea]; simp [hy']
    refine op_calls hT.enterO ho (by rw [hargs]; exact hT.openOk A l q c.cb w (by omega) g6 g5 g6.1) ?_
    rintro e w' ⟨rfl, hR, hB⟩
    have hsz : w.heap.size = c.br := by omega
    refine ⟨_, rfl, hK _ w' (by rw [hsz]; rfl) (RelK.below hB) ⟨h1.step (grown_of_below hB Option.none) (fun k e => by cases e), Nat.le_trans h2 hB.size, h3, g0, ⟨0, by omega, by omega, by rw [← hsz]; exact hR⟩⟩ trivial⟩
  · split at hk
    · rename_i hf
      subst hf
      split at hk <;> try (cases hk; done)
      rename_i y z ea
      split at hk <;> try (cases hk; done)
      rename_i lo hi ey ez
      split at hk <;> try (cases hk; done)
      rename_i hc
      cases hk
      obtain ⟨N, rfl, hN, rfl⟩ := cost_app hp
      have hy := kop_den hl y
      have hz := kop_den hl z
      rw [ey] at hy; rw [ez] at hz
      obtain ⟨n, vz, n1, n2⟩ := hz
      have hy' : a.eval y = .pointer (some ⟨c.br, 0, Option.none⟩) := hy
      have hargs : args.map a.eval = #[.pointer (some ⟨c.br, 0, Option.none⟩), .int .i64 n] := by rw [← hat, ea]; simp [hy', vz]
      refine op_calls hT.enterP ho (by rw [hargs]; exact hT.pickOk c.br c.cb (c.N0 + N) n w hI.2.2.2.2 (by have h9 : c.N0 + T.J.lim ≤ 1000000000 := hI.2.2.2.1; omega) (by omega) (by omega)) ?_
      rintro e w' ⟨p, rfl, p1, p2, hR, hG⟩
      exact ⟨_, rfl, hK _ w' ⟨_, rfl, p1, by omega⟩ (rel_call hG) (hI.call hG hR) (fun m hm => by rw [vz] at hm; cases hm; exact ⟨p, rfl, p1, p2⟩)⟩
    · split at hk
      · rename_i hf
        subst hf
        split at hk <;> try (cases hk; done)
        rename_i y z ea
        split at hk <;> try (cases hk; done)
        rename_i lo hi ey ez
        split at hk <;> try (cases hk; done)
        rename_i hc
        cases hk
        obtain ⟨N, rfl, hN, rfl⟩ := cost_app hp
        have hy := kop_den hl y
        have hz := kop_den hl z
        rw [ey] at hy; rw [ez] at hz
        obtain ⟨n, vz, n1, n2⟩ := hz
        have hy' : a.eval y = .pointer (some ⟨c.br, 0, Option.none⟩) := hy
        have hargs : args.map a.eval = #[.pointer (some ⟨c.br, 0, Option.none⟩), .int .i64 n] := by rw [← hat, ea]; simp [hy', vz]
        refine op_calls hT.enterD ho (by rw [hargs]; exact hT.oddOk c.br c.cb (c.N0 + N) n w hI.2.2.2.2 (by have h9 : c.N0 + T.J.lim ≤ 1000000000 := hI.2.2.2.1; omega) (by omega) (by omega)) ?_
        rintro e w' ⟨p, rfl, hR, hG⟩
        exact ⟨_, rfl, hK _ w' ⟨_, rfl, fun y h => by cases h⟩ (rel_call hG) (hI.call hG hR) trivial⟩
      · split at hk <;> try (cases hk; done)
        rename_i e he
        cases hk
        obtain ⟨N, rfl, hN, rfl⟩ := cost_app hp
        have hmem := List.mem_of_find?_eq_some he
        have hcond := List.find?_some he
        simp only [Bool.and_eq_true, beq_iff_eq] at hcond
        obtain ⟨rfl, hle⟩ := hcond
        obtain ⟨hent, hcall⟩ := hT.cons e hmem
        refine op_calls hent ho (by rw [← hat]; exact hcall c w (c.N0 + N) _ hI.2.1 hI.2.2.1 hI.2.2.2.2 (by have h9 : c.N0 + T.J.lim ≤ 1000000000 := hI.2.2.2.1; omega) (args_ok hl hT.tab hle)) ?_
        rintro e' w' ⟨v, rfl, hv, hR, hG⟩
        exact ⟨v, rfl, hK v w' hv (rel_call hG) (hI.call hG (by rw [← Nat.add_assoc]; exact hR)) trivial⟩
/-- int to byte; bytes to string -/
def absConv (P : Program) (tab : Tab) (src dst : TypeId) (kx : Kd) : Option CK :=
  match kx, P.underlying src, P.underlying dst with
  | .one (.c (.int _ lo hi)), some (.int _), some (.int .u8) => if 0 ≤ lo ∧ hi ≤ 255 then some (.int .u8 lo hi) else Option.none
  | .one (.c (.sl i _ hi)), some (.slice e), some .string => match P.underlying e, (shp tab i).2 with
    | some (.int .u8), [.int .u8 _ _] => if hi ≤ 1000000 then some (.str hi) else Option.none
    | _, _ => Option.none
  | _, _, _ => Option.none
def numOf : Option Value → Int
  | some (.int _ z) => z
  | _ => 0
theorem slK_bytes {P : Program} {B br m : Nat} {T src dst e : TypeId} {lo hi : Int} {c : Ctx} {tb : Nat → TypeId × List VK} {w : World} {v : Value} (h : SlK B br T [CK.den c tb (.int .u8 lo hi)] m w v)
    (e1 : P.underlying src = some (.slice e)) (e2 : P.underlying e = some (.int .u8)) (e3 : P.underlying dst = some .string) : ∃ s : ByteArray, (convert src dst v).run P w = .ok (.string s) w ∧ s.size ≤ m := by
  rcases h with rfl | ⟨g, o, n, q, rfl, h1, h2, h3, h4⟩
  · exact ⟨_, run_convert_bytes_nil w src e e1 e2 0 0 dst e3, Nat.zero_le _⟩
  · obtain ⟨xs, x1, x2, x3⟩ := h4.list (n := n) (Nat.le_refl _) (by omega)
    simp only [List.length_cons, List.length_nil, Nat.zero_add, Nat.mul_one] at x1 x3 ⊢
    have hc : ∀ i, i < n → ∃ z : Int, xs[i]? = some (.int .u8 z) := fun i hi => by
      have hx : xs[i]? = some xs[i] := List.getElem?_eq_getElem (by omega)
      obtain ⟨z, hz, _⟩ := x2 i 0 _ xs[i] hi rfl (by simp)
      exact ⟨z, by rw [hx, hz]⟩
    refine ⟨_, run_convert_bytes_arg w src e e1 e2 g o n q ((List.range n).map fun i => numOf xs[i]?) (by simp) (fun i hi => ?_) dst e3, by rw [strOfNums_size]; simpa using h1⟩
    obtain ⟨z, hz⟩ := hc i hi
    rw [x3 i _ hz]
    simp [List.getD, hi, hz, numOf]
theorem s_conv {src dst : TypeId} {x : Operand} {kc : CK} (hT : okTab T.tab = true) (ho : o.op = .convert src dst x) (hk : absConv T.P T.tab src dst (kop look x) = some kc) : OpS (T.cfg c w0) o look lt ph (.ck kc) ph .no := by
  intro a w K Q hI hl _ hK
  have hx := kop_den hl x
  unfold absConv at hk
  split at hk
  · rename_i k0 lo hi k1 ex e1 e2
    rw [ex] at hx
    split at hk <;> try (cases hk; done)
    rename_i hc
    cases hk
    obtain ⟨m, vx, m1, m2⟩ := hx
    refine op_val (hK (.int .u8 m) w ⟨_, rfl, m1, m2⟩ (RelK.refl _) hI trivial) ?_
    have hw : IntKind.u8.wrap m = m := by
      simp only [IntKind.wrap, IntKind.bits, IntKind.signed]
      have : m % 256 = m := Int.emod_eq_of_lt (by omega) (by omega)
      simp [this]
    simp [execOp, ho, vx, convert, run_underlying e1, run_underlying e2, Conv.intToInt, hw]
  · rename_i i lo hi e ex e1 e2
    rw [ex] at hx
    split at hk <;> try (cases hk; done)
    rename_i b1 b2 f1 f2
    split at hk <;> try (cases hk; done)
    cases hk
    have hs := hx.1
    have ht := (tab_den (c := c) hT i).1
    rw [ht, f2] at hs
    obtain ⟨s, hs1, hs2⟩ := slK_bytes (P := T.P) (dst := dst) hs e1 f1 e2
    refine op_val (hK (.string s) w ⟨s, rfl, hs2⟩ (RelK.refl _) hI trivial) ?_
    simp [execOp, ho, hs1]
  · cases hk
end
/-- All of them. -/
def absOp (T : Conf) (look : Nat → Kd) (lt : Nat → Nat → Bool) (op : Op) : Option (Kd × Eff × Xp) :=
  match op with
  | .move x => some (kop look x, .no, .same x)
  | .assign x => some (kop look x, .no, .same x)
  | .pick c x y => (absPick T.tab T.fu (kop look c) (kop look x) (kop look y)).map fun k => (k, .no, .sel c x y)
  | .alloc e => (absAlloc T.P T.tab T.fu e).map fun k => (k, .alloc, .no)
  | .box e x => (absBox T.tab T.fu e (kop look x)).map fun k => (k, .alloc, .no)
  | .build t ps => (absBuild T.P look t ps).map fun k => (k, .no, .no)
  | .buildSlice t n ps => (absBuildSlice T.P T.tab T.fu look t n ps).map fun k => (k, .alloc, .no)
  | .load t x => (absLoad T.P T.tab t (kop look x)).map fun k => (k, .no, .no)
  | .store t x y => if absStore T.P T.tab T.S T.fu t (kop look x) (kop look y) then some (.ck .any, .no, .no) else Option.none
  | .binOp b _ x y _ => (absBin b (kop look x) (kop look y)).map fun k => (.ck k, .no, .cmp b x y)
  | .unOp .not _ x => (absNot (kop look x)).map fun k => (.ck k, .no, .neg x)
  | .makeSlice t x y => (absMake T.P T.tab T.fu t (kop look x) (kop look y)).map fun k => (k, .alloc, .no)
  | .slice t x (some l) Option.none Option.none => (absSlice T.P T.tab t (kop look x) (kop look l)).map fun k => (k, .no, .no)
  | .fieldAddr s x f => (absFieldAddr T.P s f (kop look x)).map fun k => (k, .no, .no)
  | .indexAddr t x ix => (absIndexAddr T.P T.tab (ltOp lt ix x) t (kop look x) (kop look ix)).map fun k => (k, .no, .no)
  | .extract x n => (absExtract n (kop look x)).map fun k => (k, .no, .no)
  | .convert s d x => (absConv T.P T.tab s d (kop look x)).map fun k => (.ck k, .no, .no)
  | .call { callee := .value (.func f), args, argTypes := _ } => absCall T look f args.toList
  | .call { callee := .builtin .len, args := ⟨[x]⟩, argTypes := ⟨[t]⟩ } => (absLen T.P t (kop look x)).map fun k => (.ck k, .no, .len x)
  | .call { callee := .builtin .append, args := ⟨[s, x]⟩, argTypes := ⟨[t, t']⟩ } => if t = t' then (absAppend T.P T.tab T.S T.fu t (kop look s) (kop look x)).map fun k => (k, .rows, .no) else Option.none
  | .call { callee := .builtin .max, args := ⟨[x, y]⟩, argTypes := _ } => (absMax true (kop look x) (kop look y)).map fun k => (.ck k, .no, .no)
  | .call { callee := .builtin .min, args := ⟨[x, y]⟩, argTypes := _ } => (absMax false (kop look x) (kop look y)).map fun k => (.ck k, .no, .no)
  | _ => Option.none
theorem absOp_ok {T : Conf} (hT : Good T) {c : Ctx} {w0 : World} {o : Oper} {look : Nat → Kd} {lt : Nat → Nat → Bool} {ph ph' : Ph} {k : Kd} {eff : Eff} {x : Xp} (h : absOp T look lt o.op = some (k, eff, x)) (hp : eff.app T.J ph = some ph') : OpS (T.cfg c w0) o look lt ph k ph' x := by
  unfold absOp at h
  split at h
  case h_1 x' ho => cases h; cases hp; exact s_move (.inl ho)
  case h_2 x' ho => cases h; cases hp; exact s_move (.inr ho)
  case h_3 ho => obtain ⟨k1, h1, h2⟩ := Option.map_eq_some_iff.1 h; cases h2; cases hp; exact s_pick (G := T.cfg c w0) hT.tab ho h1
  case h_4 ho => obtain ⟨k1, h1, h2⟩ := Option.map_eq_some_iff.1 h; cases h2; exact s_alloc (G := T.cfg c w0) hT.tab hT.sto ho h1 hp
  case h_5 ho => obtain ⟨k1, h1, h2⟩ := Option.map_eq_some_iff.1 h; cases h2; exact s_box (G := T.cfg c w0) hT.tab hT.sto ho h1 hp
  case h_6 ho => obtain ⟨k1, h1, h2⟩ := Option.map_eq_some_iff.1 h; cases h2; cases hp; exact s_build (G := T.cfg c w0) ho h1
  case h_7 ho => obtain ⟨k1, h1, h2⟩ := Option.map_eq_some_iff.1 h; cases h2; exact s_buildSlice (G := T.cfg c w0) hT.tab hT.sto ho h1 hp
  case h_8 ho => obtain ⟨k1, h1, h2⟩ := Option.map_eq_some_iff.1 h; cases h2; cases hp; exact s_load (G := T.cfg c w0) hT.tab ho h1
  case h_9 ho => split at h <;> cases h; cases hp; rename_i h1; exact s_store (G := T.cfg c w0) hT.tab ho h1
  case h_10 ho => obtain ⟨k1, h1, h2⟩ := Option.map_eq_some_iff.1 h; cases h2; cases hp; exact s_bin (G := T.cfg c w0) ho h1
  case h_11 ho => obtain ⟨k1, h1, h2⟩ := Option.map_eq_some_iff.1 h; cases h2; cases hp; exact s_not (G := T.cfg c w0) ho h1
  case h_12 ho => obtain ⟨k1, h1, h2⟩ := Option.map_eq_some_iff.1 h; cases h2; exact s_make (G := T.cfg c w0) hT.tab hT.sto ho h1 hp
  case h_13 ho => obtain ⟨k1, h1, h2⟩ := Option.map_eq_some_iff.1 h; cases h2; cases hp; exact s_slice (G := T.cfg c w0) hT.tab ho h1
  case h_14 ho => obtain ⟨k1, h1, h2⟩ := Option.map_eq_some_iff.1 h; cases h2; cases hp; exact s_fieldAddr (G := T.cfg c w0) ho h1
  case h_15 ho => obtain ⟨k1, h1, h2⟩ := Option.map_eq_some_iff.1 h; cases h2; cases hp; exact s_indexAddr (G := T.cfg c w0) hT.tab ho h1
  case h_16 ho => obtain ⟨k1, h1, h2⟩ := Option.map_eq_some_iff.1 h; cases h2; cases hp; exact s_extract (G := T.cfg c w0) ho h1
  case h_17 ho => obtain ⟨k1, h1, h2⟩ := Option.map_eq_some_iff.1 h; cases h2; cases hp; exact s_conv hT.tab ho h1
  case h_18 ho => exact s_call hT ho h hp
  case h_19 ho => obtain ⟨k1, h1, h2⟩ := Option.map_eq_some_iff.1 h; cases h2; cases hp; exact s_len ho h1
  case h_20 ho => split at h <;> try (cases h; done)
                  rename_i ht; subst ht
                  obtain ⟨k1, h1, h2⟩ := Option.map_eq_some_iff.1 h; cases h2
                  cases ph with
                  | pre na => cases hp
                  | run N => cases hp; exact s_append hT ho h1 rfl
  case h_21 ho => obtain ⟨k1, h1, h2⟩ := Option.map_eq_some_iff.1 h; cases h2; cases hp; exact s_max (b := true) ho h1
  case h_22 ho => obtain ⟨k1, h1, h2⟩ := Option.map_eq_some_iff.1 h; cases h2; cases hp; exact s_max (b := false) ho h1
  case h_23 => cases h
end Go.Proofs.YtodjokdaofefdaaGreat
/- What is known at a point of a walk: kinds of slots, facts on slots; regions in their own order. -/
namespace Go.Proofs.YtodjokdaofefdaaGreat
set_option linter.unusedSimpArgs false
set_option linter.unusedVariables false
open Go.RowKit

inductive Fact where
  | same (x y : Nat)
  | cmp (d : Nat) (b : BinOp) (x : Nat) (y : Nat ⊕ Int)
  | len (x s : Nat)
  | less (x s : Nat)
  | neg (d x : Nat)
  deriving DecidableEq
def opdIs (ρ : Nat → Value) (n : Int) : Nat ⊕ Int → Prop
  | .inl s => ρ s = .int .i64 n
  | .inr q => n = q
def Fact.holds (ρ : Nat → Value) : Fact → Prop
  | .same x y => ρ x = ρ y
  | .cmp d b x y => ∀ f, cmpOf b = some f → ∀ m n, ρ x = .int .i64 m → opdIs ρ n y → ρ d = .bool (f m n)
  | .len x s => ∃ A n q, ρ s = .slice A n q ∧ ρ x = .int .i64 (n : Nat)
  | .less x s => LtLen (ρ x) (ρ s)
  | .neg d x => ∃ b, ρ x = .bool b ∧ ρ d = .bool !b
/-- The fact does not speak of the slot. -/
def Fact.free (d : Nat) : Fact → Bool
  | .same x y => x != d && y != d
  | .cmp c _ x y => c != d && x != d && (match y with | .inl s => s != d | .inr _ => true)
  | .len x s => x != d && s != d
  | .less x s => x != d && s != d
  | .neg c x => c != d && x != d
/-- A fact on the slot in terms of others. -/
def Fact.head (d : Nat) : Fact → Bool
  | .same x y => x == d && y != d
  | .cmp c _ x y => c == d && x != d && (match y with | .inl s => s != d | .inr _ => true)
  | .len x s => x == d && s != d
  | .less x s => x == d && s != d
  | .neg c x => c == d && x != d
theorem Fact.free_ok {ρ ρ' : Nat → Value} {d : Nat} (h : ∀ s, s ≠ d → ρ' s = ρ s) : ∀ {f : Fact}, f.free d = true → f.holds ρ → f.holds ρ'
  | .same x y, hf, hh => by
    simp only [Fact.free, Bool.and_eq_true, bne_iff_ne] at hf
    simp only [Fact.holds, h x hf.1, h y hf.2]; exact hh
  | .cmp c b x y, hf, hh => by
    simp only [Fact.free, Bool.and_eq_true, bne_iff_ne] at hf
    intro f hf' m n hm hn
    rw [h c hf.1.1]
    rw [h x hf.1.2] at hm
    refine hh f hf' m n hm ?_
    cases y with
    | inl s => have : s ≠ d := by simpa using hf.2
               simpa [opdIs, h s this] using hn
    | inr q => exact hn
  | .len x s, hf, hh => by
    simp only [Fact.free, Bool.and_eq_true, bne_iff_ne] at hf
    simp only [Fact.holds, h x hf.1, h s hf.2]; exact hh
  | .less x s, hf, hh => by
    simp only [Fact.free, Bool.and_eq_true, bne_iff_ne] at hf
    simp only [Fact.holds, h x hf.1, h s hf.2]; exact hh
  | .neg c x, hf, hh => by
    simp only [Fact.free, Bool.and_eq_true, bne_iff_ne] at hf
    simp only [Fact.holds, h c hf.1, h x hf.2]; exact hh
structure St where
  env : List (Nat × Kd)
  facts : List Fact
  ph : Ph
def St.look (A : St) (s : Nat) : Kd := (A.env.lookup s).getD (.ck .any)
def rootIn : List Fact → Nat → Nat
  | [], x => x
  | .same a b :: l, x => if a = x then b else rootIn l x
  | _ :: l, x => rootIn l x
def St.root (A : St) (x : Nat) : Nat := rootIn A.facts x
def hasLess : List Fact → Nat → Nat → Bool
  | [], _, _ => false
  | .less a b :: l, x, s => (a == x && b == s) || hasLess l x s
  | _ :: l, x, s => hasLess l x s
def St.lt (A : St) (x s : Nat) : Bool := hasLess A.facts (A.root x) (A.root s)
theorem root_ok {ρ : Nat → Value} : ∀ {l : List Fact}, (∀ f ∈ l, f.holds ρ) → ∀ x, ρ (rootIn l x) = ρ x
  | [], _, _ => rfl
  | f :: l, h, x => by
    have ih := root_ok (l := l) (fun g hg => h g (by simp [hg])) x
    cases f with
    | same a b =>
      simp only [rootIn]
      split
      · rename_i e; subst e; exact (h (.same a b) (by simp)).symm
      · exact ih
    | _ => exact ih
theorem less_ok {ρ : Nat → Value} : ∀ {l : List Fact}, (∀ f ∈ l, f.holds ρ) → ∀ {x s}, hasLess l x s = true → LtLen (ρ x) (ρ s)
  | [], _, _, _, h => by simp [hasLess] at h
  | f :: l, h, x, s, hl => by
    have ih := fun hl => less_ok (l := l) (fun g hg => h g (by simp [hg])) (x := x) (s := s) hl
    cases f with
    | less a b =>
      simp only [hasLess, Bool.or_eq_true, Bool.and_eq_true, beq_iff_eq] at hl
      rcases hl with ⟨rfl, rfl⟩ | hl
      · exact h (.less a b) (by simp)
      · exact ih hl
    | _ => exact ih hl
abbrev Act.sl (a : Act) (s : Nat) : Value := a.eval (.tmp s)
def Sat (T : Conf) (c : Ctx) (w0 : World) (nt : Nat) (A : St) (a : Act) (w : World) : Prop :=
  a.tmps.size = nt ∧ a.defers = [] ∧ (∀ s, (A.look s).den c T.tab w (a.eval (.tmp s))) ∧ (∀ f ∈ A.facts, f.holds fun s => a.eval (.tmp s)) ∧ Inv c w0 T.J A.ph w
def isSlice : Kd → Bool
  | .one (.c (.sl _ _ _)) => true
  | .one (.c (.sl0 _ _)) => true
  | .one (.c .nil) => true
  | _ => false
theorem isSlice_ok {c : Ctx} {tab : Tab} {w : World} {v : Value} {k : Kd} (h : isSlice k = true) (hv : k.den c tab w v) : ∃ A n q, v = .slice A n q := by
  unfold isSlice at h
  split at h <;> try (cases h; done)
  · obtain ⟨_, A, n, q, h, _⟩ := hv; exact ⟨A, n, q, h⟩
  · obtain ⟨A, n, q, h, _⟩ := hv; exact ⟨A, n, q, h⟩
  · exact ⟨_, _, _, hv⟩
def factsOf (A : St) (d : Nat) : Xp → List Fact
  | .same (.tmp x) => [.same d (A.root x)]
  | .cmp b (.tmp x) (.tmp y) => [.cmp d b (A.root x) (.inl (A.root y))]
  | .cmp b (.tmp x) (.const (.int .i64 q)) => [.cmp d b (A.root x) (.inr q)]
  | .len (.tmp s) => if isSlice (A.look s) then [.len d (A.root s)] else []
  | .less (.tmp y) => A.facts.filterMap fun | .len z s => if z = A.root y then some (.less d s) else Option.none
                                            | _ => Option.none
  | .sel c x y => match kop A.look c with
    | .one (.c (.bool (some true))) => (match x with | .tmp x => [.same d (A.root x)] | _ => [])
    | .one (.c (.bool (some false))) => (match y with | .tmp y => [.same d (A.root y)] | _ => [])
    | _ => []
  | .neg (.tmp x) => (match A.look x with | .one (.c (.bool _)) => [.neg d (A.root x)] | _ => [])
  | _ => []
def St.put (A : St) (d : Option Nat) (k : Kd) (ph : Ph) (e : Xp) : St := match d with
  | Option.none => { A with ph := ph }
  | some d => { env := (d, k) :: A.env.filter (fun p => p.1 != d), facts := (factsOf A d e).filter (Fact.head d) ++ A.facts.filter (Fact.free d), ph := ph }
theorem lookup_filter {α : Type} (d s : Nat) (h : s ≠ d) : ∀ l : List (Nat × α), (l.filter (fun p => p.1 != d)).lookup s = l.lookup s
  | [] => rfl
  | (x, k) :: l => by
    have ih := lookup_filter d s h l
    by_cases e : x = d
    · subst e
      have : (s == x) = false := by simpa using h
      simp [List.lookup_cons, this, ih]
    · have hx : (x != d) = true := by simpa using e
      simp only [List.filter_cons, hx, if_true, List.lookup_cons, ih]
theorem look_set {env : List (Nat × Kd)} {d s : Nat} {k : Kd} : ((((d, k) :: env.filter (fun p => p.1 != d)).lookup s).getD (.ck .any)) = if s = d then k else (env.lookup s).getD (.ck .any) := by
  by_cases e : s = d
  · subst e; simp
  · have : (s == d) = false := by simpa using e
    rw [if_neg e, List.lookup_cons, this, lookup_filter d s e]
section
variable {T : Conf} {c : Ctx} {w0 : World} {nt : Nat} {A : St} {a : Act} {w w' : World} {v : Value}
theorem eval_put_ne {s d : Nat} (h : s ≠ d) : (a.put (some d) v).eval (.tmp s) = a.eval (.tmp s) := by
  rw [eval_put, if_neg (fun hh => h hh.1)]
theorem factsOf_ok (hS : Sat T c w0 nt A a w) {d : Nat} (hd : d < nt) {e : Xp} (he : e.holds a.eval v) : ∀ f ∈ factsOf A d e, f.head d = true → f.holds fun s => (a.put (some d) v).eval (.tmp s) := by
  intro f hf hh
  have hv : (a.put (some d) v).eval (.tmp d) = v := by rw [eval_put, if_pos ⟨rfl, by rw [hS.1]; exact hd⟩]
  have hr : ∀ x, a.eval (.tmp (A.root x)) = a.eval (.tmp x) := fun x => root_ok (ρ := fun s => a.eval (.tmp s)) hS.2.2.2.1 x
  have hsame : ∀ x, v = a.eval (.tmp x) → (Fact.same d (A.root x)).head d = true → (Fact.same d (A.root x)).holds fun s => (a.put (some d) v).eval (.tmp s) := fun x hx h1 => by
    simp only [Fact.head, Bool.and_eq_true, beq_iff_eq, bne_iff_ne] at h1
    show (a.put (some d) v).eval (.tmp d) = (a.put (some d) v).eval (.tmp (A.root x))
    rw [hv, eval_put_ne h1.2, hr, hx]
  unfold factsOf at hf
  split at hf
  · rename_i x
    simp only [List.mem_singleton] at hf
    subst hf
    exact hsame x he hh
  · rename_i b x y
    simp only [List.mem_singleton] at hf
    subst hf
    simp only [Fact.head, Bool.and_eq_true, beq_iff_eq, bne_iff_ne] at hh
    intro f hf' m n hm hn
    simp only [hv]
    simp only [eval_put_ne hh.1.2, hr] at hm
    simp only [opdIs, eval_put_ne hh.2, hr] at hn
    exact he f hf' m n hm hn
  · rename_i b x q
    simp only [List.mem_singleton] at hf
    subst hf
    simp only [Fact.head, Bool.and_eq_true, beq_iff_eq, bne_iff_ne] at hh
    intro f hf' m n hm hn
    simp only [hv]
    simp only [eval_put_ne hh.1.2, hr] at hm
    simp only [opdIs] at hn
    subst hn
    exact he f hf' m n hm rfl
  · rename_i s
    split at hf
    · rename_i his
      simp only [List.mem_singleton] at hf
      subst hf
      simp only [Fact.head, Bool.and_eq_true, beq_iff_eq, bne_iff_ne] at hh
      obtain ⟨B, n, q, hq⟩ := isSlice_ok his (hS.2.2.1 s)
      refine ⟨B, n, q, ?_, ?_⟩
      · simp only [eval_put_ne hh.2, hr]; exact hq
      · simp only [hv]; exact he B n q hq
    · simp at hf
  · rename_i y
    obtain ⟨g, hg, h1⟩ := List.mem_filterMap.1 hf
    cases g <;> simp only [reduceCtorEq, Option.ite_none_right_eq_some, Option.some.injEq] at h1
    rename_i z s
    obtain ⟨rfl, rfl⟩ := h1
    simp only [Fact.head, Bool.and_eq_true, beq_iff_eq, bne_iff_ne] at hh
    have hlen := hS.2.2.2.1 _ hg
    show LtLen ((a.put (some d) v).eval (.tmp d)) ((a.put (some d) v).eval (.tmp s))
    rw [hv, eval_put_ne hh.2]
    obtain ⟨B, n, q, h2, h3⟩ := hlen
    obtain ⟨x, hx, h4, h5⟩ := he n ((hr y).symm.trans h3)
    exact ⟨B, n, q, x, h2, hx, h4, h5⟩
  · rename_i c0 x y
    split at hf
    · rename_i hc
      have hcd := kop_den (c := c) (tab := T.tab) (w := w) hS.2.2.1 c0
      rw [hc] at hcd
      obtain ⟨b, hb, hb2⟩ := hcd
      obtain rfl := hb2 _ rfl
      have := he true hb
      split at hf
      · simp only [List.mem_singleton] at hf
        subst hf
        exact hsame _ (by simpa using this) hh
      · simp at hf
    · rename_i hc
      have hcd := kop_den (c := c) (tab := T.tab) (w := w) hS.2.2.1 c0
      rw [hc] at hcd
      obtain ⟨b, hb, hb2⟩ := hcd
      obtain rfl := hb2 _ rfl
      have := he false hb
      split at hf
      · simp only [List.mem_singleton] at hf
        subst hf
        exact hsame _ (by simpa using this) hh
      · simp at hf
    · simp at hf
  · rename_i x
    split at hf
    · rename_i b0 hx
      simp only [List.mem_singleton] at hf
      subst hf
      simp only [Fact.head, Bool.and_eq_true, beq_iff_eq, bne_iff_ne] at hh
      have hxd := hS.2.2.1 x
      rw [hx] at hxd
      obtain ⟨b, hb, _⟩ := hxd
      refine ⟨b, ?_, ?_⟩
      · simp only [eval_put_ne hh.2, hr]; exact hb
      · simp only [hv]; exact he b hb
    · simp at hf
  · simp at hf
theorem Sat.put (hT : Good T) (hS : Sat T c w0 nt A a w) {d : Option Nat} (hd : ∀ x, d = some x → x < nt) {k : Kd} {ph : Ph} {e : Xp} (hk : k.den c T.tab w' v) (hr : Rel c T.tab T.S w w') (hI : Inv c w0 T.J ph w') (he : e.holds a.eval v) : Sat T c w0 nt (A.put d k ph e) (a.put d v) w' := by
  obtain ⟨h1, h2, h3, h4, h5⟩ := hS
  have hst : ∀ s, (A.look s).den c T.tab w' (a.eval (.tmp s)) := fun s => Kd.stab hT.tab hT.sto _ _ _ _ hr (h3 s)
  cases d with
  | none => exact ⟨h1, h2, hst, h4, hI⟩
  | some d =>
    have hdn := hd d rfl
    refine ⟨by simp [Act.put, h1], h2, fun s => ?_, fun f hf => ?_, hI⟩
    · show Kd.den c T.tab ((((d, k) :: A.env.filter (fun p => p.1 != d)).lookup s).getD (.ck .any)) w' _
      rw [look_set, eval_put]
      by_cases e : s = d
      · subst e; rw [if_pos rfl, if_pos ⟨rfl, by rw [h1]; exact hdn⟩]; exact hk
      · rw [if_neg e, if_neg (fun hh => e hh.1)]; exact hst s
    · simp only [St.put, List.mem_append, List.mem_filter] at hf
      rcases hf with ⟨h6, h7⟩ | ⟨h6, h7⟩
      · exact factsOf_ok ⟨h1, h2, h3, h4, h5⟩ hdn he f h6 h7
      · exact Fact.free_ok (fun s hs => eval_put_ne hs) h7 (h4 f h6)
/-! ### What a test tells -/
def St.setK (A : St) (s : Nat) (k : Kd) : St := { A with env := (s, k) :: A.env.filter (fun p => p.1 != s) }
theorem Sat.setK (hS : Sat T c w0 nt A a w) {s : Nat} {k : Kd} (hk : k.den c T.tab w (a.eval (.tmp s))) : Sat T c w0 nt (A.setK s k) a w := by
  obtain ⟨h1, h2, h3, h4, h5⟩ := hS
  refine ⟨h1, h2, fun x => ?_, h4, h5⟩
  show Kd.den c T.tab ((((s, k) :: A.env.filter (fun p => p.1 != s)).lookup x).getD (.ck .any)) w _
  rw [look_set]
  by_cases e : x = s
  · subst e; rw [if_pos rfl]; exact hk
  · rw [if_neg e]; exact h3 x
def sameAs : List Fact → Nat → List Nat
  | [], _ => []
  | .same a b :: l, x => if b = x then a :: sameAs l x else sameAs l x
  | _ :: l, x => sameAs l x
theorem sameAs_ok {ρ : Nat → Value} : ∀ {l : List Fact}, (∀ f ∈ l, f.holds ρ) → ∀ {x y}, y ∈ sameAs l x → ρ y = ρ x
  | [], _, _, _, h => by simp [sameAs] at h
  | f :: l, h, x, y, hy => by
    have ih := fun hy => sameAs_ok (l := l) (fun g hg => h g (by simp [hg])) (x := x) (y := y) hy
    cases f with
    | same a b =>
      simp only [sameAs] at hy
      split at hy
      · rename_i e
        subst e
        rcases List.mem_cons.1 hy with rfl | hy
        · exact h (.same y b) (by simp)
        · exact ih hy
      · exact ih hy
    | _ => exact ih hy
def St.cls (A : St) (x : Nat) : List Nat := x :: sameAs A.facts x
theorem cls_ok (hS : Sat T c w0 nt A a w) {x y : Nat} (h : y ∈ A.cls x) : a.eval (.tmp y) = a.eval (.tmp x) := by
  rcases List.mem_cons.1 h with rfl | h
  · rfl
  · exact sameAs_ok (ρ := fun s => a.eval (.tmp s)) hS.2.2.2.1 h
/-- The kinds of all these slots are narrowed. -/
def St.mapK (A : St) (f : Kd → Kd) : List Nat → St
  | [] => A
  | s :: l => (A.setK s (f (A.look s))).mapK f l
theorem Sat.mapK {f : Kd → Kd} {v0 : Value} (hf : ∀ k : Kd, k.den c T.tab w v0 → (f k).den c T.tab w v0) : ∀ {l : List Nat} {A : St}, (∀ s ∈ l, a.eval (.tmp s) = v0) → Sat T c w0 nt A a w → Sat T c w0 nt (A.mapK f l) a w
  | [], _, _, h => h
  | s :: l, A, hl, h => by
    have e := hl s (by simp)
    exact Sat.mapK hf (l := l) (fun x hx => hl x (by simp [hx])) (h.setK (by rw [e]; exact hf _ (by rw [← e]; exact h.2.2.1 s)))
def meetI (l h : Int) : Kd → Kd
  | .one (.c (.int .i64 lo hi)) => .ck (.int .i64 (max lo l) (min hi h))
  | k => k
def meetS (l : Int) : Kd → Kd
  | .one (.c (.sl i lo hi)) => .ck (.sl i (max lo l.toNat) hi)
  | .one (.c (.sl0 lo hi)) => .ck (.sl0 (max lo l.toNat) hi)
  | k => k
def lensOf : List Fact → List Nat → List Nat
  | [], _ => []
  | .len x s :: l, xs => if xs.contains x then s :: lensOf l xs else lensOf l xs
  | _ :: l, xs => lensOf l xs
theorem lensOf_ok {ρ : Nat → Value} : ∀ {l : List Fact} {xs : List Nat}, (∀ f ∈ l, f.holds ρ) → ∀ {s}, s ∈ lensOf l xs → ∃ x ∈ xs, ∃ A n q, ρ s = .slice A n q ∧ ρ x = .int .i64 (n : Nat)
  | [], _, _, _, h => by simp [lensOf] at h
  | f :: l, xs, h, s, hs => by
    have ih := fun hs => lensOf_ok (l := l) (xs := xs) (fun g hg => h g (by simp [hg])) (s := s) hs
    cases f with
    | len x s' =>
      simp only [lensOf] at hs
      split at hs
      · rename_i e
        rcases List.mem_cons.1 hs with rfl | hs
        · exact ⟨x, by simpa using e, h (.len x s) (by simp)⟩
        · exact ih hs
      · exact ih hs
    | _ => exact ih hs
def St.narrow (A : St) (x : Nat) (l h : Int) : St :=
  let A1 := A.mapK (meetI l h) (A.cls x)
  (lensOf A.facts (A.cls x)).foldl (fun B s => B.mapK (meetS l) (s :: sameAs A.facts s)) A1
theorem Sat.narrow (hS : Sat T c w0 nt A a w) {x : Nat} {l h n : Int} (hx : a.eval (.tmp x) = .int .i64 n) (h1 : l ≤ n) (h2 : n ≤ h) : Sat T c w0 nt (A.narrow x l h) a w := by
  have hA1 : Sat T c w0 nt (A.mapK (meetI l h) (A.cls x)) a w := by
    refine Sat.mapK (v0 := .int .i64 n) (fun k hk => ?_) (fun s hs => (cls_ok hS hs).trans hx) hS
    unfold meetI
    split
    · obtain ⟨m, e, m1, m2⟩ := hk
      cases e
      exact ⟨n, rfl, by omega, by omega⟩
    · exact hk
  have key : ∀ (ls : List Nat) (B : St), (∀ s ∈ ls, ∃ y ∈ A.cls x, ∃ A n q, a.eval (.tmp s) = .slice A n q ∧ a.eval (.tmp y) = .int .i64 (n : Nat)) → Sat T c w0 nt B a w → Sat T c w0 nt (ls.foldl (fun B s => B.mapK (meetS l) (s :: sameAs A.facts s)) B) a w := by
    intro ls
    induction ls with
    | nil => intro B _ hB; exact hB
    | cons s ls ih =>
      intro B hls hB
      refine ih _ (fun s hs => hls s (by simp [hs])) ?_
      obtain ⟨y, hy, B', m, q, e1, e2⟩ := hls s (by simp)
      have hm : (m : Int) = n := by
        have := (cls_ok hS hy).trans hx
        rw [e2] at this
        simpa using this
      refine Sat.mapK (v0 := .slice B' m q) (fun k hk => ?_) (fun z hz => ?_) hB
      · unfold meetS
        split
        · obtain ⟨h3, A', n', q', e, h4⟩ := hk
          cases e
          exact ⟨h3, _, _, _, rfl, by omega⟩
        · obtain ⟨A', n', q', e, h4, h5⟩ := hk
          cases e
          exact ⟨_, _, _, rfl, by omega, h5⟩
        · exact hk
      · rcases List.mem_cons.1 hz with rfl | hz
        · exact e1
        · exact (sameAs_ok (ρ := fun s => a.eval (.tmp s)) hS.2.2.2.1 hz).trans e1
  exact key _ _ (fun s hs => lensOf_ok (ρ := fun s => a.eval (.tmp s)) hS.2.2.2.1 hs) hA1
/-- The bounds that a test leaves. -/
def cutLt (lo hi lo' hi' : Int) : (Int × Int) × (Int × Int) := ((lo, min hi (hi' - 1)), (max lo' (lo + 1), hi'))
def cutLe (lo hi lo' hi' : Int) : (Int × Int) × (Int × Int) := ((lo, min hi hi'), (max lo' lo, hi'))
def cutEq (lo hi lo' hi' : Int) : (Int × Int) × (Int × Int) := ((max lo lo', min hi hi'), (max lo lo', min hi hi'))
def cutNe (lo hi lo' hi' : Int) : (Int × Int) × (Int × Int) := ((if lo' = hi' ∧ lo = lo' then lo + 1 else lo, if lo' = hi' ∧ hi = lo' then hi - 1 else hi), (lo', hi'))
def swapP (p : (Int × Int) × (Int × Int)) : (Int × Int) × (Int × Int) := (p.2, p.1)
def cutOf (b : BinOp) (t : Bool) (lo hi lo' hi' : Int) : (Int × Int) × (Int × Int) := match b, t with
  | .lss, true => cutLt lo hi lo' hi'
  | .lss, false => swapP (cutLe lo' hi' lo hi)
  | .leq, true => cutLe lo hi lo' hi'
  | .leq, false => swapP (cutLt lo' hi' lo hi)
  | .gtr, true => swapP (cutLt lo' hi' lo hi)
  | .gtr, false => cutLe lo hi lo' hi'
  | .geq, true => swapP (cutLe lo' hi' lo hi)
  | .geq, false => cutLt lo hi lo' hi'
  | .eql, true => cutEq lo hi lo' hi'
  | .eql, false => cutNe lo hi lo' hi'
  | .neq, true => cutNe lo hi lo' hi'
  | .neq, false => cutEq lo hi lo' hi'
  | _, _ => ((lo, hi), (lo', hi'))
theorem cutOf_ok {b : BinOp} {t : Bool} {f : Int → Int → Bool} (hf : cmpOf b = some f) {lo hi lo' hi' m n : Int} (h1 : lo ≤ m) (h2 : m ≤ hi) (h3 : lo' ≤ n) (h4 : n ≤ hi') (ht : f m n = t) :
    (cutOf b t lo hi lo' hi').1.1 ≤ m ∧ m ≤ (cutOf b t lo hi lo' hi').1.2 ∧ (cutOf b t lo hi lo' hi').2.1 ≤ n ∧ n ≤ (cutOf b t lo hi lo' hi').2.2 := by
  cases b <;> simp only [cmpOf, Option.some.injEq, reduceCtorEq] at hf <;> subst hf <;> cases t <;> simp only [decide_eq_true_eq, decide_eq_false_iff_not, Bool.not_eq_true', Bool.not_eq_false', Bool.not_eq_eq_eq_not, Bool.not_true, Bool.not_false] at ht <;> simp only [cutOf, cutLt, cutLe, cutEq, cutNe, swapP]
  all_goals first
    | omega
    | (refine ⟨?_, ?_, by omega, by omega⟩ <;> split <;> omega)
def intK : Kd → Option (Int × Int)
  | .one (.c (.int .i64 lo hi)) => some (lo, hi)
  | _ => Option.none
theorem intK_ok {k : Kd} {lo hi : Int} (h : intK k = some (lo, hi)) (hv : k.den c T.tab w v) : ∃ n, v = .int .i64 n ∧ lo ≤ n ∧ n ≤ hi := by
  unfold intK at h
  split at h <;> cases h
  exact hv
def findHead : List Fact → Nat → Option Fact
  | [], _ => Option.none
  | .cmp d b x y :: l, z => if d = z then some (.cmp d b x y) else findHead l z
  | .neg d x :: l, z => if d = z then some (.neg d x) else findHead l z
  | _ :: l, z => findHead l z
theorem findHead_ok : ∀ {l : List Fact} {z : Nat} {f : Fact}, findHead l z = some f → f ∈ l ∧ (match f with | .cmp d _ _ _ => d = z | .neg d _ => d = z | _ => False)
  | [], _, _, h => by simp [findHead] at h
  | g :: l, z, f, h => by
    have ih := fun h => findHead_ok (l := l) (z := z) (f := f) h
    cases g with
    | cmp d b x y =>
      simp only [findHead] at h
      split at h
      · rename_i e; cases h; exact ⟨by simp, e⟩
      · have := ih h; exact ⟨by simp [this.1], this.2⟩
    | neg d x =>
      simp only [findHead] at h
      split at h
      · rename_i e; cases h; exact ⟨by simp, e⟩
      · have := ih h; exact ⟨by simp [this.1], this.2⟩
    | _ => have := ih h; exact ⟨by simp [this.1], this.2⟩
def bK (t : Bool) : Kd := .ck (.bool (some t))
def St.learn : Nat → St → Nat → Bool → St
  | 0, A, _, _ => A
  | f + 1, A, d, t =>
    let r := A.root d
    let A1 := A.mapK (fun _ => bK t) (d :: A.cls r)
    match findHead A.facts r with
    | some (.cmp _ b x (.inr q)) => (match intK (A1.look x) with
      | some (lo, hi) => A1.narrow x (cutOf b t lo hi q q).1.1 (cutOf b t lo hi q q).1.2
      | Option.none => A1)
    | some (.cmp _ b x (.inl y)) => (match intK (A1.look x), intK (A1.look y) with
      | some (lo, hi), some (lo', hi') => (A1.narrow x (cutOf b t lo hi lo' hi').1.1 (cutOf b t lo hi lo' hi').1.2).narrow y (cutOf b t lo hi lo' hi').2.1 (cutOf b t lo hi lo' hi').2.2
      | _, _ => A1)
    | some (.neg _ x) => A1.learn f x !t
    | _ => A1
theorem Sat.learn : ∀ {f : Nat} {A : St} {d : Nat} {t : Bool}, Sat T c w0 nt A a w → a.eval (.tmp d) = .bool t → Sat T c w0 nt (A.learn f d t) a w
  | 0, A, d, t, hS, _ => hS
  | f + 1, A, d, t, hS, hd => by
    have hr : a.eval (.tmp (A.root d)) = .bool t := (root_ok (ρ := fun s => a.eval (.tmp s)) hS.2.2.2.1 d).trans hd
    have hA1 : Sat T c w0 nt (A.mapK (fun _ => bK t) (d :: A.cls (A.root d))) a w := by
      refine Sat.mapK (T := T) (c := c) (w0 := w0) (nt := nt) (w := w) (f := fun _ => bK t) (v0 := .bool t) (fun k _ => show cden c T.tab (.bool (some t)) w (.bool t) from ⟨t, rfl, fun y h => by simpa using h⟩) (fun s hs => ?_) hS
      rcases List.mem_cons.1 hs with rfl | hs
      · exact hd
      · exact (cls_ok hS hs).trans hr
    simp only [St.learn]
    split
    · rename_i dd b x q hfh
      obtain ⟨hm, rfl⟩ := findHead_ok hfh
      split
      · rename_i lo hi hik
        obtain ⟨m, hx, m1, m2⟩ := intK_ok hik (hA1.2.2.1 x)
        have hfact := hS.2.2.2.1 _ hm
        cases hc : cmpOf b with
        | none =>
          have : cutOf b t lo hi q q = ((lo, hi), (q, q)) := by cases b <;> simp [cmpOf] at hc <;> rfl
          rw [this]
          exact hA1.narrow hx m1 m2
        | some f' =>
          have h1 := hfact f' hc m q hx rfl
          have h2 : f' m q = t := by
            have := h1.symm.trans hr
            simpa using this
          have h3 := cutOf_ok hc m1 m2 (Int.le_refl q) (Int.le_refl q) h2
          exact hA1.narrow hx h3.1 h3.2.1
      · exact hA1
    · rename_i dd b x y hfh
      obtain ⟨hm, rfl⟩ := findHead_ok hfh
      split
      · rename_i lo hi lo' hi' hik hik'
        obtain ⟨m, hx, m1, m2⟩ := intK_ok hik (hA1.2.2.1 x)
        obtain ⟨n, hy, n1, n2⟩ := intK_ok hik' (hA1.2.2.1 y)
        have hfact := hS.2.2.2.1 _ hm
        cases hc : cmpOf b with
        | none =>
          have : cutOf b t lo hi lo' hi' = ((lo, hi), (lo', hi')) := by cases b <;> simp [cmpOf] at hc <;> rfl
          rw [this]
          exact (hA1.narrow hx m1 m2).narrow hy n1 n2
        | some f' =>
          have h1 := hfact f' hc m n hx hy
          have h2 : f' m n = t := by
            have := h1.symm.trans hr
            simpa using this
          have h3 := cutOf_ok hc m1 m2 n1 n2 h2
          exact (hA1.narrow hx h3.1 h3.2.1).narrow hy h3.2.2.1 h3.2.2.2
      · exact hA1
    · rename_i dd x hfh
      obtain ⟨hm, rfl⟩ := findHead_ok hfh
      obtain ⟨b, hb, hb2⟩ := hS.2.2.2.1 _ hm
      refine Sat.learn hA1 ?_
      have := hb2.symm.trans hr
      simp only [Value.bool.injEq] at this
      rw [← this]
      simpa using hb
    · exact hA1
/-! ### Regions in their own order -/
def stepOp (T : Conf) (nt : Nat) (o : Oper) (A : St) : Option St :=
  match absOp T A.look A.lt o.op with
  | some (k, eff, e) => match eff.app T.J A.ph with
    | some ph => match o.dst with
      | some d => if d < nt then some (A.put (some d) k ph e) else Option.none
      | Option.none => some (A.put Option.none k ph e)
    | Option.none => Option.none
  | Option.none => Option.none
def skipOp (nt : Nat) (o : Oper) (A : St) : Option St := match o.dst with
  | some d => if d < nt then some (A.put (some d) (.tup []) A.ph .no) else Option.none
  | Option.none => some A
def bindL {α β : Type} (f : α → Option (List β)) : List α → Option (List β)
  | [] => some []
  | x :: l => (f x).bind fun r => (bindL f l).map fun r' => r ++ r'
theorem bindL_mem {α β : Type} {f : α → Option (List β)} : ∀ {l : List α} {r : List β}, bindL f l = some r → ∀ x ∈ l, ∃ r', f x = some r' ∧ ∀ y ∈ r', y ∈ r
  | [], _, _, x, hx => by simp at hx
  | a :: l, r, h, x, hx => by
    simp only [bindL] at h
    obtain ⟨r1, h1, h2⟩ := Option.bind_eq_some_iff.1 h
    obtain ⟨r2, h3, rfl⟩ := Option.map_eq_some_iff.1 h2
    rcases List.mem_cons.1 hx with rfl | hx
    · exact ⟨r1, h1, fun y hy => by simp [hy]⟩
    · obtain ⟨r', h4, h5⟩ := bindL_mem h3 x hx
      exact ⟨r', h4, fun y hy => by simp [h5 y hy]⟩
theorem skipOp_ok (hT : Good T) {o : Oper} {B : St} (h : skipOp nt o A = some B) (hS : Sat T c w0 nt A a w) : Sat T c w0 nt B (a.put o.dst undef) w := by
  unfold skipOp at h
  split at h
  · rename_i d hd
    split at h <;> cases h
    rename_i hdn
    rw [hd]
    exact hS.put hT (fun x hx => by cases hx; exact hdn) ⟨[], rfl, rfl⟩ (RelK.refl _) hS.2.2.2.2 trivial
  · rename_i hd
    cases h
    rw [hd]
    exact hS
theorem yields_of {ops : Array Oper} {g gd : Nat} {x : Bool} (hg : (ops[g]?).bind (·.dst) = some gd) (h : a.eval (.tmp gd) = .bool x) : yielded ops a.tmps g = some x := by
  unfold yielded
  rw [hg]
  simp only [Option.bind_some]
  simp only [Act.eval, Array.getD_eq_getD_getElem?] at h
  cases ht : a.tmps[gd]? with
  | none => rw [ht] at h; simp [undef] at h
  | some v => rw [ht] at h; simp only [Option.getD_some] at h; subst h; rfl
theorem yields_not {ops : Array Oper} {g gd : Nat} (hg : (ops[g]?).bind (·.dst) = some gd) (h : a.eval (.tmp gd) = undef) : yielded ops a.tmps g = Option.none := by
  unfold yielded
  rw [hg]
  simp only [Option.bind_some]
  simp only [Act.eval, Array.getD_eq_getD_getElem?] at h
  cases ht : a.tmps[gd]? with
  | none => rfl
  | some v => rw [ht] at h; simp only [Option.getD_some] at h; subst h; rfl
end
end Go.Proofs.YtodjokdaofefdaaGreat

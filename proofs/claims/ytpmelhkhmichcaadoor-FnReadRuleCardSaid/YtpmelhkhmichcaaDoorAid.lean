/- Kinds of values: lengths, append, calls; all operations in one. -/
import Derived.Test.YtpmelhkhmichcaaDoorAic
namespace Go.Proofs.YtpmelhkhmichcaaDoor
set_option linter.unusedSimpArgs false
set_option linter.unusedVariables false
open Go.RowKit

/-- A function of the program, by its kinds: what it is handed, what it gives, how often it draws at most. -/
structure Con where
  f : FuncId
  aks : List Kd
  rk : Kd
  cost : Nat
def ArgsR (c : Ctx) (tab : Tab) (w : World) : List Kd → List Value → Prop
  | [], [] => True
  | k :: l, v :: r => k.den c tab w v ∧ ArgsR c tab w l r
  | _, _ => False
def Enters (P : Program) (f : FuncId) : Prop := ∃ fn c, P.funcs[f]? = some fn ∧ (fn.name == "runtime.NumGoroutine") = false ∧ fn.body = some c
def ConOk (P : Program) (tab : Tab) (e : Con) : Prop := Enters P e.f ∧ ∀ (c : Ctx) (w : World) (N : Nat) (args : List Value), c.B ≤ w.heap.size → c.cb ≤ c.B → RdrT w c.br c.cb N → N + e.cost ≤ 1000000000 → ArgsR c tab w e.aks args →
  Calls P e.f args.toArray w fun ed w' => ∃ v, ed = .returned v ∧ e.rk.den c tab w' v ∧ RdrT w' c.br c.cb (N + e.cost) ∧ w.grownBy w' (some c.br)
/-- What an operation does to the state. -/
inductive Eff where
  | no | alloc | rows | opened
  | cost (c : Nat)
def Eff.app (J : Lim) : Eff → Ph → Option Ph
  | .no, ph => some ph
  | .alloc, ph => ph.alloc J
  | .rows, .run N => some (.run N)
  | .opened, .pre na => if na = J.J then some (.run 0) else Option.none
  | .cost c, .run N => if N + c ≤ J.lim then some (.run (N + c)) else Option.none
  | _, _ => Option.none
structure Conf where
  P : Program
  tab : Tab
  S : Sto
  J : Lim
  fu : Nat
  cons : List Con
  openF : FuncId
  pickF : FuncId
  oddF : FuncId
structure Good (T : Conf) : Prop where
  tab : okTab T.tab = true
  sto : okSto T.tab T.S = true
  mixed : T.P.follows .mixedOrders = true
  cons : ∀ e ∈ T.cons, ConOk T.P T.tab e
  enterO : Enters T.P T.openF
  enterP : Enters T.P T.pickF
  enterD : Enters T.P T.oddF
  openOk : ∀ (A : Option Addr) (l : List Int) (c cb : Nat) (w : World), cb ≤ w.heap.size → CodeR w cb A l → l.length ≤ c → l.length ≤ 9223372036854775807 →
    Calls T.P T.openF #[.slice A l.length c] w fun e w' => e = .returned (.pointer (some ⟨w.heap.size, 0, Option.none⟩)) ∧ Rdr w' w.heap.size cb 0 ∧ Below w.heap.size w w'
  pickOk : ∀ (br cb N : Nat) (n : Int) (w : World), RdrT w br cb N → N ≤ 1000000000 → 1 ≤ n → n ≤ 1000000 →
    Calls T.P T.pickF #[.pointer (some ⟨br, 0, Option.none⟩), .int .i64 n] w fun e w' => ∃ x : Int, e = .returned (.int .i64 x) ∧ 0 ≤ x ∧ x < n ∧ RdrT w' br cb (N + 1) ∧ w.grownBy w' (some br)
  oddOk : ∀ (br cb N : Nat) (n : Int) (w : World), RdrT w br cb N → N ≤ 1000000000 → 0 ≤ n → n ≤ 1000000 →
    Calls T.P T.oddF #[.pointer (some ⟨br, 0, Option.none⟩), .int .i64 n] w fun e w' => ∃ x : Bool, e = .returned (.bool x) ∧ RdrT w' br cb (N + 1) ∧ w.grownBy w' (some br)
/-- Where a walk stands. -/
abbrev Conf.cfg (T : Conf) (c : Ctx) (w0 : World) : Cfg := ⟨T.P, T.tab, T.S, T.J, c, w0⟩
theorem run_enter {P : Program} {f : FuncId} {fn : Func} {c : Code} (hf : P.funcs[f]? = some fn) (hname : (fn.name == "runtime.NumGoroutine") = false) (hb : fn.body = some c) (args : Array Value) (w : World) : (callFunc f args).run P w = .ok (.enter f args) w := by
  have h1 : fn.name ≠ "runtime.NumGoroutine" := by simpa using hname
  simp [callFunc, hf, h1, hb]
theorem op_calls {P : Program} {o : Oper} {a : Act} {w : World} {K : Act → World → Prop} {Q : Exit → Act → World → Prop} {f : FuncId} {args : Array Operand} {ats : Array TypeId} (hf : Enters P f) (ho : o.op = .call { callee := .value (.func f), args := args, argTypes := ats })
    {R : Ending → World → Prop} (hc : Calls P f (args.map a.eval) w R) (h : ∀ e w', R e w' → ∃ v, e = .returned v ∧ K (a.put o.dst v) w') : o.wp P a w K Q := by
  obtain ⟨fn, c, h1, h2, h3⟩ := hf
  have hr : (execOp a.eval o).run P w = .ok (.enter f (args.map a.eval)) w := by
    simp [execOp, ho, resolve, invoke, Deferred.ofValue, Act.eval, run_enter h1 h2 h3]
  unfold Oper.wp
  rw [hr, Oper.upon_enter]
  refine hc.mono fun e w' hh => ?_
  obtain ⟨v, rfl, hk⟩ := h e w' hh
  exact hk
section
variable {T : Conf} {c : Ctx} {w0 : World} {o : Oper} {look : Nat → Kd} {lt : Nat → Nat → Bool} {ph ph' : Ph} {k : Kd}
theorem args_ok {tab : Tab} {w : World} {a : Act} (h : ∀ s, (look s).den c tab w (a.eval (.tmp s))) : ∀ {l : List Operand} {aks : List Kd} {fu : Nat}, okTab tab = true → all2 (Kd.le tab fu) (l.map (kop look)) aks = true → ArgsR c tab w aks (l.map a.eval)
  | [], [], _, _, _ => trivial
  | x :: l, k :: aks, fu, ht, h2 => by
    simp only [List.map_cons, all2, Bool.and_eq_true] at h2
    exact ⟨Kd.le_den ht h2.1 (kop_den h x), args_ok h ht h2.2⟩
  | [], _ :: _, _, _, h2 => by simp [all2] at h2
  | _ :: _, [], _, _, h2 => by simp [all2] at h2
/-- len -/
def absLen (P : Program) (t : TypeId) (kx : Kd) : Option CK :=
  match kx, P.underlying t with
  | .one (.c (.sl _ lo hi)), some (.slice _) => some (.int .i64 lo hi)
  | .one (.c (.sl0 lo hi)), some (.slice _) => some (.int .i64 lo hi)
  | .one (.c .nil), some (.slice _) => some (.int .i64 0 0)
  | .one (.c (.str m)), some .string => some (.int .i64 0 m)
  | _, _ => Option.none
theorem s_len {x : Operand} {t : TypeId} {kc : CK} (ho : o.op = .call { callee := .builtin .len, args := #[x], argTypes := #[t] }) (hk : absLen T.P t (kop look x) = some kc) : OpS (T.cfg c w0) o look lt ph (.ck kc) ph (.len x) := by
  intro a w K Q hI hl _ hK
  have hx := kop_den hl x
  have slc : ∀ e A n q, T.P.underlying t = some (.slice e) → a.eval x = .slice A n q → cden c T.tab kc w (.int .i64 n) → o.wp T.P a w K Q := fun e A n q h1 h2 h3 => by
    refine op_val (hK (.int .i64 n) w h3 (RelK.refl _) hI (fun A' n' q' h => by rw [h2] at h; cases h; rfl)) ?_
    simp [execOp, ho, resolve, invoke, builtin, Builtin.len_, run_underlying h1, h2, goInt]
  unfold absLen at hk
  split at hk <;> try (cases hk; done)
  · rename_i i lo hi e ex e1
    rw [ex] at hx
    cases hk
    obtain ⟨hs, A, n, q, vx, hn⟩ := hx
    obtain ⟨A', n', q', h6, h7, _⟩ := hs.shape
    rw [vx] at h6
    cases h6
    exact slc e A n q e1 vx ⟨_, rfl, by omega, by omega⟩
  · rename_i lo hi e ex e1
    rw [ex] at hx
    cases hk
    obtain ⟨A, n, q, vx, hn, hn2⟩ := hx
    exact slc e A n q e1 vx ⟨_, rfl, by omega, by omega⟩
  · rename_i e ex e1
    rw [ex] at hx
    cases hk
    exact slc e _ _ _ e1 hx ⟨_, rfl, by omega, by omega⟩
  · rename_i m ex e1
    rw [ex] at hx
    cases hk
    obtain ⟨s, vx, hs⟩ := hx
    refine op_val (hK (.int .i64 s.size) w ⟨_, rfl, by omega, by omega⟩ (RelK.refl _) hI (fun A' n' q' h => by rw [vx] at h; cases h)) ?_
    simp [execOp, ho, resolve, invoke, builtin, Builtin.len_, run_underlying e1, vx, goInt]
/-- append -/
def slOf : Kd → Option (Option Nat × Nat × Nat)
  | .one (.c (.sl i lo hi)) => some (some i, lo, hi)
  | .one (.c .nil) => some (Option.none, 0, 0)
  | _ => Option.none
def absAppend (P : Program) (tab : Tab) (S : Sto) (fu : Nat) (t : TypeId) (ks kx : Kd) : Option Kd :=
  match P.underlying t, slOf ks, slOf kx with
  | some (.slice e), some (_, lo, hi), some (_, lo', hi') =>
    match P.info? e, S.lookup e with
    | some ie, some i => match ie.zero with
      | some z => if z.cells.size = ie.size ∧ 0 < ie.size ∧ (shp tab i).1 = e ∧ (shp tab i).2.length = ie.size ∧ flatRow (shp tab i).2 = true ∧ Kd.le tab fu ks (.ck (.sl i 0 hi)) = true ∧ Kd.le tab fu kx (.ck (.sl i 0 hi')) = true ∧ (hi + hi') * ie.bytes ≤ 140737488355328 ∧ hi + hi' ≤ 1000000
          then some (.ck (.sl i (lo + lo') (hi + hi'))) else Option.none
      | _ => Option.none
    | _, _ => Option.none
  | _, _, _ => Option.none
theorem slOf_ok {tab : Tab} {w : World} {v : Value} {x : Option Nat} {lo hi : Nat} (h : slOf k = some (x, lo, hi)) (hv : k.den c tab w v) : ∃ A n q, v = .slice A n q ∧ lo ≤ n := by
  unfold slOf at h
  split at h <;> cases h
  · exact hv.2
  · exact ⟨_, _, _, hv, Nat.le_refl _⟩
theorem s_append (hT : Good T) {s x : Operand} {t : TypeId} (ho : o.op = .call { callee := .builtin .append, args := #[s, x], argTypes := #[t, t] }) (hk : absAppend T.P T.tab T.S T.fu t (kop look s) (kop look x) = some k) {N : Nat} (hN : ph = .run N) : OpS (T.cfg c w0) o look lt ph k ph .no := by
  subst hN
  intro a w K Q hI hl _ hK
  have hs := kop_den hl s
  have hx := kop_den hl x
  unfold absAppend at hk
  split at hk <;> try (cases hk; done)
  rename_i e xs lo hi xx lo' hi' e1 e2 e3
  split at hk <;> try (cases hk; done)
  rename_i ie i e4 e5
  split at hk <;> try (cases hk; done)
  rename_i z e6
  split at hk <;> try (cases hk; done)
  rename_i hc
  cases hk
  obtain ⟨c1, c2, c3, c4, c5, c6, c7, c8, c9⟩ := hc
  obtain ⟨A1, n1, q1, v1, l1⟩ := slOf_ok e2 hs
  obtain ⟨A2, n2, q2, v2, l2⟩ := slOf_ok e3 hx
  have hs' := (Kd.le_den hT.tab c6 hs).1
  have hx' := (Kd.le_den hT.tab c7 hx).1
  have htd := (tab_den (c := c) hT.tab i).1
  have hT1 : (tabOf c T.tab i).1 = e := by rw [htd]; exact c3
  have hlen : (tabOf c T.tab i).2.length = ie.size := by rw [htd]; simpa using c4
  rw [hT1] at hs' hx'
  have hbr := RdrT.lt hI.2.2.2.2
  refine op_append_K (S := sto T.S) (sh := stoShape c T.tab T.S) s x t z ie.size ie.bytes ho e1 (by rw [e4]; simp [e6]) c1 c2 hlen (fun k hk w u hu => ?_) (by simp [sto, e5]) (by simp [stoShape, e5]) (shape_stab hT.tab hT.sto i) hs' hx' hI.2.1 hbr c8 c9 ?_
  · rw [htd] at hk
    obtain ⟨k0, hk0, rfl⟩ := List.mem_map.1 hk
    exact (flat_cell (List.all_eq_true.1 c5 k0 hk0) hu).2
  · rintro v' w' h1 h2 ⟨row, h3, h4⟩ h5
    obtain ⟨A, q, rfl⟩ := h5 _ _ _ _ _ _ v1 v2
    refine hK _ w' ⟨by rw [hT1]; exact h1, _, _, _, rfl, by omega⟩ h2 (hI.rows h3 h4) trivial
/-- max, min -/
def absMax (b : Bool) : Kd → Kd → Option CK
  | .one (.c (.int .i64 lo hi)), .one (.c (.int .i64 lo' hi')) => some (if b then .int .i64 (max lo lo') (max hi hi') else .int .i64 (min lo lo') (min hi hi'))
  | _, _ => Option.none
theorem s_max {x y : Operand} {ts : Array TypeId} {kc : CK} {b : Bool} (ho : o.op = .call { callee := .builtin (if b then .max else .min), args := #[x, y], argTypes := ts }) (hk : absMax b (kop look x) (kop look y) = some kc) : OpS (T.cfg c w0) o look lt ph (.ck kc) ph .no := by
  intro a w K Q hI hl _ hK
  have hx := kop_den hl x
  have hy := kop_den hl y
  unfold absMax at hk
  split at hk <;> try (cases hk; done)
  rename_i lo hi lo' hi' ex ey
  rw [ex] at hx; rw [ey] at hy
  cases hk
  obtain ⟨m, vx, m1, m2⟩ := hx
  obtain ⟨n, vy, n1, n2⟩ := hy
  cases b
  · refine op_val (v := .int .i64 (if n < m then n else m)) (hK _ w ⟨_, rfl, by split <;> omega, by split <;> omega⟩ (RelK.refl _) hI trivial) ?_
    simp [execOp, ho, resolve, invoke, builtin, Builtin.min_, Builtin.min2, vx, vy]
  · refine op_val (v := .int .i64 (if m < n then n else m)) (hK _ w ⟨_, rfl, by split <;> omega, by split <;> omega⟩ (RelK.refl _) hI trivial) ?_
    simp [execOp, ho, resolve, invoke, builtin, Builtin.max_, Builtin.max2, vx, vy]
/-- calls -/
def absCall (T : Conf) (look : Nat → Kd) (f : FuncId) (args : List Operand) : Option (Kd × Eff × Ex) :=
  if f = T.openF then (match args with
      | [x] => (match kop look x with | .one (.c .code) => some (.ck .rdr, .opened, .no) | _ => Option.none)
      | _ => Option.none)
  else if f = T.pickF then (match args with
      | [x, y] => (match kop look x, kop look y with
        | .one (.c .rdr), .one (.c (.int .i64 lo hi)) => if 1 ≤ lo ∧ hi ≤ 1000000 then some (.ck (.int .i64 0 (hi - 1)), .cost 1, .less y) else Option.none
        | _, _ => Option.none)
      | _ => Option.none)
  else if f = T.oddF then (match args with
      | [x, y] => (match kop look x, kop look y with
        | .one (.c .rdr), .one (.c (.int .i64 lo hi)) => if 0 ≤ lo ∧ hi ≤ 1000000 then some (.ck (.bool Option.none), .cost 1, .no) else Option.none
        | _, _ => Option.none)
      | _ => Option.none)
  else match T.cons.find? (fun e => e.f == f && all2 (Kd.le T.tab T.fu) (args.map (kop look)) e.aks) with
      | some e => some (e.rk, .cost e.cost, .no)
      | _ => Option.none
theorem cost_app {J : Lim} {n : Nat} {ph ph' : Ph} (h : (Eff.cost n).app J ph = some ph') : ∃ N, ph = .run N ∧ N + n ≤ J.lim ∧ ph' = .run (N + n) := by
  cases ph with
  | pre na => cases h
  | run N =>
    simp only [Eff.app, Option.ite_none_right_eq_some, Option.some.injEq] at h
    exact ⟨N, rfl, h.1, h.2.symm⟩
theorem s_call (hT : Proofs.YtpmelhkhmichcaaDoor.Good T) {f : FuncId} {args : Array Operand} {ats : Array TypeId} {x : Ex} {eff : Eff} (ho : o.op = .call { callee := .value (.func f), args := args, argTypes := ats }) (hk : absCall T look f args.toList = some (k, eff, x)) (hp : eff.app T.J ph = some ph') : OpS (T.cfg c w0) o look lt ph k ph' x := by
  intro a w K Q hI hl _ hK
  have hat : (args.toList.map a.eval).toArray = args.map a.eval := by
    rw [← Array.toList_map]
  unfold absCall at hk
  split at hk
  · rename_i hf
    subst hf
    split at hk <;> try (cases hk; done)
    rename_i y ea
    split at hk <;> try (cases hk; done)
    rename_i ey
    cases hk
    cases ph with
    | run N => cases hp
    | pre na =>
    simp only [Eff.app, Option.ite_none_right_eq_some, Option.some.injEq] at hp
    obtain ⟨rfl, rfl⟩ := hp
    have hy := kop_den hl y
    rw [ey] at hy
    have hI0 : Inv c w0 T.J (.pre T.J.J) w := hI
    obtain ⟨h1, h2, h3, g0, g1, g2, g3, A, l, q, g4, g5, g6⟩ := hI0
    have hy' : a.eval y = .slice A l.length q := hy.trans g4
    have hargs : args.map a.eval = #[.slice A l.length q] := by rw [← hat, ea]; simp [hy']
    refine op_calls hT.enterO ho (by rw [hargs]; exact hT.openOk A l q c.cb w (by omega) g6 g5 g6.1) ?_
    rintro e w' ⟨rfl, hR, hB⟩
    have hsz : w.heap.size = c.br := by omega
    refine ⟨_, rfl, hK _ w' (by rw [hsz]; rfl) (RelK.below hB) ⟨h1.step (grown_of_below hB Option.none) (fun k e => by cases e), Nat.le_trans h2 hB.size, h3, g0, ⟨0, by omega, by omega, by rw [← hsz]; exact hR⟩⟩ trivial⟩
  · split at hk
    · rename_i hf
      subst hf
      split at hk <;> try (cases hk; done)
      rename_i y z ea
      split at hk <;> try (cases hk; done)
      rename_i lo hi ey ez
      split at hk <;> try (cases hk; done)
      rename_i hc
      cases hk
      obtain ⟨N, rfl, hN, rfl⟩ := cost_app hp
      have hy := kop_den hl y
      have hz := kop_den hl z
      rw [ey] at hy; rw [ez] at hz
      obtain ⟨n, vz, n1, n2⟩ := hz
      have hy' : a.eval y = .pointer (some ⟨c.br, 0, Option.none⟩) := hy
      have hargs : args.map a.eval = #[.pointer (some ⟨c.br, 0, Option.none⟩), .int .i64 n] := by rw [← hat, ea]; simp [hy', vz]
      refine op_calls hT.enterP ho (by rw [hargs]; exact hT.pickOk c.br c.cb (c.N0 + N) n w hI.2.2.2.2 (by have h9 : c.N0 + T.J.lim ≤ 1000000000 := hI.2.2.2.1; omega) (by omega) (by omega)) ?_
      rintro e w' ⟨p, rfl, p1, p2, hR, hG⟩
      exact ⟨_, rfl, hK _ w' ⟨_, rfl, p1, by omega⟩ (rel_call hG) (hI.call hG hR) (fun m hm => by rw [vz] at hm; cases hm; exact ⟨p, rfl, p1, p2⟩)⟩
    · split at hk
      · rename_i hf
        subst hf
        split at hk <;> try (cases hk; done)
        rename_i y z ea
        split at hk <;> try (cases hk; done)
        rename_i lo hi ey ez
        split at hk <;> try (cases hk; done)
        rename_i hc
        cases hk
        obtain ⟨N, rfl, hN, rfl⟩ := cost_app hp
        have hy := kop_den hl y
        have hz := kop_den hl z
        rw [ey] at hy; rw [ez] at hz
        obtain ⟨n, vz, n1, n2⟩ := hz
        have hy' : a.eval y = .pointer (some ⟨c.br, 0, Option.none⟩) := hy
        have hargs : args.map a.eval = #[.pointer (some ⟨c.br, 0, Option.none⟩), .int .i64 n] := by rw [← hat, ea]; simp [hy', vz]
        refine op_calls hT.enterD ho (by rw [hargs]; exact hT.oddOk c.br c.cb (c.N0 + N) n w hI.2.2.2.2 (by have h9 : c.N0 + T.J.lim ≤ 1000000000 := hI.2.2.2.1; omega) (by omega) (by omega)) ?_
        rintro e w' ⟨p, rfl, hR, hG⟩
        exact ⟨_, rfl, hK _ w' ⟨_, rfl, fun y h => by cases h⟩ (rel_call hG) (hI.call hG hR) trivial⟩
      · split at hk <;> try (cases hk; done)
        rename_i e he
        cases hk
        obtain ⟨N, rfl, hN, rfl⟩ := cost_app hp
        have hmem := List.mem_of_find?_eq_some he
        have hcond := List.find?_some he
        simp only [Bool.and_eq_true, beq_iff_eq] at hcond
        obtain ⟨rfl, hle⟩ := hcond
        obtain ⟨hent, hcall⟩ := hT.cons e hmem
        refine op_calls hent ho (by rw [← hat]; exact hcall c w (c.N0 + N) _ hI.2.1 hI.2.2.1 hI.2.2.2.2 (by have h9 : c.N0 + T.J.lim ≤ 1000000000 := hI.2.2.2.1; omega) (args_ok hl hT.tab hle)) ?_
        rintro e' w' ⟨v, rfl, hv, hR, hG⟩
        exact ⟨v, rfl, hK v w' hv (rel_call hG) (hI.call hG (by rw [← Nat.add_assoc]; exact hR)) trivial⟩
/-- int to byte; bytes to string -/
def absConv (P : Program) (tab : Tab) (src dst : TypeId) (kx : Kd) : Option CK :=
  match kx, P.underlying src, P.underlying dst with
  | .one (.c (.int _ lo hi)), some (.int _), some (.int .u8) => if 0 ≤ lo ∧ hi ≤ 255 then some (.int .u8 lo hi) else Option.none
  | .one (.c (.sl i _ hi)), some (.slice e), some .string => match P.underlying e, (shp tab i).2 with
    | some (.int .u8), [.int .u8 _ _] => if hi ≤ 1000000 then some (.str hi) else Option.none
    | _, _ => Option.none
  | _, _, _ => Option.none
def numOf : Option Value → Int
  | some (.int _ z) => z
  | _ => 0
theorem slK_bytes {P : Program} {B br m : Nat} {T src dst e : TypeId} {lo hi : Int} {c : Ctx} {tb : Nat → TypeId × List VK} {w : World} {v : Value} (h : SlK B br T [CK.den c tb (.int .u8 lo hi)] m w v)
    (e1 : P.underlying src = some (.slice e)) (e2 : P.underlying e = some (.int .u8)) (e3 : P.underlying dst = some .string) : ∃ s : ByteArray, (convert src dst v).run P w = .ok (.string s) w ∧ s.size ≤ m := by
  rcases h with rfl | ⟨g, o, n, q, rfl, h1, h2, h3, h4⟩
  · exact ⟨_, run_convert_bytes_nil w src e e1 e2 0 0 dst e3, Nat.zero_le _⟩
  · obtain ⟨xs, x1, x2, x3⟩ := h4.list (n := n) (Nat.le_refl _) (by omega)
    simp only [List.length_cons, List.length_nil, Nat.zero_add, Nat.mul_one] at x1 x3 ⊢
    have hc : ∀ i, i < n → ∃ z : Int, xs[i]? = some (.int .u8 z) := fun i hi => by
      have hx : xs[i]? = some xs[i] := List.getElem?_eq_getElem (by omega)
      obtain ⟨z, hz, _⟩ := x2 i 0 _ xs[i] hi rfl (by simp)
      exact ⟨z, by rw [hx, hz]⟩
    refine ⟨_, run_convert_bytes_arg w src e e1 e2 g o n q ((List.range n).map fun i => numOf xs[i]?) (by simp) (fun i hi => ?_) dst e3, by rw [strOfNums_size]; simpa using h1⟩
    obtain ⟨z, hz⟩ := hc i hi
    rw [x3 i _ hz]
    simp [List.getD, hi, hz, numOf]
theorem s_conv {src dst : TypeId} {x : Operand} {kc : CK} (hT : okTab T.tab = true) (ho : o.op = .convert src dst x) (hk : absConv T.P T.tab src dst (kop look x) = some kc) : OpS (T.cfg c w0) o look lt ph (.ck kc) ph .no := by
  intro a w K Q hI hl _ hK
  have hx := kop_den hl x
  unfold absConv at hk
  split at hk
  · rename_i k0 lo hi k1 ex e1 e2
    rw [ex] at hx
    split at hk <;> try (cases hk; done)
    rename_i hc
    cases hk
    obtain ⟨m, vx, m1, m2⟩ := hx
    refine op_val (hK (.int .u8 m) w ⟨_, rfl, m1, m2⟩ (RelK.refl _) hI trivial) ?_
    have hw : IntKind.u8.wrap m = m := by
      simp only [IntKind.wrap, IntKind.bits, IntKind.signed]
      have : m % 256 = m := Int.emod_eq_of_lt (by omega) (by omega)
      simp [this]
    simp [execOp, ho, vx, convert, run_underlying e1, run_underlying e2, Conv.intToInt, hw]
  · rename_i i lo hi e ex e1 e2
    rw [ex] at hx
    split at hk <;> try (cases hk; done)
    rename_i b1 b2 f1 f2
    split at hk <;> try (cases hk; done)
    cases hk
    have hs := hx.1
    have ht := (tab_den (c := c) hT i).1
    rw [ht, f2] at hs
    obtain ⟨s, hs1, hs2⟩ := slK_bytes (P := T.P) (dst := dst) hs e1 f1 e2
    refine op_val (hK (.string s) w ⟨s, rfl, hs2⟩ (RelK.refl _) hI trivial) ?_
    simp [execOp, ho, hs1]
  · cases hk
end
/-- All of them. -/
def absOp (T : Conf) (look : Nat → Kd) (lt : Nat → Nat → Bool) (op : Op) : Option (Kd × Eff × Ex) :=
  match op with
  | .move x => some (kop look x, .no, .same x)
  | .assign x => some (kop look x, .no, .same x)
  | .pick c x y => (absPick T.tab T.fu (kop look c) (kop look x) (kop look y)).map fun k => (k, .no, .sel c x y)
  | .alloc e => (absAlloc T.P T.tab T.fu e).map fun k => (k, .alloc, .no)
  | .box e x => (absBox T.tab T.fu e (kop look x)).map fun k => (k, .alloc, .no)
  | .build t ps => (absBuild T.P look t ps).map fun k => (k, .no, .no)
  | .buildSlice t n ps => (absBuildSlice T.P T.tab T.fu look t n ps).map fun k => (k, .alloc, .no)
  | .load t x => (absLoad T.P T.tab t (kop look x)).map fun k => (k, .no, .no)
  | .store t x y => if absStore T.P T.tab T.S T.fu t (kop look x) (kop look y) then some (.ck .any, .no, .no) else Option.none
  | .binOp b _ x y _ => (absBin b (kop look x) (kop look y)).map fun k => (.ck k, .no, .cmp b x y)
  | .unOp .not _ x => (absNot (kop look x)).map fun k => (.ck k, .no, .neg x)
  | .makeSlice t x y => (absMake T.P T.tab T.fu t (kop look x) (kop look y)).map fun k => (k, .alloc, .no)
  | .slice t x (some l) Option.none Option.none => (absSlice T.P T.tab t (kop look x) (kop look l)).map fun k => (k, .no, .no)
  | .fieldAddr s x f => (absFieldAddr T.P s f (kop look x)).map fun k => (k, .no, .no)
  | .indexAddr t x ix => (absIndexAddr T.P T.tab (ltOp lt ix x) t (kop look x) (kop look ix)).map fun k => (k, .no, .no)
  | .extract x n => (absExtract n (kop look x)).map fun k => (k, .no, .no)
  | .convert s d x => (absConv T.P T.tab s d (kop look x)).map fun k => (.ck k, .no, .no)
  | .call { callee := .value (.func f), args, argTypes := _ } => absCall T look f args.toList
  | .call { callee := .builtin .len, args := ⟨[x]⟩, argTypes := ⟨[t]⟩ } => (absLen T.P t (kop look x)).map fun k => (.ck k, .no, .len x)
  | .call { callee := .builtin .append, args := ⟨[s, x]⟩, argTypes := ⟨[t, t']⟩ } => if t = t' then (absAppend T.P T.tab T.S T.fu t (kop look s) (kop look x)).map fun k => (k, .rows, .no) else Option.none
  | .call { callee := .builtin .max, args := ⟨[x, y]⟩, argTypes := _ } => (absMax true (kop look x) (kop look y)).map fun k => (.ck k, .no, .no)
  | .call { callee := .builtin .min, args := ⟨[x, y]⟩, argTypes := _ } => (absMax false (kop look x) (kop look y)).map fun k => (.ck k, .no, .no)
  | _ => Option.none
theorem absOp_ok {T : Conf} (hT : Good T) {c : Ctx} {w0 : World} {o : Oper} {look : Nat → Kd} {lt : Nat → Nat → Bool} {ph ph' : Ph} {k : Kd} {eff : Eff} {x : Ex} (h : absOp T look lt o.op = some (k, eff, x)) (hp : eff.app T.J ph = some ph') : OpS (T.cfg c w0) o look lt ph k ph' x := by
  unfold absOp at h
  split at h
  case h_1 x' ho => cases h; cases hp; exact s_move (.inl ho)
  case h_2 x' ho => cases h; cases hp; exact s_move (.inr ho)
  case h_3 ho => obtain ⟨k1, h1, h2⟩ := Option.map_eq_some_iff.1 h; cases h2; cases hp; exact s_pick (G := T.cfg c w0) hT.tab ho h1
  case h_4 ho => obtain ⟨k1, h1, h2⟩ := Option.map_eq_some_iff.1 h; cases h2; exact s_alloc (G := T.cfg c w0) hT.tab hT.sto ho h1 hp
  case h_5 ho => obtain ⟨k1, h1, h2⟩ := Option.map_eq_some_iff.1 h; cases h2; exact s_box (G := T.cfg c w0) hT.tab hT.sto ho h1 hp
  case h_6 ho => obtain ⟨k1, h1, h2⟩ := Option.map_eq_some_iff.1 h; cases h2; cases hp; exact s_build (G := T.cfg c w0) ho h1
  case h_7 ho => obtain ⟨k1, h1, h2⟩ := Option.map_eq_some_iff.1 h; cases h2; exact s_buildSlice (G := T.cfg c w0) hT.tab hT.sto ho h1 hp
  case h_8 ho => obtain ⟨k1, h1, h2⟩ := Option.map_eq_some_iff.1 h; cases h2; cases hp; exact s_load (G := T.cfg c w0) hT.tab ho h1
  case h_9 ho => split at h <;> cases h; cases hp; rename_i h1; exact s_store (G := T.cfg c w0) hT.tab ho h1
  case h_10 ho => obtain ⟨k1, h1, h2⟩ := Option.map_eq_some_iff.1 h; cases h2; cases hp; exact s_bin (G := T.cfg c w0) ho h1
  case h_11 ho => obtain ⟨k1, h1, h2⟩ := Option.map_eq_some_iff.1 h; cases h2; cases hp; exact s_not (G := T.cfg c w0) ho h1
  case h_12 ho => obtain ⟨k1, h1, h2⟩ := Option.map_eq_some_iff.1 h; cases h2; exact s_make (G := T.cfg c w0) hT.tab hT.sto ho h1 hp
  case h_13 ho => obtain ⟨k1, h1, h2⟩ := Option.map_eq_some_iff.1 h; cases h2; cases hp; exact s_slice (G := T.cfg c w0) hT.tab ho h1
  case h_14 ho => obtain ⟨k1, h1, h2⟩ := Option.map_eq_some_iff.1 h; cases h2; cases hp; exact s_fieldAddr (G := T.cfg c w0) ho h1
  case h_15 ho => obtain ⟨k1, h1, h2⟩ := Option.map_eq_some_iff.1 h; cases h2; cases hp; exact s_indexAddr (G := T.cfg c w0) hT.tab ho h1
  case h_16 ho => obtain ⟨k1, h1, h2⟩ := Option.map_eq_some_iff.1 h; cases h2; cases hp; exact s_extract (G := T.cfg c w0) ho h1
  case h_17 ho => obtain ⟨k1, h1, h2⟩ := Option.map_eq_some_iff.1 h; cases h2; cases hp; exact s_conv hT.tab ho h1
  case h_18 ho => exact s_call hT ho h hp
  case h_19 ho => obtain ⟨k1, h1, h2⟩ := Option.map_eq_some_iff.1 h; cases h2; cases hp; exact s_len ho h1
  case h_20 ho => split at h <;> try (cases h; done)
                  rename_i ht; subst ht
                  obtain ⟨k1, h1, h2⟩ := Option.map_eq_some_iff.1 h; cases h2
                  cases ph with
                  | pre na => cases hp
                  | run N => cases hp; exact s_append hT ho h1 rfl
  case h_21 ho => obtain ⟨k1, h1, h2⟩ := Option.map_eq_some_iff.1 h; cases h2; cases hp; exact s_max (b := true) ho h1
  case h_22 ho => obtain ⟨k1, h1, h2⟩ := Option.map_eq_some_iff.1 h; cases h2; cases hp; exact s_max (b := false) ho h1
  case h_23 => cases h
end Go.Proofs.YtpmelhkhmichcaaDoor

/- Functions by the kinds of their arguments and results. -/
import Derived.Test.YtpmelhkhmichcaaDoorAif
namespace Go.Proofs.YtpmelhkhmichcaaDoor
set_option linter.unusedSimpArgs false
set_option linter.unusedVariables false
open Go.RowKit

section
variable {T : Conf} {c : Ctx} {w0 : World} {nt : Nat} {A : St} {a : Act} {w w' : World} {v : Value}
def resK (T : Conf) (A : St) : ResultVar → Option K1
  | .tmp t => match A.look t with | .one k => some k | _ => Option.none
  | .cell s t => match absLoad T.P T.tab t (A.look s) with | some (.one k) => some k | _ => Option.none
def resRun (tmps : Array Value) : ResultVar → Sem Value
  | .tmp t => pure (tmps.getD t undef)
  | .cell a t => do loadVar t (← asAddr (tmps.getD a undef))
theorem resK_ok (hT : Good T) {r : ResultVar} {k : K1} (h : resK T A r = some k) (hS : Sat T c w0 nt A a w) : ∃ v, (resRun a.tmps r).run T.P w = .ok v w ∧ k.den c T.tab w v := by
  cases r with
  | tmp t =>
    simp only [resK] at h
    split at h <;> cases h
    rename_i e
    have := hS.2.2.1 t
    rw [e] at this
    exact ⟨a.eval (.tmp t), by simp [resRun, Act.eval], this⟩
  | cell s t =>
    simp only [resK] at h
    split at h <;> cases h
    rename_i e
    obtain ⟨A', v, h1, h2, h3⟩ := load_run (G := T.cfg c w0) hT.tab e (hS.2.2.1 s)
    refine ⟨v, ?_, h3⟩
    have h1' : a.tmps.getD s undef = .pointer (some A') := h1
    simp only [resRun, h1', asAddr, Sem.run_bind, Sem.run_pure, Result.andThen_ok]
    exact h2
def resKs (T : Conf) (A : St) : List ResultVar → Option (List K1)
  | [] => some []
  | r :: l => (resK T A r).bind fun k => (resKs T A l).map fun ks => k :: ks
theorem resKs_ok (hT : Good T) (hS : Sat T c w0 nt A a w) : ∀ {l : List ResultVar} {ks : List K1}, resKs T A l = some ks → ∃ vs : List Value, (l.mapM (resRun a.tmps)).run T.P w = .ok vs w ∧ RowK (ks.map (K1.den c T.tab)) w vs
  | [], ks, h => by cases h; exact ⟨[], by simp, rfl⟩
  | r :: l, ks, h => by
    simp only [resKs] at h
    obtain ⟨k, h1, h2⟩ := Option.bind_eq_some_iff.1 h
    obtain ⟨ks', h3, rfl⟩ := Option.map_eq_some_iff.1 h2
    obtain ⟨v, h4, h5⟩ := resK_ok hT h1 hS
    obtain ⟨vs, h6, h7⟩ := resKs_ok hT hS h3
    exact ⟨v :: vs, by simp [List.mapM_cons, h4, h6], v, vs, rfl, h5, h7⟩
def resOf (T : Conf) (fn : Func) (A : St) : Option Kd := match resKs T A fn.results.toList with
  | some [k] => some (.one k)
  | some ks => some (.tup ks)
  | Option.none => Option.none
theorem results_eq (fn : Func) (tmps : Array Value) : results fn tmps = (do let vs ← fn.results.mapM (resRun tmps); pure (if h : vs.size = 1 then vs[0] else .tuple vs)) := by
  unfold results
  rfl
theorem resOf_ok (hT : Good T) {fn : Func} {k : Kd} (h : resOf T fn A = some k) (hS : Sat T c w0 nt A a w) : ∃ v, (results fn a.tmps).run T.P w = .ok v w ∧ k.den c T.tab w v := by
  unfold resOf at h
  split at h <;> try (cases h; done)
  · rename_i k1 e
    cases h
    obtain ⟨vs, h1, h2⟩ := resKs_ok hT hS e
    obtain ⟨v, r, rfl, h3, h4⟩ := h2
    obtain rfl : r = [] := h4
    refine ⟨v, ?_, h3⟩
    rw [results_eq, Array.mapM_eq_mapM_toList]
    simp [h1]
  · rename_i ks hne e
    cases h
    obtain ⟨vs, h1, h2⟩ := resKs_ok hT hS e
    have hl := h2.length
    rw [List.length_map] at hl
    have hne1 : ¬ vs.length = 1 := fun h1 => by
      rw [hl] at h1
      obtain ⟨k, hk⟩ := List.length_eq_one_iff.1 h1
      exact hne k hk
    refine ⟨.tuple vs.toArray, ?_, vs, rfl, h2⟩
    rw [results_eq, Array.mapM_eq_mapM_toList]
    simp [h1, hne1]
def argEnv : Nat → List Kd → List (Nat × Kd)
  | _, [] => []
  | i, k :: l => (i, k) :: argEnv (i + 1) l
/-- The function gives the kind, from such arguments on; at most lim draws. -/
def absFn (T : Conf) (fn : Func) (fu : Nat) (keep : List Nat) (aks : List Kd) (ph : Ph) (rk : Kd) : Bool := match fn.body with
  | some code => decide (aks.length ≤ fn.ntmps) && (match absC T fn.ntmps fu keep code ⟨argEnv 0 aks, [], ph⟩ with
    | some O => O.exits.isEmpty && (O.norm ++ O.rets).all fun A => match resOf T fn A, A.ph with
      | some k, .run n => Kd.le T.tab T.fu k rk && decide (n ≤ T.J.lim)
      | _, _ => false
    | Option.none => false)
  | Option.none => false
theorem argEnv_look {w : World} {c : Ctx} {tab : Tab} : ∀ {aks : List Kd} {args : List Value} {i : Nat}, ArgsR c tab w aks args → ∀ s, (((argEnv i aks).lookup s).getD (.ck .any)).den c tab w ((if s < i then Option.none else args[s - i]?).getD undef) ∨ ((argEnv i aks).lookup s) = Option.none
  | [], [], i, _, s => .inr rfl
  | k :: l, v :: r, i, h, s => by
    simp only [argEnv]
    by_cases e : s = i
    · subst e
      left
      simp
      exact h.1
    · have hb : (s == i) = false := by simpa using e
      rw [List.lookup_cons, hb]
      have ih := argEnv_look (i := i + 1) h.2 s
      rcases ih with ih | ih
      · by_cases hlt : s < i
        · right
          -- below the first argument nothing is known
          have : ∀ (l : List Kd) (j : Nat), s < j → (argEnv j l).lookup s = Option.none := by
            intro l
            induction l with
            | nil => intro j _; rfl
            | cons k l ih2 =>
              intro j hj
              have hb2 : (s == j) = false := by simp; omega
              rw [argEnv, List.lookup_cons, hb2]
              exact ih2 (j + 1) (by omega)
          exact this l (i + 1) (by omega)
        · left
          rw [if_neg (by omega)] at ih ⊢
          rw [show s - i = (s - (i + 1)) + 1 by omega, List.getElem?_cons_succ]
          exact ih
      · exact .inr ih
  | [], _ :: _, _, h, _ => h.elim
  | _ :: _, [], _, h, _ => h.elim
theorem ArgsR.length {w : World} {c : Ctx} {tab : Tab} : ∀ {aks : List Kd} {args : List Value}, ArgsR c tab w aks args → args.length = aks.length
  | [], [], _ => rfl
  | _ :: _, _ :: _, h => by simp [ArgsR.length h.2]
  | [], _ :: _, h => h.elim
  | _ :: _, [], h => h.elim
theorem absFn_ok (hT : Good T) {f : FuncId} {fn : Func} (hf : T.P.funcs[f]? = some fn) {fu : Nat} {keep : List Nat} {aks : List Kd} {ph : Ph} {rk : Kd} (h : absFn T fn fu keep aks ph rk = true) {args : List Value} (hI : Inv c w0 T.J ph w) (hA : ArgsR c T.tab w aks args) :
    Calls T.P f args.toArray w fun e w' => ∃ v, e = .returned v ∧ rk.den c T.tab w' v ∧ ∃ n, n ≤ T.J.lim ∧ Inv c w0 T.J (.run n) w' := by
  unfold absFn at h
  split at h <;> try (cases h; done)
  rename_i code hcode
  simp only [Bool.and_eq_true, decide_eq_true_eq] at h
  obtain ⟨hn, h⟩ := h
  split at h <;> try (cases h; done)
  rename_i O hO
  simp only [Bool.and_eq_true, List.isEmpty_iff] at h
  obtain ⟨he, hall⟩ := h
  have hal := hA.length
  refine calls_of_wp hf hcode (Code.wp_mono (fun e a' w' hq => ?_) (absC_ok hT code (a := { tmps := args.toArray ++ Array.replicate (fn.ntmps - args.toArray.size) undef, defers := [] }) hO ⟨?_, rfl, fun s => ?_, fun f hf => by simp at hf, hI⟩))
  · have fin : ∀ A ∈ O.norm ++ O.rets, Sat T c w0 fn.ntmps A a' w' → a'.defers = [] ∧ ∃ v, (results fn a'.tmps).run T.P w' = .ok v w' ∧ ∃ v', Ending.returned v = .returned v' ∧ rk.den c T.tab w' v' ∧ ∃ n, n ≤ T.J.lim ∧ Inv c w0 T.J (.run n) w' := fun A hA hS => by
      have h1 := List.all_eq_true.1 hall A hA
      split at h1 <;> try (cases h1; done)
      rename_i k n hk hph
      simp only [Bool.and_eq_true, decide_eq_true_eq] at h1
      obtain ⟨v, h2, h3⟩ := resOf_ok hT hk hS
      have hI := hS.2.2.2.2
      rw [hph] at hI
      exact ⟨hS.2.1, v, h2, v, rfl, Kd.le_den hT.tab h1.1 h3, n, h1.2, hI⟩
    cases e with
    | normal => obtain ⟨A, hA, hS⟩ := hq; exact fin A (by simp [hA]) hS
    | ret => obtain ⟨A, hA, hS⟩ := hq; exact fin A (by simp [hA]) hS
    | exit id => obtain ⟨A, hA, _⟩ := hq; rw [he] at hA; simp at hA
    | _ => exact hq.elim
  · simp; omega
  · show Kd.den c T.tab (((argEnv 0 aks).lookup s).getD (.ck .any)) w _
    rcases argEnv_look (i := 0) hA s with h1 | h1
    · simp only [Nat.not_lt_zero, if_false, Nat.sub_zero] at h1
      cases hs : args[s]? with
      | some v =>
        rw [hs] at h1
        have : (args.toArray ++ Array.replicate (fn.ntmps - args.toArray.size) undef).getD s undef = v := by
          have hlt := (List.getElem?_eq_some_iff.1 hs).1
          rw [Array.getD_eq_getD_getElem?, Array.getElem?_append_left (by simpa using hlt)]
          simp [hs]
        simp only [Act.eval, this]
        exact h1
      | none =>
        rw [hs] at h1
        have : (args.toArray ++ Array.replicate (fn.ntmps - args.toArray.size) undef).getD s undef = undef := by
          have hlt := List.getElem?_eq_none_iff.1 hs
          rw [Array.getD_eq_getD_getElem?, Array.getElem?_append_right (by simpa using hlt)]
          simp only [Array.getElem?_replicate]
          split <;> rfl
        simp only [Act.eval, this]
        exact h1
    · rw [h1]; exact any_den
/-- Kinds that do not lean on where the call began. -/
def CK.bare : CK → Bool
  | .sl _ _ _ | .ptr _ _ => false
  | _ => true
def bareArg : Kd → Bool
  | .one (.c k) => k.bare
  | _ => false
theorem bare_den {c c' : Ctx} {tab : Tab} (hbr : c'.br = c.br) (hcv : c'.cv = c.cv) {k : Kd} (hk : bareArg k = true) (h : k.den c tab w v) : k.den c' tab w v := by
  unfold bareArg at hk
  split at hk <;> try (cases hk; done)
  rename_i k0
  cases k0 <;> simp only [CK.bare, Bool.false_eq_true] at hk <;> first
    | exact h
    | (show v = _; rw [hbr]; exact h)
    | (show v = _; rw [hcv]; exact h)
theorem args_bare {c c' : Ctx} {tab : Tab} (hbr : c'.br = c.br) (hcv : c'.cv = c.cv) : ∀ {aks : List Kd} {args : List Value}, aks.all bareArg = true → ArgsR c tab w aks args → ArgsR c' tab w aks args
  | [], [], _, _ => trivial
  | k :: l, v :: r, h, hh => by
    simp only [List.all_cons, Bool.and_eq_true] at h
    exact ⟨bare_den hbr hcv h.1 hh.1, args_bare hbr hcv h.2 hh.2⟩
  | [], _ :: _, _, h => h.elim
  | _ :: _, [], _, h => h.elim
/-- What is known from a later beginning is known from an earlier one. -/
theorem BlkK.lowerB {B B' br t m : Nat} {e : TypeId} {ks ks' : List VK} {g : Nat} (hB : B' ≤ B) (hl : ks.length = ks'.length) (h : ∀ (f : Nat) k k', ks[f]? = some k → ks'[f]? = some k' → ∀ u, k w u → k' w u) (hb : BlkK B br e ks t m w g) : BlkK B' br e ks' t m w g := by
  have := hb.weaken hl h
  exact ⟨Nat.le_trans hB this.1, this.2⟩
theorem ck_lower {c c' : Ctx} (hB : c'.B ≤ c.B) (hbr : c'.br = c.br) (hcv : c'.cv = c.cv) {w : World} : ∀ {tab : Tab} (k : CK) {v : Value}, cden c tab k w v → cden c' tab k w v := by
  have key : ∀ (tab : Tab) (i : Nat), (tabOf c tab i).1 = (tabOf c' tab i).1 ∧ (tabOf c tab i).2.length = (tabOf c' tab i).2.length ∧ ∀ (f : Nat) k k', (tabOf c tab i).2[f]? = some k → (tabOf c' tab i).2[f]? = some k' → ∀ u, k w u → k' w u := by
    intro tab
    induction tab with
    | nil => intro i; exact ⟨rfl, rfl, fun f k k' h => by simp [tabOf] at h⟩
    | cons x r ih =>
      obtain ⟨Ty, ks⟩ := x
      intro i
      simp only [tabOf]
      split
      · refine ⟨rfl, by simp, fun f k k' h h' u hu => ?_⟩
        rw [List.getElem?_map] at h h'
        obtain ⟨k0, e0, rfl⟩ := Option.map_eq_some_iff.1 h
        obtain ⟨k1, e1, rfl⟩ := Option.map_eq_some_iff.1 h'
        rw [e0] at e1
        cases e1
        cases k0 with
        | sl j lo hi =>
          obtain ⟨hs, hA⟩ := hu
          refine ⟨?_, hA⟩
          obtain ⟨h1, h2, h3⟩ := ih j
          rw [← h1]
          rcases hs with rfl | ⟨g, o, n, q, rfl, g1, g2, g3, g4⟩
          · exact .inl rfl
          · exact .inr ⟨g, o, n, q, by rw [h2], g1, g2, g3, by rw [hbr]; exact g4.lowerB hB h2 h3⟩
        | ptr j off =>
          obtain ⟨g, q, rfl, g1⟩ := hu
          obtain ⟨h1, h2, h3⟩ := ih j
          exact ⟨g, q, by rw [h2], by rw [← h1, hbr]; exact g1.lowerB hB h2 h3⟩
        | rdr => show u = _; rw [hbr]; exact hu
        | code => show u = _; rw [hcv]; exact hu
        | _ => exact hu
      · exact ih i
  intro tab k v hv
  cases k with
  | sl j lo hi =>
    obtain ⟨hs, hA⟩ := hv
    refine ⟨?_, hA⟩
    obtain ⟨h1, h2, h3⟩ := key tab j
    rw [← h1]
    rcases hs with rfl | ⟨g, o, n, q, rfl, g1, g2, g3, g4⟩
    · exact .inl rfl
    · exact .inr ⟨g, o, n, q, by rw [h2], g1, g2, g3, by rw [hbr]; exact g4.lowerB hB h2 h3⟩
  | ptr j off =>
    obtain ⟨g, q, rfl, g1⟩ := hv
    obtain ⟨h1, h2, h3⟩ := key tab j
    exact ⟨g, q, by rw [h2], by rw [← h1, hbr]; exact g1.lowerB hB h2 h3⟩
  | rdr => show v = _; rw [hbr]; exact hv
  | code => show v = _; rw [hcv]; exact hv
  | _ => exact hv
theorem row_lower {α : Type} {D D' : α → VK} {w : World} (h : ∀ k v, D k w v → D' k w v) : ∀ {l : List α} {cs : List Value}, RowK (l.map D) w cs → RowK (l.map D') w cs
  | [], _, h' => h'
  | k :: l, _, ⟨u, r, e, h1, h2⟩ => ⟨u, r, e, h k u h1, row_lower h h2⟩
theorem k1_lower {c c' : Ctx} (hB : c'.B ≤ c.B) (hbr : c'.br = c.br) (hcv : c'.cv = c.cv) {w : World} {tab : Tab} (k : K1) {v : Value} (hv : k.den c tab w v) : k.den c' tab w v := by
  cases k with
  | c k => exact ck_lower hB hbr hcv k hv
  | agg ks => obtain ⟨cs, e, hr⟩ := hv; exact ⟨cs, e, row_lower (fun k v h => ck_lower hB hbr hcv k h) hr⟩
theorem kd_lower {c c' : Ctx} (hB : c'.B ≤ c.B) (hbr : c'.br = c.br) (hcv : c'.cv = c.cv) {w : World} {tab : Tab} (k : Kd) {v : Value} (hv : k.den c tab w v) : k.den c' tab w v := by
  cases k with
  | one k => exact k1_lower hB hbr hcv k hv
  | tup ks => obtain ⟨cs, e, hr⟩ := hv; exact ⟨cs, e, row_lower (fun k v h => k1_lower hB hbr hcv k h) hr⟩
/-- THE CONTRACT of a function that draws. -/
theorem con_of (hT : Good T) {f : FuncId} {fn : Func} (hf : T.P.funcs[f]? = some fn) (hname : (fn.name == "runtime.NumGoroutine") = false) {fu : Nat} {keep : List Nat} {aks : List Kd} {rk : Kd} (hb : aks.all bareArg = true) (h : absFn T fn fu keep aks (.run 0) rk = true) : ConOk T.P T.tab ⟨f, aks, rk, T.J.lim⟩ := by
  have hbody : ∃ code, fn.body = some code := by
    unfold absFn at h
    split at h
    · rename_i code hc; exact ⟨code, hc⟩
    · cases h
  obtain ⟨code, hcode⟩ := hbody
  refine ⟨⟨fn, code, hf, hname, hcode⟩, fun c w N args hB hcb hR hN hA => ?_⟩
  obtain ⟨c2, hc2⟩ : ∃ c2 : Ctx, c2 = { c with B := w.heap.size, N0 := N } := ⟨_, rfl⟩
  have e1 : c2.B = w.heap.size := by rw [hc2]
  have e2 : c2.br = c.br := by rw [hc2]
  have e3 : c2.cv = c.cv := by rw [hc2]
  have e4 : c2.cb = c.cb := by rw [hc2]
  have e5 : c2.N0 = N := by rw [hc2]
  clear hc2
  have hI : Inv c2 w T.J (.run 0) w := ⟨GrownP.refl _ _, by omega, by omega, by rw [e5]; exact hN, by rw [e2, e4, e5]; simpa using hR⟩
  refine (absFn_ok hT hf h hI (args_bare (c := c) e2 e3 hb hA)).mono ?_
  rintro e w' ⟨v, rfl, hv, n, hn, hI'⟩
  obtain ⟨g1, g2, g3, g4, g5⟩ := hI'
  rw [e2, e4, e5] at g5
  refine ⟨v, rfl, kd_lower (c := c2) (c' := c) (by omega) e2.symm e3.symm rk hv, g5.mono (by show N + n ≤ N + T.J.lim; omega), g1.1, g1.2.1, g1.2.2.1, g1.2.2.2.1, fun k hk hne => g1.2.2.2.2 k hk (fun hh => ?_)⟩
  rcases hh with hh | hh
  · exact hne (by rw [hh, e2])
  · omega
/-- THE CONTRACT of a function that opens a reader on its code. -/
theorem draw_of (hT : Good T) {f : FuncId} {fn : Func} (hf : T.P.funcs[f]? = some fn) {fu : Nat} {keep : List Nat} {rk : Kd} (hlim : T.J.lim ≤ 1000000000) (h : absFn T fn fu keep [.ck .code] (.pre 0) rk = true) {A : Option Addr} {l : List Int} {q : Nat} {w : World} (hC : CodeR w w.heap.size A l) (hq : l.length ≤ q) :
    Calls T.P f #[.slice A l.length q] w fun e w' => ∃ v c, e = .returned v ∧ c.B = w.heap.size ∧ rk.den c T.tab w' v ∧ Below w.heap.size w w' := by
  obtain ⟨c, hc⟩ : ∃ c : Ctx, c = { B := w.heap.size, br := w.heap.size + T.J.J, cb := w.heap.size, cv := .slice A l.length q, N0 := 0 } := ⟨_, rfl⟩
  have hI : Inv c w T.J (.pre 0) w := by
    rw [hc]
    exact ⟨GrownP.refl _ _, Nat.le_refl _, Nat.le_refl _, by simpa using hlim, rfl, Nat.zero_le _, rfl, A, l, q, rfl, hq, hC⟩
  refine (absFn_ok (args := [.slice A l.length q]) hT hf h hI ⟨by rw [hc]; rfl, trivial⟩).mono ?_
  rintro e w' ⟨v, rfl, hv, n, hn, hI'⟩
  obtain ⟨g1, g2, g3, g4, g5⟩ := hI'
  refine ⟨v, c, rfl, by rw [hc], hv, g1.1, g1.2.1, g1.2.2.1, g1.2.2.2.1, fun k hk => g1.2.2.2.2 k hk (fun hh => ?_)⟩
  rw [hc] at hh
  simp only at hh
  omega
end
end Go.Proofs.YtpmelhkhmichcaaDoor

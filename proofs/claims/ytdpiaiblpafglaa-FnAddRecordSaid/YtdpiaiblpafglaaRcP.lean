/- Records: what is drawn, as lists. -/
import Derived.Test.YtdpiaiblpafglaaRcN
import Derived.Test.YtdpiaiblpafglaaAij
import Derived.Test.YtdpiaiblpafglaaRcL
import Derived.Test.YtdpiaiblpafglaaRcK
namespace Go.Proofs.Ytdpiaiblpafglaa
set_option linter.unusedSimpArgs false
set_option linter.unusedVariables false
open Go.RowKit

theorem fd_dec {c : Ctx} {tab : Tab} {w : World} (cs : List Value) (h : RowK ([CK.str 1000, .intx .i64, .intx .i64].map (cden c tab)) w cs) : ∃ a : Fd, a.1.size ≤ 1000 ∧ Flat fdEnc w a cs := by
  obtain ⟨_, _, rfl, ⟨s, rfl, hs⟩, _, _, rfl, ⟨n, rfl⟩, _, _, rfl, ⟨m, rfl⟩, rfl⟩ := h
  exact ⟨(s, n, m), hs, rfl⟩
def RcP (r : Rc) : Prop := (rfs r).length ≤ 8 ∧ ∀ f ∈ rfs r, f.1.size ≤ 1000
theorem rc_dec {c : Ctx} {w : World} (cs : List Value) (h : RowK ([CK.intx .i64, .intx .i64, .intx .i64, .intx .i64, .sl 3 0 8, .bool Option.none, .intx .i64].map (cden c rcTab)) w cs) : ∃ r : Rc, RcP r ∧ RcR w.heap.size w r cs := by
  obtain ⟨_, _, rfl, ⟨n0, rfl⟩, _, _, rfl, ⟨n1, rfl⟩, _, _, rfl, ⟨n2, rfl⟩, _, _, rfl, ⟨n3, rfl⟩, _, _, rfl, h4, _, _, rfl, ⟨b, rfl, _⟩, _, _, rfl, ⟨n6, rfl⟩, rfl⟩ := h
  obtain ⟨fs, A, q, rfl, _, h5, h9, h6, _, _, h7, _⟩ := sl_rd (R := Flat fdEnc) (P := fun a => a.1.size ≤ 1000) (by kernel_rfl) fd_dec (by decide) h4
  exact ⟨(n0, n1, n2, n3, fs, b, n6), ⟨h5, h9⟩, A, q, rfl, h6, fun _ a ha => (h7 a ha).1⟩
theorem rcs_of {c : Ctx} {w : World} {v : Value} {lo hi : Nat} (hh : hi ≤ 9223372036854775807) (h : cden c rcTab (.sl 4 lo hi) w v) : ∃ (l : RcL) (A : Option Addr) (q : Nat), v = .slice A l.length q ∧ lo ≤ l.length ∧ l.length ≤ hi ∧ (∀ r ∈ l, RcP r) ∧ rcR w A l ∧ l.length ≤ q ∧ q ≤ 9223372036854775807 ∧ (A = Option.none → q = 0) ∧ (∀ a, A = some a → a.spot = Option.none) := by
  obtain ⟨l, A, q, rfl, h1, h2, h3, h4, h5, h6, h7, h8⟩ := sl_rd (R := RcR w.heap.size) (P := RcP) (by kernel_rfl) rc_dec hh h
  exact ⟨l, A, q, rfl, h1, h2, h3, h4, h5, h6, h8, fun a ha => (h7 a ha).2⟩
theorem DrawRecordSeal_d {A : Option Addr} {l : List Int} {q : Nat} {w : World} (hC : CodeR w w.heap.size A l) (hq : l.length ≤ q) :
    Calls Try.prog 11 #[.slice A l.length q] w fun e w' => ∃ (s : Int) (r : Rc) (Af : Option Addr) (cf : Nat), e = .returned (.tuple #[.int .i64 s, .agg #[.int .i64 (rtm r), .int .i64 (rwho r), .int .i64 (ract r), .int .i64 (rwhat r), .slice Af (rfs r).length cf, .bool (ral r), .int .i64 (rsl r)]]) ∧ fdR w' Af (rfs r) ∧ Below w.heap.size w w' := by
  refine (draw_of (rc_good cons_nil) Try.func11 (by decide) drawRecordSeal_fn hC hq).mono ?_
  rintro e w' ⟨v, c, rfl, _, ⟨_, rfl, _, _, rfl, ⟨s, rfl, _⟩, _, _, rfl, ⟨cs, rfl, hr⟩, rfl⟩, hb⟩
  obtain ⟨r, _, A', q', rfl, h1, _⟩ := rc_dec cs hr
  exact ⟨s, r, A', q', rfl, h1, hb⟩
theorem fd_row {c : Ctx} {tab : Tab} {w : World} {a : Fd} (h : a.1.size ≤ 1000) (cs : List Value) (e : cs = fdEnc a) : RowK ([CK.str 1000, .intx .i64, .intx .i64].map (cden c tab)) w cs := by
  subst e
  exact ⟨_, _, rfl, ⟨_, rfl, h⟩, _, _, rfl, ⟨_, rfl⟩, _, _, rfl, ⟨_, rfl⟩, rfl⟩
theorem fds_kind {c : Ctx} {B0 : Nat} {w : World} {v : Value} {l : FdL} (ho : OwnA B0 85 3 fdEnc w v l) (hB : c.B ≤ B0) (hbr : c.br < B0) (hn : l.length ≤ 8) (hs : ∀ f ∈ l, f.1.size ≤ 1000) : cden c rcTab (.sl 3 0 8) w v := by
  obtain ⟨A, q, rfl, ho⟩ := ho
  refine sl_own (by kernel_rfl) ho rfl rfl (by decide) hB hbr hn ?_
  exact chunks_typ (sz := 3) (ks := ([CK.str 1000, .intx .i64, .intx .i64].map (cden c rcTab))) rfl (flatMap_chunks (enc := fdEnc) (fun _ => rfl) l) (fun a ha cs e => fd_row (hs a ha) cs e)
theorem rcs_kind {c : Ctx} {B0 M : Nat} {w : World} {v : Value} {l : RcL} (ho : OwnG (RcO B0) B0 27 7 w v l) (hB : c.B ≤ B0) (hbr : c.br < B0) (hn : l.length ≤ M) (hP : ∀ r ∈ l, RcP r) : cden c rcTab (.sl 4 0 M) w v := by
  obtain ⟨A, q, xs, rfl, ho, hc⟩ := ho
  refine sl_own (by kernel_rfl) ho rfl rfl (by decide) hB hbr hn ?_
  refine chunks_typ rfl hc (fun r hr cs h => ?_)
  obtain ⟨v, rfl, hv⟩ := h
  exact ⟨_, _, rfl, ⟨_, rfl⟩, _, _, rfl, ⟨_, rfl⟩, _, _, rfl, ⟨_, rfl⟩, _, _, rfl, ⟨_, rfl⟩, _, _, rfl, fds_kind hv hB hbr (hP r hr).1 (hP r hr).2, _, _, rfl, ⟨_, rfl, fun y h => by cases h⟩, _, _, rfl, ⟨_, rfl⟩, rfl⟩
theorem rcAdd_few {l : RcL} {tm : Int} {q : Rq} {al : Bool} : (rcAdd l tm q al).1.length ≤ 20 := by
  unfold rcAdd
  split
  · rename_i h
    split
    · rename_i h2; exact rcRight_few h2
    · exact rcRight_few h
  · simp
theorem rcAdd_all {l : RcL} {tm : Int} {q : Rq} {al : Bool} (h : ∀ r ∈ l, RcP r) (h2 : q.2.2.2.length ≤ 8 ∧ ∀ f ∈ q.2.2.2, f.1.size ≤ 1000) : ∀ r ∈ (rcAdd l tm q al).1, RcP r := by
  unfold rcAdd
  split
  · split
    · intro r hr
      rcases List.mem_append.1 hr with hr | hr
      · exact h r hr
      · rw [List.mem_singleton.1 hr]; exact h2
    · exact h
  · simp
def rcAddCon : Con := ⟨26, [.ck (.sl 4 0 1000), .ck (.intx .i64), .ag [.intx .i64, .intx .i64, .intx .i64, .sl 3 0 8], .ck (.bool Option.none)], .tup [.c (.sl 4 0 20), .c (.bool Option.none)], 0⟩
theorem rcAdd_con : ConOk Try.prog rcTab rcAddCon := by
  refine ⟨enters_of Try.func26 (by kernel_rfl) rfl, ?_⟩
  intro c w N args hB hcb hR hN hA
  match args, hA with
  | [a0, a1, a2, a3], ⟨h0, ⟨tm, h1⟩, ⟨cs, h2, hr⟩, ⟨b, h3, _⟩, _⟩ =>
    subst h1; subst h2; subst h3
    obtain ⟨l, A, q, rfl, _, hl, hP, hU, _⟩ := rcs_of (by decide) h0
    obtain ⟨_, _, rfl, ⟨n0, rfl⟩, _, _, rfl, ⟨n1, rfl⟩, _, _, rfl, ⟨n2, rfl⟩, _, _, rfl, h4, rfl⟩ := hr
    obtain ⟨fs, A2, q2, rfl, _, h5, h9, h6, _⟩ := sl_rd (R := Flat fdEnc) (P := fun a => a.1.size ≤ 1000) (by kernel_rfl) fd_dec (by decide) h4
    have hf : FewF 1048576 l := fun k hk => by
      have := (hP l[k] (List.getElem_mem hk)).1
      rw [rc4, rcAt_eq hk]; omega
    refine (specAddRecord (c := q) (c2 := q2) (tm := tm) (who := n0) (act := n1) (what := n2) (al := b) hU h6 (by omega) hf (by omega)).mono ?_
    rintro e w' ⟨A', q', rfl, ho, hb⟩
    refine ⟨_, rfl, ⟨_, rfl, _, _, rfl, ?_, _, _, rfl, ⟨_, rfl, fun y h => by cases h⟩, rfl⟩, hR.below hb, grown_of_below hb _⟩
    exact rcs_kind ho hB hR.lt rcAdd_few (rcAdd_all hP ⟨h5, h9⟩)
theorem l20Records_fn : absFn (dConf Try.prog rcTab rcSto 0 1000 [rcAddCon]) Try.f48 20 (List.range 200) [.ck .rdr, .ck (.int .i64 0 100)] (.run 0) (.ck (.sl 4 0 21)) = true := by kernel_rfl
end Go.Proofs.Ytdpiaiblpafglaa

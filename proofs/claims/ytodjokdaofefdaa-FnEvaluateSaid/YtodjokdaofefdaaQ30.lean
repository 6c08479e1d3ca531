/- Expressions: what is drawn, as trees. -/
import Derived.Test.YtodjokdaofefdaaQ26
import Derived.Test.YtodjokdaofefdaaQ28
import Derived.Test.YtodjokdaofefdaaQ29
import Derived.Test.YtodjokdaofefdaaQ27
import Derived.Test.YtodjokdaofefdaaQ2
import Derived.Test.YtodjokdaofefdaaQ10
import Derived.Test.YtodjokdaofefdaaQ20
namespace Go.Proofs.Ytodjokdaofefdaa
set_option linter.unusedSimpArgs false
set_option linter.unusedVariables false
open Go.RowKit

/-- At most two parts each, m deep, with short names. -/
def shE : Nat → ExL → Prop
  | 0, l => l = []
  | m + 1, l => l.length ≤ 2 ∧ ∀ p ∈ l, p.s.size ≤ 16 ∧ shE m p.ps
theorem shE_cnt : ∀ (m d : Nat) (l : ExL), shE m l → cntS d l + 2 ≤ 2 ^ (m + 1)
  | 0, d, l, h => by rw [show l = [] from h]; simp [cntS]
  | m + 1, d, l, ⟨h1, h2⟩ => by
    have hp : ∀ p ∈ l, cntR d p + 2 ≤ 2 ^ (m + 1) := fun p hp => by
      cases d with
      | zero => have : 2 ≤ 2 ^ (m + 1) := by rw [Nat.pow_succ]; have := Nat.one_le_two_pow (n := m); omega
                simpa [cntR] using this
      | succ d => exact shE_cnt m d p.ps (h2 p hp).2
    have hpow : 2 ^ (m + 1 + 1) = 2 ^ (m + 1) + 2 ^ (m + 1) := by rw [Nat.pow_succ]; omega
    match l, h1, hp with
    | [], _, _ => have := Nat.one_le_two_pow (n := m + 1); simp only [cntS, List.length_nil, List.map_nil, List.sum_nil]; omega
    | [a], _, hp => have := hp a (by simp); have := Nat.one_le_two_pow (n := m + 1); simp only [cntS, List.length_cons, List.length_nil, List.map_cons, List.map_nil, List.sum_cons, List.sum_nil]; omega
    | [a, b], _, hp => have h3 := hp a (by simp); have h4 := hp b (by simp); simp only [cntS, List.length_cons, List.length_nil, List.map_cons, List.map_nil, List.sum_cons, List.sum_nil]; omega
    | _ :: _ :: _ :: _, h1, _ => simp at h1
theorem shp_ex : ∀ m, m ≤ 5 → shp exTab (3 + m) = (28, exRow m)
  | 0, _ => rfl
  | 1, _ => rfl
  | 2, _ => rfl
  | 3, _ => rfl
  | 4, _ => rfl
  | 5, _ => rfl
  | n + 6, h => by omega
theorem ex_ok : okTab exTab = true := by kernel_rfl
theorem sl_blk {c : Ctx} {tab : Tab} {i lo hi n q : Nat} {A : Option Addr} {w : World} (h : cden c tab (.sl i lo hi) w (.slice A n q)) : ∀ a, A = some a → c.B ≤ a.block ∧ a.block ≠ c.br ∧ a.block < w.heap.size := by
  intro a ha
  subst ha
  obtain ⟨h1 | ⟨g, o, n', q', e, _, _, _, h2⟩, _⟩ := h
  · cases h1
  · cases e
    exact ⟨h2.1, h2.2.1, (Array.getElem?_eq_some_iff.1 h2.2.2.choose_spec.1).1⟩
/-- Blocks of what is drawn. -/
def PDr (c : Ctx) (w : World) (k : Nat) : Prop := c.B ≤ k ∧ k ≠ c.br ∧ k < w.heap.size
theorem ex_dec {c : Ctx} {w : World} : ∀ (m : Nat), m ≤ 6 → ∀ (cs : List Value), RowK ((exRow m).map (cden c exTab)) w cs → ∃ t : Ex, (t.s.size ≤ 16 ∧ shE m t.ps) ∧ exP (PDr c w) (m + 1) w t cs
  | 0, _, cs, h => by
    obtain ⟨_, _, rfl, ⟨k, rfl⟩, _, _, rfl, ⟨n, rfl⟩, _, _, rfl, ⟨s, rfl, hs⟩, _, _, rfl, hv, rfl⟩ := h
    have hv : _ = Value.slice Option.none 0 0 := hv
    subst hv
    exact ⟨.nd k n s [], ⟨hs, rfl⟩, Option.none, 0, rfl, RdL.nil _, fun h => by simp [Ex.ps] at h, by show s.size ≤ _; omega⟩
  | m + 1, hm, cs, h => by
    obtain ⟨_, _, rfl, ⟨k, rfl⟩, _, _, rfl, ⟨n, rfl⟩, _, _, rfl, ⟨s, rfl, hs⟩, _, v, rfl, hv, rfl⟩ := h
    have hsh := shp_ex m (by omega)
    have hv2 : cden c exTab (.sl (3 + m) 0 2) w _ := hv
    obtain ⟨l, A, q, rfl, _, h1, h2, h3, _⟩ := sl_rd (R := exP (PDr c w) (m + 1)) (P := fun t => t.s.size ≤ 16 ∧ shE m t.ps) ex_ok (by rw [hsh]; exact ex_dec m (by omega)) (by decide) hv2
    have hb := sl_blk hv2
    rw [hsh] at h3
    exact ⟨.nd k n s l, ⟨hs, h1, h2⟩, A, q, rfl, h3, fun _ a ha => hb a ha, by show s.size ≤ _; omega⟩
end Go.Proofs.Ytodjokdaofefdaa
/- Worlds, requests, expressions: what is drawn, as they read. -/
namespace Go.Proofs.Ytodjokdaofefdaa
set_option linter.unusedSimpArgs false
set_option linter.unusedVariables false
open Go.RowKit

theorem il_decE {c : Ctx} {tab : Tab} {w : World} {lo hi : Int} (cs : List Value) (h : RowK ([CK.int .i64 lo hi].map (cden c tab)) w cs) : ∃ a : Int, (lo ≤ a ∧ a ≤ hi) ∧ Flat ilEnc w a cs := by
  obtain ⟨_, _, rfl, ⟨n, rfl, h0, h1⟩, rfl⟩ := h
  exact ⟨n, ⟨h0, h1⟩, rfl⟩
theorem fd_dec {c : Ctx} {tab : Tab} {w : World} (cs : List Value) (h : RowK ([CK.str 16, ckI, ckI].map (cden c tab)) w cs) : ∃ f : Fd, f.1.size ≤ 16 ∧ Flat fdEnc w f cs := by
  obtain ⟨_, _, rfl, ⟨s, rfl, hs⟩, _, _, rfl, ⟨k, rfl, _⟩, _, _, rfl, ⟨n, rfl, _⟩, rfl⟩ := h
  exact ⟨(s, k, n), hs, rfl⟩
theorem fds_of {c : Ctx} {tab : Tab} {w : World} {v : Value} {i lo hi : Nat} (ht : okTab tab = true) (hs : shp tab i = (135, [.str 16, ckI, ckI])) (hh : hi ≤ 9223372036854775807) (h : cden c tab (.sl i lo hi) w v) : ∃ (l : FdL) (A : Option Addr) (q : Nat), v = .slice A l.length q ∧ l.length ≤ q ∧ fdR w A l ∧ WfFd l := by
  obtain ⟨l, A, q, rfl, _, _, h2, h3, h4, _⟩ := sl_rd (R := Flat fdEnc) (P := fun f : Fd => f.1.size ≤ 16) ht (by rw [hs]; exact fd_dec) hh h
  rw [hs] at h3
  exact ⟨l, A, q, rfl, h4, h3, fun f hf => by have := h2 f hf; omega⟩
theorem th_dec {c : Ctx} {tab : Tab} {w : World} (ht : okTab tab = true) (h2 : shp tab 2 = (3, [ckI])) (h10 : shp tab 10 = (135, [.str 16, ckI, ckI])) (cs : List Value) (h : RowK ([CK.sl 2 0 8, .sl 10 0 8].map (cden c tab)) w cs) : ∃ t : Th, WfFd t.fs ∧ ThR w t cs := by
  obtain ⟨_, _, rfl, h4, _, _, rfl, h5, rfl⟩ := h
  obtain ⟨gs, A, q, rfl, _, _, _, g3, _⟩ := sl_rd (R := Flat ilEnc) (P := fun a => i64lo ≤ a ∧ a ≤ i64hi) ht (by rw [h2]; exact il_decE) (by decide) h4
  obtain ⟨fs, B, q', rfl, _, f3, f4⟩ := fds_of ht h10 (by decide) h5
  rw [h2] at g3
  exact ⟨⟨gs, fs⟩, f4, A, q, B, q', rfl, g3, f3⟩
theorem ths_of {c : Ctx} {tab : Tab} {w : World} {v : Value} {lo hi : Nat} (ht : okTab tab = true) (h2 : shp tab 2 = (3, [ckI])) (h10 : shp tab 10 = (135, [.str 16, ckI, ckI])) (h11 : shp tab 11 = (101, [.sl 2 0 8, .sl 10 0 8])) (hh : hi ≤ 9223372036854775807) (h : cden c tab (.sl 11 lo hi) w v) : ∃ (W : WL) (A : Option Addr) (q : Nat), v = .slice A W.length q ∧ wlR w A W ∧ WfW W := by
  obtain ⟨l, A, q, rfl, _, _, g2, g3, g4, _⟩ := sl_rd (R := ThR) (P := fun t : Th => WfFd t.fs) ht (by rw [h11]; exact th_dec ht h2 h10) hh h
  rw [h11] at g3
  exact ⟨l, A, q, rfl, g3, fun k hk => by rw [thAt_eq hk]; exact g2 _ (List.getElem_mem hk)⟩
theorem th_ok : okTab thTab = true := by kernel_rfl
theorem rq_ok2 : okTab rqTab = true := by kernel_rfl
end Go.Proofs.Ytodjokdaofefdaa
/- Guards: what is drawn. -/
namespace Go.Proofs.Ytodjokdaofefdaa
set_option linter.unusedSimpArgs false
set_option linter.unusedVariables false
open Go.RowKit

/-- A drawn expression at hand. -/
def DrV (m : Nat) (c : Ctx) (t : Ex) (w : World) (A : Option Addr) : Prop := exQ (PDr c w) m w A t.ps
theorem DrV.grown {m : Nat} {c : Ctx} {t : Ex} {w w' : World} {A : Option Addr} {row : Option Nat} (h : DrV m c t w A) (hg : w.grownBy w' row) (hr : ∀ k, row = some k → k = c.br ∨ k < c.B) : DrV m c t w' A :=
  exQ.keep h (Nat.le_refl _) (fun k hk => ⟨⟨hk.1, hk.2.1, Nat.lt_of_lt_of_le hk.2.2 hg.size⟩, hg.block k hk.2.2 (fun e => by rcases hr k e.symm with h | h; exact hk.2.1 h; have := hk.1; omega)⟩)
theorem DrV.w {m : Nat} {c : Ctx} {t : Ex} {w : World} {A : Option Addr} (h : DrV m c t w A) : exW m w A t.ps := h.s (fun k hk => ⟨Nat.zero_le _, hk.2.2⟩)
theorem DrV.up {m : Nat} {c c' : Ctx} {t : Ex} {w : World} {A : Option Addr} (h : DrV m c t w A) (hB : c'.B ≤ c.B) (hbr : c'.br = c.br) : DrV m c' t w A := exQ.keep h (Nat.le_refl _) (fun k hk => ⟨⟨Nat.le_trans hB hk.1, by rw [hbr]; exact hk.2.1, hk.2.2⟩, rfl⟩)
/-- The draw of an expression, at a reader. -/
theorem l20Expr_d {c : Ctx} {w : World} {N : Nat} {n : Int} (hB : c.B ≤ w.heap.size) (hcb : c.cb ≤ c.B) (hR : RdrT w c.br c.cb N) (hN : N + 1000000 ≤ 1000000000) (h0 : 0 ≤ n) (h1 : n ≤ 100) :
    Calls Try.prog 64 #[.pointer (some ⟨c.br, 0, Option.none⟩), .int .i64 n] w fun e w' => ∃ (t : Ex) (A : Option Addr) (q : Nat), e = .returned (.agg #[.int .i64 t.k, .int .i64 t.n, .string t.s, .slice A t.ps.length q]) ∧ shE 5 t.ps ∧ t.s.size ≤ 16 ∧ DrV 5 c t w' A ∧ RdrT w' c.br c.cb (N + 1000000) ∧ w.grownBy w' (some c.br) := by
  refine (expr_con.2 c w N [.pointer (some ⟨c.br, 0, Option.none⟩), .int .i64 n] hB hcb hR hN ⟨rfl, ⟨n, rfl, h0, h1⟩, trivial⟩).mono ?_
  rintro e w' ⟨v, rfl, ⟨cs, rfl, hrow⟩, hR', hg⟩
  obtain ⟨t, ⟨hs, hsh⟩, A, q, rfl, h1, h2, h3⟩ := ex_dec 5 (by decide) cs hrow
  exact ⟨t, A, q, rfl, hsh, hs, ⟨h1, h2⟩, hR', hg⟩
end Go.Proofs.Ytodjokdaofefdaa
/- What Evaluate draws: a world, a request, an expression. -/
namespace Go.Proofs.Ytodjokdaofefdaa
set_option linter.unusedSimpArgs false
set_option linter.unusedVariables false
open Go.RowKit

theorem l20Things_d {c : Ctx} {w : World} {N : Nat} {n : Int} (hB : c.B ≤ w.heap.size) (hcb : c.cb ≤ c.B) (hR : RdrT w c.br c.cb N) (hN : N + 40000 ≤ 1000000000) (h0 : 0 ≤ n) (h1 : n ≤ 100) :
    Calls Try.prog 62 #[.pointer (some ⟨c.br, 0, Option.none⟩), .int .i64 n] w fun e w' => ∃ (A : Option Addr) (m q : Nat), e = .returned (.slice A m q) ∧ m ≤ 8 ∧ cden c thTab (.sl 11 0 8) w' (.slice A m q) ∧ RdrT w' c.br c.cb (N + 40000) ∧ w.grownBy w' (some c.br) := by
  refine (thThs_con.2 c w N [.pointer (some ⟨c.br, 0, Option.none⟩), .int .i64 n] hB hcb hR hN ⟨rfl, ⟨n, rfl, h0, h1⟩, trivial⟩).mono ?_
  rintro e w' ⟨v, rfl, hv, hR', hg⟩
  have hv2 : cden c thTab (.sl 11 0 8) w' v := hv
  obtain ⟨l, A, q, rfl, h2, _, _⟩ := sl_rd (R := fun _ (_ : Unit) _ => True) (P := fun _ => True) th_ok (fun cs _ => ⟨(), trivial, trivial⟩) (by decide) hv2
  obtain ⟨hs, _⟩ := hv2
  exact ⟨A, l.length, q, rfl, by rcases hs.shape with ⟨A', n', q', e, h3, _⟩; cases e; exact h3, hv, hR', hg⟩
theorem l20Request_d {c : Ctx} {w : World} {N m q : Nat} {n : Int} {A : Option Addr} (hB : c.B ≤ w.heap.size) (hcb : c.cb ≤ c.B) (hR : RdrT w c.br c.cb N) (hN : N + 10000 ≤ 1000000000) (hm : m ≤ 8) (h0 : 0 ≤ n) (h1 : n ≤ 100) :
    Calls Try.prog 63 #[.pointer (some ⟨c.br, 0, Option.none⟩), .slice A m q, .int .i64 n] w fun e w' => ∃ (who act what : Int) (Af : Option Addr) (mf qf : Nat), e = .returned (.agg #[.int .i64 who, .int .i64 act, .int .i64 what, .slice Af mf qf]) ∧ cden c rqTab (.sl 10 0 8) w' (.slice Af mf qf) ∧ RdrT w' c.br c.cb (N + 10000) ∧ w.grownBy w' (some c.br) := by
  refine (rq_con.2 c w N [.pointer (some ⟨c.br, 0, Option.none⟩), .slice A m q, .int .i64 n] hB hcb hR hN ⟨rfl, ⟨A, m, q, rfl, Nat.zero_le _, hm⟩, ⟨n, rfl, h0, h1⟩, trivial⟩).mono ?_
  rintro e w' ⟨v, rfl, ⟨cs, rfl, _, _, rfl, ⟨who, rfl, _⟩, _, _, rfl, ⟨act, rfl, _⟩, _, _, rfl, ⟨what, rfl, _⟩, _, vf, rfl, h4, rfl⟩, hR', hg⟩
  obtain ⟨_, Af, mf, qf, rfl, _⟩ := (show cden c rqTab (.sl 10 0 8) w' _ from h4)
  exact ⟨who, act, what, Af, mf, qf, rfl, h4, hR', hg⟩
/-- Where all lies. -/
structure EvG (c : Ctx) (w0 : World) (g3 g4 g7 : Nat) : Prop where
  h3 : g3 < c.B
  h4 : g4 < c.B
  n3 : w0.heap.size ≤ g3
  n4 : w0.heap.size ≤ g4
  e34 : g3 ≠ g4
  e3 : g3 ≠ c.br
  e4 : g4 ≠ c.br
  h7 : c.B ≤ g7
  e7 : g7 ≠ c.br
  n0 : w0.heap.size ≤ c.br
  cb : c.cb ≤ w0.heap.size
/-- What stands. -/
structure EvI (c : Ctx) (w0 : World) (g3 g4 g7 : Nat) (who act what : Int) (vf v6 : Value) (N : Nat) (wz : World) : Prop where
  hb : Below w0.heap.size w0 wz
  d6 : cden c thTab (.sl 11 0 8) wz v6
  df : cden c rqTab (.sl 10 0 8) wz vf
  b7 : wz.heap[g7]? = some (.cells #[.int .i64 who, .int .i64 act, .int .i64 what, vf] 37 (0, 0))
  rd : RdrT wz c.br c.cb N
  sz : c.B ≤ wz.heap.size
  b3 : ∃ y0 y1 y2 y3, wz.heap[g3]? = some (.cells #[y0, y1, y2, y3] 37 (0, 0))
  b4 : ∃ y0 y1 y2 y3, wz.heap[g4]? = some (.cells #[y0, y1, y2, y3] 28 (0, 0))
section
variable {c : Ctx} {w0 : World} {g3 g4 g7 : Nat} {who act what : Int} {vf v6 : Value} {N N' : Nat} {wa wb : World}
theorem EvI.mono (h : EvI c w0 g3 g4 g7 who act what vf v6 N wa) (hN : N ≤ N') : EvI c w0 g3 g4 g7 who act what vf v6 N' wa := { h with rd := h.rd.mono hN }
theorem block_other {g : Nat} {o : Obj} {row : Option Nat} (h : wa.heap[g]? = some o) (hg : wa.grownBy wb row) (hr : row ≠ some g) : wb.heap[g]? = some o := (hg.block g (Array.getElem?_eq_some_iff.1 h).1 (fun e => hr e.symm)).trans h
theorem EvI.br (hG : EvG c w0 g3 g4 g7) (h : EvI c w0 g3 g4 g7 who act what vf v6 N wa) (hg : wa.grownBy wb (some c.br)) (hR : RdrT wb c.br c.cb N') : EvI c w0 g3 g4 g7 who act what vf v6 N' wb :=
  { hb := h.hb.grown hg h.hb.size (fun k e => by cases e; exact hG.n0), d6 := cden_stay th_ok h.d6 hg (fun j e => by cases e; exact .inl rfl), df := cden_stay rq_ok2 h.df hg (fun j e => by cases e; exact .inl rfl), b7 := block_other h.b7 hg (fun e => hG.e7 (Option.some.inj e).symm), rd := hR, sz := Nat.le_trans h.sz hg.size,
    b3 := let ⟨a, b, d, f, e⟩ := h.b3; ⟨a, b, d, f, block_other e hg (fun e => hG.e3 (Option.some.inj e).symm)⟩, b4 := let ⟨a, b, d, f, e⟩ := h.b4; ⟨a, b, d, f, block_other e hg (fun e => hG.e4 (Option.some.inj e).symm)⟩ }
theorem EvI.s3 (hG : EvG c w0 g3 g4 g7) (h : EvI c w0 g3 g4 g7 who act what vf v6 N wa) (z0 z1 z2 z3 : Value) : EvI c w0 g3 g4 g7 who act what vf v6 N (setCells wa g3 0 [z0, z1, z2, z3]) ∧ (setCells wa g3 0 [z0, z1, z2, z3]).heap[g3]? = some (.cells #[z0, z1, z2, z3] 37 (0, 0)) := by
  have hg := setCells_grown g3 [z0, z1, z2, z3] wa 0
  have hne : some g3 ≠ some g7 := fun e => by
    cases e
    have := hG.h3
    have := hG.h7
    omega
  obtain ⟨a, b, d, f, e⟩ := h.b3
  have hat : (setCells wa g3 0 [z0, z1, z2, z3]).heap[g3]? = some (.cells #[z0, z1, z2, z3] 37 (0, 0)) := setCells_atG [z0, z1, z2, z3] 0 e (by simp)
  exact ⟨{ hb := setCells_below hG.n3 _ 0 h.hb, d6 := cden_stay th_ok h.d6 hg (fun j e => by cases e; exact .inr hG.h3), df := cden_stay rq_ok2 h.df hg (fun j e => by cases e; exact .inr hG.h3), b7 := block_other h.b7 hg hne, rd := h.rd.grown hg (fun k e => by cases e; exact ⟨hG.e3, Nat.le_trans hG.cb hG.n3⟩), sz := Nat.le_trans h.sz hg.size, b3 := ⟨_, _, _, _, hat⟩, b4 := let ⟨a, b, d, f, e⟩ := h.b4; ⟨a, b, d, f, block_other e hg (fun e => hG.e34 (Option.some.inj e))⟩ }, hat⟩
theorem EvI.s4 (hG : EvG c w0 g3 g4 g7) (h : EvI c w0 g3 g4 g7 who act what vf v6 N wa) (z0 z1 z2 z3 : Value) : EvI c w0 g3 g4 g7 who act what vf v6 N (setCells wa g4 0 [z0, z1, z2, z3]) ∧ (setCells wa g4 0 [z0, z1, z2, z3]).heap[g4]? = some (.cells #[z0, z1, z2, z3] 28 (0, 0)) := by
  have hg := setCells_grown g4 [z0, z1, z2, z3] wa 0
  have hne : some g4 ≠ some g7 := fun e => by
    cases e
    have := hG.h4
    have := hG.h7
    omega
  obtain ⟨a, b, d, f, e⟩ := h.b4
  have hat : (setCells wa g4 0 [z0, z1, z2, z3]).heap[g4]? = some (.cells #[z0, z1, z2, z3] 28 (0, 0)) := setCells_atG [z0, z1, z2, z3] 0 e (by simp)
  exact ⟨{ hb := setCells_below hG.n4 _ 0 h.hb, d6 := cden_stay th_ok h.d6 hg (fun j e => by cases e; exact .inr hG.h4), df := cden_stay rq_ok2 h.df hg (fun j e => by cases e; exact .inr hG.h4), b7 := block_other h.b7 hg hne, rd := h.rd.grown hg (fun k e => by cases e; exact ⟨hG.e4, Nat.le_trans hG.cb hG.n4⟩), sz := Nat.le_trans h.sz hg.size, b4 := ⟨_, _, _, _, hat⟩, b3 := let ⟨a, b, d, f, e⟩ := h.b3; ⟨a, b, d, f, block_other e hg (fun e => hG.e34 (Option.some.inj e).symm)⟩ }, hat⟩
end
/-- An expression drawn. -/
def ExDv (c : Ctx) (w : World) (v : Value) : Prop := ∃ (t : Ex) (A : Option Addr) (q : Nat), v = .agg #[.int .i64 t.k, .int .i64 t.n, .string t.s, .slice A t.ps.length q] ∧ shE 5 t.ps ∧ t.s.size ≤ 16 ∧ DrV 5 c t w A
theorem ExDv.grown {c : Ctx} {w w' : World} {v : Value} {row : Option Nat} (h : ExDv c w v) (hg : w.grownBy w' row) (hr : ∀ k, row = some k → k = c.br ∨ k < c.B) : ExDv c w' v := let ⟨t, A, q, e, h1, h2, h3⟩ := h; ⟨t, A, q, e, h1, h2, h3.grown hg hr⟩
/-- An expression in a box. -/
def ExH (c : Ctx) (g : Nat) (w : World) : Prop := ∃ (t : Ex) (A : Option Addr) (q : Nat), w.heap[g]? = some (.cells #[.int .i64 t.k, .int .i64 t.n, .string t.s, .slice A t.ps.length q] 28 (0, 0)) ∧ shE 5 t.ps ∧ t.s.size ≤ 16 ∧ DrV 5 c t w A
theorem ExH.grown {c : Ctx} {g : Nat} {w w' : World} {row : Option Nat} (h : ExH c g w) (hg : w.grownBy w' row) (hr : ∀ k, row = some k → k = c.br ∨ k < c.B) (hne : row ≠ some g) : ExH c g w' := let ⟨t, A, q, e, h1, h2, h3⟩ := h; ⟨t, A, q, block_other e hg hne, h1, h2, h3.grown hg hr⟩
def rowEv (c : Ctx) (g3 g4 : Nat) : Nat → Option Nat
  | 3 => some c.br
  | 5 => some g3
  | 6 => some g4
  | _ => Option.none
theorem rowEv_ok {c : Ctx} {w0 : World} {g3 g4 g7 : Nat} (hG : EvG c w0 g3 g4 g7) (i : Nat) : ∀ k, rowEv c g3 g4 i = some k → k = c.br ∨ k < c.B := by
  intro k hk
  match i, hk with
  | 3, hk => cases hk; exact .inl rfl
  | 5, hk => cases hk; exact .inr hG.h3
  | 6, hk => cases hk; exact .inr hG.h4
  | 0, hk => cases hk
  | 1, hk => cases hk
  | 2, hk => cases hk
  | 4, hk => cases hk
  | n + 7, hk => cases hk
set_option maxRecDepth 100000 in
set_option maxHeartbeats 4000000 in
theorem drawEvaluate_d {A : Option Addr} {l : List Int} {q : Nat} {w : World} (hC : CodeR w w.heap.size A l) (hq : l.length ≤ q) :
    Calls Try.prog 14 #[.slice A l.length q] w fun e w' => ∃ (W : WL) (r : Rq) (t : Ex) (A B C : Option Addr) (c c2 ct : Nat), e = .returned (.tuple #[.slice A W.length c, rqV r B c2, .agg #[.int .i64 t.k, .int .i64 t.n, .string t.s, .slice C t.ps.length ct]]) ∧ wlR w' A W ∧ WfW W ∧ fdR w' B r.fs ∧ WfFd r.fs ∧ exW 5 w' C t.ps ∧ shE 5 t.ps ∧ t.s.size ≤ 16 ∧ Below w.heap.size w w' := by
  obtain ⟨g, hg⟩ : ∃ g, g = w.heap.size := ⟨_, rfl⟩
  obtain ⟨W, hW⟩ : ∃ W, W = (w.alloc (.cells #[.int .i64 0, .int .i64 0, .int .i64 0, .slice Option.none 0 0] 37)).alloc (.cells #[.int .i64 0, .int .i64 0, .string ⟨#[]⟩, .slice Option.none 0 0] 28) := ⟨_, rfl⟩
  have hbW : Below w.heap.size w W := by rw [hW]; (repeat (first | exact Below.refl _ _ | refine ext_alloc ?_ _ | refine Below.setCell ?_ (by simp) _))
  have hgb : W.heap[g]? = some (.cells #[.int .i64 0, .int .i64 0, .int .i64 0, .slice Option.none 0 0] 37 (0, 0)) := by rw [hW, hg]; exact block_in (heap_alloc_new _ _) (below_alloc _ _)
  have hgb2 : W.heap[g + 1]? = some (.cells #[.int .i64 0, .int .i64 0, .string ⟨#[]⟩, .slice Option.none 0 0] 28 (0, 0)) := by rw [hW, hg]; exact heap_alloc_at (by simp)
  have hsz : W.heap.size = g + 1 + 1 := by rw [hW, hg]; simp
  have HC := Lib.hid (hC.below hbW)
  have HL := Lib.hid hC.1
  have HW := Lib.hid hW
  have HG := Lib.hid hg
  have HBW := Lib.hid hbW
  have HGB := Lib.hid hgb
  have HGB2 := Lib.hid hgb2
  have HSZ := Lib.hid hsz
  clear hW hg hbW hgb hgb2 hsz
  go_enter Try.func14, Try.ntmps14
  go_wp2_with fail
  rw [← HW.out, ← HG.out]
  refine (l20Open_any HBW.out.size HC.out hq HL.out).mono ?_
  rintro e w1 ⟨rfl, hR, hb⟩
  have HB1 := Lib.hid (ext_trans HBW.out hb)
  have HBb := Lib.hid hb
  have HLT := Lib.hid hR.lt
  obtain ⟨c, hc⟩ : ∃ c : Ctx, c = ⟨w1.heap.size, W.heap.size, w.heap.size, undef, 0⟩ := ⟨_, rfl⟩
  have hR1 : RdrT w1 c.br c.cb 0 := by rw [hc]; exact ⟨0, by omega, by omega, hR⟩
  have hcB : c.B = w1.heap.size := by rw [hc]
  have hcr : c.br = W.heap.size := by rw [hc]
  have hcc : c.cb = w.heap.size := by rw [hc]
  have HCC : Hid (c.B = w1.heap.size ∧ c.br = W.heap.size ∧ c.cb = w.heap.size ∧ c.cb ≤ c.B) := Lib.hid ⟨hcB, hcr, hcc, by rw [hcB, hcc]; exact HB1.out.size⟩
  have HX := Lib.hid (l20Things_d (c := c) (w := w1) (N := 0) (n := 14) (by rw [hcB]; exact Nat.le_refl _) HCC.out.2.2.2 hR1 (by decide) (by decide) (by decide))
  have hcp : Value.pointer (some ⟨W.heap.size, 0, Option.none⟩) = Value.pointer (some ⟨c.br, 0, Option.none⟩) := by rw [hcr]
  rw [hcp]
  clear hb hR hR1 hc hcp hcB hcr hcc
  go_wp2_with fail
  refine HX.out.mono ?_
  rintro e w2 ⟨A6, m6, q6, rfl, hm6, hd6, hR2, hg2⟩
  have HM6 := Lib.hid hm6
  have HD6 := Lib.hid hd6
  have HG2 := Lib.hid hg2
  have HX2 := Lib.hid (l20Request_d (c := c) (w := w2) (N := 0 + 40000) (m := m6) (q := q6) (n := 14) (A := A6) (Nat.le_trans (Nat.le_of_eq HCC.out.1) hg2.size) HCC.out.2.2.2 hR2 (by decide) hm6 (by decide) (by decide))
  clear HX hR2 hg2 hd6 hm6
  go_wp2_with fail
  refine HX2.out.mono ?_
  rintro e w3 ⟨who, act, what, Af, mf, qf, rfl, hdf, hR3, hg3⟩
  obtain ⟨g7, hg7⟩ : ∃ g, g = w3.heap.size := ⟨_, rfl⟩
  obtain ⟨X, hX⟩ : ∃ X, X = w3.alloc (.cells #[.int .i64 who, .int .i64 act, .int .i64 what, (.slice Af mf qf)] 37) := ⟨_, rfl⟩
  have hbX : Below w3.heap.size w3 X := by rw [hX]; exact below_alloc _ _
  have hsz7 : X.heap.size = g7 + 1 := by rw [hX, hg7]; simp
  have hcq : X.heap[g7]? = some (.cells #[.int .i64 who, .int .i64 act, .int .i64 what, (.slice Af mf qf)] 37 (0, 0)) := by rw [hX, hg7]; exact heap_alloc_new _ _
  have hEG : EvG c w g (g + 1) g7 := by
    have h1 := HCC.out.1
    have h2 := HCC.out.2.1
    have h3 := HCC.out.2.2.1
    have h4 := HBb.out.size
    have h5 := HG2.out.size
    have h6 := hg3.size
    have h7 := HSZ.out
    have h8 := HG.out
    have h9 := HLT.out
    exact { h3 := by omega, h4 := by omega, n3 := by omega, n4 := by omega, e34 := by omega, e3 := by omega, e4 := by omega, h7 := by omega, e7 := by omega, n0 := by omega, cb := by omega }
  have hb3 : Below w.heap.size w w3 := (HB1.out.grown HG2.out HB1.out.size (fun k e => by cases e; exact hEG.n0)).grown hg3 (Nat.le_trans HB1.out.size HG2.out.size) (fun k e => by cases e; exact hEG.n0)
  have hq3 : w3.heap[g]? = some (.cells #[.int .i64 0, .int .i64 0, .int .i64 0, .slice Option.none 0 0] 37 (0, 0)) := block_other (block_other (block_below HGB.out HBb.out) HG2.out (fun e => hEG.e3 (Option.some.inj e).symm)) hg3 (fun e => hEG.e3 (Option.some.inj e).symm)
  have hq4 : w3.heap[g + 1]? = some (.cells #[.int .i64 0, .int .i64 0, .string ⟨#[]⟩, .slice Option.none 0 0] 28 (0, 0)) := block_other (block_other (block_below HGB2.out HBb.out) HG2.out (fun e => hEG.e4 (Option.some.inj e).symm)) hg3 (fun e => hEG.e4 (Option.some.inj e).symm)
  have hEI : EvI c w g (g + 1) g7 who act what (.slice Af mf qf) (.slice A6 m6 q6) 60000 X :=
    { hb := ext_trans hb3 hbX, d6 := cden_stay th_ok (cden_stay th_ok HD6.out hg3 (fun j e => by cases e; exact .inl rfl)) (grown_of_below hbX Option.none) (fun j e => by cases e), df := cden_stay rq_ok2 hdf (grown_of_below hbX Option.none) (fun j e => by cases e), b7 := hcq, rd := (hR3.below hbX).mono (by decide), sz := by
        have h1 := HCC.out.1
        have h5 := HG2.out.size
        have h6 := hg3.size
        omega
      b3 := ⟨_, _, _, _, block_below hq3 hbX⟩, b4 := ⟨_, _, _, _, block_below hq4 hbX⟩ }
  have HEG := Lib.hid hEG
  have HEI := Lib.hid hEI
  have HXX := Lib.hid hX
  have HG7 := Lib.hid hg7
  clear hEG hEI hX hg7 hb3 hq3 hq4 hcq hsz7 hbX hR3 hg3 hdf HX2
  go_wp2_with fail
  rw [← HXX.out, ← HG7.out]
  refine wp_region_draws2L Option.none (fun c => c == 5 || c == 6) 1 16 (fun _ => True) (fun i u wz => match i with | 5 => wz.heap[g]? = some (.cells #[.int .i64 who, .int .i64 act, .int .i64 what, (.slice Af mf qf)] 37 (0, 0)) | 6 => ExH c (g + 1) wz | _ => True)
    (fun i u wz vz => match i with | 0 => vz = .slice A6 m6 q6 | 1 => vz = .agg #[.int .i64 who, .int .i64 act, .int .i64 what, (.slice Af mf qf)] | 2 => vz = .pointer (some ⟨c.br, 0, Option.none⟩) | 3 => ExDv c wz vz | 4 => vz = .slice A6 m6 q6 | _ => True)
    (fun k wz => EvI c w g (g + 1) g7 who act what (.slice Af mf qf) (.slice A6 m6 q6) (60000 + 1000000 * k) wz) (fun i wa wb => wa.grownBy wb (rowEv c g (g + 1) i)) (fun _ => Option.none) (by kernel_rfl) (by kernel_rfl) (by kernel_rfl) ?stab (fun _ _ _ _ _ _ _ => trivial) rfl ?hdm rfl ?hTu ?stabH ?inv trivial ?all ?fin
  case stab =>
    intro i j wa wb v hR _ _ _ _ _ u hT
    match j, hT with
    | 0, hT => exact hT
    | 1, hT => exact hT
    | 2, hT => exact hT
    | 3, hT => exact ExDv.grown hT hR (rowEv_ok HEG.out i)
    | 4, hT => exact hT
    | n + 5, _ => trivial
  case hdm =>
    intro x hx
    have h : x = 5 ∨ x = 6 := by simpa using hx
    rcases h with rfl | rfl
    · exact (show depB _ 5 1 = true from by kernel_rfl)
    · exact (show depB _ 6 1 = true from by kernel_rfl)
  case hTu =>
    intro i u u' wa v _ _ hT
    exact hT
  case stabH =>
    intro x i wa wb u hx hR hne hd h
    have hx2 : x = 5 ∨ x = 6 := by simpa using hx
    have hG := HEG.out
    rcases hx2 with rfl | rfl
    · refine block_other h hR ?_
      match i, hne with
      | 0, _ => exact fun e => by cases e
      | 1, _ => exact fun e => by cases e
      | 2, _ => exact fun e => by cases e
      | 3, _ => exact fun e => hG.e3 (Option.some.inj e).symm
      | 4, _ => exact fun e => by cases e
      | 5, hne => exact absurd rfl hne
      | 6, _ => exact fun e => hG.e34 (Option.some.inj e).symm
      | n + 7, _ => exact fun e => by cases e
    · refine ExH.grown h hR (rowEv_ok hG i) ?_
      match i, hne with
      | 0, _ => exact fun e => by cases e
      | 1, _ => exact fun e => by cases e
      | 2, _ => exact fun e => by cases e
      | 3, _ => exact fun e => hG.e4 (Option.some.inj e).symm
      | 4, _ => exact fun e => by cases e
      | 5, _ => exact fun e => hG.e34 (Option.some.inj e)
      | 6, hne => exact absurd rfl hne
      | n + 7, _ => exact fun e => by cases e
  case inv =>
    have h := HEI.out
    exact EvI.mono (N := 60000) (by
      have hd : Below X.heap.size X X.drew := ext_drew (Below.refl _ _)
      exact { h with hb := ext_trans h.hb hd, d6 := cden_stay th_ok h.d6 (grown_of_below hd Option.none) (fun j e => by cases e), df := cden_stay rq_ok2 h.df (grown_of_below hd Option.none) (fun j e => by cases e), rd := h.rd.below hd }) (by omega)
  case all =>
    refine RAllL.cons rfl ?_ (RAllL.cons rfl ?_ (RAllL.cons rfl ?_ (RAllL.cons rfl ?_ (RAllL.cons rfl ?_ (RAllL.cons rfl ?_ (RAllL.cons rfl ?_ (RAllL.none_)))))))
    · intro a k wa K Q _ hI hp hK0
      exact op_move _ (.inl rfl) (hK0 _ _ (hp.keep 6 (by kernel_rfl)) (World.grownBy.refl _ _) (hI.mono (by omega)) (fun e => absurd e (by decide)))
    · intro a k wa K Q _ hI hp hK0
      have e7 := tmp_of (show a.eval (.tmp 7) = .pointer (some ⟨g7, 0, Option.none⟩) from hp.keep 7 (by kernel_rfl))
      obtain ⟨x0, x1, x2, x3⟩ := cells4 hI.b7
      go_simp
      exact hK0 _ _ rfl (World.grownBy.refl _ _) (hI.mono (by omega)) (fun e => absurd e (by decide))
    · intro a k wa K Q _ hI hp hK0
      exact op_move _ (.inl rfl) (hK0 _ _ (hp.keep 5 (by kernel_rfl)) (World.grownBy.refl _ _) (hI.mono (by omega)) (fun e => absurd e (by decide)))
    · intro a k wa K Q hk hI hp hK0
      replace hk : k < 7 := hk
      have e17 := tmp_of (show a.eval (.tmp 17) = .pointer (some ⟨c.br, 0, Option.none⟩) from hp.dep 2 17 (by kernel_rfl))
      have HC2 := Lib.hid (l20Expr_d (c := c) (w := wa) (N := 60000 + 1000000 * k) (n := 6) hI.sz HCC.out.2.2.2 hI.rd (by omega) (by decide) (by decide))
      have HI := Lib.hid hI
      clear hI
      go_simp
      refine HC2.out.mono ?_
      rintro e wb ⟨t, A', q', rfl, hsh, hs, hd, hRb, hgb⟩
      exact hK0 _ _ ⟨t, A', q', rfl, hsh, hs, hd⟩ hgb ((HI.out.br HEG.out hgb hRb).mono (by omega)) (fun e => absurd e (by decide))
    · intro a k wa K Q _ hI hp hK0
      exact op_move _ (.inr rfl) (hK0 _ _ (hp.dep 0 15 (by kernel_rfl)) (World.grownBy.refl _ _) (hI.mono (by omega)) (fun e => absurd e (by decide)))
    · intro a k wa K Q _ hI hp hK0
      have e3 := tmp_of (show a.eval (.tmp 3) = .pointer (some ⟨g, 0, Option.none⟩) from hp.keep 3 (by kernel_rfl))
      have e16 := tmp_of (show a.eval (.tmp 16) = .agg #[.int .i64 who, .int .i64 act, .int .i64 what, (.slice Af mf qf)] from hp.dep 1 16 (by kernel_rfl))
      obtain ⟨hI2, hat⟩ := hI.s3 HEG.out (.int .i64 who) (.int .i64 act) (.int .i64 what) (.slice Af mf qf)
      obtain ⟨u0, u1, u2, u3, hbx⟩ := hI.b3
      obtain ⟨y0, y1, y2, y3⟩ := cells4 hbx
      obtain ⟨z0, z1, z2, z3⟩ := froz4 hbx
      have HS := Lib.hid (setCells_grown g [.int .i64 who, .int .i64 act, .int .i64 what, (.slice Af mf qf)] wa 0)
      have HI2 := Lib.hid hI2
      have HAT := Lib.hid hat
      clear hI hI2 hat hbx
      go_simp
      exact hK0 undef _ trivial HS.out (HI2.out.mono (by omega)) (fun _ => HAT.out)
    · intro a k wa K Q _ hI hp hK0
      have e4 := tmp_of (show a.eval (.tmp 4) = .pointer (some ⟨g + 1, 0, Option.none⟩) from hp.keep 4 (by kernel_rfl))
      obtain ⟨t, A', q', ev, hsh, hs, hd⟩ : ExDv c wa (a.eval (.tmp 18)) := hp.dep 3 18 (by kernel_rfl)
      have e18 := tmp_of ev
      obtain ⟨hI2, hat⟩ := hI.s4 HEG.out (.int .i64 t.k) (.int .i64 t.n) (.string t.s) (.slice A' t.ps.length q')
      obtain ⟨u0, u1, u2, u3, hbx⟩ := hI.b4
      obtain ⟨y0, y1, y2, y3⟩ := cells4 hbx
      obtain ⟨z0, z1, z2, z3⟩ := froz4 hbx
      have HS := Lib.hid (setCells_grown (g + 1) [.int .i64 t.k, .int .i64 t.n, .string t.s, .slice A' t.ps.length q'] wa 0)
      have HI2 := Lib.hid hI2
      have HH : Hid (ExH c (g + 1) (setCells wa (g + 1) 0 [.int .i64 t.k, .int .i64 t.n, .string t.s, .slice A' t.ps.length q'])) := Lib.hid ⟨t, A', q', hat, hsh, hs, hd.grown HS.out (fun k e => by cases e; exact .inr HEG.out.h4)⟩
      clear hI hI2 hat hbx hd hsh hs ev
      go_simp
      exact hK0 undef _ trivial HS.out (HI2.out.mono (by omega)) (fun _ => HH.out)
  case fin =>
    intro f w4 hT hI0 hH
    have hr4 : f 4 = .slice A6 m6 q6 := hT 4 (by decide) rfl rfl
    have h5 := hH 5 rfl (by decide)
    obtain ⟨t, C, ct, h6, hsh, hs, hd⟩ : ExH c (g + 1) w4 := hH 6 rfl (by decide)
    replace h5 : w4.heap[g]? = some (.cells #[.int .i64 who, .int .i64 act, .int .i64 what, (.slice Af mf qf)] 37 (0, 0)) := h5
    obtain ⟨W4, A, q4, e6, hWr, hWf⟩ := ths_of th_ok rfl rfl rfl (by decide) hI0.d6
    obtain ⟨fs, B, q5, e7, _, hFr, hFf⟩ := fds_of rq_ok2 rfl (by decide) hI0.df
    have HB4 := Lib.hid hI0.hb
    have HWR := Lib.hid hWr
    have HFR := Lib.hid hFr
    have HD := Lib.hid hd.w
    rw [e7] at h5
    rw [e6] at hr4
    obtain ⟨x0, x1, x2, x3⟩ := cells4 h5
    obtain ⟨y0, y1, y2, y3⟩ := cells4 h6
    clear hT hI0 hH h5 h6 hd hWr hFr e6 e7
    simp only [putAll, hr4]
    go_simp
    go_wp2
    exact bodyPost_ret (v := .tuple #[.slice A W4.length q4, .agg #[.int .i64 who, .int .i64 act, .int .i64 what, .slice B fs.length q5], .agg #[.int .i64 t.k, .int .i64 t.n, .string t.s, .slice C t.ps.length ct]]) (by simp [results, go_sem, x0, x1, x2, x3, y0, y1, y2, y3]) rfl ⟨W4, ⟨who, act, what, fs⟩, t, A, B, C, q4, q5, ct, rfl, HWR.out, hWf, HFR.out, hFf, HD.out, hsh, hs, HB4.out⟩
end Go.Proofs.Ytodjokdaofefdaa
/- The law of Evaluate, walked. -/
namespace Go.Proofs.Ytodjokdaofefdaa
set_option linter.unusedSimpArgs false
set_option linter.unusedVariables false
open Go.RowKit

def lvNames : KdL := [(⟨#[108, 101, 118, 101, 108]⟩, 2), (⟨#[111, 119, 110, 101, 114]⟩, 3), (⟨#[111, 112, 101, 110]⟩, 1), (⟨#[97, 103, 101]⟩, 2), (⟨#[98, 111, 115, 115]⟩, 3)]
theorem lvNames_wf : WfKd lvNames := fun f hf => by
  simp only [lvNames, List.mem_cons, List.not_mem_nil, or_false] at hf
  rcases hf with rfl | rfl | rfl | rfl | rfl <;> decide
theorem lvNames_rd (w : World) : kdR (w.alloc (.cells #[.string ⟨#[108, 101, 118, 101, 108]⟩, .int .i64 2, .string ⟨#[111, 119, 110, 101, 114]⟩, .int .i64 3, .string ⟨#[111, 112, 101, 110]⟩, .int .i64 1, .string ⟨#[97, 103, 101]⟩, .int .i64 2, .string ⟨#[98, 111, 115, 115]⟩, .int .i64 3] 84)) (some ⟨w.heap.size, 0, none⟩) lvNames :=
  kdR.own (B := w.heap.size) (n := 5) (c := 5) (e := 84) rfl (by decide) (own_fresh (cs := #[.string ⟨#[108, 101, 118, 101, 108]⟩, .int .i64 2, .string ⟨#[111, 119, 110, 101, 114]⟩, .int .i64 3, .string ⟨#[111, 112, 101, 110]⟩, .int .i64 1, .string ⟨#[97, 103, 101]⟩, .int .i64 2, .string ⟨#[98, 111, 115, 115]⟩, .int .i64 3]) (Nat.le_refl _) rfl (by decide))
set_option maxRecDepth 100000 in
set_option maxHeartbeats 8000000 in
theorem lawEvaluate {A : Option Addr} {l : List Int} {q : Nat} {w : World} (hC : CodeR w w.heap.size A l) (hq : l.length ≤ q) :
    Calls Try.prog 10 #[.slice A l.length q] w fun e w' => e = .returned (.bool true) ∧ Below w.heap.size w w' := by
  have hl := hC.1
  by_cases hlong : 1048576 < l.length
  · go_enter Try.func10, Try.ntmps10
    go_wp2
    go_ret
    exact ⟨rfl, Below.refl _ _⟩
  go_enter Try.func10, Try.ntmps10
  go_wp2_with fail
  refine (drawEvaluate_d hC hq).mono ?_
  rintro e w1 ⟨W, r, t, A3, B, C, cw, c2, ct, rfl, hW, hwf, hF, hff, hE, hsh, hsz, hB⟩
  unfold rqV
  have hin : inD 6 t := exS_in hE
  have hcn : cntS 5 t.ps ≤ 2097152 := by have := shE_cnt 5 5 _ hsh; omega
  have hs : t.s.size ≤ 9223372036854775807 := by omega
  obtain ⟨v, hv⟩ : ∃ v, evX 5 W r t = v := ⟨_, rfl⟩
  have hz0 := evX_zero 5 W r t
  have hval := evX_val (W := W) (r := r) hin
  have hlaw := @evX_law 5 (lvNames, lvNames) W r t hin
  rw [hv] at hz0 hval hlaw
  obtain ⟨kd, hkd⟩ : ∃ k, koX 5 (lvNames, lvNames) t = k := ⟨_, rfl⟩
  obtain ⟨gu, hgu⟩ : ∃ k, guOk 5 t = k := ⟨_, rfl⟩
  obtain ⟨th, hth⟩ : ∃ k, thX 5 t = k := ⟨_, rfl⟩
  obtain ⟨cf, hcf⟩ : ∃ k, cfB (lvNames, lvNames) W r = k := ⟨_, rfl⟩
  rw [hkd, hgu, hth, hcf] at hlaw
  obtain ⟨x, y, f⟩ := v
  have HI : Hid (∀ (v : World), wlR v A3 W → fdR v B r.fs → exW 5 v C t.ps → Calls Try.prog 44 #[.slice A3 W.length cw, .agg #[.int .i64 r.who, .int .i64 r.act, .int .i64 r.what, .slice B r.fs.length c2], .agg #[.int .i64 t.k, .int .i64 t.n, .string t.s, .slice C t.ps.length ct]] v fun e w' => e = .returned (.tuple #[.agg #[.int .i64 x, .int .i64 y], .int .i64 f]) ∧ Below v.heap.size v w') := Lib.hid (fun u g1 g2 g3 => by have := implEvaluate (c := cw) (c2 := c2) (ct := ct) g1 hwf g2 hff g3 hs; rw [hv] at this; exact this)
  have HSP : Hid (∀ (v : World), wlR v A3 W → fdR v B r.fs → exW 5 v C t.ps → Calls Try.prog 45 #[.slice A3 W.length cw, .agg #[.int .i64 r.who, .int .i64 r.act, .int .i64 r.what, .slice B r.fs.length c2], .agg #[.int .i64 t.k, .int .i64 t.n, .string t.s, .slice C t.ps.length ct]] v fun e w' => e = .returned (.tuple #[.agg #[.int .i64 x, .int .i64 y], .int .i64 f]) ∧ Below v.heap.size v w') := Lib.hid (fun u g1 g2 g3 => by have := specEvaluate (c := cw) (c2 := c2) (ct := ct) g1 hwf g2 hff g3 hs hcn; rw [hv] at this; exact this)
  have HKO : Hid (∀ (g : Nat) (v : World), kdR v (some ⟨g, 0, none⟩) lvNames → exW 5 v C t.ps → Calls Try.prog 18 #[.agg #[.slice (some ⟨g, 0, none⟩) 5 5, .slice (some ⟨g, 0, none⟩) 5 5], .agg #[.int .i64 t.k, .int .i64 t.n, .string t.s, .slice C t.ps.length ct]] v fun e w' => e = .returned (.int .i64 kd) ∧ Below v.heap.size v w') := Lib.hid (fun g u g1 g2 => hkd ▸ implKindOf (s := (lvNames, lvNames)) ⟨g1, g1⟩ ⟨lvNames_wf, lvNames_wf⟩ (by decide) (by decide) g2 hs)
  have HCF : Hid (∀ (g : Nat) (v : World), kdR v (some ⟨g, 0, none⟩) lvNames → wlR v A3 W → fdR v B r.fs → Calls Try.prog 15 #[.agg #[.slice (some ⟨g, 0, none⟩) 5 5, .slice (some ⟨g, 0, none⟩) 5 5], .slice A3 W.length cw, .agg #[.int .i64 r.who, .int .i64 r.act, .int .i64 r.what, .slice B r.fs.length c2]] v fun e w' => e = .returned (.bool cf) ∧ Below v.heap.size v w') := Lib.hid (fun g u g1 g2 g3 => hcf ▸ implConforms (s := (lvNames, lvNames)) ⟨g1, g1⟩ ⟨lvNames_wf, lvNames_wf⟩ (by decide) (by decide) g2 hwf g3 hff)
  have HGU : Hid (∀ (v : World), exW 5 v C t.ps → Calls Try.prog 17 #[.agg #[.int .i64 t.k, .int .i64 t.n, .string t.s, .slice C t.ps.length ct]] v fun e w' => e = .returned (.bool gu) ∧ Below v.heap.size v w') := Lib.hid (fun u g1 => hgu ▸ implGuarded g1 hs)
  have HTH : Hid (∀ (v : World), exW 5 v C t.ps → Calls Try.prog 47 #[.agg #[.int .i64 t.k, .int .i64 t.n, .string t.s, .slice C t.ps.length ct]] v fun e w' => e = .returned (.int .i64 th) ∧ Below v.heap.size v w') := Lib.hid (fun u g1 => hth ▸ implThingsUsed g1 hs)
  have HZ : Hid (f ≠ 0 → x = 0 ∧ y = 0) := Lib.hid hz0
  have HVL : Hid (f = 0 → vlB x y W.length = true) := Lib.hid hval
  have HLW : Hid (cf = true → kd ≠ 0 → ((f = 0 ∧ x = kd) ∨ f = 2 ∨ f = 3) ∧ (gu = true → f ≠ 2) ∧ (th < W.length → f ≠ 3)) := Lib.hid hlaw
  obtain ⟨X, hX⟩ : ∃ X, X = (w1.alloc (.cells #[.int .i64 r.who, .int .i64 r.act, .int .i64 r.what, .slice B r.fs.length c2] 37)).alloc (.cells #[.int .i64 t.k, .int .i64 t.n, .string t.s, .slice C t.ps.length ct] 28) := ⟨_, rfl⟩
  obtain ⟨g, hg⟩ : ∃ g, g = w1.heap.size := ⟨_, rfl⟩
  have hbX : Below w1.heap.size w1 X := by rw [hX]; (repeat (first | exact Below.refl _ _ | refine ext_alloc ?_ _ | refine Below.setCell ?_ (by simp) _))
  have hq1 : X.heap[g]? = some (.cells #[.int .i64 r.who, .int .i64 r.act, .int .i64 r.what, .slice B r.fs.length c2] 37 (0, 0)) := by rw [hX, hg]; exact block_in (heap_alloc_new _ _) (below_alloc _ _)
  have hq2 : X.heap[g + 1]? = some (.cells #[.int .i64 t.k, .int .i64 t.n, .string t.s, .slice C t.ps.length ct] 28 (0, 0)) := by rw [hX, hg]; exact heap_alloc_at (by simp)
  have hlen := hW.len
  have HB := Lib.hid (ext_trans hB hbX)
  have HW := Lib.hid (hW.below hbX)
  have HF := Lib.hid (hF.below hbX)
  have HU := Lib.hid (hE.below hbX)
  have HX := Lib.hid hX
  have HG := Lib.hid hg
  have HQ1 := Lib.hid hq1
  have HQ2 := Lib.hid hq2
  obtain ⟨p0, p1, p2, p3⟩ := cells4 hq1
  obtain ⟨q0, q1, q2, q3⟩ := cells4 hq2
  rw [hX, hg] at p0 p1 p2 p3 q0 q1 q2 q3
  clear hX hg hq1 hq2 hbX hB hW hwf hF hff hE hsh hsz hin hcn hs hv hz0 hval hlaw hkd hgu hth hcf hC hq hl hlong
  go_wp2_with fail
  rw [← HX.out, ← HG.out]
  refine (HI.out _ HW.out HF.out HU.out).mono ?_
  rintro e w2 ⟨rfl, hb⟩
  obtain ⟨g6, hg6⟩ : ∃ g, g = w2.heap.size := ⟨_, rfl⟩
  obtain ⟨Y, hY⟩ : ∃ X, X = w2.alloc (.cells #[.int .i64 x, .int .i64 y] 79) := ⟨_, rfl⟩
  have hb2 : Below w2.heap.size w2 Y := by rw [hY]; exact below_alloc _ _
  have hq6 : Y.heap[g6]? = some (.cells #[.int .i64 x, .int .i64 y] 79 (0, 0)) := by rw [hY, hg6]; exact heap_alloc_new _ _
  have HY := Lib.hid hY
  have HG6 := Lib.hid hg6
  have HQ6 := Lib.hid hq6
  replace hb := ext_trans hb hb2
  clear hY hg6 hq6 hb2
  have HB := Lib.hid (ext_trans HB.out hb)
  have HW := Lib.hid (HW.out.below hb)
  have HF := Lib.hid (HF.out.below hb)
  have HU := Lib.hid (HU.out.below hb)
  have HQ1 := Lib.hid (block_in HQ1.out hb)
  have HQ2 := Lib.hid (block_in HQ2.out hb)
  clear hb p0 p1 p2 p3 q0 q1 q2 q3
  obtain ⟨p0, p1, p2, p3⟩ := cells4 HQ1.out
  obtain ⟨q0, q1, q2, q3⟩ := cells4 HQ2.out
  rw [HY.out] at p0 p1 p2 p3 q0 q1 q2 q3
  go_wp2_with fail
  rw [← HY.out, ← HG6.out]
  refine (HSP.out _ HW.out HF.out HU.out).mono ?_
  rintro e w3 ⟨rfl, hb⟩
  obtain ⟨g8, hg8⟩ : ∃ g, g = w3.heap.size := ⟨_, rfl⟩
  obtain ⟨Z, hZ⟩ : ∃ X, X = w3.alloc (.cells #[.int .i64 x, .int .i64 y] 79) := ⟨_, rfl⟩
  have hb2 : Below w3.heap.size w3 Z := by rw [hZ]; exact below_alloc _ _
  have hq8 : Z.heap[g8]? = some (.cells #[.int .i64 x, .int .i64 y] 79 (0, 0)) := by rw [hZ, hg8]; exact heap_alloc_new _ _
  have HZW := Lib.hid hZ
  have HG8 := Lib.hid hg8
  have HQ8 := Lib.hid hq8
  replace hb := ext_trans hb hb2
  clear hZ hg8 hq8 hb2
  have HB := Lib.hid (ext_trans HB.out hb)
  have HW := Lib.hid (HW.out.below hb)
  have HF := Lib.hid (HF.out.below hb)
  have HU := Lib.hid (HU.out.below hb)
  have HQ1 := Lib.hid (block_in HQ1.out hb)
  have HQ2 := Lib.hid (block_in HQ2.out hb)
  have HQ6 := Lib.hid (block_in HQ6.out hb)
  clear hb p0 p1 p2 p3 q0 q1 q2 q3
  obtain ⟨p0, p1, p2, p3⟩ := cells4 HQ1.out
  obtain ⟨q0, q1, q2, q3⟩ := cells4 HQ2.out
  obtain ⟨u0, u1⟩ := cells2 HQ6.out
  obtain ⟨v0, v1⟩ := cells2 HQ8.out
  rw [HZW.out] at p0 p1 p2 p3 q0 q1 q2 q3 u0 u1 v0 v1
  rw [HG8.out] at v0 v1
  have hxx : (x == x) = true := by simp
  have hyy : (y == y) = true := by simp
  have hff : (f != f) = false := by simp
  by_cases e1 : f = 0
  · subst e1
    have HV := Lib.hid (HVL.out rfl)
    have hf0 : ((0 : Int) != 0) = false := rfl
    obtain ⟨kv, hkv⟩ : ∃ b, vlB x y W.length = b := ⟨_, rfl⟩
    go_wp2_with fail
    rw [← HZW.out]
    refine (implValueValid x y W.length _).mono ?_
    rintro e wq ⟨rfl, hb⟩
    rw [HV.out]
    clear v0 v1 HQ8 hkv HV
    have HB := Lib.hid (ext_trans HB.out hb)
    have HW := Lib.hid (HW.out.below hb)
    have HF := Lib.hid (HF.out.below hb)
    have HU := Lib.hid (HU.out.below hb)
    have HQ1 := Lib.hid (block_in HQ1.out hb)
    have HQ2 := Lib.hid (block_in HQ2.out hb)
    have HQ6 := Lib.hid (block_in HQ6.out hb)
    clear hb p0 p1 p2 p3 q0 q1 q2 q3 u0 u1
    obtain ⟨p0, p1, p2, p3⟩ := cells4 HQ1.out
    obtain ⟨q0, q1, q2, q3⟩ := cells4 HQ2.out
    obtain ⟨u0, u1⟩ := cells2 HQ6.out
    obtain ⟨gs, hgs⟩ : ∃ g, g = wq.heap.size := ⟨_, rfl⟩
    have hkr := lvNames_rd wq
    rw [← hgs] at hkr
    obtain ⟨V1, hV1⟩ : ∃ X, X = wq.alloc (.cells #[.string ⟨#[108, 101, 118, 101, 108]⟩, .int .i64 2, .string ⟨#[111, 119, 110, 101, 114]⟩, .int .i64 3, .string ⟨#[111, 112, 101, 110]⟩, .int .i64 1, .string ⟨#[97, 103, 101]⟩, .int .i64 2, .string ⟨#[98, 111, 115, 115]⟩, .int .i64 3] 84) := ⟨_, rfl⟩
    rw [← hV1] at hkr
    have hbA : Below wq.heap.size wq V1 := by rw [hV1]; exact below_alloc _ _
    have hsA : V1.heap.size = gs + 1 := by rw [hV1, hgs]; simp
    obtain ⟨V2, hV2⟩ : ∃ X, X = V1.alloc (.cells #[.slice (some ⟨gs, 0, none⟩) 5 5, .slice (some ⟨gs, 0, none⟩) 5 5] 25) := ⟨_, rfl⟩
    have hbB : Below V1.heap.size V1 V2 := by rw [hV2]; exact below_alloc _ _
    have hqs : V2.heap[gs + 1]? = some (.cells #[.slice (some ⟨gs, 0, none⟩) 5 5, .slice (some ⟨gs, 0, none⟩) 5 5] 25 (0, 0)) := by rw [hV2, ← hsA]; exact heap_alloc_new _ _
    have hb := ext_trans hbA hbB
    have HV1 := Lib.hid hV1
    have HV2 := Lib.hid hV2
    have HGS := Lib.hid hgs
    have HSA := Lib.hid hsA
    have HQS := Lib.hid hqs
    have HKR := Lib.hid (hkr.below hbB)
    clear hkr hbA hbB hqs hV1 hV2 hgs hsA
    have HB := Lib.hid (ext_trans HB.out hb)
    have HW := Lib.hid (HW.out.below hb)
    have HF := Lib.hid (HF.out.below hb)
    have HU := Lib.hid (HU.out.below hb)
    have HQ1 := Lib.hid (block_in HQ1.out hb)
    have HQ2 := Lib.hid (block_in HQ2.out hb)
    have HQ6 := Lib.hid (block_in HQ6.out hb)
    clear hb p0 p1 p2 p3 q0 q1 q2 q3 u0 u1
    obtain ⟨p0, p1, p2, p3⟩ := cells4 HQ1.out
    obtain ⟨q0, q1, q2, q3⟩ := cells4 HQ2.out
    obtain ⟨u0, u1⟩ := cells2 HQ6.out
    obtain ⟨s0, s1⟩ := cells2 HQS.out
    rw [HV2.out, HV1.out, HGS.out] at p0 p1 p2 p3 q0 q1 q2 q3 u0 u1 s0 s1
    go_wp2_with fail
    rw [← HGS.out, ← HV1.out, ← HV2.out]
    refine (HKO.out gs _ HKR.out HU.out).mono ?_
    rintro e w5 ⟨rfl, hb⟩
    have HQS := Lib.hid (block_in HQS.out hb)
    have HKR := Lib.hid (HKR.out.below hb)
    have HB := Lib.hid (ext_trans HB.out hb)
    have HW := Lib.hid (HW.out.below hb)
    have HF := Lib.hid (HF.out.below hb)
    have HU := Lib.hid (HU.out.below hb)
    have HQ1 := Lib.hid (block_in HQ1.out hb)
    have HQ2 := Lib.hid (block_in HQ2.out hb)
    have HQ6 := Lib.hid (block_in HQ6.out hb)
    clear hb p0 p1 p2 p3 q0 q1 q2 q3 u0 u1 s0 s1
    obtain ⟨p0, p1, p2, p3⟩ := cells4 HQ1.out
    obtain ⟨q0, q1, q2, q3⟩ := cells4 HQ2.out
    obtain ⟨u0, u1⟩ := cells2 HQ6.out
    obtain ⟨s0, s1⟩ := cells2 HQS.out
    go_wp2_with fail
    refine (HCF.out gs _ HKR.out HW.out HF.out).mono ?_
    rintro e w6 ⟨rfl, hb⟩
    clear s0 s1 HQS HKR HV1 HV2
    have HB := Lib.hid (ext_trans HB.out hb)
    have HW := Lib.hid (HW.out.below hb)
    have HF := Lib.hid (HF.out.below hb)
    have HU := Lib.hid (HU.out.below hb)
    have HQ1 := Lib.hid (block_in HQ1.out hb)
    have HQ2 := Lib.hid (block_in HQ2.out hb)
    have HQ6 := Lib.hid (block_in HQ6.out hb)
    clear hb p0 p1 p2 p3 q0 q1 q2 q3 u0 u1
    obtain ⟨p0, p1, p2, p3⟩ := cells4 HQ1.out
    obtain ⟨q0, q1, q2, q3⟩ := cells4 HQ2.out
    obtain ⟨u0, u1⟩ := cells2 HQ6.out
    cases cf
    · skip
      go_wp2_with fail
      refine (alive_any _).mono ?_
      rintro e w7 ⟨rfl, hb⟩
      have HB := Lib.hid (ext_trans HB.out hb)
      clear hb
      go_wp2
      go_ret
      exact ⟨rfl, HB.out⟩
    · by_cases ek : kd = 0
      · have gk : (kd == 0) = true := by simpa using ek
        clear ek
        go_wp2_with fail
        refine (alive_any _).mono ?_
        rintro e w7 ⟨rfl, hb⟩
        have HB := Lib.hid (ext_trans HB.out hb)
        clear hb
        go_wp2
        go_ret
        exact ⟨rfl, HB.out⟩
      · have gk : (kd == 0) = false := by simpa using ek
        obtain ⟨k1, k2, k3⟩ := HLW.out rfl ek
        have K2 := Lib.hid k2
        have K3 := Lib.hid k3
        have fin : ∀ {P : Prop}, P → P := fun h => h
        clear ek k2 k3
        rcases k1 with ⟨_, rfl⟩ | h | h
        · skip
          have hkk : (x == x) = true := by simp
          go_wp2_with fail
          refine (HGU.out _ HU.out).mono ?_
          rintro e w7 ⟨rfl, hb⟩
          have HB := Lib.hid (ext_trans HB.out hb)
          have HW := Lib.hid (HW.out.below hb)
          have HF := Lib.hid (HF.out.below hb)
          have HU := Lib.hid (HU.out.below hb)
          have HQ1 := Lib.hid (block_in HQ1.out hb)
          have HQ2 := Lib.hid (block_in HQ2.out hb)
          have HQ6 := Lib.hid (block_in HQ6.out hb)
          clear hb p0 p1 p2 p3 q0 q1 q2 q3 u0 u1
          obtain ⟨p0, p1, p2, p3⟩ := cells4 HQ1.out
          obtain ⟨q0, q1, q2, q3⟩ := cells4 HQ2.out
          obtain ⟨u0, u1⟩ := cells2 HQ6.out
          cases gu
          all_goals
            go_wp2_with fail
            refine (HTH.out _ HU.out).mono ?_
            rintro e w8 ⟨rfl, hb⟩
            have HB := Lib.hid (ext_trans HB.out hb)
            clear hb p0 p1 p2 p3 q0 q1 q2 q3 u0 u1
            cases gt : decide ((W.length : Int) ≤ th)
            all_goals
              go_wp2
              go_ret
              exact ⟨rfl, HB.out⟩
        · cases h
        · cases h
  · have gf : (f != 0) = true := by simpa using e1
    have gf2 : (f == 0) = false := by simpa using e1
    obtain ⟨hx0, hy0⟩ := HZ.out e1
    subst hx0
    subst hy0
    obtain ⟨wq, hwq⟩ : ∃ X, X = Z := ⟨_, rfl⟩
    have HWQ := Lib.hid hwq
    have y0 := u0
    have y1 := u1
    clear HQ8
    rw [← hwq] at HB HW HF HU HQ1 HQ2 HQ6
    clear hwq
    obtain ⟨gs, hgs⟩ : ∃ g, g = wq.heap.size := ⟨_, rfl⟩
    have hkr := lvNames_rd wq
    rw [← hgs] at hkr
    obtain ⟨V1, hV1⟩ : ∃ X, X = wq.alloc (.cells #[.string ⟨#[108, 101, 118, 101, 108]⟩, .int .i64 2, .string ⟨#[111, 119, 110, 101, 114]⟩, .int .i64 3, .string ⟨#[111, 112, 101, 110]⟩, .int .i64 1, .string ⟨#[97, 103, 101]⟩, .int .i64 2, .string ⟨#[98, 111, 115, 115]⟩, .int .i64 3] 84) := ⟨_, rfl⟩
    rw [← hV1] at hkr
    have hbA : Below wq.heap.size wq V1 := by rw [hV1]; exact below_alloc _ _
    have hsA : V1.heap.size = gs + 1 := by rw [hV1, hgs]; simp
    obtain ⟨V2, hV2⟩ : ∃ X, X = V1.alloc (.cells #[.slice (some ⟨gs, 0, none⟩) 5 5, .slice (some ⟨gs, 0, none⟩) 5 5] 25) := ⟨_, rfl⟩
    have hbB : Below V1.heap.size V1 V2 := by rw [hV2]; exact below_alloc _ _
    have hqs : V2.heap[gs + 1]? = some (.cells #[.slice (some ⟨gs, 0, none⟩) 5 5, .slice (some ⟨gs, 0, none⟩) 5 5] 25 (0, 0)) := by rw [hV2, ← hsA]; exact heap_alloc_new _ _
    have hb := ext_trans hbA hbB
    have HV1 := Lib.hid hV1
    have HV2 := Lib.hid hV2
    have HGS := Lib.hid hgs
    have HSA := Lib.hid hsA
    have HQS := Lib.hid hqs
    have HKR := Lib.hid (hkr.below hbB)
    clear hkr hbA hbB hqs hV1 hV2 hgs hsA
    have HB := Lib.hid (ext_trans HB.out hb)
    have HW := Lib.hid (HW.out.below hb)
    have HF := Lib.hid (HF.out.below hb)
    have HU := Lib.hid (HU.out.below hb)
    have HQ1 := Lib.hid (block_in HQ1.out hb)
    have HQ2 := Lib.hid (block_in HQ2.out hb)
    have HQ6 := Lib.hid (block_in HQ6.out hb)
    clear hb p0 p1 p2 p3 q0 q1 q2 q3 u0 u1
    obtain ⟨p0, p1, p2, p3⟩ := cells4 HQ1.out
    obtain ⟨q0, q1, q2, q3⟩ := cells4 HQ2.out
    obtain ⟨u0, u1⟩ := cells2 HQ6.out
    obtain ⟨s0, s1⟩ := cells2 HQS.out
    have HGS := Lib.hid (show gs = w3.heap.size + 1 by rw [HGS.out, HWQ.out, HZW.out]; simp)
    rw [HV2.out, HV1.out, HWQ.out, HZW.out, HGS.out] at p0 p1 p2 p3 q0 q1 q2 q3 u0 u1 s0 s1
    go_wp2_with fail
    rw [← HGS.out, ← HZW.out, ← HWQ.out, ← HV1.out, ← HV2.out]
    refine (HKO.out gs _ HKR.out HU.out).mono ?_
    rintro e w5 ⟨rfl, hb⟩
    have HQS := Lib.hid (block_in HQS.out hb)
    have HKR := Lib.hid (HKR.out.below hb)
    have HB := Lib.hid (ext_trans HB.out hb)
    have HW := Lib.hid (HW.out.below hb)
    have HF := Lib.hid (HF.out.below hb)
    have HU := Lib.hid (HU.out.below hb)
    have HQ1 := Lib.hid (block_in HQ1.out hb)
    have HQ2 := Lib.hid (block_in HQ2.out hb)
    have HQ6 := Lib.hid (block_in HQ6.out hb)
    clear hb p0 p1 p2 p3 q0 q1 q2 q3 u0 u1 s0 s1 y0 y1 v0 v1
    obtain ⟨p0, p1, p2, p3⟩ := cells4 HQ1.out
    obtain ⟨q0, q1, q2, q3⟩ := cells4 HQ2.out
    obtain ⟨u0, u1⟩ := cells2 HQ6.out
    obtain ⟨s0, s1⟩ := cells2 HQS.out
    go_wp2_with fail
    refine (HCF.out gs _ HKR.out HW.out HF.out).mono ?_
    rintro e w6 ⟨rfl, hb⟩
    clear s0 s1 HQS HKR HV1 HV2
    have HB := Lib.hid (ext_trans HB.out hb)
    have HW := Lib.hid (HW.out.below hb)
    have HF := Lib.hid (HF.out.below hb)
    have HU := Lib.hid (HU.out.below hb)
    have HQ1 := Lib.hid (block_in HQ1.out hb)
    have HQ2 := Lib.hid (block_in HQ2.out hb)
    have HQ6 := Lib.hid (block_in HQ6.out hb)
    clear hb p0 p1 p2 p3 q0 q1 q2 q3 u0 u1
    obtain ⟨p0, p1, p2, p3⟩ := cells4 HQ1.out
    obtain ⟨q0, q1, q2, q3⟩ := cells4 HQ2.out
    obtain ⟨u0, u1⟩ := cells2 HQ6.out
    cases cf
    · skip
      go_wp2_with fail
      refine (alive_any _).mono ?_
      rintro e w7 ⟨rfl, hb⟩
      have HB := Lib.hid (ext_trans HB.out hb)
      clear hb
      go_wp2
      go_ret
      exact ⟨rfl, HB.out⟩
    · by_cases ek : kd = 0
      · have gk : (kd == 0) = true := by simpa using ek
        clear ek
        go_wp2_with fail
        refine (alive_any _).mono ?_
        rintro e w7 ⟨rfl, hb⟩
        have HB := Lib.hid (ext_trans HB.out hb)
        clear hb
        go_wp2
        go_ret
        exact ⟨rfl, HB.out⟩
      · have gk : (kd == 0) = false := by simpa using ek
        obtain ⟨k1, k2, k3⟩ := HLW.out rfl ek
        have K2 := Lib.hid k2
        have K3 := Lib.hid k3
        have fin : ∀ {P : Prop}, P → P := fun h => h
        clear ek k2 k3
        rcases k1 with ⟨h, _⟩ | rfl | rfl
        · exact absurd h e1
        · skip
          go_wp2_with fail
          refine (HGU.out _ HU.out).mono ?_
          rintro e w7 ⟨rfl, hb⟩
          have HB := Lib.hid (ext_trans HB.out hb)
          have HW := Lib.hid (HW.out.below hb)
          have HF := Lib.hid (HF.out.below hb)
          have HU := Lib.hid (HU.out.below hb)
          have HQ1 := Lib.hid (block_in HQ1.out hb)
          have HQ2 := Lib.hid (block_in HQ2.out hb)
          have HQ6 := Lib.hid (block_in HQ6.out hb)
          clear hb p0 p1 p2 p3 q0 q1 q2 q3 u0 u1
          obtain ⟨p0, p1, p2, p3⟩ := cells4 HQ1.out
          obtain ⟨q0, q1, q2, q3⟩ := cells4 HQ2.out
          obtain ⟨u0, u1⟩ := cells2 HQ6.out
          cases gu
          · skip
            go_wp2_with fail
            refine (HTH.out _ HU.out).mono ?_
            rintro e w8 ⟨rfl, hb⟩
            have HB := Lib.hid (ext_trans HB.out hb)
            clear hb p0 p1 p2 p3 q0 q1 q2 q3 u0 u1
            cases gt : decide ((W.length : Int) ≤ th)
            all_goals
              go_wp2
              go_ret
              exact ⟨rfl, HB.out⟩
          · exact absurd rfl (K2.out rfl)
        · skip
          go_wp2_with fail
          refine (HGU.out _ HU.out).mono ?_
          rintro e w7 ⟨rfl, hb⟩
          have HB := Lib.hid (ext_trans HB.out hb)
          have HW := Lib.hid (HW.out.below hb)
          have HF := Lib.hid (HF.out.below hb)
          have HU := Lib.hid (HU.out.below hb)
          have HQ1 := Lib.hid (block_in HQ1.out hb)
          have HQ2 := Lib.hid (block_in HQ2.out hb)
          have HQ6 := Lib.hid (block_in HQ6.out hb)
          clear hb p0 p1 p2 p3 q0 q1 q2 q3 u0 u1
          obtain ⟨p0, p1, p2, p3⟩ := cells4 HQ1.out
          obtain ⟨q0, q1, q2, q3⟩ := cells4 HQ2.out
          obtain ⟨u0, u1⟩ := cells2 HQ6.out
          cases gu
          all_goals
            go_wp2_with fail
            refine (HTH.out _ HU.out).mono ?_
            rintro e w8 ⟨rfl, hb⟩
            have HB := Lib.hid (ext_trans HB.out hb)
            clear hb p0 p1 p2 p3 q0 q1 q2 q3 u0 u1
            have gt : decide ((W.length : Int) ≤ th) = true := by
              by_cases h : th < W.length
              · exact absurd rfl (K3.out h)
              · simpa using h
            go_wp2
            go_ret
            exact ⟨rfl, HB.out⟩
end Go.Proofs.Ytodjokdaofefdaa

/- Guards that are added, by the program: the library's range over a list from its end. -/
import Derived.Test.YtodjokdaofefdaaQ17
import Derived.RangeFuncNested
import Derived.RangeFuncBound
import Derived.RangeFuncCalls
import Derived.RangeFuncLeaves
import Derived.Shelf.Abstract
import Derived.OwnWalkIn
import Derived.TacticsInMore
import Derived.LoopNIn
import Derived.LoopIn
namespace Go.Proofs.Ytodjokdaofefdaa
set_option linter.unusedSimpArgs false
set_option linter.unusedVariables false
open Go.RowKit Go.Shelf
attribute [local go_sem] Oper.semAt_some

/-- What has come when k rounds are over. -/
def bkL {α : Type} (f : Nat → α) (len k : Nat) : List α := (List.range k).map fun m => f (len - 1 - m)
theorem bkL_succ {α : Type} (f : Nat → α) (len k : Nat) : bkL f len (k + 1) = bkL f len k ++ [f (len - 1 - k)] := by simp [bkL, List.range_succ]
theorem bkL_length {α : Type} (f : Nat → α) (len k : Nat) : (bkL f len k).length = k := by simp [bkL]
set_option maxRecDepth 100000 in
set_option maxHeartbeats 4000000 in
theorem back1_in {α : Type} (F : Fence) (n : Nat) (h7 : F.fn 123) (hro : F.round = none) (hn : 1 ≤ n) (l Bs b off len cap : Nat) (A0 : Option Addr) (hA0 : 0 < len → A0 = some ⟨b, off, none⟩) (encs : α → Array Value) (f : Nat → α) (gl : ExL) (fA : Nat → Option Addr) (fc : Nat → Nat) (hlen : len ≤ 1048576)
    (he : ∀ j, j < len → encs (f j) = #[.int .i64 j, .agg #[.int .i64 (exAt gl j).k, .int .i64 (exAt gl j).n, .string (exAt gl j).s, .slice (fA j) (exAt gl j).ps.length (fc j)]])
    (Kp : World → World → Prop) (hKp : ∀ A B, Kp A B → ∀ q o, q = Bs ∨ q = b → B.cell? ⟨q, o, none⟩ = A.cell? ⟨q, o, none⟩) (J Jx : List α → World → Prop)
    (hY : ∀ pre x W, J pre W → pre.length < len → YieldAt F (n - 1) Try.prog l (encs x) W fun e W' =>
      (e = .returned (.bool true) ∧ J (pre ++ [x]) W' ∧ Kp W W') ∨ (e = .returned (.bool false) ∧ Jx (pre ++ [x]) W'))
    (W : World) (hBs : W.cell? ⟨Bs, 0, none⟩ = some (.slice A0 len cap))
    (hc : ∀ j, j < len → W.cell? ⟨b, off + j * 4, none⟩ = some (.int .i64 (exAt gl j).k) ∧ W.cell? ⟨b, off + j * 4 + 1, none⟩ = some (.int .i64 (exAt gl j).n) ∧ W.cell? ⟨b, off + j * 4 + 2, none⟩ = some (.string (exAt gl j).s) ∧ W.cell? ⟨b, off + j * 4 + 3, none⟩ = some (.slice (fA j) (exAt gl j).ps.length (fc j))) (h0 : J [] W) :
    CallsIn F n Try.prog 123 #[.func (.yield l) #[] #[], .pointer (some ⟨Bs, 0, none⟩)] W fun e W' => (∃ v, e = .returned v) ∧
      ((∃ ys, ys = bkL f len len ∧ J ys W') ∨ (∃ pre, True ∧ Jx pre W')) := by
  refine callsIn_of_wp Try.func123 rfl h7 ?_ hro
  simp only [Try.ntmps123, List.size_toArray, List.length_cons, List.length_nil, Nat.reduceAdd, Nat.reduceSub, Array.replicate_succ, Array.replicate_zero, List.push_toArray, List.append_toArray, List.nil_append, List.cons_append]
  gi_wp2
  gi_loopw [3] (fun i wr => ∃ k : Nat, k ≤ len ∧ i = .int .i64 ((len : Int) - 1 - k) ∧ J (bkL f len k) wr ∧ ∀ q o, q = Bs ∨ q = b → wr.cell? ⟨q, o, none⟩ = W.cell? ⟨q, o, none⟩)
    (fun i _ => (intOf i + 1).toNat)
  case atStart => exact ⟨0, Nat.zero_le _, by simp, h0, fun _ _ _ => rfl⟩
  case round =>
    obtain ⟨k, hk, rfl, hJs, hnx⟩ := hrel
    have hbs := (hnx Bs 0 (.inl rfl)).trans hBs
    by_cases hlt : k < len
    · obtain rfl := hA0 (by omega)
      obtain ⟨p, hp⟩ : ∃ p, p = len - 1 - k := ⟨_, rfl⟩
      have hpl : p < len := by omega
      have e1 : (len : Int) - 1 - k = (p : Int) := by omega
      rw [e1]
      obtain ⟨fn, tmps, assign, body, hy, hR⟩ := hY _ (f p) wr hJs (by rw [bkL_length]; exact hlt)
      rw [he p hpl] at hy
      obtain ⟨c0, c1, c2, c3⟩ := hc p hpl
      replace c0 := (hnx b _ (.inr rfl)).trans c0
      replace c1 := (hnx b _ (.inr rfl)).trans c1
      replace c2 := (hnx b _ (.inr rfl)).trans c2
      replace c3 := (hnx b _ (.inr rfl)).trans c3
      have HP := Lib.hid hp
      have HNX := Lib.hid hnx
      clear hp e1 hnx
      gi_wp2
      refine hR.mono ?_
      rintro e W3 (⟨rfl, hJ3, hk3⟩ | ⟨rfl, hJx3⟩)
      · gi_wp2
        go_roundw
        case rel => exact ⟨k + 1, by omega, by first | (congr 1; have := HP.out; omega) | (have := HP.out; congr 1; omega) | go_num, by rw [bkL_succ, ← HP.out]; exact hJ3, fun q o hq => (hKp _ _ hk3 q o hq).trans (HNX.out q o hq)⟩
        case measure => first | (simp [intOf]; done) | (simp [intOf]; omega)
      · gi_wp2
        refine bodyPost_ret (results_none rfl _ _ _) rfl ?_
        exact ⟨⟨_, rfl⟩, .inr ⟨_, trivial, hJx3⟩⟩
    · obtain rfl : k = len := by omega
      have e1 : (k : Int) - 1 - k = -1 := by omega
      rw [e1]
      gi_wp2
      go_end0
      exact ⟨⟨_, rfl⟩, .inl ⟨_, rfl, hJs⟩⟩
end Go.Proofs.Ytodjokdaofefdaa
/- Guards that are added, by the program: the whole. -/
namespace Go.Proofs.Ytodjokdaofefdaa
set_option linter.unusedSimpArgs false
set_option linter.unusedVariables false
open Go.RowKit Go.Shelf
attribute [local go_sem] Oper.semAt_some

set_option maxHeartbeats 1000000 in
theorem backward_any {A : Option Addr} {n c : Nat} {w : World} :
    Calls Try.prog 83 #[.slice A n c] w fun e w' => e = .returned (.func (.func 123) #[] #[.pointer (some ⟨w.heap.size, 0, none⟩)]) ∧ w' = w.alloc (.cells #[.slice A n c] 26) := by
  go_enter Try.func83, Try.ntmps83
  go_wp2
  go_ret
  exact ⟨rfl, rfl⟩
theorem po_cnt : ∀ (d : Nat) (t : Ex), (poL d t).length ≤ 1 + cntR d t
  | 0, t => by simp [poL]
  | d + 1, t => by
    rw [poL, cntR, List.length_append, List.length_singleton]
    have : ∀ l : ExL, (l.flatMap (poL d)).length ≤ l.length + (l.map (cntR d)).sum := by
      intro l
      induction l with
      | nil => simp
      | cons a l ih =>
        have := po_cnt d a
        simp only [List.flatMap_cons, List.length_append, List.length_cons, List.map_cons, List.sum_cons]
        omega
    have := this t.ps
    omega
/-- What the range hands over: an index, an expression and the slice of its parts, which stand below n0. -/
abbrev BkX (d n0 : Nat) (w : World) := { x : Int × Ex × Option Addr × Nat // exS d 0 n0 w x.2.2.1 x.2.1.ps ∧ x.2.1.s.size ≤ 9223372036854775807 }
def BkK (g : Nat) (A B : World) : Prop := Below g A B ∧ B.heap[g + 1]? = A.heap[g + 1]?
theorem bkK_t {g : Nat} {A B C : World} (h : BkK g A B) (k : BkK g B C) : BkK g A C := ⟨h.1.trans k.1, k.2.trans h.2⟩
theorem bkK_b {g : Nat} {w : World} (hn : g + 2 ≤ w.heap.size) (W : World) (l : Nat) (o o' : Obj) (hl : w.heap.size ≤ l) (h : W.heap[l]? = some o) : BkK g W (W.putObj l o') := by
  have hlt := (Array.getElem?_eq_some_iff.1 h).1
  have hg := grownBy_putObj' W l o'
  exact ⟨(Below.refl g W).grown hg (by omega) (fun k e => by cases e; omega), hg.block (g + 1) (by omega) (fun e => by cases e; omega)⟩
theorem bk_f {d n0 g : Nat} {w : World} {A : Option Addr} {L : ExL} (hg : 0 < g) (hr : RdL (exR (d + 1) 0 n0) 4 w A L) (hA : ∀ a, A = some a → 0 < L.length → a.block < g) :
    ∃ (b off : Nat) (f : Nat → BkX d n0 w), b < g ∧ (0 < L.length → A = some ⟨b, off, none⟩) ∧ ∀ j, j < L.length → (f j).1.1 = j ∧ (f j).1.2.1 = exAt L j ∧
      w.cell? ⟨b, off + j * 4, none⟩ = some (.int .i64 (exAt L j).k) ∧ w.cell? ⟨b, off + j * 4 + 1, none⟩ = some (.int .i64 (exAt L j).n) ∧ w.cell? ⟨b, off + j * 4 + 2, none⟩ = some (.string (exAt L j).s) ∧ w.cell? ⟨b, off + j * 4 + 3, none⟩ = some (.slice (f j).1.2.2.1 (exAt L j).ps.length (f j).1.2.2.2) := by
  have dflt : BkX d n0 w := ⟨(0, exD, Option.none, 0), exS.nil, by decide⟩
  rcases Nat.eq_zero_or_pos L.length with h0 | h0
  · exact ⟨0, 0, fun _ => dflt, hg, fun h => by omega, fun j hj => by omega⟩
  · obtain ⟨b, off, e, hc⟩ := hr.2 h0
    have h1 : ∀ j, ∃ x : BkX d n0 w, j < L.length → x.1.1 = j ∧ x.1.2.1 = exAt L j ∧
      w.cell? ⟨b, off + j * 4, none⟩ = some (.int .i64 (exAt L j).k) ∧ w.cell? ⟨b, off + j * 4 + 1, none⟩ = some (.int .i64 (exAt L j).n) ∧ w.cell? ⟨b, off + j * 4 + 2, none⟩ = some (.string (exAt L j).s) ∧ w.cell? ⟨b, off + j * 4 + 3, none⟩ = some (.slice x.1.2.2.1 (exAt L j).ps.length x.1.2.2.2) := by
      intro j
      by_cases hj : j < L.length
      · obtain ⟨cs, _, ⟨A', c', rfl, h2, h3, h4⟩, hv⟩ := hc j hj
        rw [← exAt_eq hj] at h2 h3 h4 hv
        exact ⟨⟨((j : Int), exAt L j, A', c'), ⟨h2, h3⟩, h4⟩, fun _ => ⟨rfl, rfl, hv 0 _ rfl, hv 1 _ rfl, hv 2 _ rfl, hv 3 _ rfl⟩⟩
      · exact ⟨dflt, fun h => absurd h hj⟩
    obtain ⟨f, hf⟩ := Classical.axiomOfChoice h1
    exact ⟨b, off, f, hA _ e h0, fun _ => e, hf⟩
theorem bk_stops {d n0 g b off cg : Nat} {A : Option Addr} {L : ExL} {w : World} (F : Fence) (n : Nat) (h7 : F.fn 123) (hro : F.round = none) (hn : 1 ≤ n) (hb : b < g) (hA0 : 0 < L.length → A = some ⟨b, off, none⟩) (f : Nat → BkX d n0 w) (hlen : L.length ≤ 1048576)
    (hf : ∀ j, j < L.length → (f j).1.1 = j ∧ (f j).1.2.1 = exAt L j ∧
      w.cell? ⟨b, off + j * 4, none⟩ = some (.int .i64 (exAt L j).k) ∧ w.cell? ⟨b, off + j * 4 + 1, none⟩ = some (.int .i64 (exAt L j).n) ∧ w.cell? ⟨b, off + j * 4 + 2, none⟩ = some (.string (exAt L j).s) ∧ w.cell? ⟨b, off + j * 4 + 3, none⟩ = some (.slice (f j).1.2.2.1 (exAt L j).ps.length (f j).1.2.2.2))
    (hB : w.heap[g + 1]? = some (.cells #[.slice A L.length cg] 26 (0, 0))) :
    SeqStopsK F n Try.prog 123 #[.pointer (some ⟨g + 1, 0, none⟩)] (fun x : BkX d n0 w => #[Value.int .i64 x.1.1, .agg #[.int .i64 x.1.2.1.k, .int .i64 x.1.2.1.n, .string x.1.2.1.s, .slice x.1.2.2.1 x.1.2.1.ps.length x.1.2.2.2]]) (BkK g) (fun ys => ys = bkL f L.length L.length) (fun _ => True) L.length w := fun l J Jx W hW _ _ hY h0 => by
  refine back1_in F n h7 hro hn l (g + 1) b off L.length cg A hA0 _ f L (fun j => (f j).1.2.2.1) (fun j => (f j).1.2.2.2) hlen (fun j hj => ?_) (BkK g) (fun X Y hk q o hq => ?_) J Jx hY W (below_cell hW (cell1 hB).1) (fun j hj => ?_) h0
  · obtain ⟨h1, h2, _⟩ := hf j hj
    show #[Value.int .i64 (f j).1.1, .agg #[.int .i64 (f j).1.2.1.k, .int .i64 (f j).1.2.1.n, .string (f j).1.2.1.s, .slice (f j).1.2.2.1 (f j).1.2.1.ps.length (f j).1.2.2.2]] = _
    rw [h1, h2]
  · rcases hq with rfl | rfl
    · exact World.cell?_of_block hk.2
    · exact World.cell?_of_block (hk.1.block _ hb)
  · obtain ⟨_, _, c0, c1, c2, c3⟩ := hf j hj
    exact ⟨below_cell hW c0, below_cell hW c1, below_cell hW c2, below_cell hW c3⟩
/-- A block of cells. -/
def IsC (w : World) (k : Nat) : Prop := ∃ cs T fr, w.heap[k]? = some (.cells cs T fr)
theorem isC_of_cell {w : World} {b o : Nat} {v : Value} (h : w.cell? ⟨b, o, none⟩ = some v) : IsC w b := by
  unfold World.cell? at h
  cases hb : w.heap[b]? with
  | none => simp [hb] at h
  | some ob =>
    cases ob with
    | cells cs T fr => exact ⟨cs, T, fr, hb⟩
    | _ => simp [hb] at h
theorem RdL.isC {α : Type} {R : World → α → List Value → Prop} {w : World} {A : Option Addr} {l : List α} (h : RdL R 4 w A l) (hn : 0 < l.length) (a : Addr) (ha : A = some a) : IsC w a.block := by
  obtain ⟨b, off, e, hc⟩ := h.2 hn
  rw [ha] at e
  cases e
  obtain ⟨cs, h1, _, h3⟩ := hc 0 hn
  match cs, h1 with
  | v :: _, _ => exact isC_of_cell (h3 0 v rfl)
theorem exP.isC {P : Nat → Prop} {w : World} : ∀ {d : Nat} {t : Ex} {cs : List Value}, exP P d w t cs → exP (fun k => P k ∧ IsC w k) d w t cs
  | 0, _, _, h => h.elim
  | d + 1, t, cs, ⟨A, c, e, h3, h4, h5⟩ => ⟨A, c, e, RdL.keep h3 (fun _ _ h => exP.isC h) (fun _ _ _ => rfl), fun hn a ha => ⟨h4 hn a ha, h3.isC hn a ha⟩, h5⟩
theorem exQ.isC {P : Nat → Prop} {d : Nat} {w : World} {A : Option Addr} {l : ExL} (h : exQ P d w A l) : exQ (fun k => P k ∧ IsC w k) d w A l :=
  ⟨RdL.keep h.1 (fun _ _ h => exP.isC h) (fun _ _ _ => rfl), fun hn a ha => ⟨h.2 hn a ha, h.1.isC hn a ha⟩⟩
def exC (g d : Nat) (w : World) (A : Option Addr) (l : ExL) : Prop := exQ (fun k => (0 ≤ k ∧ k ≠ g ∧ k < w.heap.size) ∧ IsC w k) d w A l
theorem exG.c {g d : Nat} {w : World} {A : Option Addr} {l : ExL} (h : exG 0 g d w A l) : exC g d w A l := exQ.isC h
theorem exC.toG {g d : Nat} {w : World} {A : Option Addr} {l : ExL} (h : exC g d w A l) : exG 0 g d w A l := exQ.keep h (Nat.le_refl _) (fun _ hk => ⟨hk.1, rfl⟩)
def GbC (g d : Nat) (t : Ex) (V W : World) : Prop := ∃ A c, ExBx g t W A c ∧ exC g d W A t.ps ∧ Below g V W
theorem gbC_own {β : Type} {g : Nat} {V : World} (D : β → Nat) (T : β → Ex) (hg : g < V.heap.size) : OwnFrom V.heap.size (fun (s : β) W => GbC g (D s) (T s) V W) := fun s W W' row hs hgr hr => by
  obtain ⟨A, c, h1, h2, h3⟩ := hs
  have hlt := (Array.getElem?_eq_some_iff.1 h1).1
  refine ⟨A, c, (hgr.block g hlt (fun e => by have := (hr g e.symm).1; omega)).trans h1, exQ.keep h2 (Nat.le_refl _) (fun k hk => ?_), h3.grown hgr (by omega) (fun k e => by have := (hr k e).1; omega)⟩
  obtain ⟨⟨k0, k1, k2⟩, cs, T, fr, hk⟩ := hk
  have e : W'.heap[k]? = W.heap[k]? := hgr.block k k2 (fun e => by
    obtain ⟨_, o, ho, hc⟩ := hr k e.symm
    rw [hk] at ho
    cases ho
    cases hc)
  exact ⟨⟨⟨k0, k1, Nat.lt_of_lt_of_le k2 hgr.size⟩, cs, T, fr, e.trans hk⟩, e⟩
theorem bkA_own {B g : Nat} {cs : Array Value} {T : TypeId} {p : Nat → Prop} : OwnFrom B (fun (_ : Unit) W => ∃ B8, g < B8 ∧ W.heap[B8]? = some (.cells cs T (0, 0)) ∧ p B8) := fun s W W' row hs hgr hr => by
  obtain ⟨B8, h1, h2, h3⟩ := hs
  refine ⟨B8, h1, (hgr.block B8 (Array.getElem?_eq_some_iff.1 h2).1 (fun e => ?_)).trans h2, h3⟩
  obtain ⟨_, o, ho, hc⟩ := hr B8 e.symm
  rw [h2] at ho
  cases ho
  cases hc
/-- All joined so far. -/
def outF {d n0 : Nat} {w : World} (r : Ex) (pre : List (BkX d n0 w)) : Ex := pre.foldl (fun out x => .nd 14 0 ByteArray.empty [x.1.2.1, out]) r
theorem outF_snoc {d n0 : Nat} {w : World} (r : Ex) (pre : List (BkX d n0 w)) (x : BkX d n0 w) : outF r (pre ++ [x]) = .nd 14 0 ByteArray.empty [x.1.2.1, outF r pre] := by rw [outF, List.foldl_append]; rfl
theorem outF_eq {d n0 : Nat} {w : World} (r : Ex) (pre : List (BkX d n0 w)) : outF r pre = joinE ((pre.map fun x => x.1.2.1).reverse) r := by
  rw [outF, joinE, List.foldr_reverse, List.foldl_map]
theorem outF_s {d n0 : Nat} {w : World} {r : Ex} (hs : r.s.size ≤ 9223372036854775807) (pre : List (BkX d n0 w)) : (outF r pre).s.size ≤ 9223372036854775807 := by
  rw [outF_eq]; exact join_s hs _
theorem bk_rev {α : Type} {f : Nat → α} {g : α → Ex} {L : ExL} (h : ∀ j, j < L.length → g (f j) = exAt L j) : ((bkL f L.length L.length).map g).reverse = L := by
  apply List.ext_getElem
  · simp [bkL]
  · intro i h1 h2
    simp only [bkL, List.map_map, List.getElem_reverse, List.getElem_map, List.getElem_range, List.length_map, List.length_range, Function.comp]
    rw [h _ (by omega), exAt_eq (by omega)]
    congr 1
    omega
theorem deferK {F : World} {D g : Nat} {ob o' : Obj} (hg : F.heap[g]? = some ob) (hne : g ≠ D) : (F.putObj D o').heap[g]? = some ob :=
  ((grownBy_putObj' F D o').block g (Array.getElem?_eq_some_iff.1 hg).1 (fun e => hne (by cases e; rfl))).trans hg
/-- What GuardedBy hands back: apart from all, its parts from one another. -/
def GbPostT (d : Nat) (r : Ex) (w : World) (e : Ending) (w' : World) : Prop := ∃ A c, e = .returned (.tuple #[.agg #[.int .i64 (gbE d r).k, .int .i64 (gbE d r).n, .string (gbE d r).s, .slice A (gbE d r).ps.length c], .bool (gbB d r)]) ∧ exT (d + (gbL d r).length) w.heap.size w'.heap.size w' (.slice A (gbE d r).ps.length c) (gbE d r).ps ∧ Below w.heap.size w w'
theorem exT_nil {lo hi : Nat} {w : World} : ∀ {d : Nat}, exT d lo hi w (.slice Option.none 0 0) []
  | 0 => ⟨rfl, Option.none, 0, rfl⟩
  | _ + 1 => ⟨[], rfl, AscX.nil, (fun _ h => by simp at h), (fun _ h => by cases h), OwnG.nil⟩
theorem GbPostT.no {d : Nat} {r : Ex} {w w' : World} (h : gbB d r = false) (hb : Below w.heap.size w w') : GbPostT d r w (.returned (.tuple #[.agg #[.int .i64 0, .int .i64 0, .string ⟨#[]⟩, .slice Option.none 0 0], .bool false])) w' := by
  refine ⟨Option.none, 0, ?_, ?_, hb⟩
  · rw [h, gb_no h]; rfl
  · rw [gb_no h]; exact exT_nil
set_option maxRecDepth 100000 in
set_option maxHeartbeats 16000000 in
theorem implGuardedBy {d : Nat} {A : Option Addr} {r : Ex} {c : Nat} {w : World} (hU : exW d w A r.ps) (hs : r.s.size ≤ 9223372036854775807) :
    Calls Try.prog 25 #[.agg #[.int .i64 r.k, .int .i64 r.n, .string r.s, .slice A r.ps.length c]] w (GbPostT d r w) := by
  have hlen := exS.len hU
  obtain ⟨gx, hgx⟩ : ∃ g, g = w.heap.size := ⟨_, rfl⟩
  obtain ⟨W, hW⟩ : ∃ W, W = (w.alloc (.cells #[.int .i64 r.k, .int .i64 r.n, .string r.s, .slice A r.ps.length c] 28)).alloc (.cells #[.int .i64 0, .int .i64 0, .string ⟨#[]⟩, .slice Option.none 0 0] 28) := ⟨_, rfl⟩
  have hBW : Below w.heap.size w W := by rw [hW]; (repeat (first | exact Below.refl _ _ | refine ext_alloc ?_ _ | refine Below.setCell ?_ (by simp) _))
  have hWs : W.heap.size = w.heap.size + 2 := by rw [hW]; simp
  have hbx : W.heap[gx]? = some (.cells #[.int .i64 r.k, .int .i64 r.n, .string r.s, .slice A r.ps.length c] 28 (0, 0)) := by rw [hW, hgx]; exact block_below (heap_alloc_at rfl) (below_alloc _ _)
  have hb2 : W.heap[gx + 1]? = some (.cells #[.int .i64 0, .int .i64 0, .string ⟨#[]⟩, .slice Option.none 0 0] 28 (0, 0)) := by rw [hW, hgx]; exact heap_alloc_at (by simp)
  obtain ⟨b0, b1, b2, b3⟩ := cells4 hbx
  have hUW := hU.below hBW
  have hin := exS_in hU
  have HW := Lib.hid hW
  have HGX := Lib.hid hgx
  have HU0 := Lib.hid hU
  have HBX := Lib.hid hbx
  have HB2 := Lib.hid hb2
  have hgW : gx + 2 = W.heap.size := by omega
  have HGW := Lib.hid hgW
  have hB := hBW
  have HBW0 := Lib.hid hBW
  clear hW hgx hU hbx hb2 hBW hWs hgW
  refine (callsIn_wide (n := 6)).1 ?_
  refine callsIn_of_wp_marks Try.func25 rfl trivial ?_ rfl
  simp only [Try.ntmps25, List.size_toArray, List.length_cons, List.length_nil, Nat.reduceAdd, Nat.reduceSub, Array.replicate_succ, Array.replicate_zero, List.push_toArray, List.append_toArray, List.nil_append, List.cons_append]
  refine wpIn_wide.2 ?_
  cases hok : exOk r
  · have HR : Hid (gbB d r = false) := Lib.hid (by rw [gbB, hok]; rfl)
    go_wp2_with fail
    rw [← HW.out, ← HGX.out]
    refine (implExprValid hUW hs).mono ?_
    rintro e w1 ⟨rfl, hb⟩
    rw [hok]
    have hr2 := block_below HB2.out hb
    replace hB := ext_trans hB hb
    clear b0 b1 b2 b3 hok hUW hb
    obtain ⟨y0, y1, y2, y3⟩ := cells4 hr2
    obtain ⟨z0, z1, z2, z3⟩ := froz4 hr2
    clear hr2
    go_wp2
    refine ⟨.tuple #[.agg #[.int .i64 0, .int .i64 0, .string ⟨#[]⟩, .slice Option.none 0 0], .bool false], by simp [results, go_sem, y0, y1, y2, y3], GbPostT.no HR.out ?_⟩
    exact setCells_below (by have := HGX.out; omega) [.int .i64 0, .int .i64 0, .string ⟨#[]⟩, .slice Option.none 0 0] 0 hB
  · obtain ⟨hgd, hc40⟩ := ok_parts hin hok
    have hcn : ∀ m, cntR m r ≤ 1048576 := in_cnt hin (show cntR (d + 1) r ≤ 1048576 by omega)
    have hpo : (poL (d + 1) r).length ≤ 40 := Nat.le_trans (po_cnt (d + 1) r) hc40
    obtain ⟨L, hL⟩ : ∃ L, L = gbL d r := ⟨_, rfl⟩
    have hLl : L.length ≤ 40 := by
      have := fi_len (d + 1) r []
      rw [hL, gbL]
      simp only [List.length_nil] at this
      omega
    have hLm : ∀ x ∈ L, ∀ m, cntR m x ≤ 39 := by rw [hL]; exact fi_mem (d + 1) r [] (in_cnt hin (by omega)) (by simp)
    have hc0 := join_cnt (t := r) L hLm (in_cnt hin (show cntR (d + 1) r ≤ 39 by omega))
    have HO : Hid (gbO d r = joinE L r) := Lib.hid (by rw [hL]; rfl)
    have HD : Hid (d + (gbL d r).length = d + L.length) := Lib.hid (by rw [hL])
    have HL : Hid (adL (poL (d + 1) r) = L) := Lib.hid (by rw [hL, gbL, ← fi_eq (d + 1) r [] hgd]; rfl)
    have HC0 : Hid (∀ m, cntR m (joinE L r) ≤ 1048576) := Lib.hid (fun m => by
      have h1 := hc0 m
      have h2 : L.length * (39 + 2) ≤ 40 * (39 + 2) := Nat.mul_le_mul_right _ hLl
      omega)
    obtain ⟨ask, hask⟩ : ∃ a, a = asB (d + 1) r := ⟨_, rfl⟩
    have HASK : Hid (as7 (poL (d + 1) r) = ask) := Lib.hid (by rw [hask]; exact po_any (d + 1) r)
    have HBB : Hid (gbB d r = (!ask && exOk (joinE L r))) := Lib.hid (by rw [gbB, hok, ← hask, HO.out]; rfl)
    have HPO : Hid (([] : ExL).length + (poL (d + 1) r).length ≤ 1048576) := Lib.hid (by simp; omega)
    clear hc0 hLm hcn hask hL hgd hc40 hpo
    go_wp2_with fail
    rw [← HW.out, ← HGX.out]
    refine (implExprValid hUW hs).mono ?_
    rintro e w1 ⟨rfl, hb⟩
    rw [hok]
    have hX := hb
    obtain ⟨b0', b1', b2', b3'⟩ := cells4 (block_below HBX.out hX)
    have hB1 := ext_trans HBW0.out hb
    have c0 := below_cell (below_alloc (w1.alloc (.cells #[.bool false] 4)) (.cells #[.slice Option.none 0 0] 26)) (below_cell (below_alloc w1 (.cells #[.bool false] 4)) b0')
    have c1 := below_cell (below_alloc (w1.alloc (.cells #[.bool false] 4)) (.cells #[.slice Option.none 0 0] 26)) (below_cell (below_alloc w1 (.cells #[.bool false] 4)) b1')
    have c2 := below_cell (below_alloc (w1.alloc (.cells #[.bool false] 4)) (.cells #[.slice Option.none 0 0] 26)) (below_cell (below_alloc w1 (.cells #[.bool false] 4)) b2')
    have c3 := below_cell (below_alloc (w1.alloc (.cells #[.bool false] 4)) (.cells #[.slice Option.none 0 0] 26)) (below_cell (below_alloc w1 (.cells #[.bool false] 4)) b3')
    obtain ⟨b4, hb4⟩ : ∃ b, b = w1.heap.size := ⟨_, rfl⟩
    obtain ⟨X1, hX1⟩ : ∃ X, X = (w1.alloc (.cells #[.bool false] 4)).alloc (.cells #[.slice Option.none 0 0] 26) := ⟨_, rfl⟩
    have hbX : Below w1.heap.size w1 X1 := by rw [hX1]; (repeat (first | exact Below.refl _ _ | refine ext_alloc ?_ _ | refine Below.setCell ?_ (by simp) _))
    have hJ0 : GiJ d b4 b4 (b4 + 1) [] X1 := ⟨⟨Nat.le_refl _, by omega⟩, by rw [hX1, hb4]; exact block_below (heap_alloc_at rfl) (below_alloc _ _), Option.none, 0, by rw [hX1, hb4]; exact heap_alloc_at (by simp), ⟨by rw [hb4]; exact hbX.size, by omega⟩, OwnG.nil⟩
    have hUX : exS d 0 b4 X1 A r.ps := (exS.below HU0.out (Nat.le_refl _) (hB1.trans (hbX.mono hB1.size))).wide (Nat.le_refl _) (by rw [hb4]; exact hB1.size)
    have HEC := Lib.hid (ecQ_all d d b4 b4 (b4 + 1) [] A r c X1 (Nat.le_refl _) hJ0 hUX hs HPO.out)
    have HX1 := Lib.hid hX1
    have HB4 := Lib.hid hb4
    have HM0 : Hid (∀ k, k < b4 → ¬ GiM b4 (b4 + 1) X1 k) := Lib.hid (fun k hk hm => by have := GiP.m hJ0 k hm; omega)
    have HBX1 : Hid (Below w.heap.size w X1) := Lib.hid (hB1.trans (hbX.mono hB1.size))
    have HXX1 : Hid (Below W.heap.size W X1) := Lib.hid (hX.trans (hbX.mono hX.size))
    have H1X : Hid (w.heap.size ≤ b4 ∧ W.heap.size ≤ b4 ∧ b4 ≤ X1.heap.size) := Lib.hid ⟨by rw [hb4]; exact hB1.size, by rw [hb4]; exact hX.size, by rw [hb4]; exact hbX.size⟩
    clear b0 b1 b2 b3 b0' b1' b2' b3' hok hb hX1 hb4 hbX hJ0 hUX hB1 hX
    go_wp2_with fail
    rw [← HX1.out, ← HB4.out]
    clear c0 c1 c2 c3
    refine HEC.out.mono ?_
    rintro e w2 ⟨⟨v, rfl⟩, hJ, hF⟩
    rw [List.nil_append, GiJ, HASK.out, HL.out] at hJ
    have h2b : ∀ k, k < b4 → w2.heap[k]? = X1.heap[k]? := fun k hk => hF.keep k (by have := H1X.out; omega) (HM0.out k hk)
    have hB2 : Below w.heap.size w w2 := HBX1.out.trans ⟨hF.os, hF.tape, hF.output, hF.size, fun k hk => h2b k (by have := H1X.out; omega)⟩
    have hX2 : Below W.heap.size W w2 := HXX1.out.trans ⟨hF.os, hF.tape, hF.output, hF.size, fun k hk => h2b k (by have := H1X.out; omega)⟩
    have hUr : exS d 0 b4 w2 A r.ps := (exS.below HU0.out (Nat.le_refl _) hB2).wide (Nat.le_refl _) (by have := H1X.out; omega)
    obtain ⟨b0, b1, b2, b3⟩ := cells4 (block_below HBX.out hX2)
    obtain ⟨h0, h4, Ag, cg, h5, hOE⟩ := hJ
    obtain ⟨a4, z4⟩ := cell1 h4
    obtain ⟨a5, z5⟩ := cell1 h5
    have l4 := (Array.getElem?_eq_some_iff.1 h4).1
    have l5 := (Array.getElem?_eq_some_iff.1 h5).1
    clear h2b hF
    go_wp2_with (go_at_call 83; refine backward_any.mono ?_; rintro e w3 ⟨rfl, rfl⟩)
    obtain ⟨g6, hg6⟩ : ∃ g, g = w2.heap.size := ⟨_, rfl⟩
    obtain ⟨V, hV⟩ : ∃ V, V = (w2.alloc (.cells #[.int .i64 r.k, .int .i64 r.n, .string r.s, .slice A r.ps.length c] 28)).alloc (.cells #[.slice Ag L.length cg] 26) := ⟨_, rfl⟩
    have hbV : Below w2.heap.size w2 V := by rw [hV]; (repeat (first | exact Below.refl _ _ | refine ext_alloc ?_ _ | refine Below.setCell ?_ (by simp) _))
    have hVs : V.heap.size = g6 + 2 := by rw [hV, hg6]; simp
    have hV6 : ExBx g6 r V A c := by rw [ExBx, hV, hg6]; exact block_below (heap_alloc_at rfl) (below_alloc _ _)
    have hVB : V.heap[g6 + 1]? = some (.cells #[.slice Ag L.length cg] 26 (0, 0)) := by rw [hV, hg6]; exact heap_alloc_at (by simp)
    have hOV := hOE.below hbV
    have hb4g : b4 ≤ g6 := by have := H1X.out; omega
    obtain ⟨Ag', cg', eg, hrd⟩ := hOV.2.rd (by omega)
    cases eg
    have hAgb : ∀ a, Ag = some a → 0 < L.length → a.block < g6 := fun a ha h0 => by
      obtain ⟨b, off, e, hc⟩ := hrd.2 h0
      rw [ha] at e
      cases e
      have := (hOE.2.ge b (by rw [ha]; rfl)).2
      show b < g6
      omega
    obtain ⟨bb, off, f, hbb, hA0, hf⟩ := bk_f (g := g6) (by omega) hrd hAgb
    have hUV : exS d 0 b4 V A r.ps := exS.below hUr (by omega) (hbV.mono (by omega))
    have hI0 : GbC g6 (d + ([] : List (BkX d b4 V)).length) (outF r ([] : List (BkX d b4 V))) V V := ⟨A, c, hV6, (exS.toG (lo := 0) (g := g6) hUV (Nat.zero_le _) (.inr hb4g) (by omega)).c, Below.refl _ _⟩
    have HST := Lib.hid (bk_stops Fence.wide 5 trivial rfl (by omega) hbb hA0 f (by omega) hf hVB)
    have HFE : Hid (((bkL f L.length L.length).map fun x => x.1.2.1).reverse = L) := Lib.hid (bk_rev (fun j hj => (hf j hj).2.1))
    have HV := Lib.hid hV
    have HG6 := Lib.hid hg6
    have hb46 : b4 < g6 := by omega
    have HB2V := Lib.hid (hB2.trans (hbV.mono hB2.size))
    have HX2V := Lib.hid (hX2.trans (hbV.mono hX2.size))
    have H4V := Lib.hid (block_below h4 hbV)
    have HVS := Lib.hid hVs
    have HI0 := Lib.hid hI0
    have HUV := Lib.hid hUV
    have HHS := Lib.hid hs
    clear b0 b1 b2 b3 h5 hOE a5 z5 l5 hOV hrd hAgb hV6 hVB hbb hA0 hf hUr hUV hI0 hV hg6 hbV h4 a4 z4 hB2 hX2
    rw [← HV.out, ← HG6.out]
    refine (wpIn_wide (n := 6)).1 ?_
    refine wpIn_rangeFunc_ownH rfl (by omega) (gf := 123) (lb := #[.pointer (some ⟨g6 + 1, 0, none⟩)]) rfl trivial (enters_of Try.func123 (by kernel_rfl) rfl)
      HST.out (fun h k => bkK_t h k) (fun W l o o' hl h h1 h2 => bkK_b (by have := HVS.out; omega) W l o o' hl h) (Below.refl _ _) (fun _ => rfl)
      (fun pre W => GbC g6 (d + pre.length) (outF r pre) V W) (fun _ _ _ => False) (gbC_own (fun pre => d + pre.length) (fun pre => outF r pre) (by have := HVS.out; omega)) (fun _ _ _ _ _ hs _ _ => hs) HI0.out
      (fun x a' W => ∃ B8, g6 + 1 < B8 ∧ W.heap[B8]? = some (.cells #[.int .i64 x.1.2.1.k, .int .i64 x.1.2.1.n, .string x.1.2.1.s, .slice x.1.2.2.1 x.1.2.1.ps.length x.1.2.2.2] 28 (0, 0)) ∧ a' = { tmps := #[.agg #[.int .i64 r.k, .int .i64 r.n, .string r.s, .slice A r.ps.length c], .pointer (some ⟨gx, 0, none⟩), .pointer (some ⟨gx + 1, 0, none⟩), .bool false, .pointer (some ⟨b4, 0, none⟩), .pointer (some ⟨b4 + 1, 0, none⟩), .pointer (some ⟨g6, 0, none⟩), undef, .pointer (some ⟨B8, 0, none⟩), .agg #[.int .i64 r.k, .int .i64 r.n, .string r.s, .slice A r.ps.length c], .bool true, .bool false, undef, .agg #[.int .i64 r.k, .int .i64 r.n, .string r.s, .slice A r.ps.length c], .func (.func 80) #[] #[.pointer (some ⟨b4, 0, none⟩), .pointer (some ⟨b4 + 1, 0, none⟩)], v, .agg #[.int .i64 r.k, .int .i64 r.n, .string r.s, .slice A r.ps.length c], .slice Ag L.length cg, .func (.func 123) #[] #[.pointer (some ⟨g6 + 1, 0, none⟩)], .int .i64 x.1.1, .agg #[.int .i64 x.1.2.1.k, .int .i64 x.1.2.1.n, .string x.1.2.1.s, .slice x.1.2.2.1 x.1.2.1.ps.length x.1.2.2.2], undef, undef, undef, undef, undef, undef, undef, undef, undef, undef, undef, undef, undef], defers := [] })
      (fun x a' => bkA_own) ?assign ?body ?done ?stop
    case assign =>
      intro l pre x W K hI hK
      gi_wp2
      have hWs : V.heap.size ≤ W.heap.size := by obtain ⟨_, _, _, _, hB⟩ := hI; exact hB.size
      have hv2 := HVS.out
      exact hK _ _ ((KeepsOthers.alloc _ _).from _) ⟨(Below.refl g6 W).alloc (by omega) _, (below_alloc W _).block (g6 + 1) (by omega)⟩ ((gbC_own (fun (pre : List (BkX d b4 V)) => d + pre.length) (fun pre => outF r pre) (by omega)).alloc _ hI) ⟨W.heap.size, by omega, heap_alloc_new _ _, rfl⟩
    case body =>
      rintro l pre x a' W hl ⟨rr, hr⟩ hI ⟨B8, h8, hb8, rfl⟩ hlt
      obtain ⟨A9, c9, hx9, hG9, hB9⟩ := hI
      obtain ⟨x0, x1, x2, x3⟩ := cells4 hx9
      obtain ⟨z0, z1, z2, z3⟩ := froz4 hx9
      obtain ⟨p0, p1, p2, p3⟩ := cells4 hb8
      have hxa := block_below hx9 (below_alloc W (.cells #[.int .i64 x.1.2.1.k, .int .i64 x.1.2.1.n, .string x.1.2.1.s, .slice x.1.2.2.1 x.1.2.1.ps.length x.1.2.2.2, .int .i64 (outF r pre).k, .int .i64 (outF r pre).n, .string (outF r pre).s, .slice A9 (outF r pre).ps.length c9] 28))
      obtain ⟨y0, y1, y2, y3⟩ := cells4 hxa
      obtain ⟨q0, q1, q2, q3⟩ := froz4 hxa
      gi_wp2
      have hv2 := HVS.out
      have hWs := hB9.size
      have hsg := setCells_grown g6 [.int .i64 14, .int .i64 0, .string ByteArray.empty, .slice (some ⟨W.heap.size, 0, none⟩) 2 2] (W.alloc (.cells #[.int .i64 x.1.2.1.k, .int .i64 x.1.2.1.n, .string x.1.2.1.s, .slice x.1.2.2.1 x.1.2.1.ps.length x.1.2.2.2, .int .i64 (outF r pre).k, .int .i64 (outF r pre).n, .string (outF r pre).s, .slice A9 (outF r pre).ps.length c9] 28)) 0
      have hal := below_alloc W (.cells #[.int .i64 x.1.2.1.k, .int .i64 x.1.2.1.n, .string x.1.2.1.s, .slice x.1.2.2.1 x.1.2.1.ps.length x.1.2.2.2, .int .i64 (outF r pre).k, .int .i64 (outF r pre).n, .string (outF r pre).s, .slice A9 (outF r pre).ps.length c9] 28)
      have hxs : exG 0 g6 (d + pre.length) (W.alloc (.cells #[.int .i64 x.1.2.1.k, .int .i64 x.1.2.1.n, .string x.1.2.1.s, .slice x.1.2.2.1 x.1.2.1.ps.length x.1.2.2.2, .int .i64 (outF r pre).k, .int .i64 (outF r pre).n, .string (outF r pre).s, .slice A9 (outF r pre).ps.length c9] 28)) x.1.2.2.1 x.1.2.1.ps :=
        (((exS.below (exS.below x.2.1 hb4g hB9) (by omega) hal).toG (lo := 0) (g := g6) (Nat.zero_le _) (.inr hb4g) (by have := hal.size; omega)).deeper (by omega))
      refine ⟨((KeepsOthers.alloc _ _).from _).trans (KeepsFrom.of_grownBy hsg (fun j e => by cases e; omega)), ⟨setCells_below (Nat.le_refl _) [.int .i64 14, .int .i64 0, .string ByteArray.empty, .slice (some ⟨W.heap.size, 0, none⟩) 2 2] 0 ((Below.refl g6 W).alloc (by omega) _), (hsg.block (g6 + 1) (by have := hal.size; omega) (fun e => by cases e)).trans (hal.block (g6 + 1) (by omega))⟩, ?_⟩
      show GbC g6 (d + (pre ++ [x]).length) (outF r (pre ++ [x])) V _
      rw [outF_snoc, List.length_append, List.length_singleton]
      exact ⟨some ⟨W.heap.size, 0, none⟩, 2, setCells_atG [.int .i64 14, .int .i64 0, .string ByteArray.empty, .slice (some ⟨W.heap.size, 0, none⟩) 2 2] 0 hxa (by simp), ((exG.two (heap_alloc_new W _) (Nat.zero_le _) (by omega) hxs (hG9.toG.below hal) x.2.2 (outF_s HHS.out pre)).grown hsg).c, setCells_below (Nat.le_refl _) [.int .i64 14, .int .i64 0, .string ByteArray.empty, .slice (some ⟨W.heap.size, 0, none⟩) 2 2] 0 (hB9.trans ((Below.refl g6 W).alloc (by omega) _))⟩
    case done =>
      rintro D ys W hD rfl hI hK
      obtain ⟨A9, c9, hx9, hG9, hB9⟩ := hI
      rw [outF_eq, HFE.out] at hx9 hG9
      rw [bkL_length] at hG9
      obtain ⟨o, ho⟩ : ∃ o, o = joinE L r := ⟨_, rfl⟩
      have hos := join_s HHS.out L
      have hco := HC0.out
      have hOO : gbO d r = o := by rw [HO.out, ho]
      have hYB : gbB d r = (!ask && exOk o) := by rw [HBB.out, ho]
      rw [← ho] at hx9 hG9 hos hco
      have hv2 := HVS.out
      have h4W : W.heap[b4]? = some (.cells #[.bool ask] 4 (0, 0)) := (hB9.block b4 hb46).trans H4V.out
      obtain ⟨a4, z4⟩ := cell1 h4W
      obtain ⟨x0, x1, x2, x3⟩ := cells4 hx9
      have hgx : gx + 1 < g6 := by have := HGW.out; have := H1X.out; omega
      have hr2 : W.heap[gx + 1]? = some (.cells #[.int .i64 0, .int .i64 0, .string ⟨#[]⟩, .slice Option.none 0 0] 28 (0, 0)) := (hB9.block _ hgx).trans (block_below HB2.out HX2V.out)
      have hBw : Below w.heap.size w W := HB2V.out.trans (hB9.mono (by have := H1X.out; omega))
      have hDW := (Array.getElem?_eq_some_iff.1 hK).1
      have HOO := Lib.hid hOO
      have HYB := Lib.hid hYB
      have HK := Lib.hid hK
      have HBw := Lib.hid hBw
      have HR2 := Lib.hid hr2
      have HGG := Lib.hid hG9
      have hgx2 : w.heap.size ≤ gx + 1 := by have := HGX.out; omega
      have hDg : g6 < D := by omega
      clear ho hOO hYB hK hr2 hG9 hx9 h4W
      cases ask
      · go_wp2_with fail
        refine (implExprValid HGG.out.toG.toW hos).mono ?_
        rintro e w5 ⟨rfl, hb⟩
        have HG5 := Lib.hid (HGG.out.toG.below hb)
        have HR5 := Lib.hid (block_below HR2.out hb)
        have HK5 := Lib.hid (block_below HK.out hb)
        have HB5 := Lib.hid (ext_trans HBw.out hb)
        have hs5 := hb.size
        replace x0 := below_cell hb x0
        replace x1 := below_cell hb x1
        replace x2 := below_cell hb x2
        replace x3 := below_cell hb x3
        obtain ⟨y0, y1, y2, y3⟩ := cells4 HR5.out
        obtain ⟨z0, z1, z2, z3⟩ := froz4 HR5.out
        obtain ⟨y, hy⟩ : ∃ y, exOk o = y := ⟨_, rfl⟩
        have HR : Hid (gbB d r = y) := Lib.hid (by rw [HYB.out, hy]; rfl)
        rw [hy]
        clear hb hy a4 z4
        cases y
        · have hKF : (setCells w5 (gx + 1) 0 [.int .i64 0, .int .i64 0, .string ⟨#[]⟩, .slice Option.none 0 0]).heap[D]? = some (.deferred (some [])) := ((setCells_grown (gx + 1) [.int .i64 0, .int .i64 0, .string ⟨#[]⟩, .slice Option.none 0 0] w5 0).block D (Array.getElem?_eq_some_iff.1 HK5.out).1 (fun e => by cases e; omega)).trans HK5.out
          have hgF : (setCells w5 (gx + 1) 0 [.int .i64 0, .int .i64 0, .string ⟨#[]⟩, .slice Option.none 0 0]).heap[gx + 1]? = some (.cells #[.int .i64 0, .int .i64 0, .string ⟨#[]⟩, .slice Option.none 0 0] 28 (0, 0)) := setCells_atG [.int .i64 0, .int .i64 0, .string ⟨#[]⟩, .slice Option.none 0 0] 0 HR5.out (by simp)
          obtain ⟨e0, e1, e2, e3⟩ := cells4 (deferK (D := D) (o' := .deferred Option.none) hgF (by omega))
          have HBF : Hid (Below w.heap.size w ((setCells w5 (gx + 1) 0 [.int .i64 0, .int .i64 0, .string ⟨#[]⟩, .slice Option.none 0 0]).putObj D (.deferred Option.none))) := Lib.hid ((setCells_below hgx2 [.int .i64 0, .int .i64 0, .string ⟨#[]⟩, .slice Option.none 0 0] 0 HB5.out).trans (belowK_b (w := w) (Nat.le_refl _) _ D _ _ (by omega) hKF rfl rfl))
          have HKF := Lib.hid hKF
          clear hKF hgF
          go_wp2
          refine ⟨by simp, .inl ⟨_, _, rfl, run_takeDeferred HKF.out, ?_⟩⟩
          refine ⟨.tuple #[.agg #[.int .i64 0, .int .i64 0, .string ⟨#[]⟩, .slice Option.none 0 0], .bool false], ?_, GbPostT.no HR.out HBF.out⟩
          simp only [setCells] at e0 e1 e2 e3
          simp [results, Try.f25, go_sem, e0, e1, e2, e3]
        · have HCO := Lib.hid hco
          clear hco
          go_wp2_with fail
          refine (exClone_any HG5.out.toW hos HCO.out).mono ?_
          rintro e w6 ⟨A3, c3, rfl, h3, hb⟩
          have HR6 := Lib.hid (block_below HR5.out hb)
          have HK6 := Lib.hid (block_below HK5.out hb)
          have HB6 := Lib.hid (ext_trans HB5.out hb)
          have hs6 := hb.size
          have hlt := (Array.getElem?_eq_some_iff.1 HR5.out).1
          have hD5 := (Array.getElem?_eq_some_iff.1 HK5.out).1
          clear y0 y1 y2 y3 z0 z1 z2 z3
          obtain ⟨y0, y1, y2, y3⟩ := cells4 HR6.out
          obtain ⟨z0, z1, z2, z3⟩ := froz4 HR6.out
          have hsg := setCells_grown (gx + 1) [.int .i64 o.k, .int .i64 o.n, .string o.s, .slice A3 o.ps.length c3] w6 0
          have hKF : (setCells w6 (gx + 1) 0 [.int .i64 o.k, .int .i64 o.n, .string o.s, .slice A3 o.ps.length c3]).heap[D]? = some (.deferred (some [])) := (hsg.block D (Array.getElem?_eq_some_iff.1 HK6.out).1 (fun e => by cases e; omega)).trans HK6.out
          have hgF : (setCells w6 (gx + 1) 0 [.int .i64 o.k, .int .i64 o.n, .string o.s, .slice A3 o.ps.length c3]).heap[gx + 1]? = some (.cells #[.int .i64 o.k, .int .i64 o.n, .string o.s, .slice A3 o.ps.length c3] 28 (0, 0)) := setCells_atG [.int .i64 o.k, .int .i64 o.n, .string o.s, .slice A3 o.ps.length c3] 0 HR6.out (by simp)
          obtain ⟨e0, e1, e2, e3⟩ := cells4 (deferK (D := D) (o' := .deferred Option.none) hgF (by omega))
          have HBF : Hid (Below w.heap.size w ((setCells w6 (gx + 1) 0 [.int .i64 o.k, .int .i64 o.n, .string o.s, .slice A3 o.ps.length c3]).putObj D (.deferred Option.none))) := Lib.hid ((setCells_below hgx2 [.int .i64 o.k, .int .i64 o.n, .string o.s, .slice A3 o.ps.length c3] 0 HB6.out).trans (belowK_b (w := w) (Nat.le_refl _) _ D _ _ (by omega) hKF rfl rfl))
          have hpg := grownBy_putObj' (setCells w6 (gx + 1) 0 [.int .i64 o.k, .int .i64 o.n, .string o.s, .slice A3 o.ps.length c3]) D (.deferred Option.none)
          have HTF : Hid (exT (d + L.length) w.heap.size ((setCells w6 (gx + 1) 0 [.int .i64 o.k, .int .i64 o.n, .string o.s, .slice A3 o.ps.length c3]).putObj D (.deferred Option.none)).heap.size ((setCells w6 (gx + 1) 0 [.int .i64 o.k, .int .i64 o.n, .string o.s, .slice A3 o.ps.length c3]).putObj D (.deferred Option.none)) (.slice A3 o.ps.length c3) o.ps) := Lib.hid ((h3.keep (fun q q1 q2 => (hpg.block q (Nat.lt_of_lt_of_le q2 hsg.size) (fun e => by cases e; omega)).trans (hsg.block q q2 (fun e => by cases e; omega)))).wide HB5.out.size (Nat.le_trans hsg.size hpg.size))
          have HKF := Lib.hid hKF
          clear hKF hgF hpg hsg h3 hb
          go_wp2
          refine ⟨by simp, .inl ⟨_, _, rfl, run_takeDeferred HKF.out, ?_⟩⟩
          refine ⟨.tuple #[.agg #[.int .i64 o.k, .int .i64 o.n, .string o.s, .slice A3 o.ps.length c3], .bool true], ?_, A3, c3, ?_, ?_, HBF.out⟩
          · simp only [setCells] at e0 e1 e2 e3
            simp [results, Try.f25, go_sem, e0, e1, e2, e3]
          · rw [gb_yes HR.out, HR.out, HOO.out]
          · rw [gb_yes HR.out, HD.out, HOO.out]
            exact HTF.out
      · have HR : Hid (gbB d r = false) := Lib.hid (by rw [HYB.out]; rfl)
        obtain ⟨y0, y1, y2, y3⟩ := cells4 HR2.out
        obtain ⟨z0, z1, z2, z3⟩ := froz4 HR2.out
        have hKF : (setCells W (gx + 1) 0 [.int .i64 0, .int .i64 0, .string ⟨#[]⟩, .slice Option.none 0 0]).heap[D]? = some (.deferred (some [])) := ((setCells_grown (gx + 1) [.int .i64 0, .int .i64 0, .string ⟨#[]⟩, .slice Option.none 0 0] W 0).block D (Array.getElem?_eq_some_iff.1 HK.out).1 (fun e => by cases e; omega)).trans HK.out
        have hgF : (setCells W (gx + 1) 0 [.int .i64 0, .int .i64 0, .string ⟨#[]⟩, .slice Option.none 0 0]).heap[gx + 1]? = some (.cells #[.int .i64 0, .int .i64 0, .string ⟨#[]⟩, .slice Option.none 0 0] 28 (0, 0)) := setCells_atG [.int .i64 0, .int .i64 0, .string ⟨#[]⟩, .slice Option.none 0 0] 0 HR2.out (by simp)
        obtain ⟨e0, e1, e2, e3⟩ := cells4 (deferK (D := D) (o' := .deferred Option.none) hgF (by omega))
        have HBF : Hid (Below w.heap.size w ((setCells W (gx + 1) 0 [.int .i64 0, .int .i64 0, .string ⟨#[]⟩, .slice Option.none 0 0]).putObj D (.deferred Option.none))) := Lib.hid ((setCells_below hgx2 [.int .i64 0, .int .i64 0, .string ⟨#[]⟩, .slice Option.none 0 0] 0 HBw.out).trans (belowK_b (w := w) (Nat.le_refl _) _ D _ _ (by omega) hKF rfl rfl))
        have HKF := Lib.hid hKF
        clear hKF hgF
        go_wp2
        refine ⟨by simp, .inl ⟨_, _, rfl, run_takeDeferred HKF.out, ?_⟩⟩
        refine ⟨.tuple #[.agg #[.int .i64 0, .int .i64 0, .string ⟨#[]⟩, .slice Option.none 0 0], .bool false], ?_, GbPostT.no HR.out HBF.out⟩
        simp only [setCells] at e0 e1 e2 e3
        simp [results, Try.f25, go_sem, e0, e1, e2, e3]
    case stop =>
      rintro D c pre W _ _ h _
      exact h.elim
end Go.Proofs.Ytodjokdaofefdaa

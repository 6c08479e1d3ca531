/- Lists of one's own: append to a slice without capacity; lists of expressions of one's own. -/
import Derived.Test.YtodjokdaofefdaaQ2
import Derived.Laws.IdiomStrings
namespace Go.Proofs.Ytodjokdaofefdaa
set_option linter.unusedSimpArgs false
set_option linter.unusedVariables false
open Go.RowKit

theorem rel_ne {p : Prop} [Decidable p] {a b : Nat} {w w' : World} (h : ¬ p) (hb : Below b w w') : Below (if p then a else b) w w' := by rw [if_neg h]; exact hb
theorem rel_eq {p : Prop} [Decidable p] {a b : Nat} {w w' : World} (h : p) (hb : Below a w w') : Below (if p then a else b) w w' := by rw [if_pos h]; exact hb
theorem rel_un {p : Prop} [Decidable p] {a b : Nat} {w w' : World} (h : ¬ p) (hb : Below (if p then a else b) w w') : Below b w w' := by rwa [if_neg h] at hb
theorem OwnG.typ {α : Type} {R : World → α → List Value → Prop} {B : Nat} {e : TypeId} {sz : Nat} {w : World} {v : Value} {l : List α} (h : OwnG R B e sz w v l) : ∀ k, v.ownBlock = some k → ∃ cs fr, w.heap[k]? = some (.cells cs e fr) := by
  obtain ⟨A, c, xs, rfl, ho, _⟩ := h
  intro k hk
  rcases ho.2 with ⟨h1, _⟩ | ⟨g2, cap, cur, hv, _, hx2, _⟩
  · rw [h1] at hk; cases hk
  · rw [hv] at hk
    simp only [Value.ownBlock, Option.some.injEq] at hk
    subst hk
    exact ⟨_, _, hx2⟩
/-- append of what reads as a list to a slice without capacity. -/
theorem op_append_emptyG {α : Type} {R : World → α → List Value → Prop} {P : Program} {w : World} {o : Oper} {a : Act} {K : Act → World → Prop} {Q : Exit → Act → World → Prop} (s x : Operand) (t e : TypeId) (z : Value) (sz bytes : Nat)
    (ho : o.op = .call { callee := .builtin .append, args := #[s, x], argTypes := #[t, t] }) (ht : P.underlying t = some (.slice e)) (hinfo : (P.info? e).map (fun i => (i.zero, i.size, i.bytes)) = some (some z, sz, bytes))
    (hzs : z.cells.size = sz) (hsz : 0 < sz) {B : Nat} (hs : FrB B e 0 #[] w (a.eval s)) {A : Option Addr} {l : List α} {c : Nat} (hx : a.eval x = .slice A l.length c) (hr : RdL R sz w A l) (hR : ∀ w', Below w.heap.size w w' → ∀ a cs, R w a cs → R w' a cs)
    (hbase : B ≤ w.heap.size) (hbytes : l.length * bytes ≤ 140737488355328) (h63 : l.length ≤ 9223372036854775807)
    (h : ∀ v' w', OwnG R B e sz w' v' l → Below w.heap.size w w' → K (a.put o.dst v') w') : o.wp P a w K Q := by
  obtain ⟨i, hi, hz, hsize, hby⟩ := info_parts hinfo
  obtain ⟨g, hs, hB, hg⟩ := hs
  rcases Nat.eq_zero_or_pos l.length with h0 | hpos
  · obtain rfl := List.eq_nil_of_length_eq_zero h0
    have h1 : (Builtin.append_ #[t, t] o.type #[.slice (some ⟨g, 0, Option.none⟩) 0 0, .slice A ([] : List α).length c]).run P w = .ok (.slice (some ⟨g, 0, Option.none⟩) 0 0) w := by
      cases A <;> simp [Builtin.append_, run_underlying ht, sizeOf, typeInfo, hi, Builtin.lenOf, Builtin.firstCells, storeCells, loadCells, loadCellsFrom]
    unfold Oper.wp execOp
    simp only [ho, resolve, invoke, builtin, Sem.run_bind, Sem.run_pure, Result.andThen_ok, List.map_toArray, List.map_cons, List.map_nil, hs, hx, h1]
    exact h _ _ ⟨_, 0, [], rfl, ⟨by simp, .inr ⟨g, 0, #[], rfl, hB, hg, Nat.le_refl _, by simp [maxLen], by simp, by simp⟩⟩, rfl⟩ (Below.refl _ _)
  · obtain ⟨b, off, rfl, _⟩ := hr.2 hpos
    obtain ⟨ys, g1, g2⟩ := hr.chunks
    obtain ⟨v', w', h1, h2, h3⟩ := run_append_arg_grows (P := P) w t o.type e i z sz bytes ht hi hz hsize hby hzs hsz ⟨g, 0, Option.none⟩ 0 0 [] (by simp) (fun j u hj => by simp at hj) ⟨b, off, none⟩ l.length c ys g1.length g2 (by omega) (by simp only [maxLen]; omega) (by rw [Nat.zero_add]; exact hbytes)
    unfold Oper.wp execOp
    simp only [ho, resolve, invoke, builtin, Sem.run_bind, Sem.run_pure, Result.andThen_ok, List.map_toArray, List.map_cons, List.map_nil, hs, hx, h1]
    have hb : Below w.heap.size w w' := ⟨h3.os, h3.tape, h3.output, h3.size, fun k hk => h3.block k hk (fun e => by cases e)⟩
    exact h v' w' (OwnG.of (own_lower (by simpa using h2) hbase) (g1.mono (hR w' hb))) hb

section
variable {d D lo hi N B : Nat} {w w' : World} {A : Option Addr} {l l2 : ExL} {t : Ex} {cs : List Value} {v : Value}
theorem exR.row {row : Option Nat} (hN : N ≤ w.heap.size) (hg : w.grownBy w' row) (hr : ∀ k, row = some k → N ≤ k) : ∀ {d : Nat} {t : Ex} {cs : List Value}, exR d lo N w t cs → exR d lo N w' t cs :=
  fun h => exR.keep (fun k _ hk => hg.block k (by omega) (fun e => by have := hr k e.symm; omega)) (Nat.le_refl _) (Nat.le_refl _) h
theorem exR.one : ∀ {d : Nat} {t : Ex} {cs : List Value}, exR d lo hi w t cs → ∀ u ∈ cs, u.oneCell' = true
  | 0, _, _, h => h.elim
  | _ + 1, _, _, ⟨A, c, rfl, _⟩ => by intro u hu; simp [exHead] at hu; rcases hu with rfl | rfl | rfl | rfl <;> rfl
theorem exS.head {c : Nat} (h : exS d lo hi w A t.ps) (hs : t.s.size ≤ 9223372036854775807) : exR (d + 1) lo hi w t [.int .i64 t.k, .int .i64 t.n, .string t.s, .slice A t.ps.length c] := ⟨A, c, rfl, h.1, h.2, hs⟩
/-- A list of one's own; the parts of what is in it stand below N. -/
def OwnE (D N B : Nat) (l : ExL) (w : World) (v : Value) : Prop := (N ≤ w.heap.size ∧ N ≤ B) ∧ OwnG (exR D 0 N) B 28 4 w v l
theorem OwnE.below (h : OwnE D N B l w v) (hb : Below w.heap.size w w') : OwnE D N B l w' v :=
  ⟨⟨Nat.le_trans h.1.1 hb.size, h.1.2⟩, h.2.below hb (fun _ _ g => exR.below g h.1.1 hb)⟩
theorem OwnE.rd (h : OwnE D N B l w v) (hl : l.length ≤ 9223372036854775807) : ∃ A c, v = .slice A l.length c ∧ exW D w A l := by
  obtain ⟨A, c, e, hr⟩ := h.2.rd hl
  refine ⟨A, c, e, RdL.keep hr (fun _ _ g => exR.keep (fun _ _ _ => rfl) (Nat.le_refl _) h.1.1 g) (fun _ _ _ => rfl), fun hn a ha => ⟨Nat.zero_le _, ?_⟩⟩
  obtain ⟨b, off, e2, _⟩ := hr.2 hn
  rw [ha] at e2
  cases e2
  exact (h.2.ge b (by rw [e, ha]; rfl)).2
theorem OwnE.wide {N' B' : Nat} (h : OwnE D N B l w v) (hN : N ≤ N') (hN2 : N' ≤ w.heap.size) (hN3 : N' ≤ B') (hB : B' ≤ B) : OwnE D N' B' l w v :=
  ⟨⟨hN2, hN3⟩, by
    obtain ⟨A, c, xs, rfl, ho, hc⟩ := h.2
    exact ⟨A, c, xs, rfl, own_lower ho hB, hc.mono (fun _ _ g => exR.keep (fun _ _ _ => rfl) (Nat.le_refl _) hN g)⟩⟩
theorem OwnE.deeper {D' : Nat} (h : OwnE D N B l w v) (hD : D ≤ D') : OwnE D' N B l w v :=
  ⟨h.1, by
    obtain ⟨A, c, xs, rfl, ho, hc⟩ := h.2
    exact ⟨A, c, xs, rfl, ho, hc.mono (fun _ _ g => exR.deeper hD g)⟩⟩
/-- A row of one. -/
theorem OwnE.one {c : Nat} (h : exS d 0 N w A t.ps) (hs : t.s.size ≤ 9223372036854775807) (hN : N ≤ B) (hB : B ≤ w.heap.size) (hf : FrB B 28 1 #[.int .i64 t.k, .int .i64 t.n, .string t.s, .slice A t.ps.length c] w v) : OwnE (d + 1) N B [t] w v := by
  obtain ⟨g, rfl, h1, h2⟩ := hf
  exact ⟨⟨by omega, hN⟩, _, 1, _, rfl, ⟨by simp, .inr ⟨g, 1, _, rfl, h1, h2, by simp, by simp [maxLen], by simp, by simp⟩⟩, Chunks.one rfl (exS.head (c := c) h hs)⟩
end
/-- A list that reads. -/
def KnV (D : Nat) (l : ExL) (w : World) (v : Value) : Prop := ∃ A c, v = .slice A l.length c ∧ exW D w A l
theorem KnV.below {D : Nat} {l : ExL} {w w' : World} {v : Value} (h : KnV D l w v) (hb : Below w.heap.size w w') : KnV D l w' v := let ⟨A, c, e, h⟩ := h; ⟨A, c, e, h.below hb⟩
end Go.Proofs.Ytodjokdaofefdaa
/- Expressions: sizes, copies for a call. -/
namespace Go.Proofs.Ytodjokdaofefdaa
set_option linter.unusedSimpArgs false
set_option linter.unusedVariables false
open Go.RowKit

/-- Few parts everywhere. -/
def fewR : Nat → Ex → Prop
  | 0, _ => False
  | d + 1, t => t.ps.length ≤ 1048576 ∧ ∀ k, k < t.ps.length → fewR d (exAt t.ps k)
def fewS (d : Nat) (l : ExL) : Prop := l.length ≤ 1048576 ∧ ∀ k, k < l.length → fewR d (exAt l k)
/-- How many parts, parts of parts, and so on. -/
def cntR : Nat → Ex → Nat
  | 0, _ => 0
  | d + 1, t => t.ps.length + (t.ps.map (cntR d)).sum
def cntS (d : Nat) (l : ExL) : Nat := l.length + (l.map (cntR d)).sum
theorem cnt_take {d : Nat} {l : ExL} {k : Nat} (hk : k < l.length) : ((l.take (k + 1)).map (cntR d)).sum = ((l.take k).map (cntR d)).sum + cntR d (exAt l k) := by
  rw [List.take_succ_eq_append_getElem hk, List.map_append, List.sum_append, exAt_eq hk]; simp
def SzPst (left : Int) (n : Nat) (p : Prop) (w : World) (e : Ending) (w' : World) : Prop := ∃ x : Int, e = .returned (.int .i64 x) ∧ (x = -1 ∨ (0 ≤ x ∧ x + n ≤ left ∧ p)) ∧ Below w.heap.size w w'
def SzQ (d : Nat) : Prop := ∀ (A : Option Addr) (r : Ex) (c : Nat) (left : Int) (w : World), exW d w A r.ps → r.s.size ≤ 9223372036854775807 → 0 ≤ left → left ≤ 1048576 →
  Calls Try.prog 20 #[.agg #[.int .i64 r.k, .int .i64 r.n, .string r.s, .slice A r.ps.length c], .int .i64 left] w (SzPst left (cntS d r.ps) (fewS d r.ps) w)
def SzP (d : Nat) : Prop := ∀ (A : Option Addr) (l : ExL) (c : Nat) (left : Int) (w : World), exW d w A l → 0 ≤ left → left ≤ 1048576 →
  Calls Try.prog 71 #[.slice A l.length c, .int .i64 left] w (SzPst left (cntS d l) (fewS d l) w)
set_option maxRecDepth 100000 in
set_option maxHeartbeats 2000000 in
theorem szQ_of {d : Nat} (hP : SzP d) : SzQ d := by
  intro A r c left w hU hs h0 h1
  have HP := Lib.hid hP
  clear hP
  have hl := exS.len hU
  have hB := below_alloc w (.cells #[.int .i64 r.k, .int .i64 r.n, .string r.s, .slice A r.ps.length c] 48)
  obtain ⟨ln, hln⟩ : ∃ n : Nat, n = r.s.size := ⟨_, rfl⟩
  by_cases hlt : left < r.s.size
  · go_enter Try.func20, Try.ntmps20
    go_wp2
    go_ret
    exact ⟨-1, rfl, .inl rfl, hB⟩
  · go_enter Try.func20, Try.ntmps20
    go_wp2_with fail
    refine (HP.out _ _ _ (left - r.s.size) _ (hU.below hB) (by omega) (by omega)).mono ?_
    rintro e w1 ⟨x, rfl, hx, hb⟩
    replace hB := ext_trans hB hb
    rcases hx with rfl | ⟨x0, x1, hp⟩
    · go_wp2
      go_ret
      exact ⟨-1, rfl, .inl rfl, hB⟩
    · have HF := Lib.hid hp
      clear hp
      go_wp2
      go_ret
      exact ⟨x, rfl, .inr ⟨x0, by omega, HF.out⟩, hB⟩
set_option maxRecDepth 100000 in
set_option maxHeartbeats 2000000 in
theorem szP_of {d : Nat} (hQ : ∀ m, d = m + 1 → SzQ m) : SzP d := by
  intro A l c left w hU h0 h1
  have HQ := Lib.hid hQ
  clear hQ
  have hlen := exS.len hU
  by_cases h : left < l.length
  · go_enter Try.func71, Try.ntmps71
    go_wp2
    go_ret
    exact ⟨-1, rfl, .inl rfl, Below.refl _ _⟩
  · go_enter Try.func71, Try.ntmps71
    go_wp2
    go_loopw [1, 5] (fun xv iv wr => ∃ (k : Nat) (x : Int), k ≤ l.length ∧ iv = .int .i64 k ∧ xv = .int .i64 x ∧ (0 ≤ x ∧ x + l.length + ((l.take k).map (cntR d)).sum ≤ left) ∧ Hid (∀ j, j < k → fewR d (exAt l j)) ∧ Below w.heap.size w wr) (fun _ iv _ => l.length - (intOf iv).toNat)
    case atStart => exact ⟨0, left - l.length, Nat.zero_le _, rfl, rfl, by simp; omega, Lib.hid (fun j h => by omega), Below.refl _ _⟩
    case round =>
      obtain ⟨k, x, hk, rfl, rfl, ⟨x0, x1⟩, HF, hB⟩ := hrel
      by_cases hlt : k < l.length
      · have hd : ∃ m, d = m + 1 := by
          cases d with
          | zero => have := exS.zero hU; subst this; simp at hlt
          | succ m => exact ⟨m, rfl⟩
        obtain ⟨m, hm⟩ := hd
        subst hm
        have HQ1 := Lib.hid (HQ.out m rfl)
        have HCT := Lib.hid (cnt_take (d := m + 1) hlt)
        obtain ⟨sm, hsm⟩ : ∃ n : Nat, n = ((l.take k).map (cntR (m + 1))).sum := ⟨_, rfl⟩
        rw [← hsm] at x1
        have HSM := Lib.hid hsm
        clear hsm
        obtain ⟨b, off, rfl, hc⟩ := hU.cells (by omega)
        obtain ⟨A', c', hfd, hs, p0, p1, p2, p3⟩ := hc k hlt
        replace p0 := below_cell hB p0
        replace p1 := below_cell hB p1
        replace p2 := below_cell hB p2
        replace p3 := below_cell hB p3
        replace hfd := hfd.below hB
        clear hc
        go_wp2_with fail
        refine (HQ1.out _ _ _ _ _ hfd hs x0 (by omega)).mono ?_
        rintro e w1 ⟨y, rfl, hy, hb⟩
        replace hB := ext_trans hB hb
        clear p0 p1 p2 p3 hfd hb
        rcases hy with rfl | ⟨y0, y1, hp⟩
        · go_wp2
          go_ret
          exact ⟨-1, rfl, .inl rfl, hB⟩
        · have HF2 := Lib.hid (all_succ (p := fun j => fewR (m + 1) (exAt l j)) HF.out hp)
          clear hp
          go_wp2
          go_roundw
          case rel => exact ⟨k + 1, y, by omega, by go_num, rfl, ⟨y0, by rw [HCT.out, ← HSM.out]; have e : cntR (m + 1) (exAt l k) = cntS m (exAt l k).ps := rfl; omega⟩, HF2, hB⟩
          case measure => simp [intOf]; omega
      · obtain rfl : k = l.length := by omega
        go_wp2
        go_ret
        exact ⟨x, rfl, .inr ⟨x0, by rw [cntS]; rw [List.take_length] at x1; omega, by omega, HF.out⟩, hB⟩
theorem szP_all : ∀ d, SzP d
  | 0 => szP_of (fun m h => by omega)
  | d + 1 => szP_of (fun m h => by cases h; exact szQ_of (szP_all d))
theorem szExpr_any {d : Nat} {A : Option Addr} {r : Ex} {c : Nat} {left : Int} {w : World} (h1 : exW d w A r.ps) (h2 : r.s.size ≤ 9223372036854775807) (h3 : 0 ≤ left) (h4 : left ≤ 1048576) :
    Calls Try.prog 20 #[.agg #[.int .i64 r.k, .int .i64 r.n, .string r.s, .slice A r.ps.length c], .int .i64 left] w (SzPst left (cntS d r.ps) (fewS d r.ps) w) := szQ_of (szP_all d) A r c left w h1 h2 h3 h4
end Go.Proofs.Ytodjokdaofefdaa
/- Expressions: copies for a call. -/
namespace Go.Proofs.Ytodjokdaofefdaa
set_option linter.unusedSimpArgs false
set_option linter.unusedVariables false
open Go.RowKit

theorem exS.setCell {d lo hi : Nat} {w : World} {A : Option Addr} {l : ExL} {a : Addr} {x : Value} (h : exS d lo hi w A l) (hne : a.block < lo) : exS d lo hi (w.setCell a x) A l :=
  h.keep (fun k hk _ => Below.heap_setCell w a x k (by omega)) (Nat.le_refl _) (Nat.le_refl _)
theorem Try.infoExpr : (Try.prog.info? 28).map (fun i => (i.zero, i.size, i.bytes)) = some (some (.agg #[.int .i64 0, .int .i64 0, .string ByteArray.empty, .slice Option.none 0 0]), 4, 56) := by kernel_rfl
def ToQ (d : Nat) : Prop := ∀ (A : Option Addr) (r : Ex) (c : Nat) (w : World), exW d w A r.ps → fewS d r.ps →
  Calls Try.prog 22 #[.agg #[.int .i64 r.k, .int .i64 r.n, .string r.s, .slice A r.ps.length c]] w fun e w' => ∃ A' c', e = .returned (.agg #[.int .i64 r.k, .int .i64 r.n, .string r.s, .slice A' r.ps.length c']) ∧ exS d w.heap.size w'.heap.size w' A' r.ps ∧ Below w.heap.size w w'
def ToP (d : Nat) : Prop := ∀ (A : Option Addr) (l : ExL) (c : Nat) (w : World), exW d w A l → fewS d l →
  Calls Try.prog 74 #[.slice A l.length c] w fun e w' => ∃ A' c', e = .returned (.slice A' l.length c') ∧ exS d w.heap.size w'.heap.size w' A' l ∧ Below w.heap.size w w'
set_option maxRecDepth 100000 in
set_option maxHeartbeats 2000000 in
theorem toQ_of {d : Nat} (hP : ToP d) : ToQ d := by
  intro A r c w hU hf
  have HP := Lib.hid hP
  have HF := Lib.hid hf
  clear hP hf
  go_enter Try.func22, Try.ntmps22
  go_wp2_with fail
  refine (HP.out _ _ _ _ (hU.below (by (repeat (first | exact Below.refl _ _ | refine ext_alloc ?_ _ | refine Below.setCell ?_ (by simp) _)))) HF.out).mono ?_
  rintro e w1 ⟨A', c', rfl, ho, hb⟩
  obtain ⟨hc, hf⟩ := bcell hb
  have hz := hb.size
  simp only [World.size_alloc, World.size_setCell] at hz ho ⊢
  go_wp2
  refine bodyPost_ret (v := .agg #[.int .i64 r.k, .int .i64 r.n, .string r.s, .slice A' r.ps.length c']) (by simp [results, go_sem, hc]) rfl ⟨_, _, rfl, ?_, ?_⟩
  · have hlo : exS d (w.heap.size + 1 + 1 + 1) w1.heap.size w1 A' r.ps := ho
    refine exS.wide (lo := w.heap.size + 1 + 1 + 1) (hi := w1.heap.size) ?_ (by omega) (by simp)
    repeat (first | (with_reducible exact hlo) | (refine exS.setCell ?_ (by dsimp only; omega)))
  · have hb2 : Below w.heap.size w w1 := by
      refine Below.trans ?_ (hb.mono (by (try simp) <;> omega))
      repeat (first | exact Below.refl _ _ | refine ext_alloc ?_ _ | refine Below.setCell ?_ (by simp) _)
    repeat (first | (with_reducible exact hb2) | with_reducible refine Below.setCell ?_ (by (try simp) <;> omega) _)
set_option maxRecDepth 100000 in
set_option maxHeartbeats 4000000 in
theorem toP_of {d : Nat} (hQ : ∀ m, d = m + 1 → ToQ m) : ToP d := by
  intro A l c w hU hf
  have HQ := Lib.hid hQ
  have HF := Lib.hid hf.2
  have hn := hf.1
  clear hQ hf
  obtain ⟨i0, hi, hz0, hz1, hz2⟩ := info_parts Try.infoExpr
  obtain ⟨wm, hmk, hown, hgr⟩ := run_make_full (P := Try.prog) w w.heap.size 26 28 i0 _ 4 Try.underlying26 hi hz0 hz1 .i64 .i64 l.length (by rw [hz2]; omega) (by simp only [maxLen]; omega) (Nat.le_refl _)
  have hBm : Below w.heap.size w wm := ext_grown (Below.refl _ _) hgr (by simp)
  clear hgr hi hz0 hz1 hz2
  generalize (madeCells _ _).toList = xs0 at hown
  go_enter Try.func74, Try.ntmps74
  go_wp2
  clear hmk
  go_loopw [4] (fun i wr => ∃ k : Nat, k ≤ l.length ∧ i = .int .i64 k ∧ Below w.heap.size w wr ∧ ∃ xs, wr.ownsRow w.heap.size 28 4 (.slice (some ⟨w.heap.size, 0, none⟩) l.length l.length) l.length xs ∧ Chunks (exR d (w.heap.size + 1) wr.heap.size wr) 4 (l.take k) (xs.take (k * 4))) (fun i _ => l.length - (intOf i).toNat)
  case atStart => exact ⟨0, Nat.zero_le _, rfl, hBm, xs0, hown, by simp [Chunks]⟩
  case round =>
    rename_i wr
    clear hown hBm
    obtain ⟨k, hk, rfl, hB, xs, hown, htake⟩ := hrel
    have HT := Lib.hid htake
    clear htake
    by_cases hlt : k < l.length
    · have hd : ∃ m, d = m + 1 := by
        cases d with
        | zero => have := exS.zero hU; subst this; simp at hlt
        | succ m => exact ⟨m, rfl⟩
      obtain ⟨m, hm⟩ := hd
      subst hm
      have HQ1 := Lib.hid (HQ.out m rfl)
      have hfk := HF.out k hlt
      have HFK : Hid (fewS m (exAt l k).ps) := Lib.hid hfk
      clear hfk
      obtain ⟨b, off, rfl, hcl⟩ := hU.cells (by omega)
      obtain ⟨A', c', hfd, hs, c0, c1, c2, c3⟩ := hcl k hlt
      replace c0 := below_cell hB c0
      replace c1 := below_cell hB c1
      replace c2 := below_cell hB c2
      replace c3 := below_cell hB c3
      replace hfd := hfd.below hB
      clear hcl
      have hgr : w.heap.size < _ := (own_lt hown).2
      go_wp2_with fail
      refine (HQ1.out _ _ _ _ hfd HFK.out).mono ?_
      rintro e w1 ⟨A1, c1', rfl, ho1, hB1⟩
      have hws := hB.size
      have hw1 := hB1.size
      have HT1 := Lib.hid (HT.out.mono (fun a cs h => h.keep (fun j _ hj => hB1.block j hj) (Nat.le_refl _) hw1))
      replace hB := ext_trans hB hB1
      replace hown := own_below hown hB1
      obtain ⟨v0, f0⟩ := own_cell hown (j := k * 4) (by omega)
      obtain ⟨v1, f1⟩ := own_cell hown (j := k * 4 + 1) (by omega)
      obtain ⟨v2, f2⟩ := own_cell hown (j := k * 4 + 2) (by omega)
      obtain ⟨v3, f3⟩ := own_cell hown (j := k * 4 + 3) (by omega)
      have z0 := hown.frozenAt (k * 4)
      have z1 := hown.frozenAt (k * 4 + 1)
      have z2 := hown.frozenAt (k * 4 + 2)
      have z3 := hown.frozenAt (k * 4 + 3)
      have hsg := setCells_grown w.heap.size [.int .i64 (exAt l k).k, .int .i64 (exAt l k).n, .string (exAt l k).s, .slice A1 (exAt l k).ps.length c1'] w1 (k * 4)
      have hkp : ∀ j, w.heap.size + 1 ≤ j → j < w1.heap.size → (setCells w1 w.heap.size (k * 4) [.int .i64 (exAt l k).k, .int .i64 (exAt l k).n, .string (exAt l k).s, .slice A1 (exAt l k).ps.length c1']).heap[j]? = w1.heap[j]? := fun j h1 h2 => hsg.block j h2 (fun e => by cases e; omega)
      have HQ2 : Hid (exR (m + 1) (w.heap.size + 1) w1.heap.size (setCells w1 w.heap.size (k * 4) [.int .i64 (exAt l k).k, .int .i64 (exAt l k).n, .string (exAt l k).s, .slice A1 (exAt l k).ps.length c1']) (exAt l k) (exHead (exAt l k) (.slice A1 (exAt l k).ps.length c1'))) := by
        have h2 := (ho1.wide (show w.heap.size + 1 ≤ _ by omega) (Nat.le_refl _)).keep hkp (Nat.le_refl _) (Nat.le_refl _)
        exact Lib.hid ⟨A1, c1', rfl, h2.1, h2.2, hs⟩
      have HT2 := Lib.hid (HT1.out.mono (fun a cs h => h.keep hkp (Nat.le_refl _) (Nat.le_refl _)))
      have hss := hsg.size
      clear hsg hkp ho1 hB1 hfd c0 c1 c2 c3
      go_wp2
      go_roundw
      case rel =>
        obtain ⟨xs', h1, h2⟩ := chunks_elem (exHead (exAt l k) (.slice A1 (exAt l k).ps.length c1')) hown hlt rfl HT2.out HQ2.out
        have hbs := setCells_below (Nat.le_refl _) (exHead (exAt l k) (.slice A1 (exAt l k).ps.length c1')) (k * 4) hB
        refine ⟨k + 1, by omega, by go_num, hbs, xs', h1, ?_⟩
        rw [List.take_succ_eq_append_getElem hlt, ← exAt_eq hlt]
        exact h2.mono (fun a cs h => h.keep (fun _ _ _ => rfl) (Nat.le_refl _) hss)
      case measure => simp [intOf]; omega
    · obtain rfl : k = l.length := by omega
      go_wp2
      go_ret
      have hgl := (own_lt hown).2
      have e := HT.out
      rw [List.take_of_length_le (Nat.le_of_eq hown.1), List.take_length] at e
      refine ⟨_, _, rfl, ⟨?_, fun _ a ha => ?_⟩, hB⟩
      · have ho2 : OwnG (exR d w.heap.size wr.heap.size) w.heap.size 28 4 wr (.slice (some ⟨w.heap.size, 0, none⟩) l.length l.length) l := OwnG.of hown (e.mono (fun a cs h => h.keep (fun _ _ _ => rfl) (Nat.le_succ _) (Nat.le_refl _)))
        obtain ⟨A2, c2, e2, hr⟩ := ho2.rd (by omega)
        simp only [Value.slice.injEq, true_and] at e2
        obtain ⟨rfl, rfl⟩ := e2
        exact hr
      · cases ha
        exact ⟨Nat.le_refl _, hgl⟩
theorem toP_all : ∀ d, ToP d
  | 0 => toP_of (fun m h => by omega)
  | d + 1 => toP_of (fun m h => by cases h; exact toQ_of (toP_all d))
theorem toExpr_any {d : Nat} {A : Option Addr} {r : Ex} {c : Nat} {w : World} (h1 : exW d w A r.ps) (h2 : fewS d r.ps) :
    Calls Try.prog 22 #[.agg #[.int .i64 r.k, .int .i64 r.n, .string r.s, .slice A r.ps.length c]] w fun e w' => ∃ A' c', e = .returned (.agg #[.int .i64 r.k, .int .i64 r.n, .string r.s, .slice A' r.ps.length c']) ∧ exS d w.heap.size w'.heap.size w' A' r.ps ∧ Below w.heap.size w w' := toQ_of (toP_all d) A r c w h1 h2
end Go.Proofs.Ytodjokdaofefdaa
/- Expressions whose parts stand apart: trees of rows of one's own. -/
namespace Go.Proofs.Ytodjokdaofefdaa
set_option linter.unusedSimpArgs false
set_option linter.unusedVariables false
open Go.RowKit

theorem setCells_at {g : Nat} {T : TypeId} {fr : Nat × Nat} (vs : List Value) : ∀ {w : World} {cs : List Value} (o : Nat), w.heap[g]? = some (.cells cs.toArray T fr) → o + vs.length ≤ cs.length → (setCells w g o vs).heap[g]? = some (.cells (cs.take o ++ vs ++ cs.drop (o + vs.length)).toArray T fr) := by
  induction vs with
  | nil => intro w cs o h _; simpa [setCells] using h
  | cons v vs ih =>
    intro w cs o h ho
    simp only [List.length_cons] at ho
    have h1 : (w.setCell ⟨g, o, Option.none⟩ v).heap[g]? = some (.cells (cs.set o v).toArray T fr) := by
      simp [World.setCell, Array.getElem?_modify, h]
    have h2 := ih (o + 1) h1 (by simp; omega)
    rw [setCells, h2]
    congr 3
    rw [List.drop_set_of_lt (by omega), List.take_succ_eq_append_getElem (by rw [List.length_set]; omega)]
    simp only [List.getElem_set_self, List.length_cons]
    rw [List.take_set_of_le (Nat.le_refl _), show o + 1 + vs.length = o + (vs.length + 1) by omega]
    simp
/-- A part with the blocks, from lo on and below hi, in which all that is in it stands. -/
abbrev ExX := Ex × Nat × Nat
def AscX (lo hi : Nat) (l : List ExX) : Prop := (∀ a ∈ l, lo ≤ a.2.1 ∧ a.2.1 ≤ a.2.2 ∧ a.2.2 ≤ hi) ∧ l.Pairwise fun a b => a.2.2 ≤ b.2.1
def AvX (v : Value) (l : List ExX) : Prop := ∀ a ∈ l, ∀ k, v.ownBlock = some k → k < a.2.1 ∨ a.2.2 ≤ k
def exT : Nat → Nat → Nat → World → Value → ExL → Prop
  | 0, _, _, _, v, l => l = [] ∧ ∃ A c, v = .slice A 0 c
  | d + 1, lo, hi, w, v, l => ∃ l' : List ExX, l'.map Prod.fst = l ∧ AscX lo hi l' ∧ AvX v l' ∧ (∀ k, v.ownBlock = some k → k < hi) ∧
      OwnG (fun w (a : ExX) cs => ∃ v', cs = exHead a.1 v' ∧ exT d a.2.1 a.2.2 w v' a.1.ps ∧ a.1.s.size ≤ 9223372036854775807) lo 28 4 w v l'
/-- An element of such a row. -/
def ExN (d : Nat) (w : World) (a : ExX) (cs : List Value) : Prop := ∃ v', cs = exHead a.1 v' ∧ exT d a.2.1 a.2.2 w v' a.1.ps ∧ a.1.s.size ≤ 9223372036854775807
theorem exT_succ {d lo hi : Nat} {w : World} {v : Value} {l : ExL} : exT (d + 1) lo hi w v l = ∃ l' : List ExX, l'.map Prod.fst = l ∧ AscX lo hi l' ∧ AvX v l' ∧ (∀ k, v.ownBlock = some k → k < hi) ∧ OwnG (ExN d) lo 28 4 w v l' := rfl
section
variable {α : Type} {R R' : α → List Value → Prop} {sz : Nat}
theorem Chunks.mono_mem {l : List α} {xs : List Value} (hR : ∀ a ∈ l, ∀ cs, R a cs → R' a cs) (h : Chunks R sz l xs) : Chunks R' sz l xs := by
  induction l generalizing xs with
  | nil => exact h
  | cons a l ih => obtain ⟨c, r, rfl, h1, h2, h3⟩ := h; exact ⟨c, r, rfl, h1, hR a (by simp) _ h2, ih (fun b hb => hR b (by simp [hb])) h3⟩
theorem Chunks.cut {p q : List α} {a : α} {xs : List Value} (h : Chunks R sz (p ++ a :: q) xs) : ∃ xp c xq, xs = xp ++ c ++ xq ∧ xp.length = p.length * sz ∧ c.length = sz ∧ Chunks R sz p xp ∧ R a c ∧ Chunks R sz q xq := by
  induction p generalizing xs with
  | nil =>
    obtain ⟨c, r, rfl, h1, h2, h3⟩ := h
    exact ⟨[], c, r, by simp, by simp, h1, rfl, h2, h3⟩
  | cons b p ih =>
    obtain ⟨c, r, rfl, h1, h2, h3⟩ := h
    obtain ⟨xp, c', xq, rfl, g1, g2, g3, g4, g5⟩ := ih h3
    exact ⟨c ++ xp, c', xq, by simp [List.append_assoc], by simp [g1, h1, Nat.add_mul]; omega, g2, ⟨c, xp, rfl, h1, h2, g3⟩, g4, g5⟩
theorem Chunks.join {p q : List α} {a : α} {xp c xq : List Value} (hp : Chunks R sz p xp) (hc : c.length = sz) (ha : R a c) (hq : Chunks R sz q xq) : Chunks R sz (p ++ a :: q) (xp ++ c ++ xq) := by
  rw [List.append_assoc]
  exact hp.append ⟨c, xq, rfl, hc, ha, hq⟩
end
theorem own_keep {B sz n lo hi : Nat} {e : TypeId} {w w' : World} {v : Value} {xs : List Value} (h : w.ownsRow B e sz v n xs) (hk : ∀ k, lo ≤ k → k < hi → w'.heap[k]? = w.heap[k]?) (hne : ∀ k, v.ownBlock = some k → lo ≤ k ∧ k < hi) : w'.ownsRow B e sz v n xs := by
  rcases h with ⟨h1, h2 | ⟨g, cap, cur, hv, hg, hc, hrest⟩⟩
  · exact ⟨h1, .inl h2⟩
  · have hb := hne g (by rw [hv]; rfl)
    exact ⟨h1, .inr ⟨g, cap, cur, hv, hg, (hk g hb.1 hb.2).trans hc, hrest⟩⟩
section
variable {lo hi lo' hi' : Nat} {w w' : World}
theorem AscX.wide {l : List ExX} (h : AscX lo hi l) (h1 : lo' ≤ lo) (h2 : hi ≤ hi') : AscX lo' hi' l := ⟨fun a ha => by have := h.1 a ha; omega, h.2⟩
theorem AscX.nil : AscX lo hi [] := ⟨by simp, List.Pairwise.nil⟩
theorem AscX.snoc {l : List ExX} {t : Ex} {a b : Nat} (h : AscX lo hi l) (h1 : hi ≤ a) (h2 : a ≤ b) (h3 : lo ≤ a) (h4 : b ≤ hi') : AscX lo hi' (l ++ [(t, a, b)]) := by
  refine ⟨fun c hc => ?_, List.pairwise_append.2 ⟨h.2, List.pairwise_singleton _ _, fun c hc d hd => ?_⟩⟩
  · rcases List.mem_append.1 hc with hc | hc
    · have := h.1 c hc; omega
    · rw [List.mem_singleton.1 hc]; exact ⟨h3, h2, h4⟩
  · rw [List.mem_singleton.1 hd]
    have := (h.1 c hc).2.2
    show c.2.2 ≤ a
    omega
theorem exT.keep : ∀ {d lo hi : Nat} {v : Value} {l : ExL}, (∀ k, lo ≤ k → k < hi → w'.heap[k]? = w.heap[k]?) → exT d lo hi w v l → exT d lo hi w' v l
  | 0, _, _, _, _, _, h => h
  | d + 1, lo, hi, v, l, hk, ⟨l', h1, h2, h3, h4, h5⟩ => by
    refine ⟨l', h1, h2, h3, h4, ?_⟩
    have hge := h5.ge
    obtain ⟨A, c, xs, e, ho, hc⟩ := h5
    refine ⟨A, c, xs, e, own_keep ho hk (fun k hv => ?_), hc.mono_mem (fun a ha cs hcs => ?_)⟩
    · rw [← e] at hv; exact ⟨(hge k hv).1, h4 k hv⟩
    · obtain ⟨v', g1, g2, g3⟩ := hcs
      have hb := h2.1 a ha
      exact ⟨v', g1, exT.keep (fun k k1 k2 => hk k (by omega) (by omega)) g2, g3⟩
theorem exT.wide : ∀ {d lo hi : Nat} {v : Value} {l : ExL}, lo' ≤ lo → hi ≤ hi' → exT d lo hi w v l → exT d lo' hi' w v l
  | 0, _, _, _, _, _, _, h => h
  | d + 1, lo, hi, v, l, k1, k2, ⟨l', h1, h2, h3, h4, h5⟩ => ⟨l', h1, h2.wide k1 k2, h3, fun k hk => by have := h4 k hk; omega, h5.lower k1 (fun _ _ h => h)⟩
theorem exT.below {d B : Nat} {v : Value} {l : ExL} (h : exT d lo hi w v l) (hB : hi ≤ B) (hb : Below B w w') : exT d lo hi w' v l := h.keep (fun k _ hk => hb.block k (by omega))
theorem exT.slice : ∀ {d lo hi : Nat} {v : Value} {l : ExL}, exT d lo hi w v l → ∃ A c, v = .slice A l.length c
  | 0, _, _, _, _, ⟨h, A, c, e⟩ => ⟨A, c, by rw [h]; exact e⟩
  | d + 1, _, _, _, _, ⟨l', h1, _, _, _, A, c, xs, e, _⟩ => ⟨A, c, by rw [e, ← h1, List.length_map]⟩
theorem exT.blk : ∀ {d lo hi : Nat} {v : Value} {l : ExL}, exT (d + 1) lo hi w v l → ∀ k, v.ownBlock = some k → lo ≤ k ∧ k < hi ∧ k < w.heap.size
  | _, _, _, _, _, ⟨l', _, _, _, h4, h5⟩, k, hk => ⟨(h5.ge k hk).1, h4 k hk, (h5.ge k hk).2⟩
theorem RdL.map {α β : Type} {R : World → α → List Value → Prop} {R' : World → β → List Value → Prop} {sz : Nat} {A : Option Addr} {l : List α} (f : α → β) (h : RdL R sz w A l) (hR : ∀ a ∈ l, ∀ cs, R w a cs → R' w (f a) cs) : RdL R' sz w A (l.map f) := by
  refine ⟨by rw [List.length_map]; exact h.1, fun hn => ?_⟩
  rw [List.length_map] at hn
  obtain ⟨b, off, e, hc⟩ := h.2 hn
  refine ⟨b, off, e, fun k hk => ?_⟩
  have hk' : k < l.length := by rwa [List.length_map] at hk
  obtain ⟨cs, h1, h2, h3⟩ := hc k hk'
  refine ⟨cs, h1, ?_, h3⟩
  rw [List.getElem_map]
  exact hR _ (List.getElem_mem hk') _ h2
theorem own_small {B sz n : Nat} {e : TypeId} {v : Value} {xs : List Value} (h : w.ownsRow B e sz v n xs) : n ≤ 9223372036854775807 := by
  obtain ⟨A, c, rfl⟩ := own_slice_ h
  rcases own_split2 h with ⟨_, h2, _⟩ | ⟨_, _, h2, h3⟩ <;> omega
/-- As it reads. -/
theorem exT.rd : ∀ {d lo hi : Nat} {v : Value} {l : ExL}, exT d lo hi w v l → ∃ A c, v = .slice A l.length c ∧ exS d lo hi w A l
  | 0, _, _, _, _, ⟨h, A, c, e⟩ => ⟨A, c, by rw [h]; exact e, by rw [h]; exact exS.nil⟩
  | d + 1, lo, hi, v, l, ⟨l', h1, h2, h3, h4, h5⟩ => by
    have hge := h5.ge
    have hsm : l'.length ≤ 9223372036854775807 := by
      obtain ⟨A, c, xs, e, ho, _⟩ := h5
      exact own_small ho
    obtain ⟨A, c, e, hr⟩ := h5.rd hsm
    have hl : l'.length = l.length := by rw [← h1, List.length_map]
    refine ⟨A, c, by rw [e, hl], ?_, fun hn a ha => ?_⟩
    · rw [← h1]
      refine RdL.map Prod.fst hr (fun a ha cs hcs => ?_)
      obtain ⟨v', g1, g2, g3⟩ := hcs
      obtain ⟨A', c', e', hr'⟩ := exT.rd g2
      have hb := h2.1 a ha
      subst e'
      have hw := hr'.wide hb.1 hb.2.2
      exact ⟨A', c', g1, hw.1, hw.2, g3⟩
    · obtain ⟨b, off, e2, _⟩ := hr.2 (by omega)
      rw [ha] at e2
      cases e2
      have := hge b (by rw [e, ha]; rfl)
      exact ⟨this.1, h4 b (by rw [e, ha]; rfl)⟩
theorem exT.rdW {d : Nat} {v : Value} {l : ExL} (h : exT d lo hi w v l) (hh : hi ≤ w.heap.size) : ∃ A c, v = .slice A l.length c ∧ exW d w A l := by
  obtain ⟨A, c, e, hr⟩ := h.rd
  exact ⟨A, c, e, hr.wide (Nat.zero_le _) hh⟩
theorem exT.rdA {d c : Nat} {A : Option Addr} {l : ExL} (h : exT d lo hi w (.slice A l.length c) l) (hh : hi ≤ w.heap.size) : exW d w A l := by
  obtain ⟨A', c', e, hr⟩ := h.rdW hh
  cases e; exact hr
end
/-- What an append goes from and to: elements that avoid the row, in blocks below N. -/
def ExA (d : Nat) (v : Value) (N : Nat) (w : World) (a : ExX) (cs : List Value) : Prop := ExN d w a cs ∧ a.2.1 ≤ a.2.2 ∧ a.2.2 ≤ N ∧ ∀ k, v.ownBlock = some k → k < a.2.1 ∨ a.2.2 ≤ k
theorem ExN.one {d : Nat} {w : World} {a : ExX} {cs : List Value} (h : ExN d w a cs) : ∀ u ∈ cs, u.oneCell' = true := by
  obtain ⟨v', rfl, hT, _⟩ := h
  obtain ⟨A, c, rfl⟩ := hT.slice
  intro u hu
  simp [exHead] at hu
  rcases hu with rfl | rfl | rfl | rfl <;> rfl
theorem ExN.keep {d : Nat} {w w' : World} {a : ExX} {cs : List Value} (h : ExN d w a cs) (hk : ∀ k, a.2.1 ≤ k → k < a.2.2 → w'.heap[k]? = w.heap[k]?) : ExN d w' a cs := by
  obtain ⟨v', h1, h2, h3⟩ := h
  exact ⟨v', h1, h2.keep hk, h3⟩
theorem ExA.row {d N : Nat} {v : Value} {w w' : World} {a : ExX} {cs : List Value} (h : ExA d v N w a cs) (hN : N ≤ w.heap.size) (hg : w.grownBy w' v.ownBlock) : ExA d v N w' a cs := by
  obtain ⟨h1, h2, h3, h4⟩ := h
  refine ⟨h1.keep (fun k k1 k2 => hg.block k (by omega) (fun e => ?_)), h2, h3, h4⟩
  have := h4 k e.symm
  omega
theorem ExA.below {d N : Nat} {v : Value} {w w' : World} {a : ExX} {cs : List Value} (h : ExA d v N w a cs) (hN : N ≤ w.heap.size) (hb : Below w.heap.size w w') : ExA d v N w' a cs := by
  obtain ⟨h1, h2, h3, h4⟩ := h
  exact ⟨h1.keep (fun k k1 k2 => hb.block k (by omega)), h2, h3, h4⟩
/-- A row of one's own whose elements stand apart from it and from one another, from lo on, below N. -/
def ExO (d lo N : Nat) (w : World) (v : Value) (l' : List ExX) : Prop := AscX lo N l' ∧ N ≤ w.heap.size ∧ OwnG (ExA d v N) lo 28 4 w v l'
theorem ExO.below {d lo N : Nat} {w w' : World} {v : Value} {l' : List ExX} (h : ExO d lo N w v l') (hb : Below w.heap.size w w') : ExO d lo N w' v l' :=
  ⟨h.1, Nat.le_trans h.2.1 hb.size, h.2.2.below hb (fun _ _ g => g.below h.2.1 hb)⟩
theorem ExO.nil {d lo N : Nat} {w : World} (hN : N ≤ w.heap.size) : ExO d lo N w (.slice Option.none 0 0) [] := ⟨AscX.nil, hN, OwnG.nil⟩
theorem ExO.t {d lo N : Nat} {w : World} {v : Value} {l' : List ExX} (h : ExO d lo N w v l') : exT (d + 1) lo w.heap.size w v (l'.map Prod.fst) := by
  refine ⟨l', rfl, h.1.wide (Nat.le_refl _) h.2.1, ?_, fun k hk => (h.2.2.ge k hk).2, h.2.2.lower (Nat.le_refl _) (fun _ _ g => g.1)⟩
  obtain ⟨A, c, xs, e, ho, hc⟩ := h.2.2
  clear h ho e
  induction l' generalizing xs with
  | nil => intro a ha; simp at ha
  | cons b l' ih =>
    obtain ⟨cc, r, rfl, h1, h2, h3⟩ := hc
    intro a ha
    rcases List.mem_cons.1 ha with rfl | ha
    · exact h2.2.2.2
    · exact ih r h3 a ha
/-- Behind an append of one that is new. -/
theorem ExO.add {d lo N : Nat} {w w' : World} {v v' : Value} {l' : List ExX} {t : Ex} {a b : Nat} (hasc : AscX lo N l') (hN : N ≤ a) (hab : a ≤ b) (hlo : lo ≤ a) (hb : b ≤ w.heap.size) (hw : w.heap.size ≤ w'.heap.size)
    (ho : OwnG (ExA d v b) lo 28 4 w' v' (l' ++ [(t, a, b)])) (hv : v'.ownBlock = v.ownBlock ∨ v'.ownBlock = some w.heap.size) : ExO d lo b w' v' (l' ++ [(t, a, b)]) := by
  refine ⟨hasc.snoc hN hab hlo (Nat.le_refl _), by omega, ho.lower (Nat.le_refl _) (fun x cs g => ?_)⟩
  obtain ⟨g1, g2, g3, g4⟩ := g
  refine ⟨g1, g2, g3, fun k hk => ?_⟩
  rcases hv with e | e
  · rw [e] at hk; exact g4 k hk
  · rw [e] at hk; cases hk; exact .inr (by omega)
end Go.Proofs.Ytodjokdaofefdaa
/- Expressions: copies for a call, their parts in rows of their own. -/
namespace Go.Proofs.Ytodjokdaofefdaa
set_option linter.unusedSimpArgs false
set_option linter.unusedVariables false
open Go.RowKit

def TtQ (d : Nat) : Prop := ∀ (A : Option Addr) (r : Ex) (c : Nat) (w : World), exW d w A r.ps → fewS d r.ps →
  Calls Try.prog 22 #[.agg #[.int .i64 r.k, .int .i64 r.n, .string r.s, .slice A r.ps.length c]] w fun e w' => ∃ A' c', e = .returned (.agg #[.int .i64 r.k, .int .i64 r.n, .string r.s, .slice A' r.ps.length c']) ∧ exT d w.heap.size w'.heap.size w' (.slice A' r.ps.length c') r.ps ∧ Below w.heap.size w w'
def TtP (d : Nat) : Prop := ∀ (A : Option Addr) (l : ExL) (c : Nat) (w : World), exW d w A l → fewS d l →
  Calls Try.prog 74 #[.slice A l.length c] w fun e w' => ∃ A' c', e = .returned (.slice A' l.length c') ∧ exT d w.heap.size w'.heap.size w' (.slice A' l.length c') l ∧ Below w.heap.size w w'
theorem exT.setCell {d lo hi : Nat} {w : World} {v : Value} {l : ExL} {a : Addr} {x : Value} (h : exT d lo hi w v l) (hne : a.block < lo) : exT d lo hi (w.setCell a x) v l :=
  h.keep (fun k hk _ => Below.heap_setCell w a x k (by omega))
set_option maxRecDepth 100000 in
set_option maxHeartbeats 2000000 in
theorem ttQ_of {d : Nat} (hP : TtP d) : TtQ d := by
  intro A r c w hU hf
  have HP := Lib.hid hP
  have HF := Lib.hid hf
  clear hP hf
  go_enter Try.func22, Try.ntmps22
  go_wp2_with fail
  refine (HP.out _ _ _ _ (hU.below (by (repeat (first | exact Below.refl _ _ | refine ext_alloc ?_ _ | refine Below.setCell ?_ (by simp) _)))) HF.out).mono ?_
  rintro e w1 ⟨A', c', rfl, ho, hb⟩
  obtain ⟨hc, hf⟩ := bcell hb
  have hz := hb.size
  simp only [World.size_alloc, World.size_setCell] at hz ho ⊢
  go_wp2
  refine bodyPost_ret (v := .agg #[.int .i64 r.k, .int .i64 r.n, .string r.s, .slice A' r.ps.length c']) (by simp [results, go_sem, hc]) rfl ⟨_, _, rfl, ?_, ?_⟩
  · have hlo : exT d (w.heap.size + 1 + 1 + 1) w1.heap.size w1 (.slice A' r.ps.length c') r.ps := ho
    refine exT.wide (lo := w.heap.size + 1 + 1 + 1) (hi := w1.heap.size) (by omega) (by simp) ?_
    repeat (first | (with_reducible exact hlo) | (refine exT.setCell ?_ (by dsimp only; omega)))
  · have hb2 : Below w.heap.size w w1 := by
      refine Below.trans ?_ (hb.mono (by (try simp) <;> omega))
      repeat (first | exact Below.refl _ _ | refine ext_alloc ?_ _ | refine Below.setCell ?_ (by simp) _)
    repeat (first | (with_reducible exact hb2) | with_reducible refine Below.setCell ?_ (by (try simp) <;> omega) _)
theorem ExN.below {d : Nat} {w w' : World} {a : ExX} {cs : List Value} {B : Nat} (h : ExN d w a cs) (ha : a.2.2 ≤ B) (hb : Below B w w') : ExN d w' a cs := h.keep (fun k _ k2 => hb.block k (by omega))
set_option maxRecDepth 100000 in
set_option maxHeartbeats 4000000 in
theorem ttP_of {d : Nat} (hQ : ∀ m, d = m + 1 → TtQ m) : TtP d := by
  intro A l c w hU hf
  have HQ := Lib.hid hQ
  have HF := Lib.hid hf.2
  have hn := hf.1
  clear hQ hf
  obtain ⟨i0, hi, hz0, hz1, hz2⟩ := info_parts Try.infoExpr
  obtain ⟨wm, hmk, hown, hgr⟩ := run_make_full (P := Try.prog) w w.heap.size 26 28 i0 _ 4 Try.underlying26 hi hz0 hz1 .i64 .i64 l.length (by rw [hz2]; omega) (by simp only [maxLen]; omega) (Nat.le_refl _)
  have hBm : Below w.heap.size w wm := ext_grown (Below.refl _ _) hgr (by simp)
  clear hgr hi hz0 hz1 hz2
  generalize (madeCells _ _).toList = xs0 at hown
  have hwm : w.heap.size + 1 ≤ wm.heap.size := (own_lt hown).2
  go_enter Try.func74, Try.ntmps74
  go_wp2
  clear hmk
  go_loopw [4] (fun i wr => ∃ k : Nat, k ≤ l.length ∧ i = .int .i64 k ∧ Below w.heap.size w wr ∧ ∃ xs, wr.ownsRow w.heap.size 28 4 (.slice (some ⟨w.heap.size, 0, none⟩) l.length l.length) l.length xs ∧ ∃ l' : List ExX, l'.map Prod.fst = l.take k ∧ AscX (w.heap.size + 1) wr.heap.size l' ∧ Chunks (ExN (d - 1) wr) 4 l' (xs.take (k * 4))) (fun i _ => l.length - (intOf i).toNat)
  case atStart => exact ⟨0, Nat.zero_le _, rfl, hBm, xs0, hown, [], by simp, AscX.nil, by simp [Chunks]⟩
  case round =>
    clear hown hBm hwm
    obtain ⟨k, hk, rfl, hB, xs, hown, l', hmap, hasc, htake⟩ := hrel
    have HT := Lib.hid htake
    have HM := Lib.hid hmap
    have HA := Lib.hid hasc
    clear htake hmap hasc
    by_cases hlt : k < l.length
    · have hd : ∃ m, d = m + 1 := by
        cases d with
        | zero => have := exS.zero hU; subst this; simp at hlt
        | succ m => exact ⟨m, rfl⟩
      obtain ⟨m, hm⟩ := hd
      subst hm
      have HQ1 := Lib.hid (HQ.out m rfl)
      have hfk := HF.out k hlt
      have HFK : Hid (fewS m (exAt l k).ps) := Lib.hid hfk
      clear hfk
      obtain ⟨b, off, rfl, hcl⟩ := hU.cells (by omega)
      obtain ⟨A', c', hfd, hs, c0, c1, c2, c3⟩ := hcl k hlt
      replace c0 := below_cell hB c0
      replace c1 := below_cell hB c1
      replace c2 := below_cell hB c2
      replace c3 := below_cell hB c3
      replace hfd := hfd.below hB
      clear hcl
      have hgr : w.heap.size < wr.heap.size := (own_lt hown).2
      go_wp2_with fail
      refine (HQ1.out _ _ _ _ hfd HFK.out).mono ?_
      rintro e w1 ⟨A1, c1', rfl, ho1, hB1⟩
      have hws := hB.size
      have hw1 := hB1.size
      have HT1 := Lib.hid (HT.out.mono_mem (fun a ha cs h => h.below (HA.out.1 a ha).2.2 hB1))
      replace hB := ext_trans hB hB1
      replace hown := own_below hown hB1
      obtain ⟨v0, f0⟩ := own_cell hown (j := k * 4) (by omega)
      obtain ⟨v1, f1⟩ := own_cell hown (j := k * 4 + 1) (by omega)
      obtain ⟨v2, f2⟩ := own_cell hown (j := k * 4 + 2) (by omega)
      obtain ⟨v3, f3⟩ := own_cell hown (j := k * 4 + 3) (by omega)
      have z0 := hown.frozenAt (k * 4)
      have z1 := hown.frozenAt (k * 4 + 1)
      have z2 := hown.frozenAt (k * 4 + 2)
      have z3 := hown.frozenAt (k * 4 + 3)
      have hsg := setCells_grown w.heap.size [.int .i64 (exAt l k).k, .int .i64 (exAt l k).n, .string (exAt l k).s, .slice A1 (exAt l k).ps.length c1'] w1 (k * 4)
      have hkp : ∀ j, w.heap.size + 1 ≤ j → j < w1.heap.size → (setCells w1 w.heap.size (k * 4) [.int .i64 (exAt l k).k, .int .i64 (exAt l k).n, .string (exAt l k).s, .slice A1 (exAt l k).ps.length c1']).heap[j]? = w1.heap[j]? := fun j h1 h2 => hsg.block j h2 (fun e => by cases e; omega)
      have HQ2 : Hid (ExN m (setCells w1 w.heap.size (k * 4) [.int .i64 (exAt l k).k, .int .i64 (exAt l k).n, .string (exAt l k).s, .slice A1 (exAt l k).ps.length c1']) (exAt l k, wr.heap.size, w1.heap.size) (exHead (exAt l k) (.slice A1 (exAt l k).ps.length c1'))) :=
        Lib.hid ⟨_, rfl, ho1.keep (fun j h1 h2 => hkp j (Nat.le_trans hgr h1) h2), hs⟩
      have HT2 := Lib.hid (HT1.out.mono_mem (fun a ha cs h => h.keep (fun j h1 h2 => hkp j (by have := HA.out.1 a ha; omega) (by have := HA.out.1 a ha; omega))))
      have HA2 := Lib.hid (HA.out.snoc (t := exAt l k) (a := wr.heap.size) (b := w1.heap.size) (hi' := w1.heap.size) (Nat.le_refl _) hw1 hgr (Nat.le_refl _))
      have hss := hsg.size
      clear hsg hkp ho1 hB1 hfd c0 c1 c2 c3
      go_wp2
      go_roundw
      case rel =>
        obtain ⟨xs', h1, h2⟩ := chunks_elem (exHead (exAt l k) (.slice A1 (exAt l k).ps.length c1')) hown hlt rfl HT2.out HQ2.out
        have hbs := setCells_below (Nat.le_refl _) (exHead (exAt l k) (.slice A1 (exAt l k).ps.length c1')) (k * 4) hB
        refine ⟨k + 1, by omega, by go_num, hbs, xs', h1, l' ++ [(exAt l k, wr.heap.size, w1.heap.size)], ?_, HA2.out.wide (Nat.le_refl _) hss, h2⟩
        rw [List.map_append, HM.out, List.take_succ_eq_append_getElem hlt, ← exAt_eq hlt]
        rfl
      case measure => simp [intOf]; omega
    · obtain rfl : k = l.length := by omega
      go_wp2
      go_ret
      have hgl := (own_lt hown).2
      have e := HT.out
      have hm := HM.out
      rw [List.take_of_length_le (Nat.le_of_eq hown.1)] at e
      rw [List.take_length] at hm
      refine ⟨_, _, rfl, ?_, hB⟩
      cases d with
      | zero => have h0 := exS.zero hU; exact ⟨h0, _, _, by rw [h0]; rfl⟩
      | succ m =>
        have hl' : l'.length = l.length := by rw [← hm, List.length_map]
        refine ⟨l', hm, HA.out.wide (Nat.le_succ _) (Nat.le_refl _), fun a ha k hk => ?_, fun k hk => ?_, ?_⟩
        · simp only [Value.ownBlock, Option.some.injEq] at hk
          have := HA.out.1 a ha
          omega
        · simp only [Value.ownBlock, Option.some.injEq] at hk
          omega
        · exact ⟨_, _, xs, by rw [hl'], by rw [hl']; exact hown, e⟩
theorem ttP_all : ∀ d, TtP d
  | 0 => ttP_of (fun m h => by omega)
  | d + 1 => ttP_of (fun m h => by cases h; exact ttQ_of (ttP_all d))
theorem toExprT {d : Nat} {A : Option Addr} {r : Ex} {c : Nat} {w : World} (h1 : exW d w A r.ps) (h2 : fewS d r.ps) :
    Calls Try.prog 22 #[.agg #[.int .i64 r.k, .int .i64 r.n, .string r.s, .slice A r.ps.length c]] w fun e w' => ∃ A' c', e = .returned (.agg #[.int .i64 r.k, .int .i64 r.n, .string r.s, .slice A' r.ps.length c']) ∧ exT d w.heap.size w'.heap.size w' (.slice A' r.ps.length c') r.ps ∧ Below w.heap.size w w' := ttQ_of (ttP_all d) A r c w h1 h2
end Go.Proofs.Ytodjokdaofefdaa
/- The texts that marks write. -/
namespace Go.Proofs.Ytodjokdaofefdaa
set_option linter.unusedSimpArgs false
set_option linter.unusedVariables false
open Go.RowKit

def mkGo : Nat → Int → ByteArray → ByteArray
  | 0, _, out => out
  | f + 1, k, out => if k ≤ 0 then out else mkGo f (k / 10) (⟨#[UInt8.ofNat (48 + k % 10).toNat]⟩ ++ out)
def mkT (k : Int) : ByteArray := if k ≤ 0 then ⟨#[109, 48]⟩ else ⟨#[109]⟩ ++ mkGo k.toNat k ⟨#[]⟩
theorem run_one_byte {w : World} {n : Int} (h0 : 0 ≤ n) (h1 : n ≤ 255) :
    (convert 22 9 (.slice (some ⟨w.heap.size, 0, Option.none⟩) 1 1)).run Try.prog (w.alloc (.cells #[.int .u8 n] 5)) = .ok (.string ⟨#[UInt8.ofNat n.toNat]⟩) (w.alloc (.cells #[.int .u8 n] 5)) := by
  have e : ((UInt8.ofNat n.toNat).toNat : Int) = n := by
    rw [UInt8.toNat_ofNat']
    omega
  have h := run_convert_bytes_back (P := Try.prog) (w.alloc (.cells #[.int .u8 n] 5)) 22 9 5 ⟨w.heap.size, 0, Option.none⟩ 1 [UInt8.ofNat n.toNat] Try.underlying22 Try.underlying5 Try.underlying9 (by
    intro j hj
    have hj0 : j = 0 := by simp at hj; exact hj
    subst hj0
    simp only [List.getElem_cons_zero, e]
    exact box_cell w _ _ 0 _ rfl)
  exact h
set_option maxRecDepth 100000 in
set_option maxHeartbeats 2000000 in
theorem markText_any {k : Int} (w : World) (hk : k ≤ 4611686018427387904) :
    Calls Try.prog 126 #[.int .i64 k] w fun e w' => e = .returned (.string (mkT k)) ∧ Below w.heap.size w w' := by
  by_cases h0 : k ≤ 0
  · have HD : Hid (mkT k = ⟨#[109, 48]⟩) := Lib.hid (by rw [mkT, if_pos h0])
    go_enter Try.func126, Try.ntmps126
    go_wp2
    go_ret
    exact ⟨by rw [HD.out]; rfl, Below.refl _ _⟩
  · have HD : Hid (mkT k = ⟨#[109]⟩ ++ mkGo k.toNat k ⟨#[]⟩) := Lib.hid (by rw [mkT, if_neg h0])
    go_enter Try.func126, Try.ntmps126
    go_wp2
    go_loopw [0, 3] (fun kv ov wr => ∃ (f : Nat) (m : Int) (out : ByteArray), kv = .int .i64 m ∧ ov = .string out ∧ 0 ≤ m ∧ m ≤ 4611686018427387904 ∧ (m.toNat ≤ f ∧ out.size + m.toNat ≤ 4611686018427387904) ∧ Hid (mkGo f m out = mkGo k.toNat k ⟨#[]⟩) ∧ Below w.heap.size w wr) (fun kv _ _ => (intOf kv).toNat)
    case atStart => exact ⟨k.toNat, k, ⟨#[]⟩, rfl, rfl, by omega, hk, ⟨Nat.le_refl _, by show 0 + k.toNat ≤ _; omega⟩, Lib.hid rfl, Below.refl _ _⟩
    case round =>
      obtain ⟨f, m, out, rfl, rfl, hm, hm1, ⟨hf, hz⟩, HG, hB⟩ := hrel
      by_cases hlt : 0 < m
      · obtain ⟨f, rfl⟩ : ∃ g, f = g + 1 := ⟨f - 1, by omega⟩
        have HG1 : Hid (mkGo f (m / 10) (⟨#[UInt8.ofNat (48 + m % 10).toNat]⟩ ++ out) = mkGo k.toNat k ⟨#[]⟩) := Lib.hid (by rw [← HG.out, mkGo, if_neg (by omega)])
        have ez : (⟨#[UInt8.ofNat (48 + m % 10).toNat]⟩ ++ out : ByteArray).size = 1 + out.size := by rw [ByteArray.size_append]; rfl
        have HZ := Lib.hid ez
        clear ez
        go_wp2
        rw [run_one_byte (by omega) (by omega)]
        go_wp2
        go_roundw
        case rel => exact ⟨f, m / 10, _, rfl, rfl, by omega, by omega, ⟨by omega, by rw [HZ.out]; omega⟩, HG1, ext_alloc hB _⟩
        case measure => simp [intOf]; omega
      · obtain rfl : m = 0 := by omega
        have HE : Hid (mkGo f 0 out = out) := Lib.hid (by cases f <;> simp [mkGo])
        go_wp2
        go_ret
        exact ⟨by rw [HD.out, ← HG.out, HE.out]; rfl, hB⟩
end Go.Proofs.Ytodjokdaofefdaa

/- Records whose fields lie apart: copies. -/
import Derived.Test.YtdpiaiblpafglaaRcJ
import Derived.Test.YtdpiaiblpafglaaRmB
namespace Go.Proofs.Ytdpiaiblpafglaa
set_option linter.unusedSimpArgs false
set_option linter.unusedVariables false
open Go.RowKit

/-- A record with the slice of its fields. -/
abbrev RcX := Rc × Value
def RcWx (B : Nat) (w : World) (a : RcX) (cs : List Value) : Prop := cs = rcCells a.1 a.2 ∧ OwnA B 85 3 fdEnc w a.2 (rfs a.1)
/-- The fields' rows lie apart. -/
def ApL (l : List RcX) : Prop := l.Pairwise fun a b => ∀ k, a.2.ownBlock = some k → b.2.ownBlock ≠ some k
theorem ApL.nil : ApL [] := List.Pairwise.nil
theorem ApL.snoc {l : List RcX} {b : RcX} (h : ApL l) (hb : ∀ a ∈ l, ∀ k, a.2.ownBlock = some k → b.2.ownBlock ≠ some k) : ApL (l ++ [b]) :=
  List.pairwise_append.2 ⟨h, List.pairwise_singleton _ _, fun a ha c hc => by rw [List.mem_singleton.1 hc]; exact hb a ha⟩
theorem RcWx.o {B : Nat} {w : World} {a : RcX} {cs : List Value} (h : RcWx B w a cs) : RcO B w a.1 cs := ⟨a.2, h.1, h.2⟩
theorem RcWx.one {B : Nat} {w : World} {a : RcX} {cs : List Value} (h : RcWx B w a cs) : ∀ u ∈ cs, u.oneCell' = true := h.o.one
theorem RcWx.below {B : Nat} {w w' : World} (hb : Below w.heap.size w w') (a : RcX) (cs : List Value) (h : RcWx B w a cs) : RcWx B w' a cs := ⟨h.1, h.2.below hb⟩
theorem RcWx.lower {B B' : Nat} {w : World} (hB : B' ≤ B) (a : RcX) (cs : List Value) (h : RcWx B w a cs) : RcWx B' w a cs := ⟨h.1, h.2.lower hB⟩
theorem RcWx.row {B : Nat} {w w' : World} {row : Option Nat} (hg : w.grownBy w' row) (hrow : ∀ k, row = some k → ∃ cs fr, w.heap[k]? = some (.cells cs 27 fr)) (a : RcX) (cs : List Value) (h : RcWx B w a cs) : RcWx B w' a cs := by
  obtain ⟨h1, A, c, e, ho⟩ := h
  refine ⟨h1, A, c, e, own_apart_ ho hg (fun k hk e => ?_)⟩
  obtain ⟨cs, fr, hx⟩ := hrow k e
  rcases ho.2 with ⟨h1, _⟩ | ⟨g2, cap, cur, hv, _, hx2, _⟩
  · rw [h1] at hk; cases hk
  · rw [hv] at hk
    simp only [Value.ownBlock, Option.some.injEq] at hk
    subst hk
    rw [hx] at hx2
    simp only [Option.some.injEq, Obj.cells.injEq] at hx2
    exact absurd hx2.2.1 (by decide)
theorem chunks_each {α : Type} {R : α → List Value → Prop} {sz : Nat} {l : List α} {xs : List Value} (h : Chunks R sz l xs) : ∀ a ∈ l, ∃ cs, R a cs := by
  induction l generalizing xs with
  | nil => simp
  | cons b l ih =>
    obtain ⟨c, r, rfl, h1, h2, h3⟩ := h
    intro a ha
    rcases List.mem_cons.1 ha with rfl | ha
    · exact ⟨c, h2⟩
    · exact ih h3 a ha
theorem RcWx.inn {B sz : Nat} {w : World} {l : List RcX} {xs : List Value} (h : Chunks (RcWx B w) sz l xs) : ∀ a ∈ l, ∀ k, a.2.ownBlock = some k → B ≤ k ∧ k < w.heap.size := fun a ha k hk => by
  obtain ⟨cs, _, h2⟩ := chunks_each h a ha
  exact h2.ge k hk
theorem OwnG.inn {B sz : Nat} {T : TypeId} {w : World} {v : Value} {l : List RcX} (h : OwnG (RcWx B) B T sz w v l) : ∀ a ∈ l, ∀ k, a.2.ownBlock = some k → B ≤ k ∧ k < w.heap.size := by
  obtain ⟨A, c, xs, rfl, ho, hc⟩ := h
  exact RcWx.inn hc
/-- Records of one's own whose fields lie apart. -/
def OwnN (B : Nat) (w : World) (v : Value) (l : RcL) : Prop := ∃ l' : List RcX, l'.map Prod.fst = l ∧ ApL l' ∧ OwnG (RcWx B) B 27 7 w v l'
theorem OwnN.below {B : Nat} {w w' : World} {v : Value} {l : RcL} (h : OwnN B w v l) (hb : Below w.heap.size w w') : OwnN B w' v l :=
  let ⟨l', h1, h2, h3⟩ := h; ⟨l', h1, h2, h3.below hb (RcWx.below hb)⟩
theorem OwnN.lower {B B' : Nat} {w : World} {v : Value} {l : RcL} (h : OwnN B w v l) (hB : B' ≤ B) : OwnN B' w v l :=
  let ⟨l', h1, h2, h3⟩ := h; ⟨l', h1, h2, h3.lower hB (RcWx.lower hB)⟩
theorem chunks_fst {B sz : Nat} {w : World} {l : List RcX} {xs : List Value} (h : Chunks (RcWx B w) sz l xs) : Chunks (RcO B w) sz (l.map Prod.fst) xs := by
  induction l generalizing xs with
  | nil => exact h
  | cons a l ih => obtain ⟨c, r, rfl, h1, h2, h3⟩ := h; exact ⟨c, r, rfl, h1, h2.o, ih h3⟩
theorem OwnN.o {B : Nat} {w : World} {v : Value} {l : RcL} (h : OwnN B w v l) : OwnG (RcO B) B 27 7 w v l := by
  obtain ⟨l', rfl, _, A, c, xs, rfl, ho, hc⟩ := h
  exact ⟨A, c, xs, by simp, by simpa using ho, chunks_fst hc⟩
theorem OwnN.ge {B : Nat} {w : World} {v : Value} {l : RcL} (h : OwnN B w v l) (k : Nat) (hk : v.ownBlock = some k) : B ≤ k ∧ k < w.heap.size := h.o.ge k hk
theorem OwnN.nil {B : Nat} {w : World} : OwnN B w (.slice Option.none 0 0) [] := ⟨[], rfl, .nil, OwnG.nil⟩
set_option maxRecDepth 100000 in
set_option maxHeartbeats 4000000 in
theorem cloneRecords_n {A : Option Addr} {l : RcL} {c : Nat} {w : World} (hU : rcR w A l) (hn : l.length ≤ 2097152) (hf : FewF 1048576 l) :
    Calls Try.prog 49 #[.slice A l.length c] w fun e w' => ∃ A' c', e = .returned (.slice A' l.length c') ∧ OwnN w.heap.size w' (.slice A' l.length c') l ∧ Below w.heap.size w w' := by
  have HF := Lib.hid hf
  clear hf
  go_enter Try.func49, Try.ntmps49
  go_wp2
  go_loopw [3, 8] (fun ov iv wr => ∃ k : Nat, k ≤ l.length ∧ iv = .int .i64 k ∧ (∃ l', l'.map Prod.fst = l.take k ∧ ApL l' ∧ OwnG (RcWx w.heap.size) w.heap.size 27 7 wr ov l') ∧ Below w.heap.size w wr) (fun _ iv _ => l.length - (intOf iv).toNat)
  case atStart => exact ⟨0, Nat.zero_le _, rfl, ⟨[], rfl, .nil, OwnG.nil⟩, Below.refl _ _⟩
  case round =>
    obtain ⟨k, hk, rfl, ⟨l', hl', hap, hO⟩, hB⟩ := hrel
    have hl'k : l'.length = k := by rw [← List.length_map (f := Prod.fst), hl', List.length_take]; omega
    have HL' := Lib.hid hl'
    have HAP := Lib.hid hap
    have HLK := Lib.hid hl'k
    clear hl' hap hl'k
    by_cases hlt : k < l.length
    · obtain ⟨bb, off, rfl, hc⟩ := hU.cells (by omega)
      obtain ⟨A', c', hfd, p0, p1, p2, p3, p4, p5, p6⟩ := hc k hlt
      replace p0 := below_cell hB p0
      replace p1 := below_cell hB p1
      replace p2 := below_cell hB p2
      replace p3 := below_cell hB p3
      replace p4 := below_cell hB p4
      replace p5 := below_cell hB p5
      replace p6 := below_cell hB p6
      replace hfd := hfd.below hB
      have hfl := HF.out k hlt
      have hb0 := below_alloc wr (.cells #[.int .i64 (rc0 l k), .int .i64 (rc1 l k), .int .i64 (rc2 l k), .int .i64 (rc3 l k), .slice A' (rc4 l k).length c', .bool (rc5 l k), .int .i64 (rc6 l k)] 27)
      obtain ⟨X, hX⟩ : ∃ X, X = wr.alloc (.cells #[.int .i64 (rc0 l k), .int .i64 (rc1 l k), .int .i64 (rc2 l k), .int .i64 (rc3 l k), .slice A' (rc4 l k).length c', .bool (rc5 l k), .int .i64 (rc6 l k)] 27) := ⟨_, rfl⟩
      obtain ⟨g, hg⟩ : ∃ g, g = wr.heap.size := ⟨_, rfl⟩
      have hXg : X.heap[g]? = some (.cells #[.int .i64 (rc0 l k), .int .i64 (rc1 l k), .int .i64 (rc2 l k), .int .i64 (rc3 l k), .slice A' (rc4 l k).length c', .bool (rc5 l k), .int .i64 (rc6 l k)] 27 (0, 0)) := by rw [hX, hg]; exact heap_alloc_new _ _
      rw [← hX] at hb0
      have hwg : w.heap.size ≤ g := by have := hB.size; omega
      have HIN : Hid (∀ a ∈ l', ∀ k, a.2.ownBlock = some k → k < g) := Lib.hid (fun a ha k hk => by have := (hO.inn a ha k hk).2; omega)
      have hXs : g < X.heap.size := by rw [hX, hg]; simp
      have HLT : Hid (∀ k, u3.ownBlock = some k → k < g) := Lib.hid (fun k hk => by have := (hO.ge k hk).2; omega)
      replace hO := hO.below hb0 (RcWx.below hb0)
      replace hB := ext_trans hB hb0
      replace hfd := hfd.below hb0
      have HX := Lib.hid hX
      have HG := Lib.hid hg
      have HXG := Lib.hid hXg
      clear hc hX hg hXg hb0
      go_wp2_with fail
      rw [← HX.out, ← HG.out]
      refine (cloneFields_any hfd (by omega)).mono ?_
      rintro e w1 ⟨A1, c1, rfl, ho1, hb1⟩
      have hwX := hB.size
      replace HXG := Lib.hid ((hb1.block _ (Array.getElem?_eq_some_iff.1 HXG.out).1).trans HXG.out)
      have x0 : w1.cell? ⟨g, 0, none⟩ = some _ := (cell_of_row w1 g 0 _ _ _ HXG.out).trans rfl
      have x1 : w1.cell? ⟨g, 1, none⟩ = some _ := (cell_of_row w1 g 1 _ _ _ HXG.out).trans rfl
      have x2 : w1.cell? ⟨g, 2, none⟩ = some _ := (cell_of_row w1 g 2 _ _ _ HXG.out).trans rfl
      have x3 : w1.cell? ⟨g, 3, none⟩ = some _ := (cell_of_row w1 g 3 _ _ _ HXG.out).trans rfl
      have x4 : w1.cell? ⟨g, 4, none⟩ = some _ := (cell_of_row w1 g 4 _ _ _ HXG.out).trans rfl
      have x5 : w1.cell? ⟨g, 5, none⟩ = some _ := (cell_of_row w1 g 5 _ _ _ HXG.out).trans rfl
      have x6 : w1.cell? ⟨g, 6, none⟩ = some _ := (cell_of_row w1 g 6 _ _ _ HXG.out).trans rfl
      have z4 : w1.frozen? ⟨g, 4, none⟩ = false := frozen_of_row w1 g 4 _ _ HXG.out
      have hsg := setCells_grown g [.slice A1 (rc4 l k).length c1] w1 4
      have hrow : ∀ j, some g = some j → ∃ cs fr, w1.heap[j]? = some (.cells cs 27 fr) := fun j e => by cases e; exact ⟨_, _, HXG.out⟩
      replace hO := (hO.below hb1 (RcWx.below hb1)).kept hsg (fun k hk e => by cases e; have := HLT.out _ hk; omega) (RcWx.row hsg hrow)
      have hq := RcWx.row hsg hrow (rcAt l k, .slice A1 (rc4 l k).length c1) _ ⟨rfl, _, _, rfl, own_lower ho1 hwX⟩
      have HAP2 : Hid (ApL (l' ++ [(rcAt l k, .slice A1 (rc4 l k).length c1)])) := Lib.hid (HAP.out.snoc (fun a ha k hk e => by have := HIN.out a ha k hk; have := (ho1.lt k e).1; omega))
      replace hB := (ext_trans hB hb1).grown hsg (Nat.le_trans hwX hb1.size) (fun k e => by cases e; exact hwg)
      have hba := below_alloc (setCells w1 g 4 [.slice A1 (rc4 l k).length c1]) (.cells #[.int .i64 (rc0 l k), .int .i64 (rc1 l k), .int .i64 (rc2 l k), .int .i64 (rc3 l k), .slice A1 (rc4 l k).length c1, .bool (rc5 l k), .int .i64 (rc6 l k)] 27)
      replace hO := hO.below hba (RcWx.below hba)
      replace hq := RcWx.below hba _ _ hq
      replace hB := ext_trans hB hba
      have hnew := heap_alloc_at (w := setCells w1 g 4 [.slice A1 (rc4 l k).length c1]) (n := w1.heap.size) (setCells_size _ _ _ _).symm (o := .cells #[.int .i64 (rc0 l k), .int .i64 (rc1 l k), .int .i64 (rc2 l k), .int .i64 (rc3 l k), .slice A1 (rc4 l k).length c1, .bool (rc5 l k), .int .i64 (rc6 l k)] 27)
      have hwb : w.heap.size ≤ ((setCells w1 g 4 [.slice A1 (rc4 l k).length c1]).alloc (.cells #[.int .i64 (rc0 l k), .int .i64 (rc1 l k), .int .i64 (rc2 l k), .int .i64 (rc3 l k), .slice A1 (rc4 l k).length c1, .bool (rc5 l k), .int .i64 (rc6 l k)] 27)).heap.size := hB.size
      have HO := Lib.hid hO
      have HQ := Lib.hid hq
      have HB := Lib.hid hB
      have HN := Lib.hid hnew
      have HWB := Lib.hid hwb
      clear hO hq hB hnew hba hsg hrow ho1 hb1 hwb
      go_wp2_with (at_builtin; go_must (refine wpList_appendG (R := RcWx w.heap.size) (l := l') (l2 := [(rcAt l k, .slice A1 (rc4 l k).length c1)]) rfl (.tmp 18) (.tmp 20) 33 27 _ 7 72 rfl Try.underlying33 Try.infoRecord rfl (by decide) (fun a cs h => RcWx.one h) HO.out rfl (rd_blockG HN.out rfl HQ.out) (fun w' hg a cs h => RcWx.row hg (OwnG.typ HO.out) a cs h) (by simp [HLK.out]; omega) (by simp [HLK.out]; omega) HWB.out ?_); intro v3 w3 hO3 hB3 hg3 _)
      replace hB3 := HB.out.trans hB3
      clear HO HQ HB HN HWB hg3 x0 x1 x2 x3 x4 x5 x6 z4
      go_wp2
      go_roundw
      case rel =>
        refine ⟨k + 1, by omega, by go_num, ⟨_, ?_, HAP2.out, hO3⟩, hB3⟩
        rw [List.take_succ_eq_append_getElem hlt, ← rcAt_eq hlt, List.map_append, HL'.out]; rfl
      case measure => simp [intOf]; omega
    · obtain rfl : k = l.length := by omega
      have hl' := HL'.out
      rw [List.take_length] at hl'
      have HO : Hid (∃ A' c', u3 = .slice A' l.length c' ∧ OwnN w.heap.size wr (.slice A' l.length c') l) := Lib.hid (by
        obtain ⟨A', c', xs, rfl, ho, hch⟩ := hO
        rw [HLK.out] at ho ⊢
        exact ⟨A', c', rfl, l', hl', HAP.out, A', c', xs, by rw [HLK.out], by rw [HLK.out]; exact ho, hch⟩)
      clear hl' hO
      obtain ⟨A', c', rfl, hn⟩ := HO.out
      clear HO
      go_wp2
      go_ret
      exact ⟨A', c', rfl, hn, hB⟩
set_option maxRecDepth 100000 in
set_option maxHeartbeats 4000000 in
theorem toRecordS_n {A : Option Addr} {l : RcL} {c : Nat} {w : World} (hU : rcR w A l) (hn : l.length ≤ 2097152) (hf : FewF 1048576 l) :
    Calls Try.prog 30 #[.slice A l.length c] w fun e w' => e = .returned (.slice (some ⟨w.heap.size, 0, none⟩) l.length l.length) ∧
      OwnN w.heap.size w' (.slice (some ⟨w.heap.size, 0, none⟩) l.length l.length) l ∧ Below w.heap.size w w' := by
  obtain ⟨i0, hi, hz0, hz1, hz2⟩ := info_parts Try.infoRecord
  obtain ⟨wm, hmk, hown, hgr⟩ := run_make_full (P := Try.prog) w w.heap.size 33 27 i0 _ 7 Try.underlying33 hi hz0 hz1 .i64 .i64 l.length (by rw [hz2]; omega) (by simp only [maxLen]; omega) (Nat.le_refl _)
  have hBm : Below w.heap.size w wm := ext_grown (Below.refl _ _) hgr (by simp)
  clear hgr hi hz0 hz1 hz2
  generalize (madeCells _ _).toList = xs0 at hown
  have HF := Lib.hid hf
  clear hf
  go_enter Try.func30, Try.ntmps30
  go_wp2
  clear hmk
  go_loopw [4] (fun i wr => ∃ k : Nat, k ≤ l.length ∧ i = .int .i64 k ∧ Below w.heap.size w wr ∧ ∃ xs, wr.ownsRow w.heap.size 27 7 (.slice (some ⟨w.heap.size, 0, none⟩) l.length l.length) l.length xs ∧ ∃ l', l'.map Prod.fst = l.take k ∧ ApL l' ∧ Chunks (RcWx w.heap.size wr) 7 l' (xs.take (k * 7))) (fun i _ => l.length - (intOf i).toNat)
  case atStart => exact ⟨0, Nat.zero_le _, rfl, hBm, xs0, hown, [], rfl, .nil, by simp [Chunks]⟩
  case round =>
    clear hown hBm
    obtain ⟨k, hk, rfl, hB, xs, hown, l', hl', hap, htake⟩ := hrel
    have HL' := Lib.hid hl'
    have HAP := Lib.hid hap
    have HIN : Hid (∀ a ∈ l', ∀ k, a.2.ownBlock = some k → k < wr.heap.size) := Lib.hid (fun a ha k hk => (RcWx.inn htake a ha k hk).2)
    clear hl' hap
    have HT := Lib.hid htake
    clear htake
    by_cases hlt : k < l.length
    · obtain ⟨b, off, rfl, hcl⟩ := hU.cells (by omega)
      obtain ⟨A', c', hfd, c0, c1, c2, c3, c4, c5, c6⟩ := hcl k hlt
      replace c0 := below_cell hB c0
      replace c1 := below_cell hB c1
      replace c2 := below_cell hB c2
      replace c3 := below_cell hB c3
      replace c4 := below_cell hB c4
      replace c5 := below_cell hB c5
      replace c6 := below_cell hB c6
      replace hfd := hfd.below hB
      have hfl := HF.out k hlt
      clear hcl
      go_wp2_with fail
      refine (toRecord_any hfd (by omega)).mono ?_
      rintro e w1 ⟨g, rfl, ho1, hB1⟩
      have hgl := ho1.lt g rfl
      have hws := hB.size
      have HT1 := Lib.hid (HT.out.mono (fun a cs h => RcWx.below hB1 a cs h))
      replace hB := ext_trans hB hB1
      replace hown := own_below hown hB1
      obtain ⟨v0, f0⟩ := own_cell hown (j := k * 7) (by omega)
      obtain ⟨v1, f1⟩ := own_cell hown (j := k * 7 + 1) (by omega)
      obtain ⟨v2, f2⟩ := own_cell hown (j := k * 7 + 2) (by omega)
      obtain ⟨v3, f3⟩ := own_cell hown (j := k * 7 + 3) (by omega)
      obtain ⟨v4, f4⟩ := own_cell hown (j := k * 7 + 4) (by omega)
      obtain ⟨v5, f5⟩ := own_cell hown (j := k * 7 + 5) (by omega)
      obtain ⟨v6, f6⟩ := own_cell hown (j := k * 7 + 6) (by omega)
      have z0 := hown.frozenAt (k * 7)
      have z1 := hown.frozenAt (k * 7 + 1)
      have z2 := hown.frozenAt (k * 7 + 2)
      have z3 := hown.frozenAt (k * 7 + 3)
      have z4 := hown.frozenAt (k * 7 + 4)
      have z5 := hown.frozenAt (k * 7 + 5)
      have z6 := hown.frozenAt (k * 7 + 6)
      have hsg := setCells_grown w.heap.size [.int .i64 (rc0 l k), .int .i64 (rc1 l k), .int .i64 (rc2 l k), .int .i64 (rc3 l k), .slice (some ⟨g, 0, none⟩) (rc4 l k).length (rc4 l k).length, .bool (rc5 l k), .int .i64 (rc6 l k)] w1 (k * 7)
      have hrow : ∀ j, some w.heap.size = some j → ∃ cs fr, w1.heap[j]? = some (.cells cs 27 fr) := fun j e => by
        cases e
        rcases hown.2 with ⟨h1, _⟩ | ⟨g2, cap, cur, hv, _, hx2, _⟩
        · cases h1
        · simp only [Value.slice.injEq, Option.some.injEq, Addr.mk.injEq, and_true] at hv
          obtain ⟨rfl, _⟩ := hv
          exact ⟨_, _, hx2⟩
      have HAP2 : Hid (ApL (l' ++ [(rcAt l k, .slice (some ⟨g, 0, none⟩) (rc4 l k).length (rc4 l k).length)])) := Lib.hid (HAP.out.snoc (fun a ha k hk e => by have := HIN.out a ha k hk; have := (ho1.lt k e).1; omega))
      have HQ : Hid (RcWx w.heap.size (setCells w1 w.heap.size (k * 7) [.int .i64 (rc0 l k), .int .i64 (rc1 l k), .int .i64 (rc2 l k), .int .i64 (rc3 l k), .slice (some ⟨g, 0, none⟩) (rc4 l k).length (rc4 l k).length, .bool (rc5 l k), .int .i64 (rc6 l k)]) (rcAt l k, .slice (some ⟨g, 0, none⟩) (rc4 l k).length (rc4 l k).length) (rcCells (rcAt l k) (.slice (some ⟨g, 0, none⟩) (rc4 l k).length (rc4 l k).length))) :=
        Lib.hid (RcWx.row hsg hrow _ _ ⟨rfl, _, _, rfl, own_lower ho1 hws⟩)
      have HT2 := Lib.hid (HT1.out.mono (fun a cs h => RcWx.row hsg hrow a cs h))
      clear hsg hrow ho1 hB1 hfd c0 c1 c2 c3 c4 c5 c6
      go_wp2
      go_roundw
      case rel =>
        obtain ⟨xs', h1, h2⟩ := chunks_elem (rcCells (rcAt l k) (.slice (some ⟨g, 0, none⟩) (rc4 l k).length (rc4 l k).length)) hown hlt rfl HT2.out HQ.out
        refine ⟨k + 1, by omega, by go_num, setCells_below (Nat.le_refl _) (rcCells (rcAt l k) (.slice (some ⟨g, 0, none⟩) (rc4 l k).length (rc4 l k).length)) (k * 7) hB, xs', h1, _, ?_, HAP2.out, h2⟩
        rw [List.take_succ_eq_append_getElem hlt, ← rcAt_eq hlt, List.map_append, HL'.out]; rfl
      case measure => simp [intOf]; omega
    · obtain rfl : k = l.length := by omega
      go_wp2
      go_ret
      refine ⟨rfl, ?_, hB⟩
      have e := HT.out
      rw [List.take_of_length_le (Nat.le_of_eq hown.1)] at e
      have hl' := HL'.out
      rw [List.take_length] at hl'
      have hn' : l'.length = l.length := by rw [← hl', List.length_map]
      refine ⟨l', hl', HAP.out, ?_⟩
      rw [← hn'] at hown ⊢
      exact OwnG.of hown e
end Go.Proofs.Ytdpiaiblpafglaa

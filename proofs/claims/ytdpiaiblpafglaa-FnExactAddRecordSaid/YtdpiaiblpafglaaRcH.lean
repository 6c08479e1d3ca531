/- Records: conversions. -/
import Derived.Test.YtdpiaiblpafglaaRcG
namespace Go.Proofs.Ytdpiaiblpafglaa
set_option linter.unusedSimpArgs false
set_option linter.unusedVariables false
open Go.RowKit

theorem own_setCell {w : World} {B sz n : Nat} {e : TypeId} {v : Value} {xs : List Value} {a : Addr} {x : Value} (h : w.ownsRow B e sz v n xs) (hne : ∀ k, v.ownBlock = some k → k ≠ a.block) : (w.setCell a x).ownsRow B e sz v n xs :=
  own_apart_ (row := some a.block) h ⟨rfl, rfl, rfl, by simp [World.setCell], fun k _ hk => Below.heap_setCell w a x k (fun e => hk (by simp [e]))⟩ (fun k hk e => hne k hk (by simpa using e.symm))

set_option maxRecDepth 100000 in
set_option maxHeartbeats 2000000 in
theorem toRequest_any {A : Option Addr} {fs : FdL} {c : Nat} {who act what : Int} {w : World} (hU : fdR w A fs) (hn : fs.length ≤ 2097152) :
    Calls Try.prog 33 #[.agg #[.int .i64 who, .int .i64 act, .int .i64 what, .slice A fs.length c]] w fun e w' => ∃ g, e = .returned (.agg #[.int .i64 who, .int .i64 act, .int .i64 what, .slice (some ⟨g, 0, none⟩) fs.length fs.length]) ∧
      w'.ownsRow w.heap.size 85 3 (.slice (some ⟨g, 0, none⟩) fs.length fs.length) fs.length (fs.flatMap fdEnc) ∧ Below w.heap.size w w' := by
  go_enter Try.func33, Try.ntmps33
  go_wp2_with fail
  refine (toFieldS_any (hU.below (by (repeat (first | exact Below.refl _ _ | refine ext_alloc ?_ _ | refine Below.setCell ?_ (by simp) _)))) hn).mono ?_
  rintro e w1 ⟨rfl, ho, hb⟩
  obtain ⟨hc, hf⟩ := bcell hb
  have hz := hb.size
  simp only [World.size_alloc] at hz ho ⊢
  go_wp2
  refine bodyPost_ret (v := .agg #[.int .i64 who, .int .i64 act, .int .i64 what, .slice (some ⟨w.heap.size + 1 + 1 + 1, 0, none⟩) fs.length fs.length]) (by simp [results, go_sem, hc]) rfl ⟨w.heap.size + 1 + 1 + 1, rfl, ?_, ?_⟩
  · have h1 := own_lower ho (show w.heap.size ≤ _ by omega)
    repeat (first | (with_reducible exact h1) | ((with_reducible refine own_setCell ?_ ?_); rotate_left; (intro k hk; cases hk; dsimp only; omega)))
  · have hb2 : Below w.heap.size w w1 := by
      refine Below.trans ?_ (hb.mono (by (try simp) <;> omega))
      repeat (first | exact Below.refl _ _ | refine ext_alloc ?_ _)
    repeat (first | (with_reducible exact hb2) | with_reducible refine Below.setCell ?_ (by (try simp) <;> omega) _)
set_option maxRecDepth 100000 in
set_option maxHeartbeats 2000000 in
theorem toRecord_any {A : Option Addr} {fs : FdL} {c : Nat} {tm who act what sl : Int} {al : Bool} {w : World} (hU : fdR w A fs) (hn : fs.length ≤ 2097152) :
    Calls Try.prog 19 #[.agg #[.int .i64 tm, .int .i64 who, .int .i64 act, .int .i64 what, .slice A fs.length c, .bool al, .int .i64 sl]] w fun e w' => ∃ g, e = .returned (.agg #[.int .i64 tm, .int .i64 who, .int .i64 act, .int .i64 what, .slice (some ⟨g, 0, none⟩) fs.length fs.length, .bool al, .int .i64 sl]) ∧
      w'.ownsRow w.heap.size 85 3 (.slice (some ⟨g, 0, none⟩) fs.length fs.length) fs.length (fs.flatMap fdEnc) ∧ Below w.heap.size w w' := by
  go_enter Try.func19, Try.ntmps19
  go_wp2_with fail
  refine (toRequest_any (hU.below (by (repeat (first | exact Below.refl _ _ | refine ext_alloc ?_ _ | refine Below.setCell ?_ (by simp) _)))) hn).mono ?_
  rintro e w1 ⟨g, rfl, ho, hb⟩
  have hg := (ho.lt g rfl).1
  obtain ⟨hc, hf⟩ := bcell hb
  have hz := hb.size
  simp only [World.size_alloc] at hz ho hg ⊢
  go_wp2
  refine bodyPost_ret (v := .agg #[.int .i64 tm, .int .i64 who, .int .i64 act, .int .i64 what, .slice (some ⟨g, 0, none⟩) fs.length fs.length, .bool al, .int .i64 sl]) (by simp [results, go_sem, hc]) rfl ⟨g, rfl, ?_, ?_⟩
  · have h1 := own_lower ho (show w.heap.size ≤ _ by omega)
    repeat (first | (with_reducible exact h1) | ((with_reducible refine own_setCell ?_ ?_); rotate_left; (intro k hk; cases hk; dsimp only; omega)))
  · have hb2 : Below w.heap.size w w1 := by
      refine Below.trans ?_ (hb.mono (by (try simp) <;> omega))
      repeat (first | exact Below.refl _ _ | refine ext_alloc ?_ _)
    repeat (first | (with_reducible exact hb2) | with_reducible refine Below.setCell ?_ (by (try simp) <;> omega) _)

theorem chunks_elem {α : Type} {R : α → List Value → Prop} {sz B g n c k : Nat} {e : TypeId} {w : World} {xs : List Value} {l : List α} {q : α} (vs : List Value) (h : w.ownsRow B e sz (.slice (some ⟨g, 0, none⟩) n c) n xs) (hk : k < n) (hv : vs.length = sz) (hp : Chunks R sz l (xs.take (k * sz))) (hq : R q vs) :
    ∃ xs', (setCells w g (k * sz) vs).ownsRow B e sz (.slice (some ⟨g, 0, none⟩) n c) n xs' ∧ Chunks R sz (l ++ [q]) (xs'.take ((k + 1) * sz)) := by
  obtain ⟨xs', h1, h2⟩ := own_elem vs h hk hv rfl
  exact ⟨xs', h1, by rw [h2]; exact hp.append (Chunks.one hv hq)⟩
set_option maxRecDepth 100000 in
set_option maxHeartbeats 4000000 in
theorem toRecordS_any {A : Option Addr} {l : RcL} {c : Nat} {w : World} (hU : rcR w A l) (hn : l.length ≤ 2097152) (hf : FewF 1048576 l) :
    Calls Try.prog 30 #[.slice A l.length c] w fun e w' => e = .returned (.slice (some ⟨w.heap.size, 0, none⟩) l.length l.length) ∧
      OwnG (RcO w.heap.size) w.heap.size 27 7 w' (.slice (some ⟨w.heap.size, 0, none⟩) l.length l.length) l ∧ Below w.heap.size w w' := by
  obtain ⟨i0, hi, hz0, hz1, hz2⟩ := info_parts Try.infoRecord
  obtain ⟨wm, hmk, hown, hgr⟩ := run_make_full (P := Try.prog) w w.heap.size 33 27 i0 _ 7 Try.underlying33 hi hz0 hz1 .i64 .i64 l.length (by rw [hz2]; omega) (by simp only [maxLen]; omega) (Nat.le_refl _)
  have hBm : Below w.heap.size w wm := ext_grown (Below.refl _ _) hgr (by simp)
  clear hgr hi hz0 hz1 hz2
  generalize (madeCells _ _).toList = xs0 at hown
  have HF := Lib.hid hf
  clear hf
  go_enter Try.func30, Try.ntmps30
  go_wp2
  clear hmk
  go_loopw [4] (fun i wr => ∃ k : Nat, k ≤ l.length ∧ i = .int .i64 k ∧ Below w.heap.size w wr ∧ ∃ xs, wr.ownsRow w.heap.size 27 7 (.slice (some ⟨w.heap.size, 0, none⟩) l.length l.length) l.length xs ∧ Chunks (RcO w.heap.size wr) 7 (l.take k) (xs.take (k * 7))) (fun i _ => l.length - (intOf i).toNat)
  case atStart => exact ⟨0, Nat.zero_le _, rfl, hBm, xs0, hown, by simp [Chunks]⟩
  case round =>
    clear hown hBm
    obtain ⟨k, hk, rfl, hB, xs, hown, htake⟩ := hrel
    have HT := Lib.hid htake
    clear htake
    by_cases hlt : k < l.length
    · obtain ⟨b, off, rfl, hcl⟩ := hU.cells (by omega)
      obtain ⟨A', c', hfd, c0, c1, c2, c3, c4, c5, c6⟩ := hcl k hlt
      replace c0 := below_cell hB c0
      replace c1 := below_cell hB c1
      replace c2 := below_cell hB c2
      replace c3 := below_cell hB c3
      replace c4 := below_cell hB c4
      replace c5 := below_cell hB c5
      replace c6 := below_cell hB c6
      replace hfd := hfd.below hB
      have hfl := HF.out k hlt
      clear hcl
      go_wp2_with fail
      refine (toRecord_any hfd (by omega)).mono ?_
      rintro e w1 ⟨g, rfl, ho1, hB1⟩
      have hgl := ho1.lt g rfl
      have hws := hB.size
      have HT1 := Lib.hid (HT.out.mono (fun a cs h => RcO.below hB1 a cs h))
      replace hB := ext_trans hB hB1
      replace hown := own_below hown hB1
      obtain ⟨v0, f0⟩ := own_cell hown (j := k * 7) (by omega)
      obtain ⟨v1, f1⟩ := own_cell hown (j := k * 7 + 1) (by omega)
      obtain ⟨v2, f2⟩ := own_cell hown (j := k * 7 + 2) (by omega)
      obtain ⟨v3, f3⟩ := own_cell hown (j := k * 7 + 3) (by omega)
      obtain ⟨v4, f4⟩ := own_cell hown (j := k * 7 + 4) (by omega)
      obtain ⟨v5, f5⟩ := own_cell hown (j := k * 7 + 5) (by omega)
      obtain ⟨v6, f6⟩ := own_cell hown (j := k * 7 + 6) (by omega)
      have z0 := hown.frozenAt (k * 7)
      have z1 := hown.frozenAt (k * 7 + 1)
      have z2 := hown.frozenAt (k * 7 + 2)
      have z3 := hown.frozenAt (k * 7 + 3)
      have z4 := hown.frozenAt (k * 7 + 4)
      have z5 := hown.frozenAt (k * 7 + 5)
      have z6 := hown.frozenAt (k * 7 + 6)
      have hsg := setCells_grown w.heap.size [.int .i64 (rc0 l k), .int .i64 (rc1 l k), .int .i64 (rc2 l k), .int .i64 (rc3 l k), .slice (some ⟨g, 0, none⟩) (rc4 l k).length (rc4 l k).length, .bool (rc5 l k), .int .i64 (rc6 l k)] w1 (k * 7)
      have hrow : ∀ j, some w.heap.size = some j → ∃ cs fr, w1.heap[j]? = some (.cells cs 27 fr) := fun j e => by
        cases e
        rcases hown.2 with ⟨h1, _⟩ | ⟨g2, cap, cur, hv, _, hx2, _⟩
        · cases h1
        · simp only [Value.slice.injEq, Option.some.injEq, Addr.mk.injEq, and_true] at hv
          obtain ⟨rfl, _⟩ := hv
          exact ⟨_, _, hx2⟩
      have HQ : Hid (RcO w.heap.size (setCells w1 w.heap.size (k * 7) [.int .i64 (rc0 l k), .int .i64 (rc1 l k), .int .i64 (rc2 l k), .int .i64 (rc3 l k), .slice (some ⟨g, 0, none⟩) (rc4 l k).length (rc4 l k).length, .bool (rc5 l k), .int .i64 (rc6 l k)]) (rcAt l k) (rcCells (rcAt l k) (.slice (some ⟨g, 0, none⟩) (rc4 l k).length (rc4 l k).length))) :=
        Lib.hid (RcO.row hsg hrow _ _ ⟨.slice (some ⟨g, 0, none⟩) (rc4 l k).length (rc4 l k).length, rfl, _, _, rfl, own_lower ho1 hws⟩)
      have HT2 := Lib.hid (HT1.out.mono (fun a cs h => RcO.row hsg hrow a cs h))
      clear hsg hrow ho1 hB1 hfd c0 c1 c2 c3 c4 c5 c6
      go_wp2
      go_roundw
      case rel =>
        obtain ⟨xs', h1, h2⟩ := chunks_elem (rcCells (rcAt l k) (.slice (some ⟨g, 0, none⟩) (rc4 l k).length (rc4 l k).length)) hown hlt rfl HT2.out HQ.out
        refine ⟨k + 1, by omega, by go_num, setCells_below (Nat.le_refl _) (rcCells (rcAt l k) (.slice (some ⟨g, 0, none⟩) (rc4 l k).length (rc4 l k).length)) (k * 7) hB, xs', h1, ?_⟩
        rw [List.take_succ_eq_append_getElem hlt, ← rcAt_eq hlt]
        exact h2
      case measure => simp [intOf]; omega
    · obtain rfl : k = l.length := by omega
      go_wp2
      go_ret
      refine ⟨rfl, ?_, hB⟩
      have e := HT.out
      rw [List.take_of_length_le (Nat.le_of_eq hown.1), List.take_length] at e
      exact OwnG.of hown e
end Go.Proofs.Ytdpiaiblpafglaa

/- Expressions: copies for a call. -/
import Derived.Test.YtodjokdaofefdaaExC
import Derived.Test.YtodjokdaofefdaaKi5
namespace Go.Proofs.Ytodjokdaofefdaa
set_option linter.unusedSimpArgs false
set_option linter.unusedVariables false
open Go.RowKit

theorem exS.setCell {d lo hi : Nat} {w : World} {A : Option Addr} {l : ExL} {a : Addr} {x : Value} (h : exS d lo hi w A l) (hne : a.block < lo) : exS d lo hi (w.setCell a x) A l :=
  h.keep (fun k hk _ => Below.heap_setCell w a x k (by omega)) (Nat.le_refl _) (Nat.le_refl _)
theorem Try.infoExpr : (Try.prog.info? 28).map (fun i => (i.zero, i.size, i.bytes)) = some (some (.agg #[.int .i64 0, .int .i64 0, .string ByteArray.empty, .slice Option.none 0 0]), 4, 56) := by kernel_rfl
def ToQ (d : Nat) : Prop := ∀ (A : Option Addr) (r : Ex) (c : Nat) (w : World), exW d w A r.ps → fewS d r.ps →
  Calls Try.prog 22 #[.agg #[.int .i64 r.k, .int .i64 r.n, .string r.s, .slice A r.ps.length c]] w fun e w' => ∃ A' c', e = .returned (.agg #[.int .i64 r.k, .int .i64 r.n, .string r.s, .slice A' r.ps.length c']) ∧ exS d w.heap.size w'.heap.size w' A' r.ps ∧ Below w.heap.size w w'
def ToP (d : Nat) : Prop := ∀ (A : Option Addr) (l : ExL) (c : Nat) (w : World), exW d w A l → fewS d l →
  Calls Try.prog 74 #[.slice A l.length c] w fun e w' => ∃ A' c', e = .returned (.slice A' l.length c') ∧ exS d w.heap.size w'.heap.size w' A' l ∧ Below w.heap.size w w'
set_option maxRecDepth 100000 in
set_option maxHeartbeats 2000000 in
theorem toQ_of {d : Nat} (hP : ToP d) : ToQ d := by
  intro A r c w hU hf
  have HP := Lib.hid hP
  have HF := Lib.hid hf
  clear hP hf
  go_enter Try.func22, Try.ntmps22
  go_wp2_with fail
  refine (HP.out _ _ _ _ (hU.below (by (repeat (first | exact Below.refl _ _ | refine ext_alloc ?_ _ | refine Below.setCell ?_ (by simp) _)))) HF.out).mono ?_
  rintro e w1 ⟨A', c', rfl, ho, hb⟩
  obtain ⟨hc, hf⟩ := bcell hb
  have hz := hb.size
  simp only [World.size_alloc, World.size_setCell] at hz ho ⊢
  go_wp2
  refine bodyPost_ret (v := .agg #[.int .i64 r.k, .int .i64 r.n, .string r.s, .slice A' r.ps.length c']) (by simp [results, go_sem, hc]) rfl ⟨_, _, rfl, ?_, ?_⟩
  · have hlo : exS d (w.heap.size + 1 + 1 + 1) w1.heap.size w1 A' r.ps := ho
    refine exS.wide (lo := w.heap.size + 1 + 1 + 1) (hi := w1.heap.size) ?_ (by omega) (by simp)
    repeat (first | (with_reducible exact hlo) | (refine exS.setCell ?_ (by dsimp only; omega)))
  · have hb2 : Below w.heap.size w w1 := by
      refine Below.trans ?_ (hb.mono (by (try simp) <;> omega))
      repeat (first | exact Below.refl _ _ | refine ext_alloc ?_ _ | refine Below.setCell ?_ (by simp) _)
    repeat (first | (with_reducible exact hb2) | with_reducible refine Below.setCell ?_ (by (try simp) <;> omega) _)
set_option maxRecDepth 100000 in
set_option maxHeartbeats 4000000 in
theorem toP_of {d : Nat} (hQ : ∀ m, d = m + 1 → ToQ m) : ToP d := by
  intro A l c w hU hf
  have HQ := Lib.hid hQ
  have HF := Lib.hid hf.2
  have hn := hf.1
  clear hQ hf
  obtain ⟨i0, hi, hz0, hz1, hz2⟩ := info_parts Try.infoExpr
  obtain ⟨wm, hmk, hown, hgr⟩ := run_make_full (P := Try.prog) w w.heap.size 26 28 i0 _ 4 Try.underlying26 hi hz0 hz1 .i64 .i64 l.length (by rw [hz2]; omega) (by simp only [maxLen]; omega) (Nat.le_refl _)
  have hBm : Below w.heap.size w wm := ext_grown (Below.refl _ _) hgr (by simp)
  clear hgr hi hz0 hz1 hz2
  generalize (madeCells _ _).toList = xs0 at hown
  go_enter Try.func74, Try.ntmps74
  go_wp2
  clear hmk
  go_loopw [4] (fun i wr => ∃ k : Nat, k ≤ l.length ∧ i = .int .i64 k ∧ Below w.heap.size w wr ∧ ∃ xs, wr.ownsRow w.heap.size 28 4 (.slice (some ⟨w.heap.size, 0, none⟩) l.length l.length) l.length xs ∧ Chunks (exR d (w.heap.size + 1) wr.heap.size wr) 4 (l.take k) (xs.take (k * 4))) (fun i _ => l.length - (intOf i).toNat)
  case atStart => exact ⟨0, Nat.zero_le _, rfl, hBm, xs0, hown, by simp [Chunks]⟩
  case round =>
    rename_i wr
    clear hown hBm
    obtain ⟨k, hk, rfl, hB, xs, hown, htake⟩ := hrel
    have HT := Lib.hid htake
    clear htake
    by_cases hlt : k < l.length
    · have hd : ∃ m, d = m + 1 := by
        cases d with
        | zero => have := exS.zero hU; subst this; simp at hlt
        | succ m => exact ⟨m, rfl⟩
      obtain ⟨m, hm⟩ := hd
      subst hm
      have HQ1 := Lib.hid (HQ.out m rfl)
      have hfk := HF.out k hlt
      have HFK : Hid (fewS m (exAt l k).ps) := Lib.hid hfk
      clear hfk
      obtain ⟨b, off, rfl, hcl⟩ := hU.cells (by omega)
      obtain ⟨A', c', hfd, hs, c0, c1, c2, c3⟩ := hcl k hlt
      replace c0 := below_cell hB c0
      replace c1 := below_cell hB c1
      replace c2 := below_cell hB c2
      replace c3 := below_cell hB c3
      replace hfd := hfd.below hB
      clear hcl
      have hgr : w.heap.size < _ := (own_lt hown).2
      go_wp2_with fail
      refine (HQ1.out _ _ _ _ hfd HFK.out).mono ?_
      rintro e w1 ⟨A1, c1', rfl, ho1, hB1⟩
      have hws := hB.size
      have hw1 := hB1.size
      have HT1 := Lib.hid (HT.out.mono (fun a cs h => h.keep (fun j _ hj => hB1.block j hj) (Nat.le_refl _) hw1))
      replace hB := ext_trans hB hB1
      replace hown := own_below hown hB1
      obtain ⟨v0, f0⟩ := own_cell hown (j := k * 4) (by omega)
      obtain ⟨v1, f1⟩ := own_cell hown (j := k * 4 + 1) (by omega)
      obtain ⟨v2, f2⟩ := own_cell hown (j := k * 4 + 2) (by omega)
      obtain ⟨v3, f3⟩ := own_cell hown (j := k * 4 + 3) (by omega)
      have z0 := hown.frozenAt (k * 4)
      have z1 := hown.frozenAt (k * 4 + 1)
      have z2 := hown.frozenAt (k * 4 + 2)
      have z3 := hown.frozenAt (k * 4 + 3)
      have hsg := setCells_grown w.heap.size [.int .i64 (exAt l k).k, .int .i64 (exAt l k).n, .string (exAt l k).s, .slice A1 (exAt l k).ps.length c1'] w1 (k * 4)
      have hkp : ∀ j, w.heap.size + 1 ≤ j → j < w1.heap.size → (setCells w1 w.heap.size (k * 4) [.int .i64 (exAt l k).k, .int .i64 (exAt l k).n, .string (exAt l k).s, .slice A1 (exAt l k).ps.length c1']).heap[j]? = w1.heap[j]? := fun j h1 h2 => hsg.block j h2 (fun e => by cases e; omega)
      have HQ2 : Hid (exR (m + 1) (w.heap.size + 1) w1.heap.size (setCells w1 w.heap.size (k * 4) [.int .i64 (exAt l k).k, .int .i64 (exAt l k).n, .string (exAt l k).s, .slice A1 (exAt l k).ps.length c1']) (exAt l k) (exHead (exAt l k) (.slice A1 (exAt l k).ps.length c1'))) := by
        have h2 := (ho1.wide (show w.heap.size + 1 ≤ _ by omega) (Nat.le_refl _)).keep hkp (Nat.le_refl _) (Nat.le_refl _)
        exact Lib.hid ⟨A1, c1', rfl, h2.1, h2.2, hs⟩
      have HT2 := Lib.hid (HT1.out.mono (fun a cs h => h.keep hkp (Nat.le_refl _) (Nat.le_refl _)))
      have hss := hsg.size
      clear hsg hkp ho1 hB1 hfd c0 c1 c2 c3
      go_wp2
      go_roundw
      case rel =>
        obtain ⟨xs', h1, h2⟩ := chunks_elem (exHead (exAt l k) (.slice A1 (exAt l k).ps.length c1')) hown hlt rfl HT2.out HQ2.out
        have hbs := setCells_below (Nat.le_refl _) (exHead (exAt l k) (.slice A1 (exAt l k).ps.length c1')) (k * 4) hB
        refine ⟨k + 1, by omega, by go_num, hbs, xs', h1, ?_⟩
        rw [List.take_succ_eq_append_getElem hlt, ← exAt_eq hlt]
        exact h2.mono (fun a cs h => h.keep (fun _ _ _ => rfl) (Nat.le_refl _) hss)
      case measure => simp [intOf]; omega
    · obtain rfl : k = l.length := by omega
      go_wp2
      go_ret
      have hgl := (own_lt hown).2
      have e := HT.out
      rw [List.take_of_length_le (Nat.le_of_eq hown.1), List.take_length] at e
      refine ⟨_, _, rfl, ⟨?_, fun _ a ha => ?_⟩, hB⟩
      · have ho2 : OwnG (exR d w.heap.size wr.heap.size) w.heap.size 28 4 wr (.slice (some ⟨w.heap.size, 0, none⟩) l.length l.length) l := OwnG.of hown (e.mono (fun a cs h => h.keep (fun _ _ _ => rfl) (Nat.le_succ _) (Nat.le_refl _)))
        obtain ⟨A2, c2, e2, hr⟩ := ho2.rd (by omega)
        simp only [Value.slice.injEq, true_and] at e2
        obtain ⟨rfl, rfl⟩ := e2
        exact hr
      · cases ha
        exact ⟨Nat.le_refl _, hgl⟩
theorem toP_all : ∀ d, ToP d
  | 0 => toP_of (fun m h => by omega)
  | d + 1 => toP_of (fun m h => by cases h; exact toQ_of (toP_all d))
theorem toExpr_any {d : Nat} {A : Option Addr} {r : Ex} {c : Nat} {w : World} (h1 : exW d w A r.ps) (h2 : fewS d r.ps) :
    Calls Try.prog 22 #[.agg #[.int .i64 r.k, .int .i64 r.n, .string r.s, .slice A r.ps.length c]] w fun e w' => ∃ A' c', e = .returned (.agg #[.int .i64 r.k, .int .i64 r.n, .string r.s, .slice A' r.ps.length c']) ∧ exS d w.heap.size w'.heap.size w' A' r.ps ∧ Below w.heap.size w w' := toQ_of (toP_all d) A r c w h1 h2
end Go.Proofs.Ytodjokdaofefdaa

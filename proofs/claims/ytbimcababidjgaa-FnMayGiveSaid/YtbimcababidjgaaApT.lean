/- Apart: a struct with a slice: how slices of them read; comparison, sizes, conversions. Printed by gennest.py. -/
import Derived.Test.YtbimcababidjgaaIlT
import Derived.Test.YtbimcababidjgaaNst
namespace Go.Proofs.Ytbimcababidjgaa
set_option linter.unusedSimpArgs false
set_option linter.unusedVariables false
open Go.RowKit

abbrev Ap := List Int × Int
abbrev ApL := List Ap
def apf0 (r : Ap) : List Int := r.1
def apf1 (r : Ap) : Int := r.2
theorem ap_eta (r : Ap) : r = (apf0 r, apf1 r) := rfl
theorem ap_ext {a b : Ap} (h0 : apf0 a = apf0 b) (h1 : apf1 a = apf1 b) : a = b := by
  rw [ap_eta a, ap_eta b, h0, h1]
def apCells (r : Ap) (v : Value) : List Value := [v, .int .i64 (apf1 r)]
def apN : Nst Ap Int := ⟨apCells, apf0, ilEnc, 1, 3⟩
theorem apN_good : apN.Good 58 where
  one := by
    intro r v hv u hu
    simp [apN, apCells] at hu
    rcases hu with rfl | rfl
    all_goals first | rfl | exact hv
  encl := fun _ => rfl
  ipos := by decide
  ne := by decide
abbrev apR (w : World) (A : Option Addr) (l : ApL) : Prop := apN.rdl 2 w A l
abbrev apO (B : Nat) (w : World) (r : Ap) (cs : List Value) : Prop := apN.O B w r cs
def apD : Ap := ([], 0)
def apAt (l : ApL) (k : Nat) : Ap := l.getD k apD
theorem apAt_eq {l : ApL} {k : Nat} (hk : k < l.length) : apAt l k = l[k] := by simp [apAt, hk]
def ap0 (l : ApL) (k : Nat) : List Int := apf0 (apAt l k)
def ap1 (l : ApL) (k : Nat) : Int := apf1 (apAt l k)
theorem apR.cells {w : World} {A : Option Addr} {l : ApL} (h : apR w A l) (hn : 0 < l.length) : ∃ b off, A = some ⟨b, off, none⟩ ∧ ∀ k, k < l.length → ∃ A' c', ilR w A' (ap0 l k) ∧
    w.cell? ⟨b, off + k * 2, none⟩ = some (.slice A' (ap0 l k).length c') ∧ w.cell? ⟨b, off + k * 2 + 1, none⟩ = some (.int .i64 (ap1 l k)) := by
  obtain ⟨b, off, e, hc⟩ := h.2 hn
  refine ⟨b, off, e, fun k hk => ?_⟩
  obtain ⟨cs, _, ⟨A', c', rfl, h2, _⟩, hv⟩ := hc k hk
  have e : l[k] = apAt l k := (apAt_eq hk).symm
  rw [e] at h2 hv
  exact ⟨A', c', h2, hv 0 _ rfl, hv 1 _ rfl⟩
theorem Try.infoApart : (Try.prog.info? 58).map (fun i => (i.zero, i.size, i.bytes)) = some (some (.agg #[.slice Option.none 0 0, .int .i64 0]), 2, 32) := by kernel_rfl

theorem ap_sameB (r r' : Ap) : sameB r r' = (!(!sameB (apf0 r) (apf0 r')) && !(apf1 r != apf1 r')) := by
  rw [Bool.eq_iff_iff]
  simp only [sameB_true, Bool.and_eq_true, Bool.not_not, Bool.not_eq_true', bne_eq_false_iff_eq]
  constructor
  · rintro rfl; simp
  · rintro ⟨h0, h1⟩
    exact ap_ext (by first | exact h0 | simpa using h0 | exact str_eq.1 (by simpa using h0)) (by first | exact h1 | simpa using h1 | exact str_eq.1 (by simpa using h1))
set_option maxRecDepth 100000 in
set_option maxHeartbeats 2000000 in
theorem eqApart_any {A A' : Option Addr} {r r' : Ap} {c c' : Nat} {w : World} (hU : ilR w A (apf0 r)) (hV : ilR w A' (apf0 r')) :
    Calls Try.prog 39 #[.agg #[.slice A (apf0 r).length c, .int .i64 (apf1 r)], .agg #[.slice A' (apf0 r').length c', .int .i64 (apf1 r')]] w fun e w' => e = .returned (.bool (sameB r r')) ∧ Below w.heap.size w w' := by
  have hl := hU.len
  have hl' := hV.len
  go_enter Try.func39, Try.ntmps39
  go_wp2_with (go_at_call 15; refine (eqIntS_any (hU.below (by (repeat (first | exact Below.refl _ _ | refine ext_alloc ?_ _ | refine Below.setCell ?_ (by simp) _)))) (hV.below (by (repeat (first | exact Below.refl _ _ | refine ext_alloc ?_ _ | refine Below.setCell ?_ (by simp) _))))).mono ?_; rintro e w1 ⟨rfl, hb⟩; obtain ⟨hc1, hf1⟩ := bcell hb; have hz1 := hb.size; simp at hz1)
  all_goals
    go_ret
    refine ⟨ret_bool ?_, ?_⟩
    · rw [ap_sameB]
      simp only [*, Bool.not_true, Bool.not_false, Bool.false_and, Bool.and_false, Bool.true_and, Bool.and_self]
    · first
        | ((repeat (first | exact Below.refl _ _ | refine ext_alloc ?_ _)); done)
        | (refine ext_trans ?_ ‹Below _ _ _›; (repeat (first | exact Below.refl _ _ | refine ext_alloc ?_ _)); done)
theorem eqApart_at {A A' : Option Addr} {us vs : ApL} {k : Nat} {c c' : Nat} {w : World} (hU : ilR w A (ap0 us k)) (hV : ilR w A' (ap0 vs k)) :
    Calls Try.prog 39 #[.agg #[.slice A (ap0 us k).length c, .int .i64 (ap1 us k)], .agg #[.slice A' (ap0 vs k).length c', .int .i64 (ap1 vs k)]] w fun e w' => e = .returned (.bool (sameB (apAt us k) (apAt vs k))) ∧ Below w.heap.size w w' := eqApart_any hU hV
theorem ap_same {us vs : ApL} (h : us.length = vs.length) (h2 : ∀ k, k < us.length → apAt us k = apAt vs k) : true = sameB us vs := by
  rw [eq_comm, sameB_true]
  apply List.ext_getElem h
  intro k h3 h4
  rw [← apAt_eq h3, ← apAt_eq h4]
  exact h2 k h3
set_option maxRecDepth 100000 in
set_option maxHeartbeats 4000000 in
theorem eqApartS_any {A A' : Option Addr} {us vs : ApL} {c c' : Nat} {w : World} (hU : apR w A us) (hV : apR w A' vs) :
    Calls Try.prog 16 #[.slice A us.length c, .slice A' vs.length c'] w fun e w' => e = .returned (.bool (sameB us vs)) ∧ Below w.heap.size w w' := by
  have hl := hU.len
  have hl' := hV.len
  by_cases hlen : us.length = vs.length
  · have HL := Lib.hid hlen
    have hlen1 : ((us.length : Int) != vs.length) = false := by simp [hlen]
    clear hlen
    go_enter Try.func16, Try.ntmps16
    go_wp2
    go_loopw [5] (fun i wr => ∃ k : Nat, k ≤ us.length ∧ i = .int .i64 k ∧ Below w.heap.size w wr ∧ (∀ j, j < k → apAt us j = apAt vs j)) (fun i _ => us.length - (intOf i).toNat)
    case atStart => exact ⟨0, Nat.zero_le _, rfl, Below.refl _ _, fun j h => by omega⟩
    case round =>
      obtain ⟨k, hk, rfl, hB, hgood⟩ := hrel
      have HG := Lib.hid hgood
      clear hgood
      by_cases hlt : k < us.length
      · have hlt' : k < vs.length := by rw [← HL.out]; exact hlt
        obtain ⟨b, off, rfl, hc⟩ := apR.cells hU (by omega)
        obtain ⟨b', off', rfl, hc'⟩ := apR.cells hV (by omega)
        obtain ⟨A1, c1, hfd, p0, p1⟩ := hc k hlt
        obtain ⟨A2, c2, hfd2, q0, q1⟩ := hc' k hlt'
        replace p0 := cell_regrown (below_cell hB p0)
        replace p1 := cell_regrown (below_cell hB p1)
        replace q0 := cell_regrown (below_cell hB q0)
        replace q1 := cell_regrown (below_cell hB q1)
        replace hfd := hfd.below hB
        replace hfd2 := hfd2.below hB
        clear hc hc'
        have HE := Lib.hid (fun (d : Nat) (os : Array Obj) => eqApart_at (c := c1) (c' := c2) (hfd.regrown d os) (hfd2.regrown d os))
        cases g : sameB (apAt us k) (apAt vs k)
        all_goals
          rw [g] at HE
          go_wp2
          refine wp_region_quiet_below (by kernel_rfl) (by kernel_rfl) ?_
          repeat (go_big_quiet_step ((go_at_call 39; (with_reducible exact Calls.regrown_of (HE.out _ _)))))
          refine wpQuiet_nil ?_
          intro w2 hw'regrown
          replace hB := ext_trans hB (below_of_regrown hw'regrown (Nat.le_refl _))
          clear hw'regrown p0 q0 p1 q1
          go_wp2
        · go_ret
          exact ⟨ret_bool (by rw [eq_comm, sameB_false]; rintro rfl; rw [sameB_self] at g; cases g), hB⟩
        · go_roundw
          case rel => exact ⟨k + 1, by omega, by go_num, hB, all_succ HG.out (sameB_true.1 g)⟩
          case measure => simp [intOf]; omega
      · obtain rfl : k = us.length := by omega
        go_wp2
        go_ret
        exact ⟨ret_bool (ap_same HL.out HG.out), hB⟩
  · have hlen1 : ((us.length : Int) != vs.length) = true := by simp; omega
    have HL := Lib.hid hlen
    clear hlen
    go_enter Try.func16, Try.ntmps16
    go_wp2
    go_ret
    exact ⟨ret_bool (by rw [eq_comm, sameB_false]; rintro rfl; exact HL.out rfl), Below.refl _ _⟩
/-- Texts are no larger than Go allows. -/
def WfAp (r : Ap) : Prop := True
def WfApL (l : ApL) : Prop := ∀ r ∈ l, WfAp r
theorem WfApL.at {l : ApL} (h : WfApL l) {k : Nat} (hk : k < l.length) : WfAp (apAt l k) := by
  have := h _ (List.getElem_mem hk)
  rwa [← apAt_eq hk] at this
def FewAp (n : Nat) (l : ApL) : Prop := ∀ k, k < l.length → (ap0 l k).length ≤ n
theorem FewAp.mem {l : ApL} (h : FewAp 1048576 l) : ∀ r ∈ l, (apf0 r).length ≤ 9223372036854775807 := fun r hr => by
  obtain ⟨k, hk, rfl⟩ := List.getElem_of_mem hr
  have := h k hk
  rw [ap0, apAt_eq hk] at this
  omega
set_option maxHeartbeats 1000000 in
theorem szApart_any {A : Option Addr} {r : Ap} {c : Nat} {left : Int} {w : World} (hU : ilR w A (apf0 r)) (hw : WfAp r) (h0 : 0 ≤ left) (h1 : left ≤ 1048576) :
    Calls Try.prog 37 #[.agg #[.slice A (apf0 r).length c, .int .i64 (apf1 r)], .int .i64 left] w (SzPost left (apf0 r).length w) := by
  have hB := below_alloc w (.cells #[.slice A (apf0 r).length c, .int .i64 (apf1 r)] 62)
  go_enter Try.func37, Try.ntmps37
  go_wp2_with fail
  refine (szIntS_any (hU.below hB) h0 h1).mono ?_
  rintro e w1 ⟨rfl, hb⟩
  replace hB := ext_trans hB hb
  by_cases hlt2 : left < ((apf0 r).length : Int)
  · rw [if_pos hlt2]
    go_wp2
    go_ret
    exact ⟨-1, rfl, .inl rfl, hB⟩
  · rw [if_neg hlt2]
    obtain ⟨y, hy⟩ : ∃ y, y = left - ((apf0 r).length : Int) := ⟨_, rfl⟩
    rw [← hy]
    have y0 : 0 ≤ y := by omega
    have y1 : y + ((apf0 r).length : Int) ≤ left := by omega
    clear hy hlt2
    go_wp2
    go_ret
    exact ⟨y, rfl, .inr ⟨y0, y1⟩, hB⟩
def SzPostAp (left : Int) (l : ApL) (w : World) (e : Ending) (w' : World) : Prop := ∃ x : Int, e = .returned (.int .i64 x) ∧ (x = -1 ∨ (0 ≤ x ∧ x + l.length ≤ left ∧ FewAp 1048576 l)) ∧ Below w.heap.size w w'
theorem szApart_at {A : Option Addr} {l : ApL} {k c : Nat} {left : Int} {w : World} (hU : ilR w A (ap0 l k)) (hw : WfAp (apAt l k)) (h0 : 0 ≤ left) (h1 : left ≤ 1048576) :
    Calls Try.prog 37 #[.agg #[.slice A (ap0 l k).length c, .int .i64 (ap1 l k)], .int .i64 left] w (SzPost left (ap0 l k).length w) := szApart_any hU hw h0 h1
set_option maxRecDepth 100000 in
set_option maxHeartbeats 1000000 in
theorem szApartS_any {A : Option Addr} {l : ApL} {c : Nat} {left : Int} {w : World} (hU : apR w A l) (hw : WfApL l) (h0 : 0 ≤ left) (h1 : left ≤ 1048576) :
    Calls Try.prog 12 #[.slice A l.length c, .int .i64 left] w (SzPostAp left l w) := by
  have hlen := hU.len
  by_cases h : left < l.length
  · go_enter Try.func12, Try.ntmps12
    go_wp2
    go_ret
    exact ⟨-1, rfl, .inl rfl, Below.refl _ _⟩
  · go_enter Try.func12, Try.ntmps12
    go_wp2
    go_loopw [1, 5] (fun xv iv wr => ∃ (k : Nat) (x : Int), k ≤ l.length ∧ iv = .int .i64 k ∧ xv = .int .i64 x ∧ (0 ≤ x ∧ x + l.length ≤ left) ∧ Hid (∀ j, j < k → (ap0 l j).length ≤ 1048576) ∧ Below w.heap.size w wr) (fun _ iv _ => l.length - (intOf iv).toNat)
    case atStart => exact ⟨0, left - l.length, Nat.zero_le _, rfl, rfl, by omega, Lib.hid (fun j h => by omega), Below.refl _ _⟩
    case round =>
      obtain ⟨k, x, hk, rfl, rfl, ⟨x0, x1⟩, HF, hB⟩ := hrel
      by_cases hlt : k < l.length
      · obtain ⟨b, off, rfl, hc⟩ := apR.cells hU (by omega)
        obtain ⟨A', c', hfd, c0, c1⟩ := hc k hlt
        replace c0 := below_cell hB c0
        replace c1 := below_cell hB c1
        have HW := Lib.hid (hw.at hlt)
        replace hfd := hfd.below hB
        clear hc
        go_wp2_with fail
        refine (szApart_at hfd HW.out x0 (by omega)).mono ?_
        rintro e w1 ⟨y, rfl, hy, hb⟩
        replace hB := ext_trans hB hb
        clear c0 c1 hfd hb
        rcases hy with rfl | ⟨y0, y1⟩
        · go_wp2
          go_ret
          exact ⟨-1, rfl, .inl rfl, hB⟩
        · have HF2 := Lib.hid (all_succ (p := fun j => (ap0 l j).length ≤ 1048576) HF.out (by omega))
          go_wp2
          go_roundw
          case rel => exact ⟨k + 1, y, by omega, by go_num, rfl, by omega, HF2, hB⟩
          case measure => simp [intOf]; omega
      · obtain rfl : k = l.length := by omega
        go_wp2
        go_ret
        exact ⟨x, rfl, .inr ⟨x0, x1, HF.out⟩, hB⟩
set_option maxRecDepth 100000 in
set_option maxHeartbeats 2000000 in
theorem toApart_any {A : Option Addr} {r : Ap} {c : Nat} {w : World} (hU : ilR w A (apf0 r)) (hn : (apf0 r).length ≤ 2097152) :
    Calls Try.prog 38 #[.agg #[.slice A (apf0 r).length c, .int .i64 (apf1 r)]] w fun e w' => ∃ g, e = .returned (.agg #[.slice (some ⟨g, 0, none⟩) (apf0 r).length (apf0 r).length, .int .i64 (apf1 r)]) ∧
      w'.ownsRow w.heap.size 3 1 (.slice (some ⟨g, 0, none⟩) (apf0 r).length (apf0 r).length) (apf0 r).length ((apf0 r).flatMap ilEnc) ∧ Below w.heap.size w w' := by
  go_enter Try.func38, Try.ntmps38
  go_wp2_with fail
  refine (toIntS_any (hU.below (by (repeat (first | exact Below.refl _ _ | refine ext_alloc ?_ _ | refine Below.setCell ?_ (by simp) _)))) hn).mono ?_
  rintro e w1 ⟨rfl, ho, hb⟩
  obtain ⟨hc, hf⟩ := bcell hb
  have hz := hb.size
  simp only [World.size_alloc, World.size_setCell] at hz ho ⊢
  go_wp2
  refine bodyPost_ret (v := .agg #[.slice (some ⟨w.heap.size + 1 + 1 + 1, 0, none⟩) (apf0 r).length (apf0 r).length, .int .i64 (apf1 r)]) (by simp [results, go_sem, hc]) rfl ⟨_, rfl, ?_, ?_⟩
  · have h1 := own_lower ho (show w.heap.size ≤ _ by omega)
    repeat (first | (with_reducible exact h1) | ((with_reducible refine own_setCell ?_ ?_); rotate_left; (intro k hk; cases hk; dsimp only; omega)))
  · have hb2 : Below w.heap.size w w1 := by
      refine Below.trans ?_ (hb.mono (by (try simp) <;> omega))
      repeat (first | exact Below.refl _ _ | refine ext_alloc ?_ _ | refine Below.setCell ?_ (by simp) _)
    repeat (first | (with_reducible exact hb2) | with_reducible refine Below.setCell ?_ (by (try simp) <;> omega) _)
theorem toApart_at {A : Option Addr} {l : ApL} {k c : Nat} {w : World} (hU : ilR w A (ap0 l k)) (hn : (ap0 l k).length ≤ 2097152) :
    Calls Try.prog 38 #[.agg #[.slice A (ap0 l k).length c, .int .i64 (ap1 l k)]] w fun e w' => ∃ g, e = .returned (.agg #[.slice (some ⟨g, 0, none⟩) (ap0 l k).length (ap0 l k).length, .int .i64 (ap1 l k)]) ∧
      w'.ownsRow w.heap.size 3 1 (.slice (some ⟨g, 0, none⟩) (ap0 l k).length (ap0 l k).length) (ap0 l k).length ((ap0 l k).flatMap ilEnc) ∧ Below w.heap.size w w' := toApart_any hU hn
set_option maxRecDepth 100000 in
set_option maxHeartbeats 4000000 in
theorem toApartS_any {A : Option Addr} {l : ApL} {c : Nat} {w : World} (hU : apR w A l) (hn : l.length ≤ 2097152) (hf : FewAp 1048576 l) :
    Calls Try.prog 13 #[.slice A l.length c] w fun e w' => e = .returned (.slice (some ⟨w.heap.size, 0, none⟩) l.length l.length) ∧
      OwnG (apO w.heap.size) w.heap.size 58 2 w' (.slice (some ⟨w.heap.size, 0, none⟩) l.length l.length) l ∧ Below w.heap.size w w' := by
  obtain ⟨i0, hi, hz0, hz1, hz2⟩ := info_parts Try.infoApart
  obtain ⟨wm, hmk, hown, hgr⟩ := run_make_full (P := Try.prog) w w.heap.size 23 58 i0 _ 2 Try.underlying23 hi hz0 hz1 .i64 .i64 l.length (by rw [hz2]; omega) (by simp only [maxLen]; omega) (Nat.le_refl _)
  have hBm : Below w.heap.size w wm := ext_grown (Below.refl _ _) hgr (by simp)
  clear hgr hi hz0 hz1 hz2
  generalize (madeCells _ _).toList = xs0 at hown
  have HF := Lib.hid hf
  clear hf
  go_enter Try.func13, Try.ntmps13
  go_wp2
  clear hmk
  go_loopw [4] (fun i wr => ∃ k : Nat, k ≤ l.length ∧ i = .int .i64 k ∧ Below w.heap.size w wr ∧ ∃ xs, wr.ownsRow w.heap.size 58 2 (.slice (some ⟨w.heap.size, 0, none⟩) l.length l.length) l.length xs ∧ Chunks (apO w.heap.size wr) 2 (l.take k) (xs.take (k * 2))) (fun i _ => l.length - (intOf i).toNat)
  case atStart => exact ⟨0, Nat.zero_le _, rfl, hBm, xs0, hown, by simp [Chunks]⟩
  case round =>
    clear hown hBm
    obtain ⟨k, hk, rfl, hB, xs, hown, htake⟩ := hrel
    have HT := Lib.hid htake
    clear htake
    by_cases hlt : k < l.length
    · obtain ⟨b, off, rfl, hcl⟩ := apR.cells hU (by omega)
      obtain ⟨A', c', hfd, c0, c1⟩ := hcl k hlt
      replace c0 := below_cell hB c0
      replace c1 := below_cell hB c1
      replace hfd := hfd.below hB
      have hfl := HF.out k hlt
      clear hcl
      go_wp2_with fail
      refine (toApart_at hfd (by omega)).mono ?_
      rintro e w1 ⟨g, rfl, ho1, hB1⟩
      have hgl := ho1.lt g rfl
      have hws := hB.size
      have HT1 := Lib.hid (HT.out.mono (fun a cs h => Nst.O.below hB1 h))
      replace hB := ext_trans hB hB1
      replace hown := own_below hown hB1
      obtain ⟨v0, f0⟩ := own_cell hown (j := k * 2) (by omega)
      obtain ⟨v1, f1⟩ := own_cell hown (j := k * 2 + 1) (by omega)
      have z0 := hown.frozenAt (k * 2)
      have z1 := hown.frozenAt (k * 2 + 1)
      have hsg := setCells_grown w.heap.size [.slice (some ⟨g, 0, none⟩) (ap0 l k).length (ap0 l k).length, .int .i64 (ap1 l k)] w1 (k * 2)
      have hrow : ∀ j, some w.heap.size = some j → ∃ cs fr, w1.heap[j]? = some (.cells cs 58 fr) := fun j e => by
        cases e
        rcases hown.2 with ⟨h1, _⟩ | ⟨g2, cap, cur, hv, _, hx2, _⟩
        · cases h1
        · simp only [Value.slice.injEq, Option.some.injEq, Addr.mk.injEq, and_true] at hv
          obtain ⟨rfl, _⟩ := hv
          exact ⟨_, _, hx2⟩
      have HQ : Hid (apO w.heap.size (setCells w1 w.heap.size (k * 2) [.slice (some ⟨g, 0, none⟩) (ap0 l k).length (ap0 l k).length, .int .i64 (ap1 l k)]) (apAt l k) (apCells (apAt l k) (.slice (some ⟨g, 0, none⟩) (ap0 l k).length (ap0 l k).length))) :=
        Lib.hid (Nst.O.row apN_good hsg hrow ⟨.slice (some ⟨g, 0, none⟩) (ap0 l k).length (ap0 l k).length, rfl, _, _, rfl, own_lower ho1 hws⟩)
      have HT2 := Lib.hid (HT1.out.mono (fun a cs h => Nst.O.row apN_good hsg hrow h))
      clear hsg hrow ho1 hB1 hfd c0 c1
      go_wp2
      go_roundw
      case rel =>
        obtain ⟨xs', h1, h2⟩ := chunks_elem (apCells (apAt l k) (.slice (some ⟨g, 0, none⟩) (ap0 l k).length (ap0 l k).length)) hown hlt rfl HT2.out HQ.out
        refine ⟨k + 1, by omega, by go_num, setCells_below (Nat.le_refl _) (apCells (apAt l k) (.slice (some ⟨g, 0, none⟩) (ap0 l k).length (ap0 l k).length)) (k * 2) hB, xs', h1, ?_⟩
        rw [List.take_succ_eq_append_getElem hlt, ← apAt_eq hlt]
        exact h2
      case measure => simp [intOf]; omega
    · obtain rfl : k = l.length := by omega
      go_wp2
      go_ret
      refine ⟨rfl, ?_, hB⟩
      have e := HT.out
      rw [List.take_of_length_le (Nat.le_of_eq hown.1), List.take_length] at e
      exact OwnG.of hown e
end Go.Proofs.Ytbimcababidjgaa

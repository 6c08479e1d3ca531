/- Role: a struct with a slice: how slices of them read; comparison, sizes, conversions. Printed by gennest.py. -/
import Derived.Test.YtbimcababidjgaaIlT
import Derived.Test.YtbimcababidjgaaNst
namespace Go.Proofs.Ytbimcababidjgaa
set_option linter.unusedSimpArgs false
set_option linter.unusedVariables false
open Go.RowKit

abbrev Ro := ByteArray × Int × List Int
abbrev RoL := List Ro
def rof0 (r : Ro) : ByteArray := r.1
def rof1 (r : Ro) : Int := r.2.1
def rof2 (r : Ro) : List Int := r.2.2
theorem ro_eta (r : Ro) : r = (rof0 r, rof1 r, rof2 r) := rfl
theorem ro_ext {a b : Ro} (h0 : rof0 a = rof0 b) (h1 : rof1 a = rof1 b) (h2 : rof2 a = rof2 b) : a = b := by
  rw [ro_eta a, ro_eta b, h0, h1, h2]
def roCells (r : Ro) (v : Value) : List Value := [.string (rof0 r), .int .i64 (rof1 r), v]
def roN : Nst Ro Int := ⟨roCells, rof2, ilEnc, 1, 3⟩
theorem roN_good : roN.Good 73 where
  one := by
    intro r v hv u hu
    simp [roN, roCells] at hu
    rcases hu with rfl | rfl | rfl
    all_goals first | rfl | exact hv
  encl := fun _ => rfl
  ipos := by decide
  ne := by decide
abbrev roR (w : World) (A : Option Addr) (l : RoL) : Prop := roN.rdl 3 w A l
abbrev roO (B : Nat) (w : World) (r : Ro) (cs : List Value) : Prop := roN.O B w r cs
def roD : Ro := (ByteArray.empty, 0, [])
def roAt (l : RoL) (k : Nat) : Ro := l.getD k roD
theorem roAt_eq {l : RoL} {k : Nat} (hk : k < l.length) : roAt l k = l[k] := by simp [roAt, hk]
def ro0 (l : RoL) (k : Nat) : ByteArray := rof0 (roAt l k)
def ro1 (l : RoL) (k : Nat) : Int := rof1 (roAt l k)
def ro2 (l : RoL) (k : Nat) : List Int := rof2 (roAt l k)
theorem roR.cells {w : World} {A : Option Addr} {l : RoL} (h : roR w A l) (hn : 0 < l.length) : ∃ b off, A = some ⟨b, off, none⟩ ∧ ∀ k, k < l.length → ∃ A' c', ilR w A' (ro2 l k) ∧
    w.cell? ⟨b, off + k * 3, none⟩ = some (.string (ro0 l k)) ∧ w.cell? ⟨b, off + k * 3 + 1, none⟩ = some (.int .i64 (ro1 l k)) ∧ w.cell? ⟨b, off + k * 3 + 2, none⟩ = some (.slice A' (ro2 l k).length c') := by
  obtain ⟨b, off, e, hc⟩ := h.2 hn
  refine ⟨b, off, e, fun k hk => ?_⟩
  obtain ⟨cs, _, ⟨A', c', rfl, h2, _⟩, hv⟩ := hc k hk
  have e : l[k] = roAt l k := (roAt_eq hk).symm
  rw [e] at h2 hv
  exact ⟨A', c', h2, hv 0 _ rfl, hv 1 _ rfl, hv 2 _ rfl⟩
theorem Try.infoRole : (Try.prog.info? 73).map (fun i => (i.zero, i.size, i.bytes)) = some (some (.agg #[.string ByteArray.empty, .int .i64 0, .slice Option.none 0 0]), 3, 48) := by kernel_rfl

theorem ro_sameB (r r' : Ro) : sameB r r' = (!(!((rof0 r).toList == (rof0 r').toList)) && (!(rof1 r != rof1 r') && !(!sameB (rof2 r) (rof2 r')))) := by
  rw [Bool.eq_iff_iff]
  simp only [sameB_true, Bool.and_eq_true, Bool.not_not, Bool.not_eq_true', bne_eq_false_iff_eq]
  constructor
  · rintro rfl; simp
  · rintro ⟨h0, h1, h2⟩
    exact ro_ext (by first | exact h0 | simpa using h0 | exact str_eq.1 (by simpa using h0)) (by first | exact h1 | simpa using h1 | exact str_eq.1 (by simpa using h1)) (by first | exact h2 | simpa using h2 | exact str_eq.1 (by simpa using h2))
set_option maxRecDepth 100000 in
set_option maxHeartbeats 2000000 in
theorem eqRole_any {A A' : Option Addr} {r r' : Ro} {c c' : Nat} {w : World} (hU : ilR w A (rof2 r)) (hV : ilR w A' (rof2 r')) :
    Calls Try.prog 49 #[.agg #[.string (rof0 r), .int .i64 (rof1 r), .slice A (rof2 r).length c], .agg #[.string (rof0 r'), .int .i64 (rof1 r'), .slice A' (rof2 r').length c']] w fun e w' => e = .returned (.bool (sameB r r')) ∧ Below w.heap.size w w' := by
  have hl := hU.len
  have hl' := hV.len
  go_enter Try.func49, Try.ntmps49
  go_wp2_with (go_at_call 15; refine (eqIntS_any (hU.below (by (repeat (first | exact Below.refl _ _ | refine ext_alloc ?_ _ | refine Below.setCell ?_ (by simp) _)))) (hV.below (by (repeat (first | exact Below.refl _ _ | refine ext_alloc ?_ _ | refine Below.setCell ?_ (by simp) _))))).mono ?_; rintro e w1 ⟨rfl, hb⟩; obtain ⟨hc1, hf1⟩ := bcell hb; have hz1 := hb.size; simp at hz1)
  all_goals
    go_ret
    refine ⟨ret_bool ?_, ?_⟩
    · rw [ro_sameB]
      simp only [*, Bool.not_true, Bool.not_false, Bool.false_and, Bool.and_false, Bool.true_and, Bool.and_self]
    · first
        | ((repeat (first | exact Below.refl _ _ | refine ext_alloc ?_ _)); done)
        | (refine ext_trans ?_ ‹Below _ _ _›; (repeat (first | exact Below.refl _ _ | refine ext_alloc ?_ _)); done)
theorem eqRole_at {A A' : Option Addr} {us vs : RoL} {k : Nat} {c c' : Nat} {w : World} (hU : ilR w A (ro2 us k)) (hV : ilR w A' (ro2 vs k)) :
    Calls Try.prog 49 #[.agg #[.string (ro0 us k), .int .i64 (ro1 us k), .slice A (ro2 us k).length c], .agg #[.string (ro0 vs k), .int .i64 (ro1 vs k), .slice A' (ro2 vs k).length c']] w fun e w' => e = .returned (.bool (sameB (roAt us k) (roAt vs k))) ∧ Below w.heap.size w w' := eqRole_any hU hV
theorem ro_same {us vs : RoL} (h : us.length = vs.length) (h2 : ∀ k, k < us.length → roAt us k = roAt vs k) : true = sameB us vs := by
  rw [eq_comm, sameB_true]
  apply List.ext_getElem h
  intro k h3 h4
  rw [← roAt_eq h3, ← roAt_eq h4]
  exact h2 k h3
set_option maxRecDepth 100000 in
set_option maxHeartbeats 4000000 in
theorem eqRoleS_any {A A' : Option Addr} {us vs : RoL} {c c' : Nat} {w : World} (hU : roR w A us) (hV : roR w A' vs) :
    Calls Try.prog 26 #[.slice A us.length c, .slice A' vs.length c'] w fun e w' => e = .returned (.bool (sameB us vs)) ∧ Below w.heap.size w w' := by
  have hl := hU.len
  have hl' := hV.len
  by_cases hlen : us.length = vs.length
  · have HL := Lib.hid hlen
    have hlen1 : ((us.length : Int) != vs.length) = false := by simp [hlen]
    clear hlen
    go_enter Try.func26, Try.ntmps26
    go_wp2
    go_loopw [5] (fun i wr => ∃ k : Nat, k ≤ us.length ∧ i = .int .i64 k ∧ Below w.heap.size w wr ∧ (∀ j, j < k → roAt us j = roAt vs j)) (fun i _ => us.length - (intOf i).toNat)
    case atStart => exact ⟨0, Nat.zero_le _, rfl, Below.refl _ _, fun j h => by omega⟩
    case round =>
      obtain ⟨k, hk, rfl, hB, hgood⟩ := hrel
      have HG := Lib.hid hgood
      clear hgood
      by_cases hlt : k < us.length
      · have hlt' : k < vs.length := by rw [← HL.out]; exact hlt
        obtain ⟨b, off, rfl, hc⟩ := roR.cells hU (by omega)
        obtain ⟨b', off', rfl, hc'⟩ := roR.cells hV (by omega)
        obtain ⟨A1, c1, hfd, p0, p1, p2⟩ := hc k hlt
        obtain ⟨A2, c2, hfd2, q0, q1, q2⟩ := hc' k hlt'
        replace p0 := cell_regrown (below_cell hB p0)
        replace p1 := cell_regrown (below_cell hB p1)
        replace p2 := cell_regrown (below_cell hB p2)
        replace q0 := cell_regrown (below_cell hB q0)
        replace q1 := cell_regrown (below_cell hB q1)
        replace q2 := cell_regrown (below_cell hB q2)
        replace hfd := hfd.below hB
        replace hfd2 := hfd2.below hB
        clear hc hc'
        have HE := Lib.hid (fun (d : Nat) (os : Array Obj) => eqRole_at (c := c1) (c' := c2) (hfd.regrown d os) (hfd2.regrown d os))
        cases g : sameB (roAt us k) (roAt vs k)
        all_goals
          rw [g] at HE
          go_wp2
          refine wp_region_quiet_below (by kernel_rfl) (by kernel_rfl) ?_
          repeat (go_big_quiet_step ((go_at_call 49; (with_reducible exact Calls.regrown_of (HE.out _ _)))))
          refine wpQuiet_nil ?_
          intro w2 hw'regrown
          replace hB := ext_trans hB (below_of_regrown hw'regrown (Nat.le_refl _))
          clear hw'regrown p0 q0 p1 q1 p2 q2
          go_wp2
        · go_ret
          exact ⟨ret_bool (by rw [eq_comm, sameB_false]; rintro rfl; rw [sameB_self] at g; cases g), hB⟩
        · go_roundw
          case rel => exact ⟨k + 1, by omega, by go_num, hB, all_succ HG.out (sameB_true.1 g)⟩
          case measure => simp [intOf]; omega
      · obtain rfl : k = us.length := by omega
        go_wp2
        go_ret
        exact ⟨ret_bool (ro_same HL.out HG.out), hB⟩
  · have hlen1 : ((us.length : Int) != vs.length) = true := by simp; omega
    have HL := Lib.hid hlen
    clear hlen
    go_enter Try.func26, Try.ntmps26
    go_wp2
    go_ret
    exact ⟨ret_bool (by rw [eq_comm, sameB_false]; rintro rfl; exact HL.out rfl), Below.refl _ _⟩
/-- Texts are no larger than Go allows. -/
def WfRo (r : Ro) : Prop := (rof0 r).size ≤ 9223372036854775807 ∧ True
def WfRoL (l : RoL) : Prop := ∀ r ∈ l, WfRo r
theorem WfRoL.at {l : RoL} (h : WfRoL l) {k : Nat} (hk : k < l.length) : WfRo (roAt l k) := by
  have := h _ (List.getElem_mem hk)
  rwa [← roAt_eq hk] at this
def FewRo (n : Nat) (l : RoL) : Prop := ∀ k, k < l.length → (ro2 l k).length ≤ n
theorem FewRo.mem {l : RoL} (h : FewRo 1048576 l) : ∀ r ∈ l, (rof2 r).length ≤ 9223372036854775807 := fun r hr => by
  obtain ⟨k, hk, rfl⟩ := List.getElem_of_mem hr
  have := h k hk
  rw [ro2, roAt_eq hk] at this
  omega
set_option maxHeartbeats 1000000 in
theorem szRole_any {A : Option Addr} {r : Ro} {c : Nat} {left : Int} {w : World} (hU : ilR w A (rof2 r)) (hw : WfRo r) (h0 : 0 ≤ left) (h1 : left ≤ 1048576) :
    Calls Try.prog 47 #[.agg #[.string (rof0 r), .int .i64 (rof1 r), .slice A (rof2 r).length c], .int .i64 left] w (SzPost left (rof2 r).length w) := by
  have hB := below_alloc w (.cells #[.string (rof0 r), .int .i64 (rof1 r), .slice A (rof2 r).length c] 72)
  have hs := hw.1
  obtain ⟨ln, hln⟩ : ∃ n : Nat, n = (rof0 r).size := ⟨_, rfl⟩
  by_cases hlt : left < (rof0 r).size
  · go_enter Try.func47, Try.ntmps47
    go_wp2
    go_ret
    exact ⟨-1, rfl, .inl rfl, hB⟩
  · go_enter Try.func47, Try.ntmps47
    go_wp2_with fail
    refine (szIntS_any (left := left - (rof0 r).size) (hU.below hB) (by omega) (by omega)).mono ?_
    rintro e w1 ⟨rfl, hb⟩
    replace hB := ext_trans hB hb
    by_cases hlt2 : left - (rof0 r).size < ((rof2 r).length : Int)
    · rw [if_pos hlt2]
      go_wp2
      go_ret
      exact ⟨-1, rfl, .inl rfl, hB⟩
    · rw [if_neg hlt2]
      obtain ⟨y, hy⟩ : ∃ y, y = left - (rof0 r).size - ((rof2 r).length : Int) := ⟨_, rfl⟩
      rw [← hy]
      have y0 : 0 ≤ y := by omega
      have y1 : y + ((rof2 r).length : Int) ≤ left := by omega
      clear hy hlt2
      go_wp2
      go_ret
      exact ⟨y, rfl, .inr ⟨y0, y1⟩, hB⟩
def SzPostRo (left : Int) (l : RoL) (w : World) (e : Ending) (w' : World) : Prop := ∃ x : Int, e = .returned (.int .i64 x) ∧ (x = -1 ∨ (0 ≤ x ∧ x + l.length ≤ left ∧ FewRo 1048576 l)) ∧ Below w.heap.size w w'
theorem szRole_at {A : Option Addr} {l : RoL} {k c : Nat} {left : Int} {w : World} (hU : ilR w A (ro2 l k)) (hw : WfRo (roAt l k)) (h0 : 0 ≤ left) (h1 : left ≤ 1048576) :
    Calls Try.prog 47 #[.agg #[.string (ro0 l k), .int .i64 (ro1 l k), .slice A (ro2 l k).length c], .int .i64 left] w (SzPost left (ro2 l k).length w) := szRole_any hU hw h0 h1
set_option maxRecDepth 100000 in
set_option maxHeartbeats 1000000 in
theorem szRoleS_any {A : Option Addr} {l : RoL} {c : Nat} {left : Int} {w : World} (hU : roR w A l) (hw : WfRoL l) (h0 : 0 ≤ left) (h1 : left ≤ 1048576) :
    Calls Try.prog 24 #[.slice A l.length c, .int .i64 left] w (SzPostRo left l w) := by
  have hlen := hU.len
  by_cases h : left < l.length
  · go_enter Try.func24, Try.ntmps24
    go_wp2
    go_ret
    exact ⟨-1, rfl, .inl rfl, Below.refl _ _⟩
  · go_enter Try.func24, Try.ntmps24
    go_wp2
    go_loopw [1, 5] (fun xv iv wr => ∃ (k : Nat) (x : Int), k ≤ l.length ∧ iv = .int .i64 k ∧ xv = .int .i64 x ∧ (0 ≤ x ∧ x + l.length ≤ left) ∧ Hid (∀ j, j < k → (ro2 l j).length ≤ 1048576) ∧ Below w.heap.size w wr) (fun _ iv _ => l.length - (intOf iv).toNat)
    case atStart => exact ⟨0, left - l.length, Nat.zero_le _, rfl, rfl, by omega, Lib.hid (fun j h => by omega), Below.refl _ _⟩
    case round =>
      obtain ⟨k, x, hk, rfl, rfl, ⟨x0, x1⟩, HF, hB⟩ := hrel
      by_cases hlt : k < l.length
      · obtain ⟨b, off, rfl, hc⟩ := roR.cells hU (by omega)
        obtain ⟨A', c', hfd, c0, c1, c2⟩ := hc k hlt
        replace c0 := below_cell hB c0
        replace c1 := below_cell hB c1
        replace c2 := below_cell hB c2
        have HW := Lib.hid (hw.at hlt)
        replace hfd := hfd.below hB
        clear hc
        go_wp2_with fail
        refine (szRole_at hfd HW.out x0 (by omega)).mono ?_
        rintro e w1 ⟨y, rfl, hy, hb⟩
        replace hB := ext_trans hB hb
        clear c0 c1 c2 hfd hb
        rcases hy with rfl | ⟨y0, y1⟩
        · go_wp2
          go_ret
          exact ⟨-1, rfl, .inl rfl, hB⟩
        · have HF2 := Lib.hid (all_succ (p := fun j => (ro2 l j).length ≤ 1048576) HF.out (by omega))
          go_wp2
          go_roundw
          case rel => exact ⟨k + 1, y, by omega, by go_num, rfl, by omega, HF2, hB⟩
          case measure => simp [intOf]; omega
      · obtain rfl : k = l.length := by omega
        go_wp2
        go_ret
        exact ⟨x, rfl, .inr ⟨x0, x1, HF.out⟩, hB⟩
set_option maxRecDepth 100000 in
set_option maxHeartbeats 2000000 in
theorem toRole_any {A : Option Addr} {r : Ro} {c : Nat} {w : World} (hU : ilR w A (rof2 r)) (hn : (rof2 r).length ≤ 2097152) :
    Calls Try.prog 48 #[.agg #[.string (rof0 r), .int .i64 (rof1 r), .slice A (rof2 r).length c]] w fun e w' => ∃ g, e = .returned (.agg #[.string (rof0 r), .int .i64 (rof1 r), .slice (some ⟨g, 0, none⟩) (rof2 r).length (rof2 r).length]) ∧
      w'.ownsRow w.heap.size 3 1 (.slice (some ⟨g, 0, none⟩) (rof2 r).length (rof2 r).length) (rof2 r).length ((rof2 r).flatMap ilEnc) ∧ Below w.heap.size w w' := by
  go_enter Try.func48, Try.ntmps48
  go_wp2_with fail
  refine (toIntS_any (hU.below (by (repeat (first | exact Below.refl _ _ | refine ext_alloc ?_ _ | refine Below.setCell ?_ (by simp) _)))) hn).mono ?_
  rintro e w1 ⟨rfl, ho, hb⟩
  obtain ⟨hc, hf⟩ := bcell hb
  have hz := hb.size
  simp only [World.size_alloc, World.size_setCell] at hz ho ⊢
  go_wp2
  refine bodyPost_ret (v := .agg #[.string (rof0 r), .int .i64 (rof1 r), .slice (some ⟨w.heap.size + 1 + 1 + 1, 0, none⟩) (rof2 r).length (rof2 r).length]) (by simp [results, go_sem, hc]) rfl ⟨_, rfl, ?_, ?_⟩
  · have h1 := own_lower ho (show w.heap.size ≤ _ by omega)
    repeat (first | (with_reducible exact h1) | ((with_reducible refine own_setCell ?_ ?_); rotate_left; (intro k hk; cases hk; dsimp only; omega)))
  · have hb2 : Below w.heap.size w w1 := by
      refine Below.trans ?_ (hb.mono (by (try simp) <;> omega))
      repeat (first | exact Below.refl _ _ | refine ext_alloc ?_ _ | refine Below.setCell ?_ (by simp) _)
    repeat (first | (with_reducible exact hb2) | with_reducible refine Below.setCell ?_ (by (try simp) <;> omega) _)
theorem toRole_at {A : Option Addr} {l : RoL} {k c : Nat} {w : World} (hU : ilR w A (ro2 l k)) (hn : (ro2 l k).length ≤ 2097152) :
    Calls Try.prog 48 #[.agg #[.string (ro0 l k), .int .i64 (ro1 l k), .slice A (ro2 l k).length c]] w fun e w' => ∃ g, e = .returned (.agg #[.string (ro0 l k), .int .i64 (ro1 l k), .slice (some ⟨g, 0, none⟩) (ro2 l k).length (ro2 l k).length]) ∧
      w'.ownsRow w.heap.size 3 1 (.slice (some ⟨g, 0, none⟩) (ro2 l k).length (ro2 l k).length) (ro2 l k).length ((ro2 l k).flatMap ilEnc) ∧ Below w.heap.size w w' := toRole_any hU hn
set_option maxRecDepth 100000 in
set_option maxHeartbeats 4000000 in
theorem toRoleS_any {A : Option Addr} {l : RoL} {c : Nat} {w : World} (hU : roR w A l) (hn : l.length ≤ 2097152) (hf : FewRo 1048576 l) :
    Calls Try.prog 25 #[.slice A l.length c] w fun e w' => e = .returned (.slice (some ⟨w.heap.size, 0, none⟩) l.length l.length) ∧
      OwnG (roO w.heap.size) w.heap.size 73 3 w' (.slice (some ⟨w.heap.size, 0, none⟩) l.length l.length) l ∧ Below w.heap.size w w' := by
  obtain ⟨i0, hi, hz0, hz1, hz2⟩ := info_parts Try.infoRole
  obtain ⟨wm, hmk, hown, hgr⟩ := run_make_full (P := Try.prog) w w.heap.size 39 73 i0 _ 3 Try.underlying39 hi hz0 hz1 .i64 .i64 l.length (by rw [hz2]; omega) (by simp only [maxLen]; omega) (Nat.le_refl _)
  have hBm : Below w.heap.size w wm := ext_grown (Below.refl _ _) hgr (by simp)
  clear hgr hi hz0 hz1 hz2
  generalize (madeCells _ _).toList = xs0 at hown
  have HF := Lib.hid hf
  clear hf
  go_enter Try.func25, Try.ntmps25
  go_wp2
  clear hmk
  go_loopw [4] (fun i wr => ∃ k : Nat, k ≤ l.length ∧ i = .int .i64 k ∧ Below w.heap.size w wr ∧ ∃ xs, wr.ownsRow w.heap.size 73 3 (.slice (some ⟨w.heap.size, 0, none⟩) l.length l.length) l.length xs ∧ Chunks (roO w.heap.size wr) 3 (l.take k) (xs.take (k * 3))) (fun i _ => l.length - (intOf i).toNat)
  case atStart => exact ⟨0, Nat.zero_le _, rfl, hBm, xs0, hown, by simp [Chunks]⟩
  case round =>
    clear hown hBm
    obtain ⟨k, hk, rfl, hB, xs, hown, htake⟩ := hrel
    have HT := Lib.hid htake
    clear htake
    by_cases hlt : k < l.length
    · obtain ⟨b, off, rfl, hcl⟩ := roR.cells hU (by omega)
      obtain ⟨A', c', hfd, c0, c1, c2⟩ := hcl k hlt
      replace c0 := below_cell hB c0
      replace c1 := below_cell hB c1
      replace c2 := below_cell hB c2
      replace hfd := hfd.below hB
      have hfl := HF.out k hlt
      clear hcl
      go_wp2_with fail
      refine (toRole_at hfd (by omega)).mono ?_
      rintro e w1 ⟨g, rfl, ho1, hB1⟩
      have hgl := ho1.lt g rfl
      have hws := hB.size
      have HT1 := Lib.hid (HT.out.mono (fun a cs h => Nst.O.below hB1 h))
      replace hB := ext_trans hB hB1
      replace hown := own_below hown hB1
      obtain ⟨v0, f0⟩ := own_cell hown (j := k * 3) (by omega)
      obtain ⟨v1, f1⟩ := own_cell hown (j := k * 3 + 1) (by omega)
      obtain ⟨v2, f2⟩ := own_cell hown (j := k * 3 + 2) (by omega)
      have z0 := hown.frozenAt (k * 3)
      have z1 := hown.frozenAt (k * 3 + 1)
      have z2 := hown.frozenAt (k * 3 + 2)
      have hsg := setCells_grown w.heap.size [.string (ro0 l k), .int .i64 (ro1 l k), .slice (some ⟨g, 0, none⟩) (ro2 l k).length (ro2 l k).length] w1 (k * 3)
      have hrow : ∀ j, some w.heap.size = some j → ∃ cs fr, w1.heap[j]? = some (.cells cs 73 fr) := fun j e => by
        cases e
        rcases hown.2 with ⟨h1, _⟩ | ⟨g2, cap, cur, hv, _, hx2, _⟩
        · cases h1
        · simp only [Value.slice.injEq, Option.some.injEq, Addr.mk.injEq, and_true] at hv
          obtain ⟨rfl, _⟩ := hv
          exact ⟨_, _, hx2⟩
      have HQ : Hid (roO w.heap.size (setCells w1 w.heap.size (k * 3) [.string (ro0 l k), .int .i64 (ro1 l k), .slice (some ⟨g, 0, none⟩) (ro2 l k).length (ro2 l k).length]) (roAt l k) (roCells (roAt l k) (.slice (some ⟨g, 0, none⟩) (ro2 l k).length (ro2 l k).length))) :=
        Lib.hid (Nst.O.row roN_good hsg hrow ⟨.slice (some ⟨g, 0, none⟩) (ro2 l k).length (ro2 l k).length, rfl, _, _, rfl, own_lower ho1 hws⟩)
      have HT2 := Lib.hid (HT1.out.mono (fun a cs h => Nst.O.row roN_good hsg hrow h))
      clear hsg hrow ho1 hB1 hfd c0 c1 c2
      go_wp2
      go_roundw
      case rel =>
        obtain ⟨xs', h1, h2⟩ := chunks_elem (roCells (roAt l k) (.slice (some ⟨g, 0, none⟩) (ro2 l k).length (ro2 l k).length)) hown hlt rfl HT2.out HQ.out
        refine ⟨k + 1, by omega, by go_num, setCells_below (Nat.le_refl _) (roCells (roAt l k) (.slice (some ⟨g, 0, none⟩) (ro2 l k).length (ro2 l k).length)) (k * 3) hB, xs', h1, ?_⟩
        rw [List.take_succ_eq_append_getElem hlt, ← roAt_eq hlt]
        exact h2
      case measure => simp [intOf]; omega
    · obtain rfl : k = l.length := by omega
      go_wp2
      go_ret
      refine ⟨rfl, ?_, hB⟩
      have e := HT.out
      rw [List.take_of_length_le (Nat.le_of_eq hown.1), List.take_length] at e
      exact OwnG.of hown e
end Go.Proofs.Ytbimcababidjgaa

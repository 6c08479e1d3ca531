/- Expressions: depths, by the reference. -/
import Derived.Test.YtodjokdaofefdaaGreatQ2
import Derived.Test.YtodjokdaofefdaaGreatQ1
import Derived.Lib.SliceRun
namespace Go.Proofs.YtodjokdaofefdaaGreat
set_option linter.unusedSimpArgs false
set_option linter.unusedVariables false
open Go.RowKit

def mxL : List Nat → Nat
  | [] => 0
  | a :: l => max a (mxL l)
theorem mx_snoc (a : Nat) : ∀ l : List Nat, mxL (l ++ [a]) = max (mxL l) a
  | [] => by simp [mxL]
  | b :: l => by rw [List.cons_append, mxL, mx_snoc a l, mxL]; omega
def dpR : Nat → Ex → Nat
  | 0, _ => 0
  | d + 1, t => 1 + mxL (t.ps.map (dpR d))
theorem mx_take {d : Nat} {l : ExL} {k : Nat} (hk : k < l.length) : mxL ((l.take (k + 1)).map (dpR d)) = max (mxL ((l.take k).map (dpR d))) (dpR d (exAt l k)) := by
  rw [List.take_succ_eq_append_getElem hk, List.map_append, exAt_eq hk, List.map_cons, List.map_nil, mx_snoc]
theorem dp_le : ∀ (d : Nat) (t : Ex), dpR d t ≤ 1 + cntR d t
  | 0, _ => by simp [dpR]
  | d + 1, t => by
    have h : ∀ l : ExL, mxL (l.map (dpR d)) ≤ l.length + (l.map (cntR d)).sum := by
      intro l
      induction l with
      | nil => simp [mxL]
      | cons a l ih =>
        have := dp_le d a
        simp only [List.map_cons, mxL, List.sum_cons, List.length_cons]
        omega
    have := h t.ps
    rw [dpR, cntR]
    omega
def SdQ (d : Nat) : Prop := ∀ (A : Option Addr) (r : Ex) (c : Nat) (w : World), exW d w A r.ps → cntS d r.ps ≤ 2097152 →
  Calls Tryz.prog 63 #[.agg #[.int .i64 r.k, .int .i64 r.n, .string r.s, .slice A r.ps.length c]] w fun e w' => e = .returned (.int .i64 ((1 + mxL (r.ps.map (dpR d)) : Nat) : Int)) ∧ Below w.heap.size w w'
set_option maxRecDepth 100000 in
set_option maxHeartbeats 4000000 in
theorem sdQ_of {d : Nat} (hQ : ∀ m, d = m + 1 → SdQ m) : SdQ d := by
  intro A r c w hU hcnt
  have hl := exS.len hU
  have HQ := Lib.hid hQ
  have HCN := Lib.hid hcnt
  clear hQ
  obtain ⟨W, hW⟩ : ∃ W, W = w.alloc (.cells #[.int .i64 r.k, .int .i64 r.n, .string r.s, .slice A r.ps.length c] 36) := ⟨_, rfl⟩
  have hBW : Below w.heap.size w W := by rw [hW]; (repeat (first | exact Below.refl _ _ | refine ext_alloc ?_ _ | refine Below.setCell ?_ (by simp) _))
  have b3 : W.cell? ⟨w.heap.size, 3, none⟩ = some (.slice A r.ps.length c) := by rw [hW]; exact box_cell w _ _ 3 _ rfl
  have HW := Lib.hid hW
  have HB3 := Lib.hid b3
  have HBW := Lib.hid hBW
  have hlc : r.ps.length ≤ 2097152 := by unfold cntS at hcnt; omega
  clear hW b3 hBW hcnt
  go_enter Tryz.func63, Tryz.ntmps63
  go_wp2
  go_loopw [3, 4] (fun ov kv wr => ∃ (k s : Nat), k ≤ r.ps.length ∧ kv = .int .i64 k ∧ ov = .int .i64 (s : Int) ∧ Hid (s = mxL ((r.ps.take k).map (dpR d))) ∧ s ≤ 2097153 ∧ Below W.heap.size W wr) (fun _ kv _ => r.ps.length - (intOf kv).toNat)
  case atStart => exact ⟨0, 0, Nat.zero_le _, rfl, rfl, Lib.hid (by simp [mxL]), by omega, by rw [HW.out]; exact Below.refl _ _⟩
  case round =>
    obtain ⟨k, s, hk, rfl, rfl, HS, hs, hB⟩ := hrel
    have b3 := below_cell hB HB3.out
    by_cases hlt : k < r.ps.length
    · have hd : ∃ m, d = m + 1 := by
        cases d with
        | zero => have := exS.zero hU; rw [this] at hlt; simp at hlt
        | succ m => exact ⟨m, rfl⟩
      obtain ⟨m, hm⟩ := hd
      subst hm
      have HQ1 := Lib.hid (HQ.out m rfl)
      obtain ⟨b, off, rfl, hc⟩ := (hU.below HBW.out).cells (by omega)
      obtain ⟨A1, c1, hfd, hs1, p0, p1, p2, p3⟩ := hc k hlt
      replace p0 := below_cell hB p0
      replace p1 := below_cell hB p1
      replace p2 := below_cell hB p2
      replace p3 := below_cell hB p3
      replace hfd := hfd.below hB
      clear hc
      have HT := Lib.hid (mx_take (d := m + 1) hlt)
      have hcz : cntS m (exAt r.ps k).ps ≤ 2097152 := by
        have h1 := cnt_le (d := m + 1) (l := r.ps) (k := k + 1) (by omega)
        have h2 := cnt_take (d := m + 1) hlt
        have h3 := HCN.out
        have h4 : cntR (m + 1) (exAt r.ps k) = cntS m (exAt r.ps k).ps := rfl
        unfold cntS at h3
        omega
      obtain ⟨z, hz⟩ : ∃ z, 1 + mxL ((exAt r.ps k).ps.map (dpR m)) = z := ⟨_, rfl⟩
      have hz2 : dpR (m + 1) (exAt r.ps k) = z := hz
      have hzl : z ≤ 2097153 := by
        have h1 := dp_le (m + 1) (exAt r.ps k)
        have h4 : cntR (m + 1) (exAt r.ps k) = cntS m (exAt r.ps k).ps := rfl
        omega
      have HCZ := Lib.hid hcz
      have HZ := Lib.hid hz
      have HZ2 := Lib.hid hz2
      clear hz hz2 hcz
      go_wp2_with fail
      refine (HQ1.out _ _ _ _ hfd HCZ.out).mono ?_
      rintro e w4 ⟨rfl, hb⟩
      rw [HZ.out]
      replace hB := ext_trans hB hb
      clear hb p0 p1 p2 p3 hfd b3
      by_cases h : s < z
      · go_wp2
        go_roundw
        case rel => exact ⟨k + 1, z, by omega, by go_num, by simp [h], Lib.hid (by rw [HT.out, ← HS.out, HZ2.out]; omega), hzl, hB⟩
        case measure => simp [intOf]; omega
      · go_wp2
        go_roundw
        case rel => exact ⟨k + 1, s, by omega, by go_num, by simp [h], Lib.hid (by rw [HT.out, ← HS.out, HZ2.out]; omega), hs, hB⟩
        case measure => simp [intOf]; omega
    · obtain rfl : k = r.ps.length := by omega
      have HE : Hid (s = mxL (r.ps.map (dpR d))) := Lib.hid (by have := HS.out; rwa [List.take_length] at this)
      go_wp2
      go_ret
      exact ⟨by rw [← HE.out, Nat.add_comm 1 s]; rfl, ext_trans HBW.out hB⟩
theorem sdQ_all : ∀ d, SdQ d
  | 0 => sdQ_of (fun m h => by cases h)
  | d + 1 => sdQ_of (fun m h => by cases h; exact sdQ_all d)
end Go.Proofs.YtodjokdaofefdaaGreat
/- Expressions: sizes of valid ones: the program's walk. -/
namespace Go.Proofs.YtodjokdaofefdaaGreat
set_option linter.unusedSimpArgs false
set_option linter.unusedVariables false
open Go.RowKit

def SeQ (m : Nat) : Prop := ∀ (d : Nat) (A : Option Addr) (r : Ex) (c : Nat) (w : World), exW d w A r.ps → r.s.size ≤ 9223372036854775807 →
  Calls Tryz.prog 77 #[.agg #[.int .i64 r.k, .int .i64 r.n, .string r.s, .slice A r.ps.length c], .int .i64 (m : Int)] w fun e w' => e = .returned (.int .i64 (szE m r)) ∧ Below w.heap.size w w'
theorem str_isEmpty (s : ByteArray) : s.toList.isEmpty = decide (s = ByteArray.empty) := by
  have h0 : ByteArray.empty.toList = [] := by first | (unfold ByteArray.toList ByteArray.toList.loop; simp; done) | (simp [ByteArray.toList, ByteArray.toList.loop]; done) | kernel_rfl | decide +kernel
  rw [Bool.eq_iff_iff, List.isEmpty_iff, decide_eq_true_eq, ← h0]
  exact str_eq
theorem szE_no {m k : Nat} {r : Ex} (hk : k < r.ps.length) (h : szE m (exAt r.ps k) = 0) : szE (m + 1) r = 0 := by
  rw [szE, if_neg]
  intro h2
  have h3 := List.all_eq_true.1 (Bool.and_eq_true_iff.1 h2).2 _ (List.getElem_mem hk)
  rw [← exAt_eq hk, h] at h3
  simp at h3
theorem szE_yes {m : Nat} {r : Ex} (g : headB r = true) (h : ∀ j, j < r.ps.length → szE m (exAt r.ps j) ≠ 0) : szE (m + 1) r = 1 + (r.ps.map (szE m)).sum := by
  rw [szE, if_pos]
  rw [g, Bool.true_and, List.all_eq_true]
  intro p hp
  obtain ⟨j, hj, rfl⟩ := List.getElem_of_mem hp
  have := h j hj
  rw [exAt_eq hj] at this
  simpa using this
theorem szE_sum {m : Nat} (hm : m < 7) (l : ExL) : (l.map (szE m)).sum ≤ l.length * 127 := by
  have h2 : (2 : Nat) ^ m ≤ 2 ^ 7 := Nat.pow_le_pow_right (by omega) (by omega)
  induction l with
  | nil => simp
  | cons a l ihl =>
    have := szE_lt m a
    simp only [List.map_cons, List.sum_cons, List.length_cons, Nat.succ_mul]
    omega
theorem sum_take {m : Nat} {l : ExL} {k : Nat} (hk : k < l.length) : ((l.take (k + 1)).map (szE m)).sum = ((l.take k).map (szE m)).sum + szE m (exAt l k) := by
  rw [List.take_succ_eq_append_getElem hk, List.map_append, List.sum_append, exAt_eq hk]; simp
theorem implNameValid_v {s : ByteArray} {b : Bool} (hb : nmOk s = b) (hs : s.size ≤ 9223372036854775807) (w : World) :
    Calls Tryz.prog 31 #[.string s] w fun e w' => e = .returned (.bool b) ∧ Below w.heap.size w w' := hb ▸ implNameValid s hs w
set_option maxRecDepth 100000 in
set_option maxHeartbeats 4000000 in
theorem seQ_succ {m : Nat} (hm : m < 7) (hQ : SeQ m) : SeQ (m + 1) := by
  intro d A r c w hU hs
  have hl := exS.len hU
  have HQ := Lib.hid hQ
  clear hQ
  obtain ⟨W, hW⟩ : ∃ W, W = w.alloc (.cells #[.int .i64 r.k, .int .i64 r.n, .string r.s, .slice A r.ps.length c] 36) := ⟨_, rfl⟩
  have hBW : Below w.heap.size w W := by rw [hW]; (repeat (first | exact Below.refl _ _ | refine ext_alloc ?_ _ | refine Below.setCell ?_ (by simp) _))
  have b0 : W.cell? ⟨w.heap.size, 0, none⟩ = some (.int .i64 r.k) := by rw [hW]; exact box_cell w _ _ 0 _ rfl
  have b1 : W.cell? ⟨w.heap.size, 1, none⟩ = some (.int .i64 r.n) := by rw [hW]; exact box_cell w _ _ 1 _ rfl
  have b2 : W.cell? ⟨w.heap.size, 2, none⟩ = some (.string r.s) := by rw [hW]; exact box_cell w _ _ 2 _ rfl
  have b3 : W.cell? ⟨w.heap.size, 3, none⟩ = some (.slice A r.ps.length c) := by rw [hW]; exact box_cell w _ _ 3 _ rfl
  have HW := Lib.hid hW
  have HBW := Lib.hid hBW
  clear hW hBW
  have hm0 : (((m + 1 : Nat) : Int) == 0) = false := by simp; omega
  have hm1 : (((m : Int) + 1) == 0) = false := by simp; omega
  rcases headCases r with ⟨g1, g0⟩ | ⟨g1, g2, g0⟩ | ⟨g1, g2, g3, g0⟩ | ⟨g1, g2, g3, g4, g0⟩ | ⟨g1, g2, g3, g4, g5, g0⟩ | ⟨g1, g2, g3, g4, g5, g0⟩ | ⟨g1, g2, g3, g4, g0⟩
  · have HZ : Hid (szE (m + 1) r = 0) := Lib.hid (by rw [szE, g0]; simp)
    clear g0
    go_enter Tryz.func77, Tryz.ntmps77
    go_wp2_with fail
    rw [← HW.out]
    refine (partsOf_any _ _).mono ?_
    rintro e w1 ⟨rfl, hB⟩
    have a0 := cell_regrown (below_cell hB b0)
    have a1 := cell_regrown (below_cell hB b1)
    have a2 := cell_regrown (below_cell hB b2)
    have a3 := cell_regrown (below_cell hB b3)
    clear b0 b1 b2 b3
    go_wp2
    refine wp_region_quiet_below (by kernel_rfl) (by kernel_rfl) ?_
    repeat (go_big_quiet_step (first | (go_at_call 18; exact Calls.regrown_of (in_any _ _ _ _)) | (go_at_call 96; exact Calls.regrown_of (greatestNumber_any _ _)) | (go_at_call 31; exact Calls.regrown_of (implNameValid _ hs _))))
    refine wpQuiet_nil ?_
    intro w2 hw'regrown
    replace hB := ext_trans hB (below_of_regrown hw'regrown (Nat.le_refl _))
    clear hw'regrown a0 a1 a2 a3
    go_wp2
    go_ret
    exact ⟨by rw [HZ.out]; rfl, ext_trans HBW.out hB⟩
  · have HZ : Hid (szE (m + 1) r = 0) := Lib.hid (by rw [szE, g0]; simp)
    clear g0
    go_enter Tryz.func77, Tryz.ntmps77
    go_wp2_with fail
    rw [← HW.out]
    refine (partsOf_any _ _).mono ?_
    rintro e w1 ⟨rfl, hB⟩
    have a0 := cell_regrown (below_cell hB b0)
    have a1 := cell_regrown (below_cell hB b1)
    have a2 := cell_regrown (below_cell hB b2)
    have a3 := cell_regrown (below_cell hB b3)
    clear b0 b1 b2 b3
    go_wp2
    refine wp_region_quiet_below (by kernel_rfl) (by kernel_rfl) ?_
    repeat (go_big_quiet_step (first | (go_at_call 18; exact Calls.regrown_of (in_any _ _ _ _)) | (go_at_call 96; exact Calls.regrown_of (greatestNumber_any _ _)) | (go_at_call 31; exact Calls.regrown_of (implNameValid _ hs _))))
    refine wpQuiet_nil ?_
    intro w2 hw'regrown
    replace hB := ext_trans hB (below_of_regrown hw'regrown (Nat.le_refl _))
    clear hw'regrown a0 a1 a2 a3
    go_wp2
    go_ret
    exact ⟨by rw [HZ.out]; rfl, ext_trans HBW.out hB⟩
  · have HZ : Hid (szE (m + 1) r = 0) := Lib.hid (by rw [szE, g0]; simp)
    have e3 : ((r.ps.length : Int) != (arK r.k : Int)) = true := by simp; omega
    have G3 := Lib.hid g3
    clear g3
    clear g0
    go_enter Tryz.func77, Tryz.ntmps77
    go_wp2_with fail
    rw [← HW.out]
    refine (partsOf_any _ _).mono ?_
    rintro e w1 ⟨rfl, hB⟩
    have a0 := cell_regrown (below_cell hB b0)
    have a1 := cell_regrown (below_cell hB b1)
    have a2 := cell_regrown (below_cell hB b2)
    have a3 := cell_regrown (below_cell hB b3)
    clear b0 b1 b2 b3
    go_wp2
    refine wp_region_quiet_below (by kernel_rfl) (by kernel_rfl) ?_
    repeat (go_big_quiet_step (first | (go_at_call 18; exact Calls.regrown_of (in_any _ _ _ _)) | (go_at_call 96; exact Calls.regrown_of (greatestNumber_any _ _)) | (go_at_call 31; exact Calls.regrown_of (implNameValid _ hs _))))
    refine wpQuiet_nil ?_
    intro w2 hw'regrown
    replace hB := ext_trans hB (below_of_regrown hw'regrown (Nat.le_refl _))
    clear hw'regrown a0 a1 a2 a3
    go_wp2
    go_ret
    exact ⟨by rw [HZ.out]; rfl, ext_trans HBW.out hB⟩
  · obtain ⟨q, hq⟩ : ∃ q, nmK r.k = q := ⟨_, rfl⟩
    have hq2 : decide (r.s = ByteArray.empty) = q := by rw [← g4, hq]
    have e3 : ((r.ps.length : Int) != (arK r.k : Int)) = false := by simp; omega
    have e5 : r.s.toList.isEmpty = q := by rw [str_isEmpty]; exact hq2
    have HQQ := Lib.hid hq
    have G3 := Lib.hid g3
    obtain ⟨x5, g5⟩ : ∃ x, nmOk r.s = x := ⟨_, rfl⟩
    clear g3 g4 hq hq2
    have HZ : Hid (szE (m + 1) r = 0) := Lib.hid (by rw [szE, g0]; simp)
    clear g0
    cases q
    · go_enter Tryz.func77, Tryz.ntmps77
      go_wp2_with fail
      rw [← HW.out]
      refine (partsOf_any _ _).mono ?_
      rintro e w1 ⟨rfl, hB⟩
      rw [HQQ.out]
      have a0 := cell_regrown (below_cell hB b0)
      have a1 := cell_regrown (below_cell hB b1)
      have a2 := cell_regrown (below_cell hB b2)
      have a3 := cell_regrown (below_cell hB b3)
      clear b0 b1 b2 b3
      go_wp2
      refine wp_region_quiet_below (by kernel_rfl) (by kernel_rfl) ?_
      repeat (go_big_quiet_step (first | (go_at_call 18; exact Calls.regrown_of (in_any _ _ _ _)) | (go_at_call 96; exact Calls.regrown_of (greatestNumber_any _ _)) | (go_at_call 31; (with_reducible exact Calls.regrown_of (implNameValid_v g5 hs _)))))
      refine wpQuiet_nil ?_
      intro w2 hw'regrown
      replace hB := ext_trans hB (below_of_regrown hw'regrown (Nat.le_refl _))
      clear hw'regrown a0 a1 a2 a3
      go_wp2
      go_ret
      exact ⟨by rw [HZ.out]; rfl, ext_trans HBW.out hB⟩
    · go_enter Tryz.func77, Tryz.ntmps77
      go_wp2_with fail
      rw [← HW.out]
      refine (partsOf_any _ _).mono ?_
      rintro e w1 ⟨rfl, hB⟩
      rw [HQQ.out]
      have a0 := cell_regrown (below_cell hB b0)
      have a1 := cell_regrown (below_cell hB b1)
      have a2 := cell_regrown (below_cell hB b2)
      have a3 := cell_regrown (below_cell hB b3)
      clear b0 b1 b2 b3
      go_wp2
      refine wp_region_quiet_below (by kernel_rfl) (by kernel_rfl) ?_
      repeat (go_big_quiet_step (first | (go_at_call 18; exact Calls.regrown_of (in_any _ _ _ _)) | (go_at_call 96; exact Calls.regrown_of (greatestNumber_any _ _)) | (go_at_call 31; (with_reducible exact Calls.regrown_of (implNameValid_v g5 hs _)))))
      refine wpQuiet_nil ?_
      intro w2 hw'regrown
      replace hB := ext_trans hB (below_of_regrown hw'regrown (Nat.le_refl _))
      clear hw'regrown a0 a1 a2 a3
      go_wp2
      go_ret
      exact ⟨by rw [HZ.out]; rfl, ext_trans HBW.out hB⟩
  · have e3 : ((r.ps.length : Int) != (arK r.k : Int)) = false := by simp; omega
    have e5 : r.s.toList.isEmpty = false := by rw [str_isEmpty]; exact g4.2
    have HQQ := Lib.hid g4.1
    have G3 := Lib.hid g3
    clear g3 g4
    have HZ : Hid (szE (m + 1) r = 0) := Lib.hid (by rw [szE, g0]; simp)
    clear g0
    go_enter Tryz.func77, Tryz.ntmps77
    go_wp2_with fail
    rw [← HW.out]
    refine (partsOf_any _ _).mono ?_
    rintro e w1 ⟨rfl, hB⟩
    rw [HQQ.out]
    have a0 := cell_regrown (below_cell hB b0)
    have a1 := cell_regrown (below_cell hB b1)
    have a2 := cell_regrown (below_cell hB b2)
    have a3 := cell_regrown (below_cell hB b3)
    clear b0 b1 b2 b3
    go_wp2
    refine wp_region_quiet_below (by kernel_rfl) (by kernel_rfl) ?_
    repeat (go_big_quiet_step (first | (go_at_call 18; exact Calls.regrown_of (in_any _ _ _ _)) | (go_at_call 96; exact Calls.regrown_of (greatestNumber_any _ _)) | (go_at_call 31; (with_reducible exact Calls.regrown_of (implNameValid_v g5 hs _)))))
    refine wpQuiet_nil ?_
    intro w2 hw'regrown
    replace hB := ext_trans hB (below_of_regrown hw'regrown (Nat.le_refl _))
    clear hw'regrown a0 a1 a2 a3
    go_wp2
    go_ret
    exact ⟨by rw [HZ.out]; rfl, ext_trans HBW.out hB⟩
  · have e3 : ((r.ps.length : Int) != (arK r.k : Int)) = false := by simp; omega
    have e5 : r.s.toList.isEmpty = false := by rw [str_isEmpty]; exact g4.2
    have HQQ := Lib.hid g4.1
    have G3 := Lib.hid g3
    clear g3 g4
    have HGH := Lib.hid g0
    have hl2 := headB_len g0
    clear g0
    go_enter Tryz.func77, Tryz.ntmps77
    go_wp2_with fail
    rw [← HW.out]
    refine (partsOf_any _ _).mono ?_
    rintro e w1 ⟨rfl, hB⟩
    rw [HQQ.out]
    have a0 := cell_regrown (below_cell hB b0)
    have a1 := cell_regrown (below_cell hB b1)
    have a2 := cell_regrown (below_cell hB b2)
    have a3 := cell_regrown (below_cell hB b3)
    clear b0 b1 b2
    go_wp2
    refine wp_region_quiet_below (by kernel_rfl) (by kernel_rfl) ?_
    repeat (go_big_quiet_step (first | (go_at_call 18; exact Calls.regrown_of (in_any _ _ _ _)) | (go_at_call 96; exact Calls.regrown_of (greatestNumber_any _ _)) | (go_at_call 31; (with_reducible exact Calls.regrown_of (implNameValid_v g5 hs _)))))
    refine wpQuiet_nil ?_
    intro w2 hw'regrown
    replace hB := ext_trans hB (below_of_regrown hw'regrown (Nat.le_refl _))
    clear hw'regrown a0 a1 a2 a3
    rw [g1, g2]
    have hB3 := below_cell hB b3
    go_wp2
    go_loopw [7, 60] (fun ov kv wr => ∃ (k s : Nat), k ≤ r.ps.length ∧ kv = .int .i64 k ∧ ov = .int .i64 ((1 + s : Nat) : Int) ∧ Hid (s = ((r.ps.take k).map (szE m)).sum) ∧ s ≤ 254 ∧ Hid (∀ j, j < k → szE m (exAt r.ps j) ≠ 0) ∧ Below W.heap.size W wr) (fun _ kv _ => r.ps.length - (intOf kv).toNat)
    case atStart => exact ⟨0, 0, Nat.zero_le _, rfl, rfl, Lib.hid rfl, by omega, Lib.hid (fun j h => by omega), hB⟩
    case round =>
      clear hB hB3
      obtain ⟨k, s, hk, rfl, rfl, HS, hs254, HG, hB⟩ := hrel
      by_cases hlt : k < r.ps.length
      · have hd : ∃ m, d = m + 1 := by
          cases d with
          | zero => have := exS.zero hU; rw [this] at hlt; simp at hlt
          | succ m => exact ⟨m, rfl⟩
        obtain ⟨dd, hdd⟩ := hd
        subst hdd
        obtain ⟨b, off, rfl, hc⟩ := (hU.below HBW.out).cells (by omega)
        obtain ⟨A1, c1, hfd, hs1, p0, p1, p2, p3⟩ := hc k hlt
        replace p0 := below_cell hB p0
        replace p1 := below_cell hB p1
        replace p2 := below_cell hB p2
        replace p3 := below_cell hB p3
        replace hfd := hfd.below hB
        have HST := Lib.hid (sum_take (m := m) hlt)
        have HTB := Lib.hid (szE_sum hm (r.ps.take (k + 1)))
        clear hc
        obtain ⟨z, hz⟩ : ∃ z, szE m (exAt r.ps k) = z := ⟨_, rfl⟩
        have HZ := Lib.hid hz
        have hzb : s + z ≤ 254 := by
          have h1 := HTB.out
          rw [HST.out, ← HS.out, hz, List.length_take] at h1
          have : min (k + 1) r.ps.length ≤ 2 := by omega
          omega
        clear hz
        go_wp2_with fail
        refine (HQ.out _ _ _ _ _ (hfd.below (by (repeat (first | exact Below.refl _ _ | refine ext_alloc ?_ _ | refine Below.setCell ?_ (by simp) _)))) hs1).mono ?_
        rintro e w4 ⟨rfl, hb⟩
        rw [HZ.out]
        replace hB := ext_trans (ext_trans hB (by (repeat (first | exact Below.refl _ _ | refine ext_alloc ?_ _ | refine Below.setCell ?_ (by simp) _)))) hb
        clear hb p0 p1 p2 p3 hfd
        by_cases h0 : z = 0
        · subst h0
          have HN := Lib.hid (szE_no hlt HZ.out)
          go_wp2
          go_ret
          exact ⟨by rw [HN.out]; rfl, ext_trans HBW.out hB⟩
        · have hz0 : ((z : Int) == 0) = false := by simp; omega
          have HN0 := Lib.hid h0
          clear h0
          go_wp2
          go_roundw
          case rel =>
            exact ⟨k + 1, s + z, by omega, by go_num, by go_num, Lib.hid (by rw [HST.out, ← HS.out, HZ.out]), hzb, Lib.hid (all_succ HG.out (by rw [HZ.out]; exact HN0.out)), hB⟩
          case measure => simp [intOf]; omega
      · obtain rfl : k = r.ps.length := by omega
        have HY := Lib.hid (szE_yes HGH.out HG.out)
        go_wp2
        go_ret
        exact ⟨by rw [HY.out, HS.out, List.take_length]; rfl, ext_trans HBW.out hB⟩
  · have e3 : ((r.ps.length : Int) != (arK r.k : Int)) = false := by simp; omega
    have e5 : r.s.toList.isEmpty = true := by rw [str_isEmpty]; exact g4.2
    have HQQ := Lib.hid g4.1
    have G3 := Lib.hid g3
    obtain ⟨x5, g5⟩ : ∃ x, nmOk r.s = x := ⟨_, rfl⟩
    clear g3 g4
    have HGH := Lib.hid g0
    have hl2 := headB_len g0
    clear g0
    go_enter Tryz.func77, Tryz.ntmps77
    go_wp2_with fail
    rw [← HW.out]
    refine (partsOf_any _ _).mono ?_
    rintro e w1 ⟨rfl, hB⟩
    rw [HQQ.out]
    have a0 := cell_regrown (below_cell hB b0)
    have a1 := cell_regrown (below_cell hB b1)
    have a2 := cell_regrown (below_cell hB b2)
    have a3 := cell_regrown (below_cell hB b3)
    clear b0 b1 b2
    go_wp2
    refine wp_region_quiet_below (by kernel_rfl) (by kernel_rfl) ?_
    repeat (go_big_quiet_step (first | (go_at_call 18; exact Calls.regrown_of (in_any _ _ _ _)) | (go_at_call 96; exact Calls.regrown_of (greatestNumber_any _ _)) | (go_at_call 31; (with_reducible exact Calls.regrown_of (implNameValid_v g5 hs _)))))
    refine wpQuiet_nil ?_
    intro w2 hw'regrown
    replace hB := ext_trans hB (below_of_regrown hw'regrown (Nat.le_refl _))
    clear hw'regrown a0 a1 a2 a3
    rw [g1, g2]
    have hB3 := below_cell hB b3
    go_wp2
    go_loopw [7, 60] (fun ov kv wr => ∃ (k s : Nat), k ≤ r.ps.length ∧ kv = .int .i64 k ∧ ov = .int .i64 ((1 + s : Nat) : Int) ∧ Hid (s = ((r.ps.take k).map (szE m)).sum) ∧ s ≤ 254 ∧ Hid (∀ j, j < k → szE m (exAt r.ps j) ≠ 0) ∧ Below W.heap.size W wr) (fun _ kv _ => r.ps.length - (intOf kv).toNat)
    case atStart => exact ⟨0, 0, Nat.zero_le _, rfl, rfl, Lib.hid rfl, by omega, Lib.hid (fun j h => by omega), hB⟩
    case round =>
      clear hB hB3
      obtain ⟨k, s, hk, rfl, rfl, HS, hs254, HG, hB⟩ := hrel
      by_cases hlt : k < r.ps.length
      · have hd : ∃ m, d = m + 1 := by
          cases d with
          | zero => have := exS.zero hU; rw [this] at hlt; simp at hlt
          | succ m => exact ⟨m, rfl⟩
        obtain ⟨dd, hdd⟩ := hd
        subst hdd
        obtain ⟨b, off, rfl, hc⟩ := (hU.below HBW.out).cells (by omega)
        obtain ⟨A1, c1, hfd, hs1, p0, p1, p2, p3⟩ := hc k hlt
        replace p0 := below_cell hB p0
        replace p1 := below_cell hB p1
        replace p2 := below_cell hB p2
        replace p3 := below_cell hB p3
        replace hfd := hfd.below hB
        have HST := Lib.hid (sum_take (m := m) hlt)
        have HTB := Lib.hid (szE_sum hm (r.ps.take (k + 1)))
        clear hc
        obtain ⟨z, hz⟩ : ∃ z, szE m (exAt r.ps k) = z := ⟨_, rfl⟩
        have HZ := Lib.hid hz
        have hzb : s + z ≤ 254 := by
          have h1 := HTB.out
          rw [HST.out, ← HS.out, hz, List.length_take] at h1
          have : min (k + 1) r.ps.length ≤ 2 := by omega
          omega
        clear hz
        go_wp2_with fail
        refine (HQ.out _ _ _ _ _ (hfd.below (by (repeat (first | exact Below.refl _ _ | refine ext_alloc ?_ _ | refine Below.setCell ?_ (by simp) _)))) hs1).mono ?_
        rintro e w4 ⟨rfl, hb⟩
        rw [HZ.out]
        replace hB := ext_trans (ext_trans hB (by (repeat (first | exact Below.refl _ _ | refine ext_alloc ?_ _ | refine Below.setCell ?_ (by simp) _)))) hb
        clear hb p0 p1 p2 p3 hfd
        by_cases h0 : z = 0
        · subst h0
          have HN := Lib.hid (szE_no hlt HZ.out)
          go_wp2
          go_ret
          exact ⟨by rw [HN.out]; rfl, ext_trans HBW.out hB⟩
        · have hz0 : ((z : Int) == 0) = false := by simp; omega
          have HN0 := Lib.hid h0
          clear h0
          go_wp2
          go_roundw
          case rel =>
            exact ⟨k + 1, s + z, by omega, by go_num, by go_num, Lib.hid (by rw [HST.out, ← HS.out, HZ.out]), hzb, Lib.hid (all_succ HG.out (by rw [HZ.out]; exact HN0.out)), hB⟩
          case measure => simp [intOf]; omega
      · obtain rfl : k = r.ps.length := by omega
        have HY := Lib.hid (szE_yes HGH.out HG.out)
        go_wp2
        go_ret
        exact ⟨by rw [HY.out, HS.out, List.take_length]; rfl, ext_trans HBW.out hB⟩
set_option maxRecDepth 100000 in
set_option maxHeartbeats 4000000 in
theorem seQ_zero : SeQ 0 := by
  intro d A r c w hU hs
  have hl := exS.len hU
  obtain ⟨W, hW⟩ : ∃ W, W = w.alloc (.cells #[.int .i64 r.k, .int .i64 r.n, .string r.s, .slice A r.ps.length c] 36) := ⟨_, rfl⟩
  have hBW : Below w.heap.size w W := by rw [hW]; (repeat (first | exact Below.refl _ _ | refine ext_alloc ?_ _ | refine Below.setCell ?_ (by simp) _))
  have b0 : W.cell? ⟨w.heap.size, 0, none⟩ = some (.int .i64 r.k) := by rw [hW]; exact box_cell w _ _ 0 _ rfl
  have HW := Lib.hid hW
  clear hW
  go_enter Tryz.func77, Tryz.ntmps77
  go_wp2_with fail
  rw [← HW.out]
  refine (partsOf_any _ _).mono ?_
  rintro e w1 ⟨rfl, hB⟩
  go_wp2
  refine wp_region_quiet_below (by kernel_rfl) (by kernel_rfl) ?_
  repeat (go_big_quiet_step (fail))
  refine wpQuiet_nil ?_
  intro w2 hw'regrown
  replace hB := ext_trans hB (below_of_regrown hw'regrown (Nat.le_refl _))
  clear hw'regrown
  go_wp2
  go_ret
  exact ⟨rfl, ext_trans hBW hB⟩
theorem seQ_all : ∀ m, m ≤ 7 → SeQ m
  | 0, _ => seQ_zero
  | m + 1, h => seQ_succ (by omega) (seQ_all m (by omega))
end Go.Proofs.YtodjokdaofefdaaGreat
/- Expressions: validity, by the program. -/
namespace Go.Proofs.YtodjokdaofefdaaGreat
set_option linter.unusedSimpArgs false
set_option linter.unusedVariables false
open Go.RowKit

def exOk (t : Ex) : Bool := inB (szE 7 t : Int) 1 40
theorem implExprValid {d : Nat} {A : Option Addr} {r : Ex} {c : Nat} {w : World} (hU : exW d w A r.ps) (hs : r.s.size ≤ 9223372036854775807) :
    Calls Tryz.prog 59 #[.agg #[.int .i64 r.k, .int .i64 r.n, .string r.s, .slice A r.ps.length c]] w fun e w' => e = .returned (.bool (exOk r)) ∧ Below w.heap.size w w' := by
  go_enter Tryz.func59, Tryz.ntmps59
  go_wp2_with fail
  refine (seQ_all 7 (by omega) _ _ _ _ _ (hU.below (by (repeat (first | exact Below.refl _ _ | refine ext_alloc ?_ _ | refine Below.setCell ?_ (by simp) _)))) hs).mono ?_
  rintro e w1 ⟨rfl, hB⟩
  replace hB := ext_trans (show Below w.heap.size w _ by (repeat (first | exact Below.refl _ _ | refine ext_alloc ?_ _ | refine Below.setCell ?_ (by simp) _))) hB
  go_wp2_with fail
  refine (in_any _ _ _ _).mono ?_
  rintro e w2 ⟨rfl, hb⟩
  replace hB := ext_trans hB hb
  go_wp2
  go_ret
  exact ⟨rfl, hB⟩
end Go.Proofs.YtodjokdaofefdaaGreat
/- Expressions: both say the same of validity: plain. -/
namespace Go.Proofs.YtodjokdaofefdaaGreat
set_option linter.unusedSimpArgs false
set_option linter.unusedVariables false
open Go.RowKit

/-- At most d deep. -/
def inD : Nat → Ex → Prop
  | 0, _ => False
  | d + 1, t => ∀ p ∈ t.ps, inD d p
def gdR : Nat → Ex → Bool
  | 0, _ => false
  | d + 1, t => headB t && t.ps.all (gdR d)
theorem exR_in {lo hi : Nat} {w : World} : ∀ {d : Nat} {t : Ex} {cs : List Value}, exR d lo hi w t cs → inD d t
  | 0, _, _, h => h.elim
  | d + 1, t, cs, ⟨A, c, _, h, _⟩ => fun p hp => by
    obtain ⟨k, hk, rfl⟩ := List.getElem_of_mem hp
    obtain ⟨_, _, _, hc⟩ := h.2 (by omega)
    obtain ⟨_, _, h2, _⟩ := hc k hk
    exact exR_in h2
theorem mx_le {l : List Nat} {m : Nat} : mxL l ≤ m ↔ ∀ a ∈ l, a ≤ m := by
  induction l with
  | nil => simp [mxL]
  | cons b l ih => rw [mxL, Nat.max_le, ih]; simp
theorem szE_iff : ∀ (m d : Nat) (t : Ex), inD d t → ((szE m t ≠ 0 ↔ gdR d t = true ∧ dpR d t ≤ m) ∧ (szE m t ≠ 0 → szE m t = 1 + cntR d t))
  | _, 0, _, h => h.elim
  | 0, d + 1, t, _ => by simp [szE, dpR]
  | m + 1, d + 1, t, h => by
    have ih := fun p hp => szE_iff m d p (h p hp)
    have hall : (t.ps.all (fun p => decide (szE m p ≠ 0)) = true) ↔ (t.ps.all (gdR d) = true ∧ mxL (t.ps.map (dpR d)) ≤ m) := by
      rw [mx_le, List.all_eq_true, List.all_eq_true]
      simp only [decide_eq_true_eq, List.mem_map, forall_exists_index, and_imp, forall_apply_eq_imp_iff₂]
      constructor
      · exact fun h => ⟨fun p hp => ((ih p hp).1.1 (h p hp)).1, fun p hp => ((ih p hp).1.1 (h p hp)).2⟩
      · exact fun h p hp => (ih p hp).1.2 ⟨h.1 p hp, h.2 p hp⟩
    have hsum : (t.ps.all (fun p => decide (szE m p ≠ 0)) = true) → (t.ps.map (szE m)).sum = t.ps.length + (t.ps.map (cntR d)).sum := by
      intro ha
      have ha2 : ∀ p ∈ t.ps, szE m p = 1 + cntR d p := fun p hp => (ih p hp).2 (by simpa using List.all_eq_true.1 ha p hp)
      generalize t.ps = l at ha2
      induction l with
      | nil => simp
      | cons a l ihl =>
        have h1 := ha2 a (by simp)
        have h2 := ihl (fun p hp => ha2 p (by simp [hp]))
        simp only [List.map_cons, List.sum_cons, List.length_cons]
        omega
    rw [szE, gdR, dpR, cntR]
    by_cases hc : (headB t && t.ps.all (fun p => decide (szE m p ≠ 0))) = true
    · rw [if_pos hc]
      have hc2 := Bool.and_eq_true_iff.1 hc
      have h1 := hall.1 hc2.2
      have h2 := hsum hc2.2
      refine ⟨⟨fun _ => ⟨by rw [hc2.1, h1.1]; rfl, by omega⟩, fun _ => by omega⟩, fun _ => by omega⟩
    · rw [if_neg hc]
      refine ⟨⟨fun h => absurd rfl h, fun h => absurd (Bool.and_eq_true_iff.2 ⟨(Bool.and_eq_true_iff.1 h.1).1, hall.2 ⟨(Bool.and_eq_true_iff.1 h.1).2, by omega⟩⟩) hc⟩, fun h => absurd rfl h⟩
theorem exOk_eq {d : Nat} {t : Ex} (h : inD d t) : exOk t = (gdR d t && (decide (1 + cntR d t ≤ 40) && decide (dpR d t ≤ 7))) := by
  obtain ⟨h1, h2⟩ := szE_iff 7 d t h
  rw [Bool.eq_iff_iff]
  simp only [exOk, inB_true, Bool.and_eq_true, decide_eq_true_eq]
  constructor
  · rintro ⟨g1, g2⟩
    have hne : szE 7 t ≠ 0 := by omega
    have := h2 hne
    have h3 := h1.1 hne
    exact ⟨h3.1, by omega, h3.2⟩
  · rintro ⟨g1, g2, g3⟩
    have hne := h1.2 ⟨g1, g3⟩
    have := h2 hne
    omega
end Go.Proofs.YtodjokdaofefdaaGreat
/- Guards: what both compute, and that they agree at valid expressions: plain. -/
namespace Go.Proofs.YtodjokdaofefdaaGreat
set_option linter.unusedSimpArgs false
set_option linter.unusedVariables false
open Go.RowKit

noncomputable def hasB (l : ExL) (e : Ex) : Bool := l.any (fun x => sameX x e)
def asHas (t : Ex) : Ex := .nd 9 t.n t.s t.ps
def asHas0 (t : Ex) : Ex := .nd 9 0 t.s t.ps
/-- What is known if an expression holds, behind what is known before. -/
def knS : Nat → Ex → ExL → ExL
  | 0, _, l => l
  | d + 1, t, l => if t.k = 9 then l ++ [t] else if t.k = 14 then knS d (exAt t.ps 1) (knS d (exAt t.ps 0) l) else l
/-- By the reference. -/
noncomputable def guS : Nat → Ex → ExL → Bool
  | 0, _, _ => true
  | d + 1, t, l => if t.k = 7 then false else if t.k = 8 then hasB l (asHas0 t) && guS d (exAt t.ps 0) l
      else if t.k = 14 then guS d (exAt t.ps 0) l && guS d (exAt t.ps 1) (knS d (exAt t.ps 0) l) else t.ps.all (fun p => guS d p l)
/-- What is joined by ExprAnd. -/
def cjI : Nat → Ex → ExL
  | 0, _ => []
  | d + 1, t => if t.k = 14 then cjI d (exAt t.ps 0) ++ cjI d (exAt t.ps 1) else [t]
/-- By the program. -/
noncomputable def guI : Nat → Ex → ExL → Bool
  | 0, _, _ => true
  | d + 1, t, l => if t.k = 7 then false else if t.k = 8 ∧ hasB l (asHas t) = false then false
      else if t.k = 14 then guI d (exAt t.ps 0) l && guI d (exAt t.ps 1) (l ++ cjI d (exAt t.ps 0)) else t.ps.all (fun p => guI d p l)
theorem knS_eq : ∀ (d : Nat) (t : Ex) (l : ExL), knS d t l = l ++ (cjI d t).filter (fun x => decide (x.k = 9))
  | 0, t, l => by simp [knS, cjI]
  | d + 1, t, l => by
    rw [knS, cjI]
    by_cases h9 : t.k = 9
    · have h14 : ¬ t.k = 14 := by omega
      rw [if_pos h9, if_neg h14]; simp [h9]
    · rw [if_neg h9]
      by_cases h14 : t.k = 14
      · rw [if_pos h14, if_pos h14, knS_eq d, knS_eq d, List.filter_append, List.append_assoc]
      · rw [if_neg h14, if_neg h14]; simp [h9]
theorem hasB_append (l l' : ExL) (e : Ex) : hasB (l ++ l') e = (hasB l e || hasB l' e) := by simp [hasB, List.any_append]
theorem hasB_filter (l : ExL) {e : Ex} (h : e.k = 9) : hasB (l.filter (fun x => decide (x.k = 9))) e = hasB l e := by
  rw [Bool.eq_iff_iff]
  simp only [hasB, List.any_eq_true, List.mem_filter, decide_eq_true_eq, sameX_true]
  constructor
  · rintro ⟨x, ⟨hx, _⟩, rfl⟩; exact ⟨x, hx, rfl⟩
  · rintro ⟨x, hx, rfl⟩; exact ⟨x, ⟨hx, h⟩, rfl⟩
/-- Both lists have the same questions. -/
def Alk (l l' : ExL) : Prop := ∀ e : Ex, e.k = 9 → hasB l e = hasB l' e
theorem Alk.step {l l' : ExL} (h : Alk l l') (d : Nat) (t : Ex) : Alk (knS d t l) (l' ++ cjI d t) := fun e he => by
  rw [knS_eq, hasB_append, hasB_append, h e he, hasB_filter _ he]
theorem head_len {t : Ex} (h : headB t = true) : t.ps.length = arK t.k := by
  simp only [headB, Bool.and_eq_true, decide_eq_true_eq] at h
  exact h.2.2.1
theorem head_num {t : Ex} (h : headB t = true) : inB t.n 0 (mostK t.k) = true := by
  simp only [headB, Bool.and_eq_true, decide_eq_true_eq] at h
  exact h.2.1
theorem head_8 {t : Ex} (h : headB t = true) (h8 : t.k = 8) : t.n = 0 ∧ t.ps.length = 1 := by
  have h1 := head_len h
  have h2 := head_num h
  rw [h8] at h1 h2
  rw [inB_true] at h2
  have e1 : mostK 8 = 0 := by decide
  have e2 : arK 8 = 1 := by decide
  rw [e1] at h2
  rw [e2] at h1
  exact ⟨by omega, h1⟩
theorem head_14 {t : Ex} (h : headB t = true) (h14 : t.k = 14) : t.ps.length = 2 := by
  have h1 := head_len h
  rw [h14] at h1
  exact h1.trans (by decide)
theorem gd_head {d : Nat} {t : Ex} (h : gdR (d + 1) t = true) : headB t = true := (Bool.and_eq_true_iff.1 h).1
theorem gd_part {d : Nat} {t : Ex} (h : gdR (d + 1) t = true) {k : Nat} (hk : k < t.ps.length) : gdR d (exAt t.ps k) = true := by
  rw [exAt_eq hk]
  exact List.all_eq_true.1 (Bool.and_eq_true_iff.1 h).2 _ (List.getElem_mem hk)
theorem all_at {l : ExL} {p : Ex → Bool} : l.all p = true ↔ ∀ k, k < l.length → p (exAt l k) = true := by
  rw [List.all_eq_true]
  constructor
  · intro h k hk; rw [exAt_eq hk]; exact h _ (List.getElem_mem hk)
  · intro h x hx
    obtain ⟨k, hk, rfl⟩ := List.getElem_of_mem hx
    have := h k hk
    rwa [exAt_eq hk] at this
theorem all_1 {l : ExL} {p : Ex → Bool} (h : l.length = 1) : l.all p = p (exAt l 0) := by
  match l, h with
  | [x], _ => simp [exAt]
theorem gu_eq : ∀ (d : Nat) (t : Ex) (l l' : ExL), gdR d t = true → Alk l l' → guS d t l = guI d t l'
  | 0, _, _, _, _, _ => rfl
  | d + 1, t, l, l', hg, ha => by
    rw [guS, guI]
    by_cases h7 : t.k = 7
    · rw [if_pos h7, if_pos h7]
    rw [if_neg h7, if_neg h7]
    by_cases h8 : t.k = 8
    · obtain ⟨hn, hl⟩ := head_8 (gd_head hg) h8
      have e : asHas0 t = asHas t := by unfold asHas0 asHas; rw [hn]
      have h14 : ¬ t.k = 14 := by omega
      rw [if_pos h8, e, ha _ (by rfl), if_neg h14, gu_eq d _ l l' (gd_part hg (by omega)) ha, all_1 hl]
      cases hb : hasB l' (asHas t)
      · rw [if_pos ⟨h8, rfl⟩]; rfl
      · rw [if_neg (by simp)]; rfl
    · rw [if_neg h8, if_neg (show ¬ (t.k = 8 ∧ hasB l' (asHas t) = false) from fun h => h8 h.1)]
      by_cases h14 : t.k = 14
      · have hl := head_14 (gd_head hg) h14
        rw [if_pos h14, if_pos h14, gu_eq d _ l l' (gd_part hg (by omega)) ha, gu_eq d _ _ _ (gd_part hg (by omega)) (ha.step d _)]
      · rw [if_neg h14, if_neg h14, Bool.eq_iff_iff, all_at, all_at]
        constructor
        · intro h k hk; rw [← gu_eq d _ l l' (gd_part hg hk) ha]; exact h k hk
        · intro h k hk; rw [gu_eq d _ l l' (gd_part hg hk) ha]; exact h k hk
theorem cnt_at {d : Nat} {l : ExL} : ∀ {k : Nat}, k < l.length → cntR d (exAt l k) ≤ (l.map (cntR d)).sum := by
  induction l with
  | nil => intro k hk; simp at hk
  | cons a l ih =>
    intro k hk
    simp only [List.map_cons, List.sum_cons]
    cases k with
    | zero => simp [exAt]
    | succ k =>
      have := ih (k := k) (by simpa using hk)
      have e : exAt (a :: l) (k + 1) = exAt l k := by simp [exAt]
      rw [e]; omega
theorem cnt_two {d : Nat} {t : Ex} (h : t.ps.length = 2) : cntR (d + 1) t = 2 + cntR d (exAt t.ps 0) + cntR d (exAt t.ps 1) := by
  rw [cntR]
  match t.ps, h with
  | [x, y], _ => simp [exAt]; omega
theorem cj_len : ∀ (d : Nat) (t : Ex), gdR d t = true → (cjI d t).length ≤ 1 + cntR d t
  | 0, t, _ => by simp [cjI]
  | d + 1, t, hg => by
    rw [cjI]
    by_cases h14 : t.k = 14
    · have hl := head_14 (gd_head hg) h14
      have h0 := cj_len d _ (gd_part hg (k := 0) (by omega))
      have h1 := cj_len d _ (gd_part hg (k := 1) (by omega))
      rw [if_pos h14, List.length_append, cnt_two hl]
      omega
    · rw [if_neg h14]; simp
theorem kn_len (d : Nat) (t : Ex) (l : ExL) (hg : gdR d t = true) : (knS d t l).length ≤ l.length + 1 + cntR d t := by
  have h1 := cj_len d t hg
  have h2 : ((cjI d t).filter (fun x => decide (x.k = 9))).length ≤ (cjI d t).length := List.length_filter_le _ _
  rw [knS_eq, List.length_append]
  omega
end Go.Proofs.YtodjokdaofefdaaGreat
/- General lemmas, continued: a row of one's own, cut and cleared. -/
namespace Go.Proofs.YtodjokdaofefdaaGreat
set_option linter.unusedSimpArgs false
set_option linter.unusedVariables false
open Go.RowKit

theorem setCells_eq (g : Nat) (vs : List Value) : ∀ (w : World) (o : Nat), setCells w g o vs = w.setCells g o vs := by
  induction vs with
  | nil => intro w o; rfl
  | cons v vs ih => intro w o; exact ih _ _
theorem own_split2 {w : World} {B sz n c : Nat} {e : TypeId} {A : Option Addr} {xs : List Value} (h : w.ownsRow B e sz (.slice A n c) n xs) : (A = Option.none ∧ n = 0 ∧ c = 0) ∨ ∃ g, A = some ⟨g, 0, Option.none⟩ ∧ n ≤ c ∧ c ≤ 9223372036854775807 := by
  rcases h.2 with ⟨h1, h2⟩ | ⟨g, cap, _, h1, _, _, h3, h4, _⟩
  · simp only [Value.slice.injEq] at h1
    exact .inl ⟨h1.1, h2, h1.2.2⟩
  · simp only [Value.slice.injEq, true_and] at h1
    obtain ⟨rfl, rfl⟩ := h1
    exact .inr ⟨g, rfl, h3, by simpa [maxLen] using h4⟩
/-- A row that was written out, in a block of its own. -/
def FrB (B : Nat) (T : TypeId) (n : Nat) (cs : Array Value) (w : World) (v : Value) : Prop := ∃ g, v = .slice (some ⟨g, 0, Option.none⟩) n n ∧ B ≤ g ∧ w.heap[g]? = some (.cells cs T (0, 0))
theorem FrB.below {B : Nat} {T : TypeId} {n : Nat} {cs : Array Value} {w w' : World} {v : Value} (h : FrB B T n cs w v) (hb : Below w.heap.size w w') : FrB B T n cs w' v :=
  let ⟨g, h1, h2, h3⟩ := h; ⟨g, h1, h2, (hb.block g (Array.getElem?_eq_some_iff.1 h3).1).trans h3⟩
end Go.Proofs.YtodjokdaofefdaaGreat
/- Lists of one's own: append to a slice without capacity; lists of expressions of one's own. -/
namespace Go.Proofs.YtodjokdaofefdaaGreat
set_option linter.unusedSimpArgs false
set_option linter.unusedVariables false
open Go.RowKit

theorem rel_ne {p : Prop} [Decidable p] {a b : Nat} {w w' : World} (h : ¬ p) (hb : Below b w w') : Below (if p then a else b) w w' := by rw [if_neg h]; exact hb
theorem rel_eq {p : Prop} [Decidable p] {a b : Nat} {w w' : World} (h : p) (hb : Below a w w') : Below (if p then a else b) w w' := by rw [if_pos h]; exact hb
theorem rel_un {p : Prop} [Decidable p] {a b : Nat} {w w' : World} (h : ¬ p) (hb : Below (if p then a else b) w w') : Below b w w' := by rwa [if_neg h] at hb
theorem OwnG.typ {α : Type} {R : World → α → List Value → Prop} {B : Nat} {e : TypeId} {sz : Nat} {w : World} {v : Value} {l : List α} (h : OwnG R B e sz w v l) : ∀ k, v.ownBlock = some k → ∃ cs fr, w.heap[k]? = some (.cells cs e fr) := by
  obtain ⟨A, c, xs, rfl, ho, _⟩ := h
  intro k hk
  rcases ho.2 with ⟨h1, _⟩ | ⟨g2, cap, cur, hv, _, hx2, _⟩
  · rw [h1] at hk; cases hk
  · rw [hv] at hk
    simp only [Value.ownBlock, Option.some.injEq] at hk
    subst hk
    exact ⟨_, _, hx2⟩
/-- append of what reads as a list to a slice without capacity. -/
theorem op_append_emptyG {α : Type} {R : World → α → List Value → Prop} {P : Program} {w : World} {o : Oper} {a : Act} {K : Act → World → Prop} {Q : Exit → Act → World → Prop} (s x : Operand) (t e : TypeId) (z : Value) (sz bytes : Nat)
    (ho : o.op = .call { callee := .builtin .append, args := #[s, x], argTypes := #[t, t] }) (ht : P.underlying t = some (.slice e)) (hinfo : (P.info? e).map (fun i => (i.zero, i.size, i.bytes)) = some (some z, sz, bytes))
    (hzs : z.cells.size = sz) (hsz : 0 < sz) {B : Nat} (hs : FrB B e 0 #[] w (a.eval s)) {A : Option Addr} {l : List α} {c : Nat} (hx : a.eval x = .slice A l.length c) (hr : RdL R sz w A l) (hR : ∀ w', Below w.heap.size w w' → ∀ a cs, R w a cs → R w' a cs)
    (hbase : B ≤ w.heap.size) (hbytes : l.length * bytes ≤ 140737488355328) (h63 : l.length ≤ 9223372036854775807)
    (h : ∀ v' w', OwnG R B e sz w' v' l → Below w.heap.size w w' → K (a.put o.dst v') w') : o.wp P a w K Q := by
  obtain ⟨i, hi, hz, hsize, hby⟩ := info_parts hinfo
  obtain ⟨g, hs, hB, hg⟩ := hs
  rcases Nat.eq_zero_or_pos l.length with h0 | hpos
  · obtain rfl := List.eq_nil_of_length_eq_zero h0
    have h1 : (Builtin.append_ #[t, t] o.type #[.slice (some ⟨g, 0, Option.none⟩) 0 0, .slice A ([] : List α).length c]).run P w = .ok (.slice (some ⟨g, 0, Option.none⟩) 0 0) w := by
      cases A <;> simp [Builtin.append_, run_underlying ht, sizeOf, typeInfo, hi, Builtin.lenOf, Builtin.firstCells, storeCells, loadCells, loadCellsFrom]
    unfold Oper.wp execOp
    simp only [ho, resolve, invoke, builtin, Sem.run_bind, Sem.run_pure, Result.andThen_ok, List.map_toArray, List.map_cons, List.map_nil, hs, hx, h1]
    exact h _ _ ⟨_, 0, [], rfl, ⟨by simp, .inr ⟨g, 0, #[], rfl, hB, hg, Nat.le_refl _, by simp [maxLen], by simp, by simp⟩⟩, rfl⟩ (Below.refl _ _)
  · obtain ⟨b, off, rfl, _⟩ := hr.2 hpos
    obtain ⟨ys, g1, g2⟩ := hr.chunks
    obtain ⟨v', w', h1, h2, h3⟩ := run_append_arg_grows (P := P) w t o.type e i z sz bytes ht hi hz hsize hby hzs hsz ⟨g, 0, Option.none⟩ 0 0 [] (by simp) (fun j u hj => by simp at hj) ⟨b, off, none⟩ l.length c ys g1.length g2 (by omega) (by simp only [maxLen]; omega) (by rw [Nat.zero_add]; exact hbytes)
    unfold Oper.wp execOp
    simp only [ho, resolve, invoke, builtin, Sem.run_bind, Sem.run_pure, Result.andThen_ok, List.map_toArray, List.map_cons, List.map_nil, hs, hx, h1]
    have hb : Below w.heap.size w w' := ⟨h3.os, h3.tape, h3.output, h3.size, fun k hk => h3.block k hk (fun e => by cases e)⟩
    exact h v' w' (OwnG.of (own_lower (by simpa using h2) hbase) (g1.mono (hR w' hb))) hb

section
variable {d D lo hi N B : Nat} {w w' : World} {A : Option Addr} {l l2 : ExL} {t : Ex} {cs : List Value} {v : Value}
theorem exR.row {row : Option Nat} (hN : N ≤ w.heap.size) (hg : w.grownBy w' row) (hr : ∀ k, row = some k → N ≤ k) : ∀ {d : Nat} {t : Ex} {cs : List Value}, exR d lo N w t cs → exR d lo N w' t cs :=
  fun h => exR.keep (fun k _ hk => hg.block k (by omega) (fun e => by have := hr k e.symm; omega)) (Nat.le_refl _) (Nat.le_refl _) h
theorem exR.one : ∀ {d : Nat} {t : Ex} {cs : List Value}, exR d lo hi w t cs → ∀ u ∈ cs, u.oneCell' = true
  | 0, _, _, h => h.elim
  | _ + 1, _, _, ⟨A, c, rfl, _⟩ => by intro u hu; simp [exHead] at hu; rcases hu with rfl | rfl | rfl | rfl <;> rfl
theorem exS.head {c : Nat} (h : exS d lo hi w A t.ps) (hs : t.s.size ≤ 9223372036854775807) : exR (d + 1) lo hi w t [.int .i64 t.k, .int .i64 t.n, .string t.s, .slice A t.ps.length c] := ⟨A, c, rfl, h.1, h.2, hs⟩
/-- A list of one's own; the parts of what is in it stand below N. -/
def OwnE (D N B : Nat) (l : ExL) (w : World) (v : Value) : Prop := (N ≤ w.heap.size ∧ N ≤ B) ∧ OwnG (exR D 0 N) B 36 4 w v l
theorem OwnE.below (h : OwnE D N B l w v) (hb : Below w.heap.size w w') : OwnE D N B l w' v :=
  ⟨⟨Nat.le_trans h.1.1 hb.size, h.1.2⟩, h.2.below hb (fun _ _ g => exR.below g h.1.1 hb)⟩
theorem OwnE.rd (h : OwnE D N B l w v) (hl : l.length ≤ 9223372036854775807) : ∃ A c, v = .slice A l.length c ∧ exW D w A l := by
  obtain ⟨A, c, e, hr⟩ := h.2.rd hl
  refine ⟨A, c, e, RdL.keep hr (fun _ _ g => exR.keep (fun _ _ _ => rfl) (Nat.le_refl _) h.1.1 g) (fun _ _ _ => rfl), fun hn a ha => ⟨Nat.zero_le _, ?_⟩⟩
  obtain ⟨b, off, e2, _⟩ := hr.2 hn
  rw [ha] at e2
  cases e2
  exact (h.2.ge b (by rw [e, ha]; rfl)).2
theorem OwnE.wide {N' B' : Nat} (h : OwnE D N B l w v) (hN : N ≤ N') (hN2 : N' ≤ w.heap.size) (hN3 : N' ≤ B') (hB : B' ≤ B) : OwnE D N' B' l w v :=
  ⟨⟨hN2, hN3⟩, by
    obtain ⟨A, c, xs, rfl, ho, hc⟩ := h.2
    exact ⟨A, c, xs, rfl, own_lower ho hB, hc.mono (fun _ _ g => exR.keep (fun _ _ _ => rfl) (Nat.le_refl _) hN g)⟩⟩
theorem OwnE.deeper {D' : Nat} (h : OwnE D N B l w v) (hD : D ≤ D') : OwnE D' N B l w v :=
  ⟨h.1, by
    obtain ⟨A, c, xs, rfl, ho, hc⟩ := h.2
    exact ⟨A, c, xs, rfl, ho, hc.mono (fun _ _ g => exR.deeper hD g)⟩⟩
/-- A row of one. -/
theorem OwnE.one {c : Nat} (h : exS d 0 N w A t.ps) (hs : t.s.size ≤ 9223372036854775807) (hN : N ≤ B) (hB : B ≤ w.heap.size) (hf : FrB B 36 1 #[.int .i64 t.k, .int .i64 t.n, .string t.s, .slice A t.ps.length c] w v) : OwnE (d + 1) N B [t] w v := by
  obtain ⟨g, rfl, h1, h2⟩ := hf
  exact ⟨⟨by omega, hN⟩, _, 1, _, rfl, ⟨by simp, .inr ⟨g, 1, _, rfl, h1, h2, by simp, by simp [maxLen], by simp, by simp⟩⟩, Chunks.one rfl (exS.head (c := c) h hs)⟩
end
/-- A list that reads. -/
def KnV (D : Nat) (l : ExL) (w : World) (v : Value) : Prop := ∃ A c, v = .slice A l.length c ∧ exW D w A l
theorem KnV.below {D : Nat} {l : ExL} {w w' : World} {v : Value} (h : KnV D l w v) (hb : Below w.heap.size w w') : KnV D l w' v := let ⟨A, c, e, h⟩ := h; ⟨A, c, e, h.below hb⟩
end Go.Proofs.YtodjokdaofefdaaGreat
/- Expressions: sameness by the reference. Printed by gen_same.py. -/
namespace Go.Proofs.YtodjokdaofefdaaGreat
set_option linter.unusedSimpArgs false
set_option linter.unusedVariables false
open Go.RowKit

theorem ex_sameX2 (r r' : Ex) : sameX r r' = true ↔ r = r' := sameX_true
def SmS (d : Nat) : Prop := ∀ (A A' : Option Addr) (r r' : Ex) (c c' : Nat) (w : World), exW d w A r.ps → exW d w A' r'.ps →
  Calls Tryz.prog 79 #[.agg #[.int .i64 r.k, .int .i64 r.n, .string r.s, .slice A r.ps.length c], .agg #[.int .i64 r'.k, .int .i64 r'.n, .string r'.s, .slice A' r'.ps.length c']] w fun e w' => e = .returned (.bool (sameX r r')) ∧ Below w.heap.size w w'
set_option maxRecDepth 100000 in
set_option maxHeartbeats 4000000 in
theorem smS_of {d : Nat} (hQ : ∀ m, d = m + 1 → SmS m) : SmS d := by
  intro A A' r r' c c' w hU hV
  have hl := exS.len hU
  have hl' := exS.len hV
  have HQ := Lib.hid hQ
  clear hQ
  have HD := Lib.hid (ex_sameX2 r r')
  by_cases h1 : r.k = r'.k
  · have e1 : (r.k != r'.k) = false := by simp [h1]
    have H1 := Lib.hid h1
    clear h1
    by_cases h2 : r.n = r'.n
    · have e2 : (r.n != r'.n) = false := by simp [h2]
      have H2 := Lib.hid h2
      clear h2
      by_cases h3 : r.s = r'.s
      · have e3 : (r.s.toList == r'.s.toList) = true := by simp [h3]
        have H3 := Lib.hid h3
        clear h3
        by_cases h4 : r.ps.length = r'.ps.length
        · have e4 : ((r.ps.length : Int) != r'.ps.length) = false := by simp [h4]
          have H4 := Lib.hid h4
          clear h4
          obtain ⟨W, hW⟩ : ∃ W, W = (w.alloc (.cells #[.int .i64 r.k, .int .i64 r.n, .string r.s, .slice A r.ps.length c] 36)).alloc (.cells #[.int .i64 r'.k, .int .i64 r'.n, .string r'.s, .slice A' r'.ps.length c'] 36) := ⟨_, rfl⟩
          have hBW : Below w.heap.size w W := by rw [hW]; (repeat (first | exact Below.refl _ _ | refine ext_alloc ?_ _ | refine Below.setCell ?_ (by simp) _))
          have b0 : W.cell? ⟨w.heap.size, 3, none⟩ = some (.slice A r.ps.length c) := by rw [hW]; exact below_cell (below_alloc _ _) (box_cell w _ _ 3 _ rfl)
          have b1 : W.cell? ⟨w.heap.size + 1, 3, none⟩ = some (.slice A' r'.ps.length c') := by rw [hW]; exact box_cell_at (by simp) rfl
          have HW := Lib.hid hW
          have HB0 := Lib.hid b0
          have HB1 := Lib.hid b1
          have HBW := Lib.hid hBW
          clear hW b0 b1 hBW
          go_enter Tryz.func79, Tryz.ntmps79
          go_wp2
          go_loopw [5] (fun i wr => ∃ k : Nat, k ≤ r.ps.length ∧ i = .int .i64 k ∧ Below W.heap.size W wr ∧ (∀ j, j < k → exAt r.ps j = exAt r'.ps j)) (fun i _ => r.ps.length - (intOf i).toNat)
          case atStart => exact ⟨0, Nat.zero_le _, rfl, by rw [HW.out]; exact Below.refl _ _, fun j h => by omega⟩
          case round =>
            obtain ⟨k, hk, rfl, hB, hgood⟩ := hrel
            have HG := Lib.hid hgood
            clear hgood
            have b0 := below_cell hB HB0.out
            have b1 := below_cell hB HB1.out
            by_cases hlt : k < r.ps.length
            · have hlt' : k < r'.ps.length := by rw [← H4.out]; exact hlt
              have hd : ∃ m, d = m + 1 := by
                cases d with
                | zero => have := exS.zero hU; rw [this] at hlt; simp at hlt
                | succ m => exact ⟨m, rfl⟩
              obtain ⟨m, hm⟩ := hd
              subst hm
              have HQ1 := Lib.hid (HQ.out m rfl)
              obtain ⟨b, off, rfl, hc⟩ := (hU.below HBW.out).cells (by omega)
              obtain ⟨b', off', rfl, hc'⟩ := (hV.below HBW.out).cells (by omega)
              obtain ⟨A1, c1, hfd, _, p0, p1, p2, p3⟩ := hc k hlt
              obtain ⟨A2, c2, hfd2, _, q0, q1, q2, q3⟩ := hc' k hlt'
              replace p0 := below_cell hB p0
              replace p1 := below_cell hB p1
              replace p2 := below_cell hB p2
              replace p3 := below_cell hB p3
              replace q0 := below_cell hB q0
              replace q1 := below_cell hB q1
              replace q2 := below_cell hB q2
              replace q3 := below_cell hB q3
              replace hfd := hfd.below hB
              replace hfd2 := hfd2.below hB
              clear hc hc'
              have a0 := cell_regrown b0
              have a1 := cell_regrown b1
              replace p0 := cell_regrown p0
              replace p1 := cell_regrown p1
              replace p2 := cell_regrown p2
              replace p3 := cell_regrown p3
              replace q0 := cell_regrown q0
              replace q1 := cell_regrown q1
              replace q2 := cell_regrown q2
              replace q3 := cell_regrown q3
              have HE := Lib.hid (fun (n : Nat) (os : Array Obj) => HQ1.out _ _ _ _ c1 c2 _ (hfd.regrown n os) (hfd2.regrown n os))
              cases g : sameX (exAt r.ps k) (exAt r'.ps k)
              all_goals
                rw [g] at HE
                go_wp2
                refine wp_region_quiet_below (by kernel_rfl) (by kernel_rfl) ?_
                repeat (go_big_quiet_step ((go_at_call 79; (with_reducible exact Calls.regrown_of (HE.out _ _)))))
                refine wpQuiet_nil ?_
                intro w2 hw'regrown
                replace hB := ext_trans hB (below_of_regrown hw'regrown (Nat.le_refl _))
                clear hw'regrown p0 q0 p1 q1 p2 q2 p3 q3 b0 b1 a0 a1
                go_wp2
              · go_ret
                exact ⟨ret_bool (by rw [eq_comm, sameX_false]; intro h; rw [h, sameX_self] at g; cases g), HBW.out.trans (hB.mono HBW.out.size)⟩
              · go_roundw
                case rel => exact ⟨k + 1, by omega, by go_num, hB, all_succ HG.out (sameX_true.1 g)⟩
                case measure => simp [intOf]; omega
            · obtain rfl : k = r.ps.length := by omega
              go_wp2
              go_ret
              exact ⟨ret_bool (by rw [eq_comm, sameX_true]; exact Ex.ext H1.out H2.out H3.out (by have := ex_same H4.out HG.out; exact sameX_true.1 this.symm)), HBW.out.trans (hB.mono HBW.out.size)⟩
        · have e4 : ((r.ps.length : Int) != r'.ps.length) = true := by simp; omega
          have H4 := Lib.hid h4
          clear h4
          go_enter Tryz.func79, Tryz.ntmps79
          go_wp2
          go_ret
          exact ⟨ret_bool (by rw [eq_comm, sameX_false]; intro h; exact H4.out (by rw [h])), by (repeat (first | exact Below.refl _ _ | refine ext_alloc ?_ _ | refine Below.setCell ?_ (by simp) _))⟩
      · have e3 : (r.s.toList == r'.s.toList) = false := by rw [str_beq]; simp [h3]
        have H3 := Lib.hid h3
        clear h3
        go_enter Tryz.func79, Tryz.ntmps79
        go_wp2
        go_ret
        exact ⟨ret_bool (by rw [eq_comm, sameX_false]; intro h; exact H3.out (by rw [h])), by (repeat (first | exact Below.refl _ _ | refine ext_alloc ?_ _ | refine Below.setCell ?_ (by simp) _))⟩
    · have e2 : (r.n != r'.n) = true := by simp [h2]
      have H2 := Lib.hid h2
      clear h2
      go_enter Tryz.func79, Tryz.ntmps79
      go_wp2
      go_ret
      exact ⟨ret_bool (by rw [eq_comm, sameX_false]; intro h; exact H2.out (by rw [h])), by (repeat (first | exact Below.refl _ _ | refine ext_alloc ?_ _ | refine Below.setCell ?_ (by simp) _))⟩
  · have e1 : (r.k != r'.k) = true := by simp [h1]
    have H1 := Lib.hid h1
    clear h1
    go_enter Tryz.func79, Tryz.ntmps79
    go_wp2
    go_ret
    exact ⟨ret_bool (by rw [eq_comm, sameX_false]; intro h; exact H1.out (by rw [h])), by (repeat (first | exact Below.refl _ _ | refine ext_alloc ?_ _ | refine Below.setCell ?_ (by simp) _))⟩
theorem smS_all : ∀ d, SmS d
  | 0 => smS_of (fun m h => by cases h)
  | d + 1 => smS_of (fun m h => by cases h; exact smS_all d)
end Go.Proofs.YtodjokdaofefdaaGreat
/- Expressions: copies for a call. -/
namespace Go.Proofs.YtodjokdaofefdaaGreat
set_option linter.unusedSimpArgs false
set_option linter.unusedVariables false
open Go.RowKit

theorem exS.setCell {d lo hi : Nat} {w : World} {A : Option Addr} {l : ExL} {a : Addr} {x : Value} (h : exS d lo hi w A l) (hne : a.block < lo) : exS d lo hi (w.setCell a x) A l :=
  h.keep (fun k hk _ => Below.heap_setCell w a x k (by omega)) (Nat.le_refl _) (Nat.le_refl _)
theorem Tryz.infoExpr : (Tryz.prog.info? 36).map (fun i => (i.zero, i.size, i.bytes)) = some (some (.agg #[.int .i64 0, .int .i64 0, .string ByteArray.empty, .slice Option.none 0 0]), 4, 56) := by kernel_rfl
end Go.Proofs.YtodjokdaofefdaaGreat
/- Guards, by the reference: what is in a list, what is known. -/
namespace Go.Proofs.YtodjokdaofefdaaGreat
set_option linter.unusedSimpArgs false
set_option linter.unusedVariables false
open Go.RowKit

theorem hasB_yes {l : ExL} {e : Ex} {k : Nat} (hk : k < l.length) (h : sameX (exAt l k) e = true) : hasB l e = true := by
  rw [hasB, List.any_eq_true]
  exact ⟨l[k], List.getElem_mem hk, by rw [← exAt_eq hk]; exact h⟩
theorem hasB_no {l : ExL} {e : Ex} (h : ∀ k, k < l.length → sameX (exAt l k) e = false) : hasB l e = false := by
  rw [hasB, List.any_eq_false]
  intro x hx
  obtain ⟨k, hk, rfl⟩ := List.getElem_of_mem hx
  have := h k hk
  rw [exAt_eq hk] at this
  rw [this]; simp
set_option maxRecDepth 100000 in
set_option maxHeartbeats 4000000 in
theorem specHas_any {D : Nat} {A A' : Option Addr} {l : ExL} {r : Ex} {c c' : Nat} {w : World} (hU : exW (D + 1) w A l) (hV : exW D w A' r.ps) :
    Calls Tryz.prog 64 #[.slice A l.length c, .agg #[.int .i64 r.k, .int .i64 r.n, .string r.s, .slice A' r.ps.length c']] w fun e w' => e = .returned (.bool (hasB l r)) ∧ Below w.heap.size w w' := by
  have hlen := exS.len hU
  obtain ⟨W, hW⟩ : ∃ W, W = w.alloc (.cells #[.int .i64 r.k, .int .i64 r.n, .string r.s, .slice A' r.ps.length c'] 36) := ⟨_, rfl⟩
  have hBW : Below w.heap.size w W := by rw [hW]; (repeat (first | exact Below.refl _ _ | refine ext_alloc ?_ _ | refine Below.setCell ?_ (by simp) _))
  have b0 : W.cell? ⟨w.heap.size, 0, none⟩ = some (.int .i64 r.k) := by rw [hW]; exact box_cell w _ _ 0 _ rfl
  have b1 : W.cell? ⟨w.heap.size, 1, none⟩ = some (.int .i64 r.n) := by rw [hW]; exact box_cell w _ _ 1 _ rfl
  have b2 : W.cell? ⟨w.heap.size, 2, none⟩ = some (.string r.s) := by rw [hW]; exact box_cell w _ _ 2 _ rfl
  have b3 : W.cell? ⟨w.heap.size, 3, none⟩ = some (.slice A' r.ps.length c') := by rw [hW]; exact box_cell w _ _ 3 _ rfl
  have hVW := hV.below hBW
  have HW := Lib.hid hW
  have HBW := Lib.hid hBW
  have HB0 := Lib.hid b0
  have HB1 := Lib.hid b1
  have HB2 := Lib.hid b2
  have HB3 := Lib.hid b3
  clear hW hBW b0 b1 b2 b3
  go_enter Tryz.func64, Tryz.ntmps64
  go_wp2
  go_loopw [5] (fun i wr => ∃ k : Nat, k ≤ l.length ∧ i = .int .i64 k ∧ Below W.heap.size W wr ∧ Hid (∀ j, j < k → sameX (exAt l j) r = false)) (fun i _ => l.length - (intOf i).toNat)
  case atStart => exact ⟨0, Nat.zero_le _, rfl, by rw [HW.out]; exact Below.refl _ _, Lib.hid (fun j h => by omega)⟩
  case round =>
    obtain ⟨k, hk, rfl, hB, HG⟩ := hrel
    by_cases hlt : k < l.length
    · obtain ⟨b, off, rfl, hc⟩ := (hU.below HBW.out).cells (by omega)
      obtain ⟨A1, c1, hfd, _, p0, p1, p2, p3⟩ := hc k hlt
      replace p0 := cell_regrown (below_cell hB p0)
      replace p1 := cell_regrown (below_cell hB p1)
      replace p2 := cell_regrown (below_cell hB p2)
      replace p3 := cell_regrown (below_cell hB p3)
      have b0 := cell_regrown (below_cell hB HB0.out)
      have b1 := cell_regrown (below_cell hB HB1.out)
      have b2 := cell_regrown (below_cell hB HB2.out)
      have b3 := cell_regrown (below_cell hB HB3.out)
      replace hfd := hfd.below hB
      have hfd2 := hVW.below hB
      clear hc
      have HE := Lib.hid (fun (n : Nat) (os : Array Obj) => smS_all D _ _ _ _ c1 c' _ (hfd.regrown n os) (hfd2.regrown n os))
      clear hfd hfd2
      obtain ⟨y, hy⟩ : ∃ y, sameX (exAt l k) r = y := ⟨_, rfl⟩
      rw [hy] at HE
      have HY := Lib.hid hy
      clear hy
      cases y
      all_goals
        go_wp2
        refine wp_region_quiet_below (by kernel_rfl) (by kernel_rfl) ?_
        repeat (go_big_quiet_step ((go_at_call 79; (with_reducible exact Calls.regrown_of (HE.out _ _)))))
        refine wpQuiet_nil ?_
        intro w2 hw'regrown
        replace hB := ext_trans hB (below_of_regrown hw'regrown (Nat.le_refl _))
        clear hw'regrown p0 p1 p2 p3 b0 b1 b2 b3
        go_wp2
      · go_roundw
        case rel => exact ⟨k + 1, by omega, by go_num, hB, Lib.hid (all_succ HG.out HY.out)⟩
        case measure => simp [intOf]; omega
      · go_ret
        exact ⟨by rw [hasB_yes hlt HY.out]; rfl, ext_trans HBW.out hB⟩
    · obtain rfl : k = l.length := by omega
      go_wp2
      go_ret
      exact ⟨by rw [hasB_no HG.out]; rfl, ext_trans HBW.out hB⟩
end Go.Proofs.YtodjokdaofefdaaGreat

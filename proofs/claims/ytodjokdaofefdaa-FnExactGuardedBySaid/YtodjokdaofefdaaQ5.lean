/- Expressions: sizes of valid ones: the program's walk. -/
import Derived.Test.YtodjokdaofefdaaQ4
import Derived.Test.YtodjokdaofefdaaQ2
import Derived.Test.YtodjokdaofefdaaQ3
namespace Go.Proofs.Ytodjokdaofefdaa
set_option linter.unusedSimpArgs false
set_option linter.unusedVariables false
open Go.RowKit

def SeQ (m : Nat) : Prop := ∀ (d : Nat) (A : Option Addr) (r : Ex) (c : Nat) (w : World), exW d w A r.ps → r.s.size ≤ 9223372036854775807 →
  Calls Try.prog 87 #[.agg #[.int .i64 r.k, .int .i64 r.n, .string r.s, .slice A r.ps.length c], .int .i64 (m : Int)] w fun e w' => e = .returned (.int .i64 (szE m r)) ∧ Below w.heap.size w w'
theorem str_isEmpty (s : ByteArray) : s.toList.isEmpty = decide (s = ByteArray.empty) := by
  have h0 : ByteArray.empty.toList = [] := by first | (unfold ByteArray.toList ByteArray.toList.loop; simp; done) | (simp [ByteArray.toList, ByteArray.toList.loop]; done) | kernel_rfl | decide +kernel
  rw [Bool.eq_iff_iff, List.isEmpty_iff, decide_eq_true_eq, ← h0]
  exact str_eq
theorem szE_no {m k : Nat} {r : Ex} (hk : k < r.ps.length) (h : szE m (exAt r.ps k) = 0) : szE (m + 1) r = 0 := by
  rw [szE, if_neg]
  intro h2
  have h3 := List.all_eq_true.1 (Bool.and_eq_true_iff.1 h2).2 _ (List.getElem_mem hk)
  rw [← exAt_eq hk, h] at h3
  simp at h3
theorem szE_yes {m : Nat} {r : Ex} (g : headB r = true) (h : ∀ j, j < r.ps.length → szE m (exAt r.ps j) ≠ 0) : szE (m + 1) r = 1 + (r.ps.map (szE m)).sum := by
  rw [szE, if_pos]
  rw [g, Bool.true_and, List.all_eq_true]
  intro p hp
  obtain ⟨j, hj, rfl⟩ := List.getElem_of_mem hp
  have := h j hj
  rw [exAt_eq hj] at this
  simpa using this
theorem szE_sum {m : Nat} (hm : m < 7) (l : ExL) : (l.map (szE m)).sum ≤ l.length * 127 := by
  have h2 : (2 : Nat) ^ m ≤ 2 ^ 7 := Nat.pow_le_pow_right (by omega) (by omega)
  induction l with
  | nil => simp
  | cons a l ihl =>
    have := szE_lt m a
    simp only [List.map_cons, List.sum_cons, List.length_cons, Nat.succ_mul]
    omega
theorem sum_take {m : Nat} {l : ExL} {k : Nat} (hk : k < l.length) : ((l.take (k + 1)).map (szE m)).sum = ((l.take k).map (szE m)).sum + szE m (exAt l k) := by
  rw [List.take_succ_eq_append_getElem hk, List.map_append, List.sum_append, exAt_eq hk]; simp
theorem implNameValid_v {s : ByteArray} {b : Bool} (hb : nmOk s = b) (hs : s.size ≤ 9223372036854775807) (w : World) :
    Calls Try.prog 70 #[.string s] w fun e w' => e = .returned (.bool b) ∧ Below w.heap.size w w' := hb ▸ implNameValid s hs w
set_option maxRecDepth 100000 in
set_option maxHeartbeats 4000000 in
theorem seQ_succ {m : Nat} (hm : m < 7) (hQ : SeQ m) : SeQ (m + 1) := by
  intro d A r c w hU hs
  have hl := exS.len hU
  have HQ := Lib.hid hQ
  clear hQ
  obtain ⟨W, hW⟩ : ∃ W, W = w.alloc (.cells #[.int .i64 r.k, .int .i64 r.n, .string r.s, .slice A r.ps.length c] 28) := ⟨_, rfl⟩
  have hBW : Below w.heap.size w W := by rw [hW]; (repeat (first | exact Below.refl _ _ | refine ext_alloc ?_ _ | refine Below.setCell ?_ (by simp) _))
  have b0 : W.cell? ⟨w.heap.size, 0, none⟩ = some (.int .i64 r.k) := by rw [hW]; exact box_cell w _ _ 0 _ rfl
  have b1 : W.cell? ⟨w.heap.size, 1, none⟩ = some (.int .i64 r.n) := by rw [hW]; exact box_cell w _ _ 1 _ rfl
  have b2 : W.cell? ⟨w.heap.size, 2, none⟩ = some (.string r.s) := by rw [hW]; exact box_cell w _ _ 2 _ rfl
  have b3 : W.cell? ⟨w.heap.size, 3, none⟩ = some (.slice A r.ps.length c) := by rw [hW]; exact box_cell w _ _ 3 _ rfl
  have HW := Lib.hid hW
  have HBW := Lib.hid hBW
  clear hW hBW
  have hm0 : (((m + 1 : Nat) : Int) == 0) = false := by simp; omega
  have hm1 : (((m : Int) + 1) == 0) = false := by simp; omega
  rcases headCases r with ⟨g1, g0⟩ | ⟨g1, g2, g0⟩ | ⟨g1, g2, g3, g0⟩ | ⟨g1, g2, g3, g4, g0⟩ | ⟨g1, g2, g3, g4, g5, g0⟩ | ⟨g1, g2, g3, g4, g5, g0⟩ | ⟨g1, g2, g3, g4, g0⟩
  · have HZ : Hid (szE (m + 1) r = 0) := Lib.hid (by rw [szE, g0]; simp)
    clear g0
    go_enter Try.func87, Try.ntmps87
    go_wp2_with fail
    rw [← HW.out]
    refine (partsOf_any _ _).mono ?_
    rintro e w1 ⟨rfl, hB⟩
    have a0 := cell_regrown (below_cell hB b0)
    have a1 := cell_regrown (below_cell hB b1)
    have a2 := cell_regrown (below_cell hB b2)
    have a3 := cell_regrown (below_cell hB b3)
    clear b0 b1 b2 b3
    go_wp2
    refine wp_region_quiet_below (by kernel_rfl) (by kernel_rfl) ?_
    repeat (go_big_quiet_step (first | (go_at_call 55; exact Calls.regrown_of (in_any _ _ _ _)) | (go_at_call 128; exact Calls.regrown_of (greatestNumber_any _ _)) | (go_at_call 70; exact Calls.regrown_of (implNameValid _ hs _))))
    refine wpQuiet_nil ?_
    intro w2 hw'regrown
    replace hB := ext_trans hB (below_of_regrown hw'regrown (Nat.le_refl _))
    clear hw'regrown a0 a1 a2 a3
    go_wp2
    go_ret
    exact ⟨by rw [HZ.out]; rfl, ext_trans HBW.out hB⟩
  · have HZ : Hid (szE (m + 1) r = 0) := Lib.hid (by rw [szE, g0]; simp)
    clear g0
    go_enter Try.func87, Try.ntmps87
    go_wp2_with fail
    rw [← HW.out]
    refine (partsOf_any _ _).mono ?_
    rintro e w1 ⟨rfl, hB⟩
    have a0 := cell_regrown (below_cell hB b0)
    have a1 := cell_regrown (below_cell hB b1)
    have a2 := cell_regrown (below_cell hB b2)
    have a3 := cell_regrown (below_cell hB b3)
    clear b0 b1 b2 b3
    go_wp2
    refine wp_region_quiet_below (by kernel_rfl) (by kernel_rfl) ?_
    repeat (go_big_quiet_step (first | (go_at_call 55; exact Calls.regrown_of (in_any _ _ _ _)) | (go_at_call 128; exact Calls.regrown_of (greatestNumber_any _ _)) | (go_at_call 70; exact Calls.regrown_of (implNameValid _ hs _))))
    refine wpQuiet_nil ?_
    intro w2 hw'regrown
    replace hB := ext_trans hB (below_of_regrown hw'regrown (Nat.le_refl _))
    clear hw'regrown a0 a1 a2 a3
    go_wp2
    go_ret
    exact ⟨by rw [HZ.out]; rfl, ext_trans HBW.out hB⟩
  · have HZ : Hid (szE (m + 1) r = 0) := Lib.hid (by rw [szE, g0]; simp)
    have e3 : ((r.ps.length : Int) != (arK r.k : Int)) = true := by simp; omega
    have G3 := Lib.hid g3
    clear g3
    clear g0
    go_enter Try.func87, Try.ntmps87
    go_wp2_with fail
    rw [← HW.out]
    refine (partsOf_any _ _).mono ?_
    rintro e w1 ⟨rfl, hB⟩
    have a0 := cell_regrown (below_cell hB b0)
    have a1 := cell_regrown (below_cell hB b1)
    have a2 := cell_regrown (below_cell hB b2)
    have a3 := cell_regrown (below_cell hB b3)
    clear b0 b1 b2 b3
    go_wp2
    refine wp_region_quiet_below (by kernel_rfl) (by kernel_rfl) ?_
    repeat (go_big_quiet_step (first | (go_at_call 55; exact Calls.regrown_of (in_any _ _ _ _)) | (go_at_call 128; exact Calls.regrown_of (greatestNumber_any _ _)) | (go_at_call 70; exact Calls.regrown_of (implNameValid _ hs _))))
    refine wpQuiet_nil ?_
    intro w2 hw'regrown
    replace hB := ext_trans hB (below_of_regrown hw'regrown (Nat.le_refl _))
    clear hw'regrown a0 a1 a2 a3
    go_wp2
    go_ret
    exact ⟨by rw [HZ.out]; rfl, ext_trans HBW.out hB⟩
  · obtain ⟨q, hq⟩ : ∃ q, nmK r.k = q := ⟨_, rfl⟩
    have hq2 : decide (r.s = ByteArray.empty) = q := by rw [← g4, hq]
    have e3 : ((r.ps.length : Int) != (arK r.k : Int)) = false := by simp; omega
    have e5 : r.s.toList.isEmpty = q := by rw [str_isEmpty]; exact hq2
    have HQQ := Lib.hid hq
    have G3 := Lib.hid g3
    obtain ⟨x5, g5⟩ : ∃ x, nmOk r.s = x := ⟨_, rfl⟩
    clear g3 g4 hq hq2
    have HZ : Hid (szE (m + 1) r = 0) := Lib.hid (by rw [szE, g0]; simp)
    clear g0
    cases q
    · go_enter Try.func87, Try.ntmps87
      go_wp2_with fail
      rw [← HW.out]
      refine (partsOf_any _ _).mono ?_
      rintro e w1 ⟨rfl, hB⟩
      rw [HQQ.out]
      have a0 := cell_regrown (below_cell hB b0)
      have a1 := cell_regrown (below_cell hB b1)
      have a2 := cell_regrown (below_cell hB b2)
      have a3 := cell_regrown (below_cell hB b3)
      clear b0 b1 b2 b3
      go_wp2
      refine wp_region_quiet_below (by kernel_rfl) (by kernel_rfl) ?_
      repeat (go_big_quiet_step (first | (go_at_call 55; exact Calls.regrown_of (in_any _ _ _ _)) | (go_at_call 128; exact Calls.regrown_of (greatestNumber_any _ _)) | (go_at_call 70; (with_reducible exact Calls.regrown_of (implNameValid_v g5 hs _)))))
      refine wpQuiet_nil ?_
      intro w2 hw'regrown
      replace hB := ext_trans hB (below_of_regrown hw'regrown (Nat.le_refl _))
      clear hw'regrown a0 a1 a2 a3
      go_wp2
      go_ret
      exact ⟨by rw [HZ.out]; rfl, ext_trans HBW.out hB⟩
    · go_enter Try.func87, Try.ntmps87
      go_wp2_with fail
      rw [← HW.out]
      refine (partsOf_any _ _).mono ?_
      rintro e w1 ⟨rfl, hB⟩
      rw [HQQ.out]
      have a0 := cell_regrown (below_cell hB b0)
      have a1 := cell_regrown (below_cell hB b1)
      have a2 := cell_regrown (below_cell hB b2)
      have a3 := cell_regrown (below_cell hB b3)
      clear b0 b1 b2 b3
      go_wp2
      refine wp_region_quiet_below (by kernel_rfl) (by kernel_rfl) ?_
      repeat (go_big_quiet_step (first | (go_at_call 55; exact Calls.regrown_of (in_any _ _ _ _)) | (go_at_call 128; exact Calls.regrown_of (greatestNumber_any _ _)) | (go_at_call 70; (with_reducible exact Calls.regrown_of (implNameValid_v g5 hs _)))))
      refine wpQuiet_nil ?_
      intro w2 hw'regrown
      replace hB := ext_trans hB (below_of_regrown hw'regrown (Nat.le_refl _))
      clear hw'regrown a0 a1 a2 a3
      go_wp2
      go_ret
      exact ⟨by rw [HZ.out]; rfl, ext_trans HBW.out hB⟩
  · have e3 : ((r.ps.length : Int) != (arK r.k : Int)) = false := by simp; omega
    have e5 : r.s.toList.isEmpty = false := by rw [str_isEmpty]; exact g4.2
    have HQQ := Lib.hid g4.1
    have G3 := Lib.hid g3
    clear g3 g4
    have HZ : Hid (szE (m + 1) r = 0) := Lib.hid (by rw [szE, g0]; simp)
    clear g0
    go_enter Try.func87, Try.ntmps87
    go_wp2_with fail
    rw [← HW.out]
    refine (partsOf_any _ _).mono ?_
    rintro e w1 ⟨rfl, hB⟩
    rw [HQQ.out]
    have a0 := cell_regrown (below_cell hB b0)
    have a1 := cell_regrown (below_cell hB b1)
    have a2 := cell_regrown (below_cell hB b2)
    have a3 := cell_regrown (below_cell hB b3)
    clear b0 b1 b2 b3
    go_wp2
    refine wp_region_quiet_below (by kernel_rfl) (by kernel_rfl) ?_
    repeat (go_big_quiet_step (first | (go_at_call 55; exact Calls.regrown_of (in_any _ _ _ _)) | (go_at_call 128; exact Calls.regrown_of (greatestNumber_any _ _)) | (go_at_call 70; (with_reducible exact Calls.regrown_of (implNameValid_v g5 hs _)))))
    refine wpQuiet_nil ?_
    intro w2 hw'regrown
    replace hB := ext_trans hB (below_of_regrown hw'regrown (Nat.le_refl _))
    clear hw'regrown a0 a1 a2 a3
    go_wp2
    go_ret
    exact ⟨by rw [HZ.out]; rfl, ext_trans HBW.out hB⟩
  · have e3 : ((r.ps.length : Int) != (arK r.k : Int)) = false := by simp; omega
    have e5 : r.s.toList.isEmpty = false := by rw [str_isEmpty]; exact g4.2
    have HQQ := Lib.hid g4.1
    have G3 := Lib.hid g3
    clear g3 g4
    have HGH := Lib.hid g0
    have hl2 := headB_len g0
    clear g0
    go_enter Try.func87, Try.ntmps87
    go_wp2_with fail
    rw [← HW.out]
    refine (partsOf_any _ _).mono ?_
    rintro e w1 ⟨rfl, hB⟩
    rw [HQQ.out]
    have a0 := cell_regrown (below_cell hB b0)
    have a1 := cell_regrown (below_cell hB b1)
    have a2 := cell_regrown (below_cell hB b2)
    have a3 := cell_regrown (below_cell hB b3)
    clear b0 b1 b2
    go_wp2
    refine wp_region_quiet_below (by kernel_rfl) (by kernel_rfl) ?_
    repeat (go_big_quiet_step (first | (go_at_call 55; exact Calls.regrown_of (in_any _ _ _ _)) | (go_at_call 128; exact Calls.regrown_of (greatestNumber_any _ _)) | (go_at_call 70; (with_reducible exact Calls.regrown_of (implNameValid_v g5 hs _)))))
    refine wpQuiet_nil ?_
    intro w2 hw'regrown
    replace hB := ext_trans hB (below_of_regrown hw'regrown (Nat.le_refl _))
    clear hw'regrown a0 a1 a2 a3
    rw [g1, g2]
    have hB3 := below_cell hB b3
    go_wp2
    go_loopw [7, 60] (fun ov kv wr => ∃ (k s : Nat), k ≤ r.ps.length ∧ kv = .int .i64 k ∧ ov = .int .i64 ((1 + s : Nat) : Int) ∧ Hid (s = ((r.ps.take k).map (szE m)).sum) ∧ s ≤ 254 ∧ Hid (∀ j, j < k → szE m (exAt r.ps j) ≠ 0) ∧ Below W.heap.size W wr) (fun _ kv _ => r.ps.length - (intOf kv).toNat)
    case atStart => exact ⟨0, 0, Nat.zero_le _, rfl, rfl, Lib.hid rfl, by omega, Lib.hid (fun j h => by omega), hB⟩
    case round =>
      clear hB hB3
      obtain ⟨k, s, hk, rfl, rfl, HS, hs254, HG, hB⟩ := hrel
      by_cases hlt : k < r.ps.length
      · have hd : ∃ m, d = m + 1 := by
          cases d with
          | zero => have := exS.zero hU; rw [this] at hlt; simp at hlt
          | succ m => exact ⟨m, rfl⟩
        obtain ⟨dd, hdd⟩ := hd
        subst hdd
        obtain ⟨b, off, rfl, hc⟩ := (hU.below HBW.out).cells (by omega)
        obtain ⟨A1, c1, hfd, hs1, p0, p1, p2, p3⟩ := hc k hlt
        replace p0 := below_cell hB p0
        replace p1 := below_cell hB p1
        replace p2 := below_cell hB p2
        replace p3 := below_cell hB p3
        replace hfd := hfd.below hB
        have HST := Lib.hid (sum_take (m := m) hlt)
        have HTB := Lib.hid (szE_sum hm (r.ps.take (k + 1)))
        clear hc
        obtain ⟨z, hz⟩ : ∃ z, szE m (exAt r.ps k) = z := ⟨_, rfl⟩
        have HZ := Lib.hid hz
        have hzb : s + z ≤ 254 := by
          have h1 := HTB.out
          rw [HST.out, ← HS.out, hz, List.length_take] at h1
          have : min (k + 1) r.ps.length ≤ 2 := by omega
          omega
        clear hz
        go_wp2_with fail
        refine (HQ.out _ _ _ _ _ (hfd.below (by (repeat (first | exact Below.refl _ _ | refine ext_alloc ?_ _ | refine Below.setCell ?_ (by simp) _)))) hs1).mono ?_
        rintro e w4 ⟨rfl, hb⟩
        rw [HZ.out]
        replace hB := ext_trans (ext_trans hB (by (repeat (first | exact Below.refl _ _ | refine ext_alloc ?_ _ | refine Below.setCell ?_ (by simp) _)))) hb
        clear hb p0 p1 p2 p3 hfd
        by_cases h0 : z = 0
        · subst h0
          have HN := Lib.hid (szE_no hlt HZ.out)
          go_wp2
          go_ret
          exact ⟨by rw [HN.out]; rfl, ext_trans HBW.out hB⟩
        · have hz0 : ((z : Int) == 0) = false := by simp; omega
          have HN0 := Lib.hid h0
          clear h0
          go_wp2
          go_roundw
          case rel =>
            exact ⟨k + 1, s + z, by omega, by go_num, by go_num, Lib.hid (by rw [HST.out, ← HS.out, HZ.out]), hzb, Lib.hid (all_succ HG.out (by rw [HZ.out]; exact HN0.out)), hB⟩
          case measure => simp [intOf]; omega
      · obtain rfl : k = r.ps.length := by omega
        have HY := Lib.hid (szE_yes HGH.out HG.out)
        go_wp2
        go_ret
        exact ⟨by rw [HY.out, HS.out, List.take_length]; rfl, ext_trans HBW.out hB⟩
  · have e3 : ((r.ps.length : Int) != (arK r.k : Int)) = false := by simp; omega
    have e5 : r.s.toList.isEmpty = true := by rw [str_isEmpty]; exact g4.2
    have HQQ := Lib.hid g4.1
    have G3 := Lib.hid g3
    obtain ⟨x5, g5⟩ : ∃ x, nmOk r.s = x := ⟨_, rfl⟩
    clear g3 g4
    have HGH := Lib.hid g0
    have hl2 := headB_len g0
    clear g0
    go_enter Try.func87, Try.ntmps87
    go_wp2_with fail
    rw [← HW.out]
    refine (partsOf_any _ _).mono ?_
    rintro e w1 ⟨rfl, hB⟩
    rw [HQQ.out]
    have a0 := cell_regrown (below_cell hB b0)
    have a1 := cell_regrown (below_cell hB b1)
    have a2 := cell_regrown (below_cell hB b2)
    have a3 := cell_regrown (below_cell hB b3)
    clear b0 b1 b2
    go_wp2
    refine wp_region_quiet_below (by kernel_rfl) (by kernel_rfl) ?_
    repeat (go_big_quiet_step (first | (go_at_call 55; exact Calls.regrown_of (in_any _ _ _ _)) | (go_at_call 128; exact Calls.regrown_of (greatestNumber_any _ _)) | (go_at_call 70; (with_reducible exact Calls.regrown_of (implNameValid_v g5 hs _)))))
    refine wpQuiet_nil ?_
    intro w2 hw'regrown
    replace hB := ext_trans hB (below_of_regrown hw'regrown (Nat.le_refl _))
    clear hw'regrown a0 a1 a2 a3
    rw [g1, g2]
    have hB3 := below_cell hB b3
    go_wp2
    go_loopw [7, 60] (fun ov kv wr => ∃ (k s : Nat), k ≤ r.ps.length ∧ kv = .int .i64 k ∧ ov = .int .i64 ((1 + s : Nat) : Int) ∧ Hid (s = ((r.ps.take k).map (szE m)).sum) ∧ s ≤ 254 ∧ Hid (∀ j, j < k → szE m (exAt r.ps j) ≠ 0) ∧ Below W.heap.size W wr) (fun _ kv _ => r.ps.length - (intOf kv).toNat)
    case atStart => exact ⟨0, 0, Nat.zero_le _, rfl, rfl, Lib.hid rfl, by omega, Lib.hid (fun j h => by omega), hB⟩
    case round =>
      clear hB hB3
      obtain ⟨k, s, hk, rfl, rfl, HS, hs254, HG, hB⟩ := hrel
      by_cases hlt : k < r.ps.length
      · have hd : ∃ m, d = m + 1 := by
          cases d with
          | zero => have := exS.zero hU; rw [this] at hlt; simp at hlt
          | succ m => exact ⟨m, rfl⟩
        obtain ⟨dd, hdd⟩ := hd
        subst hdd
        obtain ⟨b, off, rfl, hc⟩ := (hU.below HBW.out).cells (by omega)
        obtain ⟨A1, c1, hfd, hs1, p0, p1, p2, p3⟩ := hc k hlt
        replace p0 := below_cell hB p0
        replace p1 := below_cell hB p1
        replace p2 := below_cell hB p2
        replace p3 := below_cell hB p3
        replace hfd := hfd.below hB
        have HST := Lib.hid (sum_take (m := m) hlt)
        have HTB := Lib.hid (szE_sum hm (r.ps.take (k + 1)))
        clear hc
        obtain ⟨z, hz⟩ : ∃ z, szE m (exAt r.ps k) = z := ⟨_, rfl⟩
        have HZ := Lib.hid hz
        have hzb : s + z ≤ 254 := by
          have h1 := HTB.out
          rw [HST.out, ← HS.out, hz, List.length_take] at h1
          have : min (k + 1) r.ps.length ≤ 2 := by omega
          omega
        clear hz
        go_wp2_with fail
        refine (HQ.out _ _ _ _ _ (hfd.below (by (repeat (first | exact Below.refl _ _ | refine ext_alloc ?_ _ | refine Below.setCell ?_ (by simp) _)))) hs1).mono ?_
        rintro e w4 ⟨rfl, hb⟩
        rw [HZ.out]
        replace hB := ext_trans (ext_trans hB (by (repeat (first | exact Below.refl _ _ | refine ext_alloc ?_ _ | refine Below.setCell ?_ (by simp) _)))) hb
        clear hb p0 p1 p2 p3 hfd
        by_cases h0 : z = 0
        · subst h0
          have HN := Lib.hid (szE_no hlt HZ.out)
          go_wp2
          go_ret
          exact ⟨by rw [HN.out]; rfl, ext_trans HBW.out hB⟩
        · have hz0 : ((z : Int) == 0) = false := by simp; omega
          have HN0 := Lib.hid h0
          clear h0
          go_wp2
          go_roundw
          case rel =>
            exact ⟨k + 1, s + z, by omega, by go_num, by go_num, Lib.hid (by rw [HST.out, ← HS.out, HZ.out]), hzb, Lib.hid (all_succ HG.out (by rw [HZ.out]; exact HN0.out)), hB⟩
          case measure => simp [intOf]; omega
      · obtain rfl : k = r.ps.length := by omega
        have HY := Lib.hid (szE_yes HGH.out HG.out)
        go_wp2
        go_ret
        exact ⟨by rw [HY.out, HS.out, List.take_length]; rfl, ext_trans HBW.out hB⟩
set_option maxRecDepth 100000 in
set_option maxHeartbeats 4000000 in
theorem seQ_zero : SeQ 0 := by
  intro d A r c w hU hs
  have hl := exS.len hU
  obtain ⟨W, hW⟩ : ∃ W, W = w.alloc (.cells #[.int .i64 r.k, .int .i64 r.n, .string r.s, .slice A r.ps.length c] 28) := ⟨_, rfl⟩
  have hBW : Below w.heap.size w W := by rw [hW]; (repeat (first | exact Below.refl _ _ | refine ext_alloc ?_ _ | refine Below.setCell ?_ (by simp) _))
  have b0 : W.cell? ⟨w.heap.size, 0, none⟩ = some (.int .i64 r.k) := by rw [hW]; exact box_cell w _ _ 0 _ rfl
  have HW := Lib.hid hW
  clear hW
  go_enter Try.func87, Try.ntmps87
  go_wp2_with fail
  rw [← HW.out]
  refine (partsOf_any _ _).mono ?_
  rintro e w1 ⟨rfl, hB⟩
  go_wp2
  refine wp_region_quiet_below (by kernel_rfl) (by kernel_rfl) ?_
  repeat (go_big_quiet_step (fail))
  refine wpQuiet_nil ?_
  intro w2 hw'regrown
  replace hB := ext_trans hB (below_of_regrown hw'regrown (Nat.le_refl _))
  clear hw'regrown
  go_wp2
  go_ret
  exact ⟨rfl, ext_trans hBW hB⟩
theorem seQ_all : ∀ m, m ≤ 7 → SeQ m
  | 0, _ => seQ_zero
  | m + 1, h => seQ_succ (by omega) (seQ_all m (by omega))
end Go.Proofs.Ytodjokdaofefdaa
/- Expressions: validity, by the program. -/
namespace Go.Proofs.Ytodjokdaofefdaa
set_option linter.unusedSimpArgs false
set_option linter.unusedVariables false
open Go.RowKit

def exOk (t : Ex) : Bool := inB (szE 7 t : Int) 1 40
theorem implExprValid {d : Nat} {A : Option Addr} {r : Ex} {c : Nat} {w : World} (hU : exW d w A r.ps) (hs : r.s.size ≤ 9223372036854775807) :
    Calls Try.prog 29 #[.agg #[.int .i64 r.k, .int .i64 r.n, .string r.s, .slice A r.ps.length c]] w fun e w' => e = .returned (.bool (exOk r)) ∧ Below w.heap.size w w' := by
  go_enter Try.func29, Try.ntmps29
  go_wp2_with fail
  refine (seQ_all 7 (by omega) _ _ _ _ _ (hU.below (by (repeat (first | exact Below.refl _ _ | refine ext_alloc ?_ _ | refine Below.setCell ?_ (by simp) _)))) hs).mono ?_
  rintro e w1 ⟨rfl, hB⟩
  replace hB := ext_trans (show Below w.heap.size w _ by (repeat (first | exact Below.refl _ _ | refine ext_alloc ?_ _ | refine Below.setCell ?_ (by simp) _))) hB
  go_wp2_with fail
  refine (in_any _ _ _ _).mono ?_
  rintro e w2 ⟨rfl, hb⟩
  replace hB := ext_trans hB hb
  go_wp2
  go_ret
  exact ⟨rfl, hB⟩
end Go.Proofs.Ytodjokdaofefdaa
/- Expressions: both say the same of validity: plain. -/
namespace Go.Proofs.Ytodjokdaofefdaa
set_option linter.unusedSimpArgs false
set_option linter.unusedVariables false
open Go.RowKit

/-- At most d deep. -/
def inD : Nat → Ex → Prop
  | 0, _ => False
  | d + 1, t => ∀ p ∈ t.ps, inD d p
def gdR : Nat → Ex → Bool
  | 0, _ => false
  | d + 1, t => headB t && t.ps.all (gdR d)
theorem exR_in {lo hi : Nat} {w : World} : ∀ {d : Nat} {t : Ex} {cs : List Value}, exR d lo hi w t cs → inD d t
  | 0, _, _, h => h.elim
  | d + 1, t, cs, ⟨A, c, _, h, _⟩ => fun p hp => by
    obtain ⟨k, hk, rfl⟩ := List.getElem_of_mem hp
    obtain ⟨_, _, _, hc⟩ := h.2 (by omega)
    obtain ⟨_, _, h2, _⟩ := hc k hk
    exact exR_in h2
theorem mx_le {l : List Nat} {m : Nat} : mxL l ≤ m ↔ ∀ a ∈ l, a ≤ m := by
  induction l with
  | nil => simp [mxL]
  | cons b l ih => rw [mxL, Nat.max_le, ih]; simp
theorem szE_iff : ∀ (m d : Nat) (t : Ex), inD d t → ((szE m t ≠ 0 ↔ gdR d t = true ∧ dpR d t ≤ m) ∧ (szE m t ≠ 0 → szE m t = 1 + cntR d t))
  | _, 0, _, h => h.elim
  | 0, d + 1, t, _ => by simp [szE, dpR]
  | m + 1, d + 1, t, h => by
    have ih := fun p hp => szE_iff m d p (h p hp)
    have hall : (t.ps.all (fun p => decide (szE m p ≠ 0)) = true) ↔ (t.ps.all (gdR d) = true ∧ mxL (t.ps.map (dpR d)) ≤ m) := by
      rw [mx_le, List.all_eq_true, List.all_eq_true]
      simp only [decide_eq_true_eq, List.mem_map, forall_exists_index, and_imp, forall_apply_eq_imp_iff₂]
      constructor
      · exact fun h => ⟨fun p hp => ((ih p hp).1.1 (h p hp)).1, fun p hp => ((ih p hp).1.1 (h p hp)).2⟩
      · exact fun h p hp => (ih p hp).1.2 ⟨h.1 p hp, h.2 p hp⟩
    have hsum : (t.ps.all (fun p => decide (szE m p ≠ 0)) = true) → (t.ps.map (szE m)).sum = t.ps.length + (t.ps.map (cntR d)).sum := by
      intro ha
      have ha2 : ∀ p ∈ t.ps, szE m p = 1 + cntR d p := fun p hp => (ih p hp).2 (by simpa using List.all_eq_true.1 ha p hp)
      generalize t.ps = l at ha2
      induction l with
      | nil => simp
      | cons a l ihl =>
        have h1 := ha2 a (by simp)
        have h2 := ihl (fun p hp => ha2 p (by simp [hp]))
        simp only [List.map_cons, List.sum_cons, List.length_cons]
        omega
    rw [szE, gdR, dpR, cntR]
    by_cases hc : (headB t && t.ps.all (fun p => decide (szE m p ≠ 0))) = true
    · rw [if_pos hc]
      have hc2 := Bool.and_eq_true_iff.1 hc
      have h1 := hall.1 hc2.2
      have h2 := hsum hc2.2
      refine ⟨⟨fun _ => ⟨by rw [hc2.1, h1.1]; rfl, by omega⟩, fun _ => by omega⟩, fun _ => by omega⟩
    · rw [if_neg hc]
      refine ⟨⟨fun h => absurd rfl h, fun h => absurd (Bool.and_eq_true_iff.2 ⟨(Bool.and_eq_true_iff.1 h.1).1, hall.2 ⟨(Bool.and_eq_true_iff.1 h.1).2, by omega⟩⟩) hc⟩, fun h => absurd rfl h⟩
theorem exOk_eq {d : Nat} {t : Ex} (h : inD d t) : exOk t = (gdR d t && (decide (1 + cntR d t ≤ 40) && decide (dpR d t ≤ 7))) := by
  obtain ⟨h1, h2⟩ := szE_iff 7 d t h
  rw [Bool.eq_iff_iff]
  simp only [exOk, inB_true, Bool.and_eq_true, decide_eq_true_eq]
  constructor
  · rintro ⟨g1, g2⟩
    have hne : szE 7 t ≠ 0 := by omega
    have := h2 hne
    have h3 := h1.1 hne
    exact ⟨h3.1, by omega, h3.2⟩
  · rintro ⟨g1, g2, g3⟩
    have hne := h1.2 ⟨g1, g3⟩
    have := h2 hne
    omega
end Go.Proofs.Ytodjokdaofefdaa
/- Guards: what both compute, and that they agree at valid expressions: plain. -/
namespace Go.Proofs.Ytodjokdaofefdaa
set_option linter.unusedSimpArgs false
set_option linter.unusedVariables false
open Go.RowKit

noncomputable def hasB (l : ExL) (e : Ex) : Bool := l.any (fun x => sameX x e)
def asHas (t : Ex) : Ex := .nd 9 t.n t.s t.ps
def asHas0 (t : Ex) : Ex := .nd 9 0 t.s t.ps
/-- What is known if an expression holds, behind what is known before. -/
def knS : Nat → Ex → ExL → ExL
  | 0, _, l => l
  | d + 1, t, l => if t.k = 9 then l ++ [t] else if t.k = 14 then knS d (exAt t.ps 1) (knS d (exAt t.ps 0) l) else l
/-- By the reference. -/
noncomputable def guS : Nat → Ex → ExL → Bool
  | 0, _, _ => true
  | d + 1, t, l => if t.k = 7 then false else if t.k = 8 then hasB l (asHas0 t) && guS d (exAt t.ps 0) l
      else if t.k = 14 then guS d (exAt t.ps 0) l && guS d (exAt t.ps 1) (knS d (exAt t.ps 0) l) else t.ps.all (fun p => guS d p l)
/-- What is joined by ExprAnd. -/
def cjI : Nat → Ex → ExL
  | 0, _ => []
  | d + 1, t => if t.k = 14 then cjI d (exAt t.ps 0) ++ cjI d (exAt t.ps 1) else [t]
/-- By the program. -/
noncomputable def guI : Nat → Ex → ExL → Bool
  | 0, _, _ => true
  | d + 1, t, l => if t.k = 7 then false else if t.k = 8 ∧ hasB l (asHas t) = false then false
      else if t.k = 14 then guI d (exAt t.ps 0) l && guI d (exAt t.ps 1) (l ++ cjI d (exAt t.ps 0)) else t.ps.all (fun p => guI d p l)
theorem knS_eq : ∀ (d : Nat) (t : Ex) (l : ExL), knS d t l = l ++ (cjI d t).filter (fun x => decide (x.k = 9))
  | 0, t, l => by simp [knS, cjI]
  | d + 1, t, l => by
    rw [knS, cjI]
    by_cases h9 : t.k = 9
    · have h14 : ¬ t.k = 14 := by omega
      rw [if_pos h9, if_neg h14]; simp [h9]
    · rw [if_neg h9]
      by_cases h14 : t.k = 14
      · rw [if_pos h14, if_pos h14, knS_eq d, knS_eq d, List.filter_append, List.append_assoc]
      · rw [if_neg h14, if_neg h14]; simp [h9]
theorem hasB_append (l l' : ExL) (e : Ex) : hasB (l ++ l') e = (hasB l e || hasB l' e) := by simp [hasB, List.any_append]
theorem hasB_filter (l : ExL) {e : Ex} (h : e.k = 9) : hasB (l.filter (fun x => decide (x.k = 9))) e = hasB l e := by
  rw [Bool.eq_iff_iff]
  simp only [hasB, List.any_eq_true, List.mem_filter, decide_eq_true_eq, sameX_true]
  constructor
  · rintro ⟨x, ⟨hx, _⟩, rfl⟩; exact ⟨x, hx, rfl⟩
  · rintro ⟨x, hx, rfl⟩; exact ⟨x, ⟨hx, h⟩, rfl⟩
/-- Both lists have the same questions. -/
def Alk (l l' : ExL) : Prop := ∀ e : Ex, e.k = 9 → hasB l e = hasB l' e
theorem Alk.step {l l' : ExL} (h : Alk l l') (d : Nat) (t : Ex) : Alk (knS d t l) (l' ++ cjI d t) := fun e he => by
  rw [knS_eq, hasB_append, hasB_append, h e he, hasB_filter _ he]
theorem head_len {t : Ex} (h : headB t = true) : t.ps.length = arK t.k := by
  simp only [headB, Bool.and_eq_true, decide_eq_true_eq] at h
  exact h.2.2.1
theorem head_num {t : Ex} (h : headB t = true) : inB t.n 0 (mostK t.k) = true := by
  simp only [headB, Bool.and_eq_true, decide_eq_true_eq] at h
  exact h.2.1
theorem head_8 {t : Ex} (h : headB t = true) (h8 : t.k = 8) : t.n = 0 ∧ t.ps.length = 1 := by
  have h1 := head_len h
  have h2 := head_num h
  rw [h8] at h1 h2
  rw [inB_true] at h2
  have e1 : mostK 8 = 0 := by decide
  have e2 : arK 8 = 1 := by decide
  rw [e1] at h2
  rw [e2] at h1
  exact ⟨by omega, h1⟩
theorem head_14 {t : Ex} (h : headB t = true) (h14 : t.k = 14) : t.ps.length = 2 := by
  have h1 := head_len h
  rw [h14] at h1
  exact h1.trans (by decide)
theorem gd_head {d : Nat} {t : Ex} (h : gdR (d + 1) t = true) : headB t = true := (Bool.and_eq_true_iff.1 h).1
theorem gd_part {d : Nat} {t : Ex} (h : gdR (d + 1) t = true) {k : Nat} (hk : k < t.ps.length) : gdR d (exAt t.ps k) = true := by
  rw [exAt_eq hk]
  exact List.all_eq_true.1 (Bool.and_eq_true_iff.1 h).2 _ (List.getElem_mem hk)
theorem all_at {l : ExL} {p : Ex → Bool} : l.all p = true ↔ ∀ k, k < l.length → p (exAt l k) = true := by
  rw [List.all_eq_true]
  constructor
  · intro h k hk; rw [exAt_eq hk]; exact h _ (List.getElem_mem hk)
  · intro h x hx
    obtain ⟨k, hk, rfl⟩ := List.getElem_of_mem hx
    have := h k hk
    rwa [exAt_eq hk] at this
theorem all_1 {l : ExL} {p : Ex → Bool} (h : l.length = 1) : l.all p = p (exAt l 0) := by
  match l, h with
  | [x], _ => simp [exAt]
theorem gu_eq : ∀ (d : Nat) (t : Ex) (l l' : ExL), gdR d t = true → Alk l l' → guS d t l = guI d t l'
  | 0, _, _, _, _, _ => rfl
  | d + 1, t, l, l', hg, ha => by
    rw [guS, guI]
    by_cases h7 : t.k = 7
    · rw [if_pos h7, if_pos h7]
    rw [if_neg h7, if_neg h7]
    by_cases h8 : t.k = 8
    · obtain ⟨hn, hl⟩ := head_8 (gd_head hg) h8
      have e : asHas0 t = asHas t := by unfold asHas0 asHas; rw [hn]
      have h14 : ¬ t.k = 14 := by omega
      rw [if_pos h8, e, ha _ (by rfl), if_neg h14, gu_eq d _ l l' (gd_part hg (by omega)) ha, all_1 hl]
      cases hb : hasB l' (asHas t)
      · rw [if_pos ⟨h8, rfl⟩]; rfl
      · rw [if_neg (by simp)]; rfl
    · rw [if_neg h8, if_neg (show ¬ (t.k = 8 ∧ hasB l' (asHas t) = false) from fun h => h8 h.1)]
      by_cases h14 : t.k = 14
      · have hl := head_14 (gd_head hg) h14
        rw [if_pos h14, if_pos h14, gu_eq d _ l l' (gd_part hg (by omega)) ha, gu_eq d _ _ _ (gd_part hg (by omega)) (ha.step d _)]
      · rw [if_neg h14, if_neg h14, Bool.eq_iff_iff, all_at, all_at]
        constructor
        · intro h k hk; rw [← gu_eq d _ l l' (gd_part hg hk) ha]; exact h k hk
        · intro h k hk; rw [gu_eq d _ l l' (gd_part hg hk) ha]; exact h k hk
theorem cnt_at {d : Nat} {l : ExL} : ∀ {k : Nat}, k < l.length → cntR d (exAt l k) ≤ (l.map (cntR d)).sum := by
  induction l with
  | nil => intro k hk; simp at hk
  | cons a l ih =>
    intro k hk
    simp only [List.map_cons, List.sum_cons]
    cases k with
    | zero => simp [exAt]
    | succ k =>
      have := ih (k := k) (by simpa using hk)
      have e : exAt (a :: l) (k + 1) = exAt l k := by simp [exAt]
      rw [e]; omega
theorem cnt_two {d : Nat} {t : Ex} (h : t.ps.length = 2) : cntR (d + 1) t = 2 + cntR d (exAt t.ps 0) + cntR d (exAt t.ps 1) := by
  rw [cntR]
  match t.ps, h with
  | [x, y], _ => simp [exAt]; omega
theorem cj_len : ∀ (d : Nat) (t : Ex), gdR d t = true → (cjI d t).length ≤ 1 + cntR d t
  | 0, t, _ => by simp [cjI]
  | d + 1, t, hg => by
    rw [cjI]
    by_cases h14 : t.k = 14
    · have hl := head_14 (gd_head hg) h14
      have h0 := cj_len d _ (gd_part hg (k := 0) (by omega))
      have h1 := cj_len d _ (gd_part hg (k := 1) (by omega))
      rw [if_pos h14, List.length_append, cnt_two hl]
      omega
    · rw [if_neg h14]; simp
theorem kn_len (d : Nat) (t : Ex) (l : ExL) (hg : gdR d t = true) : (knS d t l).length ≤ l.length + 1 + cntR d t := by
  have h1 := cj_len d t hg
  have h2 : ((cjI d t).filter (fun x => decide (x.k = 9))).length ≤ (cjI d t).length := List.length_filter_le _ _
  rw [knS_eq, List.length_append]
  omega
end Go.Proofs.Ytodjokdaofefdaa
/- Guards that are added: what both compute, and that they agree at valid expressions: plain. -/
namespace Go.Proofs.Ytodjokdaofefdaa
set_option linter.unusedSimpArgs false
set_option linter.unusedVariables false
open Go.RowKit

def asB : Nat → Ex → Bool
  | 0, _ => false
  | d + 1, t => t.ps.any (asB d) || decide (t.k = 7)
noncomputable def addS (t : Ex) (l : ExL) : ExL := if t.k = 8 ∧ hasB l (asHas0 t) = false then l ++ [asHas0 t] else l
noncomputable def addI (t : Ex) (l : ExL) : ExL := if t.k = 8 ∧ hasB l (asHas t) = false then l ++ [asHas t] else l
/-- What must be there, by the reference. -/
noncomputable def fiS : Nat → Ex → ExL → ExL
  | 0, _, l => l
  | d + 1, t, l => addS t (t.ps.foldl (fun l p => fiS d p l) l)
/-- All expressions in one, parts before the whole. -/
def poL : Nat → Ex → ExL
  | 0, _ => []
  | d + 1, t => t.ps.flatMap (poL d) ++ [t]
noncomputable def fiF (d : Nat) (ps : ExL) (l : ExL) (k : Nat) : ExL := (ps.take k).foldl (fun l p => fiS d p l) l
theorem fiF_succ {d : Nat} {ps l : ExL} {k : Nat} (hk : k < ps.length) : fiF d ps l (k + 1) = fiS d (exAt ps k) (fiF d ps l k) := by
  rw [fiF, List.take_succ_eq_append_getElem hk, List.foldl_append, exAt_eq hk]; rfl
theorem fiF_all (d : Nat) (ps l : ExL) : fiF d ps l ps.length = ps.foldl (fun l p => fiS d p l) l := by rw [fiF, List.take_length]
theorem addS_len (t : Ex) (l : ExL) : (addS t l).length ≤ l.length + 1 := by
  unfold addS
  split <;> simp
theorem fi_len : ∀ (d : Nat) (t : Ex) (l : ExL), (fiS d t l).length ≤ l.length + 1 + cntR d t
  | 0, t, l => by simp [fiS]; omega
  | d + 1, t, l => by
    have h1 : ∀ k, k ≤ t.ps.length → (fiF d t.ps l k).length ≤ l.length + k + ((t.ps.take k).map (cntR d)).sum := by
      intro k
      induction k with
      | zero => intro _; simp [fiF]
      | succ k ih =>
        intro hk
        rw [fiF_succ hk, cnt_take hk]
        have := fi_len d (exAt t.ps k) (fiF d t.ps l k)
        have := ih (by omega)
        omega
    have h2 := h1 t.ps.length (Nat.le_refl _)
    rw [List.take_length, fiF_all] at h2
    rw [fiS, cntR]
    have := addS_len t (t.ps.foldl (fun l p => fiS d p l) l)
    omega
theorem fiF_len {d : Nat} {t : Ex} {l : ExL} {k : Nat} (hk : k < t.ps.length) : (fiF d t.ps l k).length + 1 + cntR d (exAt t.ps k) ≤ l.length + 1 + cntR (d + 1) t := by
  have h1 : ∀ k, k ≤ t.ps.length → (fiF d t.ps l k).length ≤ l.length + k + ((t.ps.take k).map (cntR d)).sum := by
    intro k
    induction k with
    | zero => intro _; simp [fiF]
    | succ k ih =>
      intro hk
      rw [fiF_succ hk, cnt_take hk]
      have := fi_len d (exAt t.ps k) (fiF d t.ps l k)
      have := ih (by omega)
      omega
  have h2 := h1 k (by omega)
  have h3 := cnt_take (d := d) hk
  have h4 : ((t.ps.take (k + 1)).map (cntR d)).sum ≤ (t.ps.map (cntR d)).sum := by
    conv => rhs; rw [← List.take_append_drop (k + 1) t.ps, List.map_append, List.sum_append]
    omega
  rw [cntR]
  omega
theorem po_any : ∀ (d : Nat) (t : Ex), (poL d t).any (fun x => decide (x.k = 7)) = asB d t
  | 0, t => rfl
  | d + 1, t => by
    rw [poL, asB, List.any_append, List.any_flatMap]
    have e : (fun a => (poL d a).any fun x => decide (x.k = 7)) = asB d := funext fun a => po_any d a
    rw [e]; simp
theorem add_eq {d : Nat} {t : Ex} {l : ExL} (h : gdR (d + 1) t = true) : addI t l = addS t l := by
  unfold addI addS
  by_cases h8 : t.k = 8
  · have hn := (head_8 (gd_head h) h8).1
    have e : asHas t = asHas0 t := by unfold asHas0 asHas; rw [hn]
    rw [e]
  · rw [if_neg (fun h => h8 h.1), if_neg (fun h => h8 h.1)]
theorem foldl_mem {α β : Type} {f g : β → α → β} {l : List α} (h : ∀ a ∈ l, ∀ b, f b a = g b a) : ∀ b, l.foldl f b = l.foldl g b := by
  induction l with
  | nil => intro b; rfl
  | cons a l ih =>
    intro b
    rw [List.foldl_cons, List.foldl_cons, h a (by simp), ih (fun c hc => h c (by simp [hc]))]
theorem fi_eq : ∀ (d : Nat) (t : Ex) (l : ExL), gdR d t = true → (poL d t).foldl (fun l x => addI x l) l = fiS d t l
  | 0, t, l, h => by cases h
  | d + 1, t, l, h => by
    rw [poL, fiS, List.foldl_append, List.foldl_flatMap]
    have e : t.ps.foldl (fun acc b => (poL d b).foldl (fun l x => addI x l) acc) l = t.ps.foldl (fun l p => fiS d p l) l :=
      foldl_mem (fun p hp b => fi_eq d p b (by
        have := (Bool.and_eq_true_iff.1 h).2
        exact List.all_eq_true.1 this p hp)) l
    rw [e]
    exact add_eq h
/-- All joined by ExprAnd, the first one outermost. -/
def joinE (l : ExL) (t : Ex) : Ex := l.foldr (fun g out => .nd 14 0 ByteArray.empty [g, out]) t
noncomputable def gbL (d : Nat) (r : Ex) : ExL := fiS (d + 1) r []
noncomputable def gbO (d : Nat) (r : Ex) : Ex := joinE (gbL d r) r
noncomputable def gbB (d : Nat) (r : Ex) : Bool := exOk r && (!asB (d + 1) r && exOk (gbO d r))
noncomputable def gbE (d : Nat) (r : Ex) : Ex := if gbB d r = true then gbO d r else exD
theorem cnt_max : ∀ (d : Nat) (t : Ex) (m : Nat), inD d t → cntR m t ≤ cntR d t
  | 0, _, _, h => h.elim
  | d + 1, t, 0, _ => Nat.zero_le _
  | d + 1, t, m + 1, h => by
    rw [cntR, cntR]
    have : ∀ l : ExL, (∀ p ∈ l, inD d p) → (l.map (cntR m)).sum ≤ (l.map (cntR d)).sum := by
      intro l
      induction l with
      | nil => intro _; simp
      | cons a l ih =>
        intro hl
        simp only [List.map_cons, List.sum_cons]
        have := cnt_max d a m (hl a (by simp))
        have := ih (fun p hp => hl p (by simp [hp]))
        omega
    have := this t.ps h
    omega
theorem cnt_mem {m : Nat} {t p : Ex} (hp : p ∈ t.ps) : cntR m p ≤ cntR (m + 1) t := by
  obtain ⟨k, hk, rfl⟩ := List.getElem_of_mem hp
  have := cnt_at (d := m) hk
  rw [exAt_eq hk] at this
  rw [cntR]; omega
theorem fi_mem {C : Nat} : ∀ (d : Nat) (t : Ex) (l : ExL), (∀ m, cntR m t ≤ C) → (∀ x ∈ l, ∀ m, cntR m x ≤ C) → ∀ x ∈ fiS d t l, ∀ m, cntR m x ≤ C
  | 0, t, l, _, hl => hl
  | d + 1, t, l, ht, hl => by
    have h1 : ∀ (q : ExL) (l : ExL), (∀ p ∈ q, ∀ m, cntR m p ≤ C) → (∀ x ∈ l, ∀ m, cntR m x ≤ C) → ∀ x ∈ q.foldl (fun l p => fiS d p l) l, ∀ m, cntR m x ≤ C := by
      intro q
      induction q with
      | nil => intro l _ hl; exact hl
      | cons a q ih =>
        intro l hq hl
        exact ih _ (fun p hp => hq p (by simp [hp])) (fi_mem d a l (hq a (by simp)) hl)
    have h2 := h1 t.ps l (fun p hp m => Nat.le_trans (cnt_mem hp) (ht (m + 1))) hl
    rw [fiS]
    unfold addS
    split
    · intro x hx m
      rcases List.mem_append.1 hx with hx | hx
      · exact h2 x hx m
      · rw [List.mem_singleton.1 hx]
        have e : cntR m (asHas0 t) = cntR m t := by cases m <;> rfl
        rw [e]; exact ht m
    · exact h2
theorem join_cnt {C : Nat} {t : Ex} : ∀ (l : ExL), (∀ x ∈ l, ∀ m, cntR m x ≤ C) → (∀ m, cntR m t ≤ C) → ∀ m, cntR m (joinE l t) ≤ l.length * (C + 2) + C
  | [], _, ht, m => by simpa [joinE] using ht m
  | a :: l, hl, ht, m => by
    cases m with
    | zero => simp [cntR]
    | succ m =>
      have h1 := hl a (by simp) m
      have h2 := join_cnt l (fun x hx => hl x (by simp [hx])) ht m
      have e : cntR (m + 1) (joinE (a :: l) t) = 2 + cntR m a + cntR m (joinE l t) := by
        show cntR (m + 1) (.nd 14 0 ByteArray.empty [a, joinE l t]) = _
        rw [cntR]; simp [Ex.ps]; omega
      rw [e, List.length_cons, Nat.add_mul]
      omega
theorem joinE_cons (a : Ex) (l : ExL) (t : Ex) : joinE (a :: l) t = .nd 14 0 ByteArray.empty [a, joinE l t] := rfl
theorem join_drop {l : ExL} {t : Ex} {j : Nat} (h : j < l.length) : joinE (l.drop j) t = .nd 14 0 ByteArray.empty [exAt l j, joinE (l.drop (j + 1)) t] := by
  rw [List.drop_eq_getElem_cons h, joinE_cons, exAt_eq h]
end Go.Proofs.Ytodjokdaofefdaa
/- Expressions: sameness by the reference. Printed by gen_same.py. -/
namespace Go.Proofs.Ytodjokdaofefdaa
set_option linter.unusedSimpArgs false
set_option linter.unusedVariables false
open Go.RowKit

theorem ex_sameX2 (r r' : Ex) : sameX r r' = true ↔ r = r' := sameX_true
def SmS (d : Nat) : Prop := ∀ (A A' : Option Addr) (r r' : Ex) (c c' : Nat) (w : World), exW d w A r.ps → exW d w A' r'.ps →
  Calls Try.prog 148 #[.agg #[.int .i64 r.k, .int .i64 r.n, .string r.s, .slice A r.ps.length c], .agg #[.int .i64 r'.k, .int .i64 r'.n, .string r'.s, .slice A' r'.ps.length c']] w fun e w' => e = .returned (.bool (sameX r r')) ∧ Below w.heap.size w w'
set_option maxRecDepth 100000 in
set_option maxHeartbeats 4000000 in
theorem smS_of {d : Nat} (hQ : ∀ m, d = m + 1 → SmS m) : SmS d := by
  intro A A' r r' c c' w hU hV
  have hl := exS.len hU
  have hl' := exS.len hV
  have HQ := Lib.hid hQ
  clear hQ
  have HD := Lib.hid (ex_sameX2 r r')
  by_cases h1 : r.k = r'.k
  · have e1 : (r.k != r'.k) = false := by simp [h1]
    have H1 := Lib.hid h1
    clear h1
    by_cases h2 : r.n = r'.n
    · have e2 : (r.n != r'.n) = false := by simp [h2]
      have H2 := Lib.hid h2
      clear h2
      by_cases h3 : r.s = r'.s
      · have e3 : (r.s.toList == r'.s.toList) = true := by simp [h3]
        have H3 := Lib.hid h3
        clear h3
        by_cases h4 : r.ps.length = r'.ps.length
        · have e4 : ((r.ps.length : Int) != r'.ps.length) = false := by simp [h4]
          have H4 := Lib.hid h4
          clear h4
          obtain ⟨W, hW⟩ : ∃ W, W = (w.alloc (.cells #[.int .i64 r.k, .int .i64 r.n, .string r.s, .slice A r.ps.length c] 28)).alloc (.cells #[.int .i64 r'.k, .int .i64 r'.n, .string r'.s, .slice A' r'.ps.length c'] 28) := ⟨_, rfl⟩
          have hBW : Below w.heap.size w W := by rw [hW]; (repeat (first | exact Below.refl _ _ | refine ext_alloc ?_ _ | refine Below.setCell ?_ (by simp) _))
          have b0 : W.cell? ⟨w.heap.size, 3, none⟩ = some (.slice A r.ps.length c) := by rw [hW]; exact below_cell (below_alloc _ _) (box_cell w _ _ 3 _ rfl)
          have b1 : W.cell? ⟨w.heap.size + 1, 3, none⟩ = some (.slice A' r'.ps.length c') := by rw [hW]; exact box_cell_at (by simp) rfl
          have HW := Lib.hid hW
          have HB0 := Lib.hid b0
          have HB1 := Lib.hid b1
          have HBW := Lib.hid hBW
          clear hW b0 b1 hBW
          go_enter Try.func148, Try.ntmps148
          go_wp2
          go_loopw [5] (fun i wr => ∃ k : Nat, k ≤ r.ps.length ∧ i = .int .i64 k ∧ Below W.heap.size W wr ∧ (∀ j, j < k → exAt r.ps j = exAt r'.ps j)) (fun i _ => r.ps.length - (intOf i).toNat)
          case atStart => exact ⟨0, Nat.zero_le _, rfl, by rw [HW.out]; exact Below.refl _ _, fun j h => by omega⟩
          case round =>
            obtain ⟨k, hk, rfl, hB, hgood⟩ := hrel
            have HG := Lib.hid hgood
            clear hgood
            have b0 := below_cell hB HB0.out
            have b1 := below_cell hB HB1.out
            by_cases hlt : k < r.ps.length
            · have hlt' : k < r'.ps.length := by rw [← H4.out]; exact hlt
              have hd : ∃ m, d = m + 1 := by
                cases d with
                | zero => have := exS.zero hU; rw [this] at hlt; simp at hlt
                | succ m => exact ⟨m, rfl⟩
              obtain ⟨m, hm⟩ := hd
              subst hm
              have HQ1 := Lib.hid (HQ.out m rfl)
              obtain ⟨b, off, rfl, hc⟩ := (hU.below HBW.out).cells (by omega)
              obtain ⟨b', off', rfl, hc'⟩ := (hV.below HBW.out).cells (by omega)
              obtain ⟨A1, c1, hfd, _, p0, p1, p2, p3⟩ := hc k hlt
              obtain ⟨A2, c2, hfd2, _, q0, q1, q2, q3⟩ := hc' k hlt'
              replace p0 := below_cell hB p0
              replace p1 := below_cell hB p1
              replace p2 := below_cell hB p2
              replace p3 := below_cell hB p3
              replace q0 := below_cell hB q0
              replace q1 := below_cell hB q1
              replace q2 := below_cell hB q2
              replace q3 := below_cell hB q3
              replace hfd := hfd.below hB
              replace hfd2 := hfd2.below hB
              clear hc hc'
              have a0 := cell_regrown b0
              have a1 := cell_regrown b1
              replace p0 := cell_regrown p0
              replace p1 := cell_regrown p1
              replace p2 := cell_regrown p2
              replace p3 := cell_regrown p3
              replace q0 := cell_regrown q0
              replace q1 := cell_regrown q1
              replace q2 := cell_regrown q2
              replace q3 := cell_regrown q3
              have HE := Lib.hid (fun (n : Nat) (os : Array Obj) => HQ1.out _ _ _ _ c1 c2 _ (hfd.regrown n os) (hfd2.regrown n os))
              cases g : sameX (exAt r.ps k) (exAt r'.ps k)
              all_goals
                rw [g] at HE
                go_wp2
                refine wp_region_quiet_below (by kernel_rfl) (by kernel_rfl) ?_
                repeat (go_big_quiet_step ((go_at_call 148; (with_reducible exact Calls.regrown_of (HE.out _ _)))))
                refine wpQuiet_nil ?_
                intro w2 hw'regrown
                replace hB := ext_trans hB (below_of_regrown hw'regrown (Nat.le_refl _))
                clear hw'regrown p0 q0 p1 q1 p2 q2 p3 q3 b0 b1 a0 a1
                go_wp2
              · go_ret
                exact ⟨ret_bool (by rw [eq_comm, sameX_false]; intro h; rw [h, sameX_self] at g; cases g), HBW.out.trans (hB.mono HBW.out.size)⟩
              · go_roundw
                case rel => exact ⟨k + 1, by omega, by go_num, hB, all_succ HG.out (sameX_true.1 g)⟩
                case measure => simp [intOf]; omega
            · obtain rfl : k = r.ps.length := by omega
              go_wp2
              go_ret
              exact ⟨ret_bool (by rw [eq_comm, sameX_true]; exact Ex.ext H1.out H2.out H3.out (by have := ex_same H4.out HG.out; exact sameX_true.1 this.symm)), HBW.out.trans (hB.mono HBW.out.size)⟩
        · have e4 : ((r.ps.length : Int) != r'.ps.length) = true := by simp; omega
          have H4 := Lib.hid h4
          clear h4
          go_enter Try.func148, Try.ntmps148
          go_wp2
          go_ret
          exact ⟨ret_bool (by rw [eq_comm, sameX_false]; intro h; exact H4.out (by rw [h])), by (repeat (first | exact Below.refl _ _ | refine ext_alloc ?_ _ | refine Below.setCell ?_ (by simp) _))⟩
      · have e3 : (r.s.toList == r'.s.toList) = false := by rw [str_beq]; simp [h3]
        have H3 := Lib.hid h3
        clear h3
        go_enter Try.func148, Try.ntmps148
        go_wp2
        go_ret
        exact ⟨ret_bool (by rw [eq_comm, sameX_false]; intro h; exact H3.out (by rw [h])), by (repeat (first | exact Below.refl _ _ | refine ext_alloc ?_ _ | refine Below.setCell ?_ (by simp) _))⟩
    · have e2 : (r.n != r'.n) = true := by simp [h2]
      have H2 := Lib.hid h2
      clear h2
      go_enter Try.func148, Try.ntmps148
      go_wp2
      go_ret
      exact ⟨ret_bool (by rw [eq_comm, sameX_false]; intro h; exact H2.out (by rw [h])), by (repeat (first | exact Below.refl _ _ | refine ext_alloc ?_ _ | refine Below.setCell ?_ (by simp) _))⟩
  · have e1 : (r.k != r'.k) = true := by simp [h1]
    have H1 := Lib.hid h1
    clear h1
    go_enter Try.func148, Try.ntmps148
    go_wp2
    go_ret
    exact ⟨ret_bool (by rw [eq_comm, sameX_false]; intro h; exact H1.out (by rw [h])), by (repeat (first | exact Below.refl _ _ | refine ext_alloc ?_ _ | refine Below.setCell ?_ (by simp) _))⟩
theorem smS_all : ∀ d, SmS d
  | 0 => smS_of (fun m h => by cases h)
  | d + 1 => smS_of (fun m h => by cases h; exact smS_all d)
end Go.Proofs.Ytodjokdaofefdaa
/- Guards, by the reference: what is in a list, what is known. -/
namespace Go.Proofs.Ytodjokdaofefdaa
set_option linter.unusedSimpArgs false
set_option linter.unusedVariables false
open Go.RowKit

theorem hasB_yes {l : ExL} {e : Ex} {k : Nat} (hk : k < l.length) (h : sameX (exAt l k) e = true) : hasB l e = true := by
  rw [hasB, List.any_eq_true]
  exact ⟨l[k], List.getElem_mem hk, by rw [← exAt_eq hk]; exact h⟩
theorem hasB_no {l : ExL} {e : Ex} (h : ∀ k, k < l.length → sameX (exAt l k) e = false) : hasB l e = false := by
  rw [hasB, List.any_eq_false]
  intro x hx
  obtain ⟨k, hk, rfl⟩ := List.getElem_of_mem hx
  have := h k hk
  rw [exAt_eq hk] at this
  rw [this]; simp
set_option maxRecDepth 100000 in
set_option maxHeartbeats 4000000 in
theorem specHas_any {D : Nat} {A A' : Option Addr} {l : ExL} {r : Ex} {c c' : Nat} {w : World} (hU : exW (D + 1) w A l) (hV : exW D w A' r.ps) :
    Calls Try.prog 120 #[.slice A l.length c, .agg #[.int .i64 r.k, .int .i64 r.n, .string r.s, .slice A' r.ps.length c']] w fun e w' => e = .returned (.bool (hasB l r)) ∧ Below w.heap.size w w' := by
  have hlen := exS.len hU
  obtain ⟨W, hW⟩ : ∃ W, W = w.alloc (.cells #[.int .i64 r.k, .int .i64 r.n, .string r.s, .slice A' r.ps.length c'] 28) := ⟨_, rfl⟩
  have hBW : Below w.heap.size w W := by rw [hW]; (repeat (first | exact Below.refl _ _ | refine ext_alloc ?_ _ | refine Below.setCell ?_ (by simp) _))
  have b0 : W.cell? ⟨w.heap.size, 0, none⟩ = some (.int .i64 r.k) := by rw [hW]; exact box_cell w _ _ 0 _ rfl
  have b1 : W.cell? ⟨w.heap.size, 1, none⟩ = some (.int .i64 r.n) := by rw [hW]; exact box_cell w _ _ 1 _ rfl
  have b2 : W.cell? ⟨w.heap.size, 2, none⟩ = some (.string r.s) := by rw [hW]; exact box_cell w _ _ 2 _ rfl
  have b3 : W.cell? ⟨w.heap.size, 3, none⟩ = some (.slice A' r.ps.length c') := by rw [hW]; exact box_cell w _ _ 3 _ rfl
  have hVW := hV.below hBW
  have HW := Lib.hid hW
  have HBW := Lib.hid hBW
  have HB0 := Lib.hid b0
  have HB1 := Lib.hid b1
  have HB2 := Lib.hid b2
  have HB3 := Lib.hid b3
  clear hW hBW b0 b1 b2 b3
  go_enter Try.func120, Try.ntmps120
  go_wp2
  go_loopw [5] (fun i wr => ∃ k : Nat, k ≤ l.length ∧ i = .int .i64 k ∧ Below W.heap.size W wr ∧ Hid (∀ j, j < k → sameX (exAt l j) r = false)) (fun i _ => l.length - (intOf i).toNat)
  case atStart => exact ⟨0, Nat.zero_le _, rfl, by rw [HW.out]; exact Below.refl _ _, Lib.hid (fun j h => by omega)⟩
  case round =>
    obtain ⟨k, hk, rfl, hB, HG⟩ := hrel
    by_cases hlt : k < l.length
    · obtain ⟨b, off, rfl, hc⟩ := (hU.below HBW.out).cells (by omega)
      obtain ⟨A1, c1, hfd, _, p0, p1, p2, p3⟩ := hc k hlt
      replace p0 := cell_regrown (below_cell hB p0)
      replace p1 := cell_regrown (below_cell hB p1)
      replace p2 := cell_regrown (below_cell hB p2)
      replace p3 := cell_regrown (below_cell hB p3)
      have b0 := cell_regrown (below_cell hB HB0.out)
      have b1 := cell_regrown (below_cell hB HB1.out)
      have b2 := cell_regrown (below_cell hB HB2.out)
      have b3 := cell_regrown (below_cell hB HB3.out)
      replace hfd := hfd.below hB
      have hfd2 := hVW.below hB
      clear hc
      have HE := Lib.hid (fun (n : Nat) (os : Array Obj) => smS_all D _ _ _ _ c1 c' _ (hfd.regrown n os) (hfd2.regrown n os))
      clear hfd hfd2
      obtain ⟨y, hy⟩ : ∃ y, sameX (exAt l k) r = y := ⟨_, rfl⟩
      rw [hy] at HE
      have HY := Lib.hid hy
      clear hy
      cases y
      all_goals
        go_wp2
        refine wp_region_quiet_below (by kernel_rfl) (by kernel_rfl) ?_
        repeat (go_big_quiet_step ((go_at_call 148; (with_reducible exact Calls.regrown_of (HE.out _ _)))))
        refine wpQuiet_nil ?_
        intro w2 hw'regrown
        replace hB := ext_trans hB (below_of_regrown hw'regrown (Nat.le_refl _))
        clear hw'regrown p0 p1 p2 p3 b0 b1 b2 b3
        go_wp2
      · go_roundw
        case rel => exact ⟨k + 1, by omega, by go_num, hB, Lib.hid (all_succ HG.out HY.out)⟩
        case measure => simp [intOf]; omega
      · go_ret
        exact ⟨by rw [hasB_yes hlt HY.out]; rfl, ext_trans HBW.out hB⟩
    · obtain rfl : k = l.length := by omega
      go_wp2
      go_ret
      exact ⟨by rw [hasB_no HG.out]; rfl, ext_trans HBW.out hB⟩
end Go.Proofs.Ytodjokdaofefdaa

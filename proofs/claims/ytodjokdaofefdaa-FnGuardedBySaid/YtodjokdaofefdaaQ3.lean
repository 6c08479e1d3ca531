/- Expressions: sizes of valid ones: the program's walk. -/
import Derived.Test.YtodjokdaofefdaaQ2
namespace Go.Proofs.Ytodjokdaofefdaa
set_option linter.unusedSimpArgs false
set_option linter.unusedVariables false
open Go.RowKit

def SeQ (m : Nat) : Prop := ∀ (d : Nat) (A : Option Addr) (r : Ex) (c : Nat) (w : World), exW d w A r.ps → r.s.size ≤ 9223372036854775807 →
  Calls Try.prog 87 #[.agg #[.int .i64 r.k, .int .i64 r.n, .string r.s, .slice A r.ps.length c], .int .i64 (m : Int)] w fun e w' => e = .returned (.int .i64 (szE m r)) ∧ Below w.heap.size w w'
theorem str_isEmpty (s : ByteArray) : s.toList.isEmpty = decide (s = ByteArray.empty) := by
  have h0 : ByteArray.empty.toList = [] := by first | (unfold ByteArray.toList ByteArray.toList.loop; simp; done) | (simp [ByteArray.toList, ByteArray.toList.loop]; done) | kernel_rfl | decide +kernel
  rw [Bool.eq_iff_iff, List.isEmpty_iff, decide_eq_true_eq, ← h0]
  exact str_eq
theorem szE_no {m k : Nat} {r : Ex} (hk : k < r.ps.length) (h : szE m (exAt r.ps k) = 0) : szE (m + 1) r = 0 := by
  rw [szE, if_neg]
  intro h2
  have h3 := List.all_eq_true.1 (Bool.and_eq_true_iff.1 h2).2 _ (List.getElem_mem hk)
  rw [← exAt_eq hk, h] at h3
  simp at h3
theorem szE_yes {m : Nat} {r : Ex} (g : headB r = true) (h : ∀ j, j < r.ps.length → szE m (exAt r.ps j) ≠ 0) : szE (m + 1) r = 1 + (r.ps.map (szE m)).sum := by
  rw [szE, if_pos]
  rw [g, Bool.true_and, List.all_eq_true]
  intro p hp
  obtain ⟨j, hj, rfl⟩ := List.getElem_of_mem hp
  have := h j hj
  rw [exAt_eq hj] at this
  simpa using this
theorem szE_sum {m : Nat} (hm : m < 7) (l : ExL) : (l.map (szE m)).sum ≤ l.length * 127 := by
  have h2 : (2 : Nat) ^ m ≤ 2 ^ 7 := Nat.pow_le_pow_right (by omega) (by omega)
  induction l with
  | nil => simp
  | cons a l ihl =>
    have := szE_lt m a
    simp only [List.map_cons, List.sum_cons, List.length_cons, Nat.succ_mul]
    omega
theorem sum_take {m : Nat} {l : ExL} {k : Nat} (hk : k < l.length) : ((l.take (k + 1)).map (szE m)).sum = ((l.take k).map (szE m)).sum + szE m (exAt l k) := by
  rw [List.take_succ_eq_append_getElem hk, List.map_append, List.sum_append, exAt_eq hk]; simp
theorem implNameValid_v {s : ByteArray} {b : Bool} (hb : nmOk s = b) (hs : s.size ≤ 9223372036854775807) (w : World) :
    Calls Try.prog 70 #[.string s] w fun e w' => e = .returned (.bool b) ∧ Below w.heap.size w w' := hb ▸ implNameValid s hs w
set_option maxRecDepth 100000 in
set_option maxHeartbeats 4000000 in
theorem seQ_succ {m : Nat} (hm : m < 7) (hQ : SeQ m) : SeQ (m + 1) := by
  intro d A r c w hU hs
  have hl := exS.len hU
  have HQ := Lib.hid hQ
  clear hQ
  obtain ⟨W, hW⟩ : ∃ W, W = w.alloc (.cells #[.int .i64 r.k, .int .i64 r.n, .string r.s, .slice A r.ps.length c] 28) := ⟨_, rfl⟩
  have hBW : Below w.heap.size w W := by rw [hW]; (repeat (first | exact Below.refl _ _ | refine ext_alloc ?_ _ | refine Below.setCell ?_ (by simp) _))
  have b0 : W.cell? ⟨w.heap.size, 0, none⟩ = some (.int .i64 r.k) := by rw [hW]; exact box_cell w _ _ 0 _ rfl
  have b1 : W.cell? ⟨w.heap.size, 1, none⟩ = some (.int .i64 r.n) := by rw [hW]; exact box_cell w _ _ 1 _ rfl
  have b2 : W.cell? ⟨w.heap.size, 2, none⟩ = some (.string r.s) := by rw [hW]; exact box_cell w _ _ 2 _ rfl
  have b3 : W.cell? ⟨w.heap.size, 3, none⟩ = some (.slice A r.ps.length c) := by rw [hW]; exact box_cell w _ _ 3 _ rfl
  have HW := Lib.hid hW
  have HBW := Lib.hid hBW
  clear hW hBW
  have hm0 : (((m + 1 : Nat) : Int) == 0) = false := by simp; omega
  have hm1 : (((m : Int) + 1) == 0) = false := by simp; omega
  rcases headCases r with ⟨g1, g0⟩ | ⟨g1, g2, g0⟩ | ⟨g1, g2, g3, g0⟩ | ⟨g1, g2, g3, g4, g0⟩ | ⟨g1, g2, g3, g4, g5, g0⟩ | ⟨g1, g2, g3, g4, g5, g0⟩ | ⟨g1, g2, g3, g4, g0⟩
  · have HZ : Hid (szE (m + 1) r = 0) := Lib.hid (by rw [szE, g0]; simp)
    clear g0
    go_enter Try.func87, Try.ntmps87
    go_wp2_with fail
    rw [← HW.out]
    refine (partsOf_any _ _).mono ?_
    rintro e w1 ⟨rfl, hB⟩
    have a0 := cell_regrown (below_cell hB b0)
    have a1 := cell_regrown (below_cell hB b1)
    have a2 := cell_regrown (below_cell hB b2)
    have a3 := cell_regrown (below_cell hB b3)
    clear b0 b1 b2 b3
    go_wp2
    refine wp_region_quiet_below (by kernel_rfl) (by kernel_rfl) ?_
    repeat (go_big_quiet_step (first | (go_at_call 55; exact Calls.regrown_of (in_any _ _ _ _)) | (go_at_call 128; exact Calls.regrown_of (greatestNumber_any _ _)) | (go_at_call 70; exact Calls.regrown_of (implNameValid _ hs _))))
    refine wpQuiet_nil ?_
    intro w2 hw'regrown
    replace hB := ext_trans hB (below_of_regrown hw'regrown (Nat.le_refl _))
    clear hw'regrown a0 a1 a2 a3
    go_wp2
    go_ret
    exact ⟨by rw [HZ.out]; rfl, ext_trans HBW.out hB⟩
  · have HZ : Hid (szE (m + 1) r = 0) := Lib.hid (by rw [szE, g0]; simp)
    clear g0
    go_enter Try.func87, Try.ntmps87
    go_wp2_with fail
    rw [← HW.out]
    refine (partsOf_any _ _).mono ?_
    rintro e w1 ⟨rfl, hB⟩
    have a0 := cell_regrown (below_cell hB b0)
    have a1 := cell_regrown (below_cell hB b1)
    have a2 := cell_regrown (below_cell hB b2)
    have a3 := cell_regrown (below_cell hB b3)
    clear b0 b1 b2 b3
    go_wp2
    refine wp_region_quiet_below (by kernel_rfl) (by kernel_rfl) ?_
    repeat (go_big_quiet_step (first | (go_at_call 55; exact Calls.regrown_of (in_any _ _ _ _)) | (go_at_call 128; exact Calls.regrown_of (greatestNumber_any _ _)) | (go_at_call 70; exact Calls.regrown_of (implNameValid _ hs _))))
    refine wpQuiet_nil ?_
    intro w2 hw'regrown
    replace hB := ext_trans hB (below_of_regrown hw'regrown (Nat.le_refl _))
    clear hw'regrown a0 a1 a2 a3
    go_wp2
    go_ret
    exact ⟨by rw [HZ.out]; rfl, ext_trans HBW.out hB⟩
  · have HZ : Hid (szE (m + 1) r = 0) := Lib.hid (by rw [szE, g0]; simp)
    have e3 : ((r.ps.length : Int) != (arK r.k : Int)) = true := by simp; omega
    have G3 := Lib.hid g3
    clear g3
    clear g0
    go_enter Try.func87, Try.ntmps87
    go_wp2_with fail
    rw [← HW.out]
    refine (partsOf_any _ _).mono ?_
    rintro e w1 ⟨rfl, hB⟩
    have a0 := cell_regrown (below_cell hB b0)
    have a1 := cell_regrown (below_cell hB b1)
    have a2 := cell_regrown (below_cell hB b2)
    have a3 := cell_regrown (below_cell hB b3)
    clear b0 b1 b2 b3
    go_wp2
    refine wp_region_quiet_below (by kernel_rfl) (by kernel_rfl) ?_
    repeat (go_big_quiet_step (first | (go_at_call 55; exact Calls.regrown_of (in_any _ _ _ _)) | (go_at_call 128; exact Calls.regrown_of (greatestNumber_any _ _)) | (go_at_call 70; exact Calls.regrown_of (implNameValid _ hs _))))
    refine wpQuiet_nil ?_
    intro w2 hw'regrown
    replace hB := ext_trans hB (below_of_regrown hw'regrown (Nat.le_refl _))
    clear hw'regrown a0 a1 a2 a3
    go_wp2
    go_ret
    exact ⟨by rw [HZ.out]; rfl, ext_trans HBW.out hB⟩
  · obtain ⟨q, hq⟩ : ∃ q, nmK r.k = q := ⟨_, rfl⟩
    have hq2 : decide (r.s = ByteArray.empty) = q := by rw [← g4, hq]
    have e3 : ((r.ps.length : Int) != (arK r.k : Int)) = false := by simp; omega
    have e5 : r.s.toList.isEmpty = q := by rw [str_isEmpty]; exact hq2
    have HQQ := Lib.hid hq
    have G3 := Lib.hid g3
    obtain ⟨x5, g5⟩ : ∃ x, nmOk r.s = x := ⟨_, rfl⟩
    clear g3 g4 hq hq2
    have HZ : Hid (szE (m + 1) r = 0) := Lib.hid (by rw [szE, g0]; simp)
    clear g0
    cases q
    · go_enter Try.func87, Try.ntmps87
      go_wp2_with fail
      rw [← HW.out]
      refine (partsOf_any _ _).mono ?_
      rintro e w1 ⟨rfl, hB⟩
      rw [HQQ.out]
      have a0 := cell_regrown (below_cell hB b0)
      have a1 := cell_regrown (below_cell hB b1)
      have a2 := cell_regrown (below_cell hB b2)
      have a3 := cell_regrown (below_cell hB b3)
      clear b0 b1 b2 b3
      go_wp2
      refine wp_region_quiet_below (by kernel_rfl) (by kernel_rfl) ?_
      repeat (go_big_quiet_step (first | (go_at_call 55; exact Calls.regrown_of (in_any _ _ _ _)) | (go_at_call 128; exact Calls.regrown_of (greatestNumber_any _ _)) | (go_at_call 70; (with_reducible exact Calls.regrown_of (implNameValid_v g5 hs _)))))
      refine wpQuiet_nil ?_
      intro w2 hw'regrown
      replace hB := ext_trans hB (below_of_regrown hw'regrown (Nat.le_refl _))
      clear hw'regrown a0 a1 a2 a3
      go_wp2
      go_ret
      exact ⟨by rw [HZ.out]; rfl, ext_trans HBW.out hB⟩
    · go_enter Try.func87, Try.ntmps87
      go_wp2_with fail
      rw [← HW.out]
      refine (partsOf_any _ _).mono ?_
      rintro e w1 ⟨rfl, hB⟩
      rw [HQQ.out]
      have a0 := cell_regrown (below_cell hB b0)
      have a1 := cell_regrown (below_cell hB b1)
      have a2 := cell_regrown (below_cell hB b2)
      have a3 := cell_regrown (below_cell hB b3)
      clear b0 b1 b2 b3
      go_wp2
      refine wp_region_quiet_below (by kernel_rfl) (by kernel_rfl) ?_
      repeat (go_big_quiet_step (first | (go_at_call 55; exact Calls.regrown_of (in_any _ _ _ _)) | (go_at_call 128; exact Calls.regrown_of (greatestNumber_any _ _)) | (go_at_call 70; (with_reducible exact Calls.regrown_of (implNameValid_v g5 hs _)))))
      refine wpQuiet_nil ?_
      intro w2 hw'regrown
      replace hB := ext_trans hB (below_of_regrown hw'regrown (Nat.le_refl _))
      clear hw'regrown a0 a1 a2 a3
      go_wp2
      go_ret
      exact ⟨by rw [HZ.out]; rfl, ext_trans HBW.out hB⟩
  · have e3 : ((r.ps.length : Int) != (arK r.k : Int)) = false := by simp; omega
    have e5 : r.s.toList.isEmpty = false := by rw [str_isEmpty]; exact g4.2
    have HQQ := Lib.hid g4.1
    have G3 := Lib.hid g3
    clear g3 g4
    have HZ : Hid (szE (m + 1) r = 0) := Lib.hid (by rw [szE, g0]; simp)
    clear g0
    go_enter Try.func87, Try.ntmps87
    go_wp2_with fail
    rw [← HW.out]
    refine (partsOf_any _ _).mono ?_
    rintro e w1 ⟨rfl, hB⟩
    rw [HQQ.out]
    have a0 := cell_regrown (below_cell hB b0)
    have a1 := cell_regrown (below_cell hB b1)
    have a2 := cell_regrown (below_cell hB b2)
    have a3 := cell_regrown (below_cell hB b3)
    clear b0 b1 b2 b3
    go_wp2
    refine wp_region_quiet_below (by kernel_rfl) (by kernel_rfl) ?_
    repeat (go_big_quiet_step (first | (go_at_call 55; exact Calls.regrown_of (in_any _ _ _ _)) | (go_at_call 128; exact Calls.regrown_of (greatestNumber_any _ _)) | (go_at_call 70; (with_reducible exact Calls.regrown_of (implNameValid_v g5 hs _)))))
    refine wpQuiet_nil ?_
    intro w2 hw'regrown
    replace hB := ext_trans hB (below_of_regrown hw'regrown (Nat.le_refl _))
    clear hw'regrown a0 a1 a2 a3
    go_wp2
    go_ret
    exact ⟨by rw [HZ.out]; rfl, ext_trans HBW.out hB⟩
  · have e3 : ((r.ps.length : Int) != (arK r.k : Int)) = false := by simp; omega
    have e5 : r.s.toList.isEmpty = false := by rw [str_isEmpty]; exact g4.2
    have HQQ := Lib.hid g4.1
    have G3 := Lib.hid g3
    clear g3 g4
    have HGH := Lib.hid g0
    have hl2 := headB_len g0
    clear g0
    go_enter Try.func87, Try.ntmps87
    go_wp2_with fail
    rw [← HW.out]
    refine (partsOf_any _ _).mono ?_
    rintro e w1 ⟨rfl, hB⟩
    rw [HQQ.out]
    have a0 := cell_regrown (below_cell hB b0)
    have a1 := cell_regrown (below_cell hB b1)
    have a2 := cell_regrown (below_cell hB b2)
    have a3 := cell_regrown (below_cell hB b3)
    clear b0 b1 b2
    go_wp2
    refine wp_region_quiet_below (by kernel_rfl) (by kernel_rfl) ?_
    repeat (go_big_quiet_step (first | (go_at_call 55; exact Calls.regrown_of (in_any _ _ _ _)) | (go_at_call 128; exact Calls.regrown_of (greatestNumber_any _ _)) | (go_at_call 70; (with_reducible exact Calls.regrown_of (implNameValid_v g5 hs _)))))
    refine wpQuiet_nil ?_
    intro w2 hw'regrown
    replace hB := ext_trans hB (below_of_regrown hw'regrown (Nat.le_refl _))
    clear hw'regrown a0 a1 a2 a3
    rw [g1, g2]
    have hB3 := below_cell hB b3
    go_wp2
    go_loopw [7, 60] (fun ov kv wr => ∃ (k s : Nat), k ≤ r.ps.length ∧ kv = .int .i64 k ∧ ov = .int .i64 ((1 + s : Nat) : Int) ∧ Hid (s = ((r.ps.take k).map (szE m)).sum) ∧ s ≤ 254 ∧ Hid (∀ j, j < k → szE m (exAt r.ps j) ≠ 0) ∧ Below W.heap.size W wr) (fun _ kv _ => r.ps.length - (intOf kv).toNat)
    case atStart => exact ⟨0, 0, Nat.zero_le _, rfl, rfl, Lib.hid rfl, by omega, Lib.hid (fun j h => by omega), hB⟩
    case round =>
      clear hB hB3
      obtain ⟨k, s, hk, rfl, rfl, HS, hs254, HG, hB⟩ := hrel
      by_cases hlt : k < r.ps.length
      · have hd : ∃ m, d = m + 1 := by
          cases d with
          | zero => have := exS.zero hU; rw [this] at hlt; simp at hlt
          | succ m => exact ⟨m, rfl⟩
        obtain ⟨dd, hdd⟩ := hd
        subst hdd
        obtain ⟨b, off, rfl, hc⟩ := (hU.below HBW.out).cells (by omega)
        obtain ⟨A1, c1, hfd, hs1, p0, p1, p2, p3⟩ := hc k hlt
        replace p0 := below_cell hB p0
        replace p1 := below_cell hB p1
        replace p2 := below_cell hB p2
        replace p3 := below_cell hB p3
        replace hfd := hfd.below hB
        have HST := Lib.hid (sum_take (m := m) hlt)
        have HTB := Lib.hid (szE_sum hm (r.ps.take (k + 1)))
        clear hc
        obtain ⟨z, hz⟩ : ∃ z, szE m (exAt r.ps k) = z := ⟨_, rfl⟩
        have HZ := Lib.hid hz
        have hzb : s + z ≤ 254 := by
          have h1 := HTB.out
          rw [HST.out, ← HS.out, hz, List.length_take] at h1
          have : min (k + 1) r.ps.length ≤ 2 := by omega
          omega
        clear hz
        go_wp2_with fail
        refine (HQ.out _ _ _ _ _ (hfd.below (by (repeat (first | exact Below.refl _ _ | refine ext_alloc ?_ _ | refine Below.setCell ?_ (by simp) _)))) hs1).mono ?_
        rintro e w4 ⟨rfl, hb⟩
        rw [HZ.out]
        replace hB := ext_trans (ext_trans hB (by (repeat (first | exact Below.refl _ _ | refine ext_alloc ?_ _ | refine Below.setCell ?_ (by simp) _)))) hb
        clear hb p0 p1 p2 p3 hfd
        by_cases h0 : z = 0
        · subst h0
          have HN := Lib.hid (szE_no hlt HZ.out)
          go_wp2
          go_ret
          exact ⟨by rw [HN.out]; rfl, ext_trans HBW.out hB⟩
        · have hz0 : ((z : Int) == 0) = false := by simp; omega
          have HN0 := Lib.hid h0
          clear h0
          go_wp2
          go_roundw
          case rel =>
            exact ⟨k + 1, s + z, by omega, by go_num, by go_num, Lib.hid (by rw [HST.out, ← HS.out, HZ.out]), hzb, Lib.hid (all_succ HG.out (by rw [HZ.out]; exact HN0.out)), hB⟩
          case measure => simp [intOf]; omega
      · obtain rfl : k = r.ps.length := by omega
        have HY := Lib.hid (szE_yes HGH.out HG.out)
        go_wp2
        go_ret
        exact ⟨by rw [HY.out, HS.out, List.take_length]; rfl, ext_trans HBW.out hB⟩
  · have e3 : ((r.ps.length : Int) != (arK r.k : Int)) = false := by simp; omega
    have e5 : r.s.toList.isEmpty = true := by rw [str_isEmpty]; exact g4.2
    have HQQ := Lib.hid g4.1
    have G3 := Lib.hid g3
    obtain ⟨x5, g5⟩ : ∃ x, nmOk r.s = x := ⟨_, rfl⟩
    clear g3 g4
    have HGH := Lib.hid g0
    have hl2 := headB_len g0
    clear g0
    go_enter Try.func87, Try.ntmps87
    go_wp2_with fail
    rw [← HW.out]
    refine (partsOf_any _ _).mono ?_
    rintro e w1 ⟨rfl, hB⟩
    rw [HQQ.out]
    have a0 := cell_regrown (below_cell hB b0)
    have a1 := cell_regrown (below_cell hB b1)
    have a2 := cell_regrown (below_cell hB b2)
    have a3 := cell_regrown (below_cell hB b3)
    clear b0 b1 b2
    go_wp2
    refine wp_region_quiet_below (by kernel_rfl) (by kernel_rfl) ?_
    repeat (go_big_quiet_step (first | (go_at_call 55; exact Calls.regrown_of (in_any _ _ _ _)) | (go_at_call 128; exact Calls.regrown_of (greatestNumber_any _ _)) | (go_at_call 70; (with_reducible exact Calls.regrown_of (implNameValid_v g5 hs _)))))
    refine wpQuiet_nil ?_
    intro w2 hw'regrown
    replace hB := ext_trans hB (below_of_regrown hw'regrown (Nat.le_refl _))
    clear hw'regrown a0 a1 a2 a3
    rw [g1, g2]
    have hB3 := below_cell hB b3
    go_wp2
    go_loopw [7, 60] (fun ov kv wr => ∃ (k s : Nat), k ≤ r.ps.length ∧ kv = .int .i64 k ∧ ov = .int .i64 ((1 + s : Nat) : Int) ∧ Hid (s = ((r.ps.take k).map (szE m)).sum) ∧ s ≤ 254 ∧ Hid (∀ j, j < k → szE m (exAt r.ps j) ≠ 0) ∧ Below W.heap.size W wr) (fun _ kv _ => r.ps.length - (intOf kv).toNat)
    case atStart => exact ⟨0, 0, Nat.zero_le _, rfl, rfl, Lib.hid rfl, by omega, Lib.hid (fun j h => by omega), hB⟩
    case round =>
      clear hB hB3
      obtain ⟨k, s, hk, rfl, rfl, HS, hs254, HG, hB⟩ := hrel
      by_cases hlt : k < r.ps.length
      · have hd : ∃ m, d = m + 1 := by
          cases d with
          | zero => have := exS.zero hU; rw [this] at hlt; simp at hlt
          | succ m => exact ⟨m, rfl⟩
        obtain ⟨dd, hdd⟩ := hd
        subst hdd
        obtain ⟨b, off, rfl, hc⟩ := (hU.below HBW.out).cells (by omega)
        obtain ⟨A1, c1, hfd, hs1, p0, p1, p2, p3⟩ := hc k hlt
        replace p0 := below_cell hB p0
        replace p1 := below_cell hB p1
        replace p2 := below_cell hB p2
        replace p3 := below_cell hB p3
        replace hfd := hfd.below hB
        have HST := Lib.hid (sum_take (m := m) hlt)
        have HTB := Lib.hid (szE_sum hm (r.ps.take (k + 1)))
        clear hc
        obtain ⟨z, hz⟩ : ∃ z, szE m (exAt r.ps k) = z := ⟨_, rfl⟩
        have HZ := Lib.hid hz
        have hzb : s + z ≤ 254 := by
          have h1 := HTB.out
          rw [HST.out, ← HS.out, hz, List.length_take] at h1
          have : min (k + 1) r.ps.length ≤ 2 := by omega
          omega
        clear hz
        go_wp2_with fail
        refine (HQ.out _ _ _ _ _ (hfd.below (by (repeat (first | exact Below.refl _ _ | refine ext_alloc ?_ _ | refine Below.setCell ?_ (by simp) _)))) hs1).mono ?_
        rintro e w4 ⟨rfl, hb⟩
        rw [HZ.out]
        replace hB := ext_trans (ext_trans hB (by (repeat (first | exact Below.refl _ _ | refine ext_alloc ?_ _ | refine Below.setCell ?_ (by simp) _)))) hb
        clear hb p0 p1 p2 p3 hfd
        by_cases h0 : z = 0
        · subst h0
          have HN := Lib.hid (szE_no hlt HZ.out)
          go_wp2
          go_ret
          exact ⟨by rw [HN.out]; rfl, ext_trans HBW.out hB⟩
        · have hz0 : ((z : Int) == 0) = false := by simp; omega
          have HN0 := Lib.hid h0
          clear h0
          go_wp2
          go_roundw
          case rel =>
            exact ⟨k + 1, s + z, by omega, by go_num, by go_num, Lib.hid (by rw [HST.out, ← HS.out, HZ.out]), hzb, Lib.hid (all_succ HG.out (by rw [HZ.out]; exact HN0.out)), hB⟩
          case measure => simp [intOf]; omega
      · obtain rfl : k = r.ps.length := by omega
        have HY := Lib.hid (szE_yes HGH.out HG.out)
        go_wp2
        go_ret
        exact ⟨by rw [HY.out, HS.out, List.take_length]; rfl, ext_trans HBW.out hB⟩
set_option maxRecDepth 100000 in
set_option maxHeartbeats 4000000 in
theorem seQ_zero : SeQ 0 := by
  intro d A r c w hU hs
  have hl := exS.len hU
  obtain ⟨W, hW⟩ : ∃ W, W = w.alloc (.cells #[.int .i64 r.k, .int .i64 r.n, .string r.s, .slice A r.ps.length c] 28) := ⟨_, rfl⟩
  have hBW : Below w.heap.size w W := by rw [hW]; (repeat (first | exact Below.refl _ _ | refine ext_alloc ?_ _ | refine Below.setCell ?_ (by simp) _))
  have b0 : W.cell? ⟨w.heap.size, 0, none⟩ = some (.int .i64 r.k) := by rw [hW]; exact box_cell w _ _ 0 _ rfl
  have HW := Lib.hid hW
  clear hW
  go_enter Try.func87, Try.ntmps87
  go_wp2_with fail
  rw [← HW.out]
  refine (partsOf_any _ _).mono ?_
  rintro e w1 ⟨rfl, hB⟩
  go_wp2
  refine wp_region_quiet_below (by kernel_rfl) (by kernel_rfl) ?_
  repeat (go_big_quiet_step (fail))
  refine wpQuiet_nil ?_
  intro w2 hw'regrown
  replace hB := ext_trans hB (below_of_regrown hw'regrown (Nat.le_refl _))
  clear hw'regrown
  go_wp2
  go_ret
  exact ⟨rfl, ext_trans hBW hB⟩
theorem seQ_all : ∀ m, m ≤ 7 → SeQ m
  | 0, _ => seQ_zero
  | m + 1, h => seQ_succ (by omega) (seQ_all m (by omega))
end Go.Proofs.Ytodjokdaofefdaa
/- Expressions: validity, by the program. -/
namespace Go.Proofs.Ytodjokdaofefdaa
set_option linter.unusedSimpArgs false
set_option linter.unusedVariables false
open Go.RowKit

def exOk (t : Ex) : Bool := inB (szE 7 t : Int) 1 40
theorem implExprValid {d : Nat} {A : Option Addr} {r : Ex} {c : Nat} {w : World} (hU : exW d w A r.ps) (hs : r.s.size ≤ 9223372036854775807) :
    Calls Try.prog 29 #[.agg #[.int .i64 r.k, .int .i64 r.n, .string r.s, .slice A r.ps.length c]] w fun e w' => e = .returned (.bool (exOk r)) ∧ Below w.heap.size w w' := by
  go_enter Try.func29, Try.ntmps29
  go_wp2_with fail
  refine (seQ_all 7 (by omega) _ _ _ _ _ (hU.below (by (repeat (first | exact Below.refl _ _ | refine ext_alloc ?_ _ | refine Below.setCell ?_ (by simp) _)))) hs).mono ?_
  rintro e w1 ⟨rfl, hB⟩
  replace hB := ext_trans (show Below w.heap.size w _ by (repeat (first | exact Below.refl _ _ | refine ext_alloc ?_ _ | refine Below.setCell ?_ (by simp) _))) hB
  go_wp2_with fail
  refine (in_any _ _ _ _).mono ?_
  rintro e w2 ⟨rfl, hb⟩
  replace hB := ext_trans hB hb
  go_wp2
  go_ret
  exact ⟨rfl, hB⟩
end Go.Proofs.Ytodjokdaofefdaa
/- Expressions: both say the same of validity: plain. -/
namespace Go.Proofs.Ytodjokdaofefdaa
set_option linter.unusedSimpArgs false
set_option linter.unusedVariables false
open Go.RowKit

/-- At most d deep. -/
def inD : Nat → Ex → Prop
  | 0, _ => False
  | d + 1, t => ∀ p ∈ t.ps, inD d p
def gdR : Nat → Ex → Bool
  | 0, _ => false
  | d + 1, t => headB t && t.ps.all (gdR d)
theorem exR_in {lo hi : Nat} {w : World} : ∀ {d : Nat} {t : Ex} {cs : List Value}, exR d lo hi w t cs → inD d t
  | 0, _, _, h => h.elim
  | d + 1, t, cs, ⟨A, c, _, h, _⟩ => fun p hp => by
    obtain ⟨k, hk, rfl⟩ := List.getElem_of_mem hp
    obtain ⟨_, _, _, hc⟩ := h.2 (by omega)
    obtain ⟨_, _, h2, _⟩ := hc k hk
    exact exR_in h2
theorem mx_le {l : List Nat} {m : Nat} : mxL l ≤ m ↔ ∀ a ∈ l, a ≤ m := by
  induction l with
  | nil => simp [mxL]
  | cons b l ih => rw [mxL, Nat.max_le, ih]; simp
theorem szE_iff : ∀ (m d : Nat) (t : Ex), inD d t → ((szE m t ≠ 0 ↔ gdR d t = true ∧ dpR d t ≤ m) ∧ (szE m t ≠ 0 → szE m t = 1 + cntR d t))
  | _, 0, _, h => h.elim
  | 0, d + 1, t, _ => by simp [szE, dpR]
  | m + 1, d + 1, t, h => by
    have ih := fun p hp => szE_iff m d p (h p hp)
    have hall : (t.ps.all (fun p => decide (szE m p ≠ 0)) = true) ↔ (t.ps.all (gdR d) = true ∧ mxL (t.ps.map (dpR d)) ≤ m) := by
      rw [mx_le, List.all_eq_true, List.all_eq_true]
      simp only [decide_eq_true_eq, List.mem_map, forall_exists_index, and_imp, forall_apply_eq_imp_iff₂]
      constructor
      · exact fun h => ⟨fun p hp => ((ih p hp).1.1 (h p hp)).1, fun p hp => ((ih p hp).1.1 (h p hp)).2⟩
      · exact fun h p hp => (ih p hp).1.2 ⟨h.1 p hp, h.2 p hp⟩
    have hsum : (t.ps.all (fun p => decide (szE m p ≠ 0)) = true) → (t.ps.map (szE m)).sum = t.ps.length + (t.ps.map (cntR d)).sum := by
      intro ha
      have ha2 : ∀ p ∈ t.ps, szE m p = 1 + cntR d p := fun p hp => (ih p hp).2 (by simpa using List.all_eq_true.1 ha p hp)
      generalize t.ps = l at ha2
      induction l with
      | nil => simp
      | cons a l ihl =>
        have h1 := ha2 a (by simp)
        have h2 := ihl (fun p hp => ha2 p (by simp [hp]))
        simp only [List.map_cons, List.sum_cons, List.length_cons]
        omega
    rw [szE, gdR, dpR, cntR]
    by_cases hc : (headB t && t.ps.all (fun p => decide (szE m p ≠ 0))) = true
    · rw [if_pos hc]
      have hc2 := Bool.and_eq_true_iff.1 hc
      have h1 := hall.1 hc2.2
      have h2 := hsum hc2.2
      refine ⟨⟨fun _ => ⟨by rw [hc2.1, h1.1]; rfl, by omega⟩, fun _ => by omega⟩, fun _ => by omega⟩
    · rw [if_neg hc]
      refine ⟨⟨fun h => absurd rfl h, fun h => absurd (Bool.and_eq_true_iff.2 ⟨(Bool.and_eq_true_iff.1 h.1).1, hall.2 ⟨(Bool.and_eq_true_iff.1 h.1).2, by omega⟩⟩) hc⟩, fun h => absurd rfl h⟩
theorem exOk_eq {d : Nat} {t : Ex} (h : inD d t) : exOk t = (gdR d t && (decide (1 + cntR d t ≤ 40) && decide (dpR d t ≤ 7))) := by
  obtain ⟨h1, h2⟩ := szE_iff 7 d t h
  rw [Bool.eq_iff_iff]
  simp only [exOk, inB_true, Bool.and_eq_true, decide_eq_true_eq]
  constructor
  · rintro ⟨g1, g2⟩
    have hne : szE 7 t ≠ 0 := by omega
    have := h2 hne
    have h3 := h1.1 hne
    exact ⟨h3.1, by omega, h3.2⟩
  · rintro ⟨g1, g2, g3⟩
    have hne := h1.2 ⟨g1, g3⟩
    have := h2 hne
    omega
end Go.Proofs.Ytodjokdaofefdaa
/- Guards: what both compute, and that they agree at valid expressions: plain. -/
namespace Go.Proofs.Ytodjokdaofefdaa
set_option linter.unusedSimpArgs false
set_option linter.unusedVariables false
open Go.RowKit

noncomputable def hasB (l : ExL) (e : Ex) : Bool := l.any (fun x => sameX x e)
def asHas (t : Ex) : Ex := .nd 9 t.n t.s t.ps
def asHas0 (t : Ex) : Ex := .nd 9 0 t.s t.ps
/-- What is known if an expression holds, behind what is known before. -/
def knS : Nat → Ex → ExL → ExL
  | 0, _, l => l
  | d + 1, t, l => if t.k = 9 then l ++ [t] else if t.k = 14 then knS d (exAt t.ps 1) (knS d (exAt t.ps 0) l) else l
/-- By the reference. -/
noncomputable def guS : Nat → Ex → ExL → Bool
  | 0, _, _ => true
  | d + 1, t, l => if t.k = 7 then false else if t.k = 8 then hasB l (asHas0 t) && guS d (exAt t.ps 0) l
      else if t.k = 14 then guS d (exAt t.ps 0) l && guS d (exAt t.ps 1) (knS d (exAt t.ps 0) l) else t.ps.all (fun p => guS d p l)
/-- What is joined by ExprAnd. -/
def cjI : Nat → Ex → ExL
  | 0, _ => []
  | d + 1, t => if t.k = 14 then cjI d (exAt t.ps 0) ++ cjI d (exAt t.ps 1) else [t]
/-- By the program. -/
noncomputable def guI : Nat → Ex → ExL → Bool
  | 0, _, _ => true
  | d + 1, t, l => if t.k = 7 then false else if t.k = 8 ∧ hasB l (asHas t) = false then false
      else if t.k = 14 then guI d (exAt t.ps 0) l && guI d (exAt t.ps 1) (l ++ cjI d (exAt t.ps 0)) else t.ps.all (fun p => guI d p l)
theorem knS_eq : ∀ (d : Nat) (t : Ex) (l : ExL), knS d t l = l ++ (cjI d t).filter (fun x => decide (x.k = 9))
  | 0, t, l => by simp [knS, cjI]
  | d + 1, t, l => by
    rw [knS, cjI]
    by_cases h9 : t.k = 9
    · have h14 : ¬ t.k = 14 := by omega
      rw [if_pos h9, if_neg h14]; simp [h9]
    · rw [if_neg h9]
      by_cases h14 : t.k = 14
      · rw [if_pos h14, if_pos h14, knS_eq d, knS_eq d, List.filter_append, List.append_assoc]
      · rw [if_neg h14, if_neg h14]; simp [h9]
theorem hasB_append (l l' : ExL) (e : Ex) : hasB (l ++ l') e = (hasB l e || hasB l' e) := by simp [hasB, List.any_append]
theorem hasB_filter (l : ExL) {e : Ex} (h : e.k = 9) : hasB (l.filter (fun x => decide (x.k = 9))) e = hasB l e := by
  rw [Bool.eq_iff_iff]
  simp only [hasB, List.any_eq_true, List.mem_filter, decide_eq_true_eq, sameX_true]
  constructor
  · rintro ⟨x, ⟨hx, _⟩, rfl⟩; exact ⟨x, hx, rfl⟩
  · rintro ⟨x, hx, rfl⟩; exact ⟨x, ⟨hx, h⟩, rfl⟩
/-- Both lists have the same questions. -/
def Alk (l l' : ExL) : Prop := ∀ e : Ex, e.k = 9 → hasB l e = hasB l' e
theorem Alk.step {l l' : ExL} (h : Alk l l') (d : Nat) (t : Ex) : Alk (knS d t l) (l' ++ cjI d t) := fun e he => by
  rw [knS_eq, hasB_append, hasB_append, h e he, hasB_filter _ he]
theorem head_len {t : Ex} (h : headB t = true) : t.ps.length = arK t.k := by
  simp only [headB, Bool.and_eq_true, decide_eq_true_eq] at h
  exact h.2.2.1
theorem head_num {t : Ex} (h : headB t = true) : inB t.n 0 (mostK t.k) = true := by
  simp only [headB, Bool.and_eq_true, decide_eq_true_eq] at h
  exact h.2.1
theorem head_8 {t : Ex} (h : headB t = true) (h8 : t.k = 8) : t.n = 0 ∧ t.ps.length = 1 := by
  have h1 := head_len h
  have h2 := head_num h
  rw [h8] at h1 h2
  rw [inB_true] at h2
  have e1 : mostK 8 = 0 := by decide
  have e2 : arK 8 = 1 := by decide
  rw [e1] at h2
  rw [e2] at h1
  exact ⟨by omega, h1⟩
theorem head_14 {t : Ex} (h : headB t = true) (h14 : t.k = 14) : t.ps.length = 2 := by
  have h1 := head_len h
  rw [h14] at h1
  exact h1.trans (by decide)
theorem gd_head {d : Nat} {t : Ex} (h : gdR (d + 1) t = true) : headB t = true := (Bool.and_eq_true_iff.1 h).1
theorem gd_part {d : Nat} {t : Ex} (h : gdR (d + 1) t = true) {k : Nat} (hk : k < t.ps.length) : gdR d (exAt t.ps k) = true := by
  rw [exAt_eq hk]
  exact List.all_eq_true.1 (Bool.and_eq_true_iff.1 h).2 _ (List.getElem_mem hk)
theorem all_at {l : ExL} {p : Ex → Bool} : l.all p = true ↔ ∀ k, k < l.length → p (exAt l k) = true := by
  rw [List.all_eq_true]
  constructor
  · intro h k hk; rw [exAt_eq hk]; exact h _ (List.getElem_mem hk)
  · intro h x hx
    obtain ⟨k, hk, rfl⟩ := List.getElem_of_mem hx
    have := h k hk
    rwa [exAt_eq hk] at this
theorem all_1 {l : ExL} {p : Ex → Bool} (h : l.length = 1) : l.all p = p (exAt l 0) := by
  match l, h with
  | [x], _ => simp [exAt]
theorem gu_eq : ∀ (d : Nat) (t : Ex) (l l' : ExL), gdR d t = true → Alk l l' → guS d t l = guI d t l'
  | 0, _, _, _, _, _ => rfl
  | d + 1, t, l, l', hg, ha => by
    rw [guS, guI]
    by_cases h7 : t.k = 7
    · rw [if_pos h7, if_pos h7]
    rw [if_neg h7, if_neg h7]
    by_cases h8 : t.k = 8
    · obtain ⟨hn, hl⟩ := head_8 (gd_head hg) h8
      have e : asHas0 t = asHas t := by unfold asHas0 asHas; rw [hn]
      have h14 : ¬ t.k = 14 := by omega
      rw [if_pos h8, e, ha _ (by rfl), if_neg h14, gu_eq d _ l l' (gd_part hg (by omega)) ha, all_1 hl]
      cases hb : hasB l' (asHas t)
      · rw [if_pos ⟨h8, rfl⟩]; rfl
      · rw [if_neg (by simp)]; rfl
    · rw [if_neg h8, if_neg (show ¬ (t.k = 8 ∧ hasB l' (asHas t) = false) from fun h => h8 h.1)]
      by_cases h14 : t.k = 14
      · have hl := head_14 (gd_head hg) h14
        rw [if_pos h14, if_pos h14, gu_eq d _ l l' (gd_part hg (by omega)) ha, gu_eq d _ _ _ (gd_part hg (by omega)) (ha.step d _)]
      · rw [if_neg h14, if_neg h14, Bool.eq_iff_iff, all_at, all_at]
        constructor
        · intro h k hk; rw [← gu_eq d _ l l' (gd_part hg hk) ha]; exact h k hk
        · intro h k hk; rw [gu_eq d _ l l' (gd_part hg hk) ha]; exact h k hk
theorem cnt_at {d : Nat} {l : ExL} : ∀ {k : Nat}, k < l.length → cntR d (exAt l k) ≤ (l.map (cntR d)).sum := by
  induction l with
  | nil => intro k hk; simp at hk
  | cons a l ih =>
    intro k hk
    simp only [List.map_cons, List.sum_cons]
    cases k with
    | zero => simp [exAt]
    | succ k =>
      have := ih (k := k) (by simpa using hk)
      have e : exAt (a :: l) (k + 1) = exAt l k := by simp [exAt]
      rw [e]; omega
theorem cnt_two {d : Nat} {t : Ex} (h : t.ps.length = 2) : cntR (d + 1) t = 2 + cntR d (exAt t.ps 0) + cntR d (exAt t.ps 1) := by
  rw [cntR]
  match t.ps, h with
  | [x, y], _ => simp [exAt]; omega
theorem cj_len : ∀ (d : Nat) (t : Ex), gdR d t = true → (cjI d t).length ≤ 1 + cntR d t
  | 0, t, _ => by simp [cjI]
  | d + 1, t, hg => by
    rw [cjI]
    by_cases h14 : t.k = 14
    · have hl := head_14 (gd_head hg) h14
      have h0 := cj_len d _ (gd_part hg (k := 0) (by omega))
      have h1 := cj_len d _ (gd_part hg (k := 1) (by omega))
      rw [if_pos h14, List.length_append, cnt_two hl]
      omega
    · rw [if_neg h14]; simp
theorem kn_len (d : Nat) (t : Ex) (l : ExL) (hg : gdR d t = true) : (knS d t l).length ≤ l.length + 1 + cntR d t := by
  have h1 := cj_len d t hg
  have h2 : ((cjI d t).filter (fun x => decide (x.k = 9))).length ≤ (cjI d t).length := List.length_filter_le _ _
  rw [knS_eq, List.length_append]
  omega
end Go.Proofs.Ytodjokdaofefdaa
/- Guards that are added: what both compute, and that they agree at valid expressions: plain. -/
namespace Go.Proofs.Ytodjokdaofefdaa
set_option linter.unusedSimpArgs false
set_option linter.unusedVariables false
open Go.RowKit

def asB : Nat → Ex → Bool
  | 0, _ => false
  | d + 1, t => t.ps.any (asB d) || decide (t.k = 7)
noncomputable def addS (t : Ex) (l : ExL) : ExL := if t.k = 8 ∧ hasB l (asHas0 t) = false then l ++ [asHas0 t] else l
noncomputable def addI (t : Ex) (l : ExL) : ExL := if t.k = 8 ∧ hasB l (asHas t) = false then l ++ [asHas t] else l
/-- What must be there, by the reference. -/
noncomputable def fiS : Nat → Ex → ExL → ExL
  | 0, _, l => l
  | d + 1, t, l => addS t (t.ps.foldl (fun l p => fiS d p l) l)
/-- All expressions in one, parts before the whole. -/
def poL : Nat → Ex → ExL
  | 0, _ => []
  | d + 1, t => t.ps.flatMap (poL d) ++ [t]
noncomputable def fiF (d : Nat) (ps : ExL) (l : ExL) (k : Nat) : ExL := (ps.take k).foldl (fun l p => fiS d p l) l
theorem fiF_succ {d : Nat} {ps l : ExL} {k : Nat} (hk : k < ps.length) : fiF d ps l (k + 1) = fiS d (exAt ps k) (fiF d ps l k) := by
  rw [fiF, List.take_succ_eq_append_getElem hk, List.foldl_append, exAt_eq hk]; rfl
theorem fiF_all (d : Nat) (ps l : ExL) : fiF d ps l ps.length = ps.foldl (fun l p => fiS d p l) l := by rw [fiF, List.take_length]
theorem addS_len (t : Ex) (l : ExL) : (addS t l).length ≤ l.length + 1 := by
  unfold addS
  split <;> simp
theorem fi_len : ∀ (d : Nat) (t : Ex) (l : ExL), (fiS d t l).length ≤ l.length + 1 + cntR d t
  | 0, t, l => by simp [fiS]; omega
  | d + 1, t, l => by
    have h1 : ∀ k, k ≤ t.ps.length → (fiF d t.ps l k).length ≤ l.length + k + ((t.ps.take k).map (cntR d)).sum := by
      intro k
      induction k with
      | zero => intro _; simp [fiF]
      | succ k ih =>
        intro hk
        rw [fiF_succ hk, cnt_take hk]
        have := fi_len d (exAt t.ps k) (fiF d t.ps l k)
        have := ih (by omega)
        omega
    have h2 := h1 t.ps.length (Nat.le_refl _)
    rw [List.take_length, fiF_all] at h2
    rw [fiS, cntR]
    have := addS_len t (t.ps.foldl (fun l p => fiS d p l) l)
    omega
theorem fiF_len {d : Nat} {t : Ex} {l : ExL} {k : Nat} (hk : k < t.ps.length) : (fiF d t.ps l k).length + 1 + cntR d (exAt t.ps k) ≤ l.length + 1 + cntR (d + 1) t := by
  have h1 : ∀ k, k ≤ t.ps.length → (fiF d t.ps l k).length ≤ l.length + k + ((t.ps.take k).map (cntR d)).sum := by
    intro k
    induction k with
    | zero => intro _; simp [fiF]
    | succ k ih =>
      intro hk
      rw [fiF_succ hk, cnt_take hk]
      have := fi_len d (exAt t.ps k) (fiF d t.ps l k)
      have := ih (by omega)
      omega
  have h2 := h1 k (by omega)
  have h3 := cnt_take (d := d) hk
  have h4 : ((t.ps.take (k + 1)).map (cntR d)).sum ≤ (t.ps.map (cntR d)).sum := by
    conv => rhs; rw [← List.take_append_drop (k + 1) t.ps, List.map_append, List.sum_append]
    omega
  rw [cntR]
  omega
theorem po_any : ∀ (d : Nat) (t : Ex), (poL d t).any (fun x => decide (x.k = 7)) = asB d t
  | 0, t => rfl
  | d + 1, t => by
    rw [poL, asB, List.any_append, List.any_flatMap]
    have e : (fun a => (poL d a).any fun x => decide (x.k = 7)) = asB d := funext fun a => po_any d a
    rw [e]; simp
theorem add_eq {d : Nat} {t : Ex} {l : ExL} (h : gdR (d + 1) t = true) : addI t l = addS t l := by
  unfold addI addS
  by_cases h8 : t.k = 8
  · have hn := (head_8 (gd_head h) h8).1
    have e : asHas t = asHas0 t := by unfold asHas0 asHas; rw [hn]
    rw [e]
  · rw [if_neg (fun h => h8 h.1), if_neg (fun h => h8 h.1)]
theorem foldl_mem {α β : Type} {f g : β → α → β} {l : List α} (h : ∀ a ∈ l, ∀ b, f b a = g b a) : ∀ b, l.foldl f b = l.foldl g b := by
  induction l with
  | nil => intro b; rfl
  | cons a l ih =>
    intro b
    rw [List.foldl_cons, List.foldl_cons, h a (by simp), ih (fun c hc => h c (by simp [hc]))]
theorem fi_eq : ∀ (d : Nat) (t : Ex) (l : ExL), gdR d t = true → (poL d t).foldl (fun l x => addI x l) l = fiS d t l
  | 0, t, l, h => by cases h
  | d + 1, t, l, h => by
    rw [poL, fiS, List.foldl_append, List.foldl_flatMap]
    have e : t.ps.foldl (fun acc b => (poL d b).foldl (fun l x => addI x l) acc) l = t.ps.foldl (fun l p => fiS d p l) l :=
      foldl_mem (fun p hp b => fi_eq d p b (by
        have := (Bool.and_eq_true_iff.1 h).2
        exact List.all_eq_true.1 this p hp)) l
    rw [e]
    exact add_eq h
/-- All joined by ExprAnd, the first one outermost. -/
def joinE (l : ExL) (t : Ex) : Ex := l.foldr (fun g out => .nd 14 0 ByteArray.empty [g, out]) t
noncomputable def gbL (d : Nat) (r : Ex) : ExL := fiS (d + 1) r []
noncomputable def gbO (d : Nat) (r : Ex) : Ex := joinE (gbL d r) r
noncomputable def gbB (d : Nat) (r : Ex) : Bool := exOk r && (!asB (d + 1) r && exOk (gbO d r))
noncomputable def gbE (d : Nat) (r : Ex) : Ex := if gbB d r = true then gbO d r else exD
theorem cnt_max : ∀ (d : Nat) (t : Ex) (m : Nat), inD d t → cntR m t ≤ cntR d t
  | 0, _, _, h => h.elim
  | d + 1, t, 0, _ => Nat.zero_le _
  | d + 1, t, m + 1, h => by
    rw [cntR, cntR]
    have : ∀ l : ExL, (∀ p ∈ l, inD d p) → (l.map (cntR m)).sum ≤ (l.map (cntR d)).sum := by
      intro l
      induction l with
      | nil => intro _; simp
      | cons a l ih =>
        intro hl
        simp only [List.map_cons, List.sum_cons]
        have := cnt_max d a m (hl a (by simp))
        have := ih (fun p hp => hl p (by simp [hp]))
        omega
    have := this t.ps h
    omega
theorem cnt_mem {m : Nat} {t p : Ex} (hp : p ∈ t.ps) : cntR m p ≤ cntR (m + 1) t := by
  obtain ⟨k, hk, rfl⟩ := List.getElem_of_mem hp
  have := cnt_at (d := m) hk
  rw [exAt_eq hk] at this
  rw [cntR]; omega
theorem fi_mem {C : Nat} : ∀ (d : Nat) (t : Ex) (l : ExL), (∀ m, cntR m t ≤ C) → (∀ x ∈ l, ∀ m, cntR m x ≤ C) → ∀ x ∈ fiS d t l, ∀ m, cntR m x ≤ C
  | 0, t, l, _, hl => hl
  | d + 1, t, l, ht, hl => by
    have h1 : ∀ (q : ExL) (l : ExL), (∀ p ∈ q, ∀ m, cntR m p ≤ C) → (∀ x ∈ l, ∀ m, cntR m x ≤ C) → ∀ x ∈ q.foldl (fun l p => fiS d p l) l, ∀ m, cntR m x ≤ C := by
      intro q
      induction q with
      | nil => intro l _ hl; exact hl
      | cons a q ih =>
        intro l hq hl
        exact ih _ (fun p hp => hq p (by simp [hp])) (fi_mem d a l (hq a (by simp)) hl)
    have h2 := h1 t.ps l (fun p hp m => Nat.le_trans (cnt_mem hp) (ht (m + 1))) hl
    rw [fiS]
    unfold addS
    split
    · intro x hx m
      rcases List.mem_append.1 hx with hx | hx
      · exact h2 x hx m
      · rw [List.mem_singleton.1 hx]
        have e : cntR m (asHas0 t) = cntR m t := by cases m <;> rfl
        rw [e]; exact ht m
    · exact h2
theorem join_cnt {C : Nat} {t : Ex} : ∀ (l : ExL), (∀ x ∈ l, ∀ m, cntR m x ≤ C) → (∀ m, cntR m t ≤ C) → ∀ m, cntR m (joinE l t) ≤ l.length * (C + 2) + C
  | [], _, ht, m => by simpa [joinE] using ht m
  | a :: l, hl, ht, m => by
    cases m with
    | zero => simp [cntR]
    | succ m =>
      have h1 := hl a (by simp) m
      have h2 := join_cnt l (fun x hx => hl x (by simp [hx])) ht m
      have e : cntR (m + 1) (joinE (a :: l) t) = 2 + cntR m a + cntR m (joinE l t) := by
        show cntR (m + 1) (.nd 14 0 ByteArray.empty [a, joinE l t]) = _
        rw [cntR]; simp [Ex.ps]; omega
      rw [e, List.length_cons, Nat.add_mul]
      omega
theorem joinE_cons (a : Ex) (l : ExL) (t : Ex) : joinE (a :: l) t = .nd 14 0 ByteArray.empty [a, joinE l t] := rfl
theorem join_drop {l : ExL} {t : Ex} {j : Nat} (h : j < l.length) : joinE (l.drop j) t = .nd 14 0 ByteArray.empty [exAt l j, joinE (l.drop (j + 1)) t] := by
  rw [List.drop_eq_getElem_cons h, joinE_cons, exAt_eq h]
end Go.Proofs.Ytodjokdaofefdaa
/- Expressions: sameness by the reference. Printed by gen_same.py. -/
namespace Go.Proofs.Ytodjokdaofefdaa
set_option linter.unusedSimpArgs false
set_option linter.unusedVariables false
open Go.RowKit

theorem ex_sameX2 (r r' : Ex) : sameX r r' = true ↔ r = r' := sameX_true
def SmS (d : Nat) : Prop := ∀ (A A' : Option Addr) (r r' : Ex) (c c' : Nat) (w : World), exW d w A r.ps → exW d w A' r'.ps →
  Calls Try.prog 148 #[.agg #[.int .i64 r.k, .int .i64 r.n, .string r.s, .slice A r.ps.length c], .agg #[.int .i64 r'.k, .int .i64 r'.n, .string r'.s, .slice A' r'.ps.length c']] w fun e w' => e = .returned (.bool (sameX r r')) ∧ Below w.heap.size w w'
set_option maxRecDepth 100000 in
set_option maxHeartbeats 4000000 in
theorem smS_of {d : Nat} (hQ : ∀ m, d = m + 1 → SmS m) : SmS d := by
  intro A A' r r' c c' w hU hV
  have hl := exS.len hU
  have hl' := exS.len hV
  have HQ := Lib.hid hQ
  clear hQ
  have HD := Lib.hid (ex_sameX2 r r')
  by_cases h1 : r.k = r'.k
  · have e1 : (r.k != r'.k) = false := by simp [h1]
    have H1 := Lib.hid h1
    clear h1
    by_cases h2 : r.n = r'.n
    · have e2 : (r.n != r'.n) = false := by simp [h2]
      have H2 := Lib.hid h2
      clear h2
      by_cases h3 : r.s = r'.s
      · have e3 : (r.s.toList == r'.s.toList) = true := by simp [h3]
        have H3 := Lib.hid h3
        clear h3
        by_cases h4 : r.ps.length = r'.ps.length
        · have e4 : ((r.ps.length : Int) != r'.ps.length) = false := by simp [h4]
          have H4 := Lib.hid h4
          clear h4
          obtain ⟨W, hW⟩ : ∃ W, W = (w.alloc (.cells #[.int .i64 r.k, .int .i64 r.n, .string r.s, .slice A r.ps.length c] 28)).alloc (.cells #[.int .i64 r'.k, .int .i64 r'.n, .string r'.s, .slice A' r'.ps.length c'] 28) := ⟨_, rfl⟩
          have hBW : Below w.heap.size w W := by rw [hW]; (repeat (first | exact Below.refl _ _ | refine ext_alloc ?_ _ | refine Below.setCell ?_ (by simp) _))
          have b0 : W.cell? ⟨w.heap.size, 3, none⟩ = some (.slice A r.ps.length c) := by rw [hW]; exact below_cell (below_alloc _ _) (box_cell w _ _ 3 _ rfl)
          have b1 : W.cell? ⟨w.heap.size + 1, 3, none⟩ = some (.slice A' r'.ps.length c') := by rw [hW]; exact box_cell_at (by simp) rfl
          have HW := Lib.hid hW
          have HB0 := Lib.hid b0
          have HB1 := Lib.hid b1
          have HBW := Lib.hid hBW
          clear hW b0 b1 hBW
          go_enter Try.func148, Try.ntmps148
          go_wp2
          go_loopw [5] (fun i wr => ∃ k : Nat, k ≤ r.ps.length ∧ i = .int .i64 k ∧ Below W.heap.size W wr ∧ (∀ j, j < k → exAt r.ps j = exAt r'.ps j)) (fun i _ => r.ps.length - (intOf i).toNat)
          case atStart => exact ⟨0, Nat.zero_le _, rfl, by rw [HW.out]; exact Below.refl _ _, fun j h => by omega⟩
          case round =>
            obtain ⟨k, hk, rfl, hB, hgood⟩ := hrel
            have HG := Lib.hid hgood
            clear hgood
            have b0 := below_cell hB HB0.out
            have b1 := below_cell hB HB1.out
            by_cases hlt : k < r.ps.length
            · have hlt' : k < r'.ps.length := by rw [← H4.out]; exact hlt
              have hd : ∃ m, d = m + 1 := by
                cases d with
                | zero => have := exS.zero hU; rw [this] at hlt; simp at hlt
                | succ m => exact ⟨m, rfl⟩
              obtain ⟨m, hm⟩ := hd
              subst hm
              have HQ1 := Lib.hid (HQ.out m rfl)
              obtain ⟨b, off, rfl, hc⟩ := (hU.below HBW.out).cells (by omega)
              obtain ⟨b', off', rfl, hc'⟩ := (hV.below HBW.out).cells (by omega)
              obtain ⟨A1, c1, hfd, _, p0, p1, p2, p3⟩ := hc k hlt
              obtain ⟨A2, c2, hfd2, _, q0, q1, q2, q3⟩ := hc' k hlt'
              replace p0 := below_cell hB p0
              replace p1 := below_cell hB p1
              replace p2 := below_cell hB p2
              replace p3 := below_cell hB p3
              replace q0 := below_cell hB q0
              replace q1 := below_cell hB q1
              replace q2 := below_cell hB q2
              replace q3 := below_cell hB q3
              replace hfd := hfd.below hB
              replace hfd2 := hfd2.below hB
              clear hc hc'
              have a0 := cell_regrown b0
              have a1 := cell_regrown b1
              replace p0 := cell_regrown p0
              replace p1 := cell_regrown p1
              replace p2 := cell_regrown p2
              replace p3 := cell_regrown p3
              replace q0 := cell_regrown q0
              replace q1 := cell_regrown q1
              replace q2 := cell_regrown q2
              replace q3 := cell_regrown q3
              have HE := Lib.hid (fun (n : Nat) (os : Array Obj) => HQ1.out _ _ _ _ c1 c2 _ (hfd.regrown n os) (hfd2.regrown n os))
              cases g : sameX (exAt r.ps k) (exAt r'.ps k)
              all_goals
                rw [g] at HE
                go_wp2
                refine wp_region_quiet_below (by kernel_rfl) (by kernel_rfl) ?_
                repeat (go_big_quiet_step ((go_at_call 148; (with_reducible exact Calls.regrown_of (HE.out _ _)))))
                refine wpQuiet_nil ?_
                intro w2 hw'regrown
                replace hB := ext_trans hB (below_of_regrown hw'regrown (Nat.le_refl _))
                clear hw'regrown p0 q0 p1 q1 p2 q2 p3 q3 b0 b1 a0 a1
                go_wp2
              · go_ret
                exact ⟨ret_bool (by rw [eq_comm, sameX_false]; intro h; rw [h, sameX_self] at g; cases g), HBW.out.trans (hB.mono HBW.out.size)⟩
              · go_roundw
                case rel => exact ⟨k + 1, by omega, by go_num, hB, all_succ HG.out (sameX_true.1 g)⟩
                case measure => simp [intOf]; omega
            · obtain rfl : k = r.ps.length := by omega
              go_wp2
              go_ret
              exact ⟨ret_bool (by rw [eq_comm, sameX_true]; exact Ex.ext H1.out H2.out H3.out (by have := ex_same H4.out HG.out; exact sameX_true.1 this.symm)), HBW.out.trans (hB.mono HBW.out.size)⟩
        · have e4 : ((r.ps.length : Int) != r'.ps.length) = true := by simp; omega
          have H4 := Lib.hid h4
          clear h4
          go_enter Try.func148, Try.ntmps148
          go_wp2
          go_ret
          exact ⟨ret_bool (by rw [eq_comm, sameX_false]; intro h; exact H4.out (by rw [h])), by (repeat (first | exact Below.refl _ _ | refine ext_alloc ?_ _ | refine Below.setCell ?_ (by simp) _))⟩
      · have e3 : (r.s.toList == r'.s.toList) = false := by rw [str_beq]; simp [h3]
        have H3 := Lib.hid h3
        clear h3
        go_enter Try.func148, Try.ntmps148
        go_wp2
        go_ret
        exact ⟨ret_bool (by rw [eq_comm, sameX_false]; intro h; exact H3.out (by rw [h])), by (repeat (first | exact Below.refl _ _ | refine ext_alloc ?_ _ | refine Below.setCell ?_ (by simp) _))⟩
    · have e2 : (r.n != r'.n) = true := by simp [h2]
      have H2 := Lib.hid h2
      clear h2
      go_enter Try.func148, Try.ntmps148
      go_wp2
      go_ret
      exact ⟨ret_bool (by rw [eq_comm, sameX_false]; intro h; exact H2.out (by rw [h])), by (repeat (first | exact Below.refl _ _ | refine ext_alloc ?_ _ | refine Below.setCell ?_ (by simp) _))⟩
  · have e1 : (r.k != r'.k) = true := by simp [h1]
    have H1 := Lib.hid h1
    clear h1
    go_enter Try.func148, Try.ntmps148
    go_wp2
    go_ret
    exact ⟨ret_bool (by rw [eq_comm, sameX_false]; intro h; exact H1.out (by rw [h])), by (repeat (first | exact Below.refl _ _ | refine ext_alloc ?_ _ | refine Below.setCell ?_ (by simp) _))⟩
theorem smS_all : ∀ d, SmS d
  | 0 => smS_of (fun m h => by cases h)
  | d + 1 => smS_of (fun m h => by cases h; exact smS_all d)
end Go.Proofs.Ytodjokdaofefdaa
/- Guards, by the reference: what is in a list, what is known. -/
namespace Go.Proofs.Ytodjokdaofefdaa
set_option linter.unusedSimpArgs false
set_option linter.unusedVariables false
open Go.RowKit

theorem hasB_yes {l : ExL} {e : Ex} {k : Nat} (hk : k < l.length) (h : sameX (exAt l k) e = true) : hasB l e = true := by
  rw [hasB, List.any_eq_true]
  exact ⟨l[k], List.getElem_mem hk, by rw [← exAt_eq hk]; exact h⟩
theorem hasB_no {l : ExL} {e : Ex} (h : ∀ k, k < l.length → sameX (exAt l k) e = false) : hasB l e = false := by
  rw [hasB, List.any_eq_false]
  intro x hx
  obtain ⟨k, hk, rfl⟩ := List.getElem_of_mem hx
  have := h k hk
  rw [exAt_eq hk] at this
  rw [this]; simp
set_option maxRecDepth 100000 in
set_option maxHeartbeats 4000000 in
theorem specHas_any {D : Nat} {A A' : Option Addr} {l : ExL} {r : Ex} {c c' : Nat} {w : World} (hU : exW (D + 1) w A l) (hV : exW D w A' r.ps) :
    Calls Try.prog 120 #[.slice A l.length c, .agg #[.int .i64 r.k, .int .i64 r.n, .string r.s, .slice A' r.ps.length c']] w fun e w' => e = .returned (.bool (hasB l r)) ∧ Below w.heap.size w w' := by
  have hlen := exS.len hU
  obtain ⟨W, hW⟩ : ∃ W, W = w.alloc (.cells #[.int .i64 r.k, .int .i64 r.n, .string r.s, .slice A' r.ps.length c'] 28) := ⟨_, rfl⟩
  have hBW : Below w.heap.size w W := by rw [hW]; (repeat (first | exact Below.refl _ _ | refine ext_alloc ?_ _ | refine Below.setCell ?_ (by simp) _))
  have b0 : W.cell? ⟨w.heap.size, 0, none⟩ = some (.int .i64 r.k) := by rw [hW]; exact box_cell w _ _ 0 _ rfl
  have b1 : W.cell? ⟨w.heap.size, 1, none⟩ = some (.int .i64 r.n) := by rw [hW]; exact box_cell w _ _ 1 _ rfl
  have b2 : W.cell? ⟨w.heap.size, 2, none⟩ = some (.string r.s) := by rw [hW]; exact box_cell w _ _ 2 _ rfl
  have b3 : W.cell? ⟨w.heap.size, 3, none⟩ = some (.slice A' r.ps.length c') := by rw [hW]; exact box_cell w _ _ 3 _ rfl
  have hVW := hV.below hBW
  have HW := Lib.hid hW
  have HBW := Lib.hid hBW
  have HB0 := Lib.hid b0
  have HB1 := Lib.hid b1
  have HB2 := Lib.hid b2
  have HB3 := Lib.hid b3
  clear hW hBW b0 b1 b2 b3
  go_enter Try.func120, Try.ntmps120
  go_wp2
  go_loopw [5] (fun i wr => ∃ k : Nat, k ≤ l.length ∧ i = .int .i64 k ∧ Below W.heap.size W wr ∧ Hid (∀ j, j < k → sameX (exAt l j) r = false)) (fun i _ => l.length - (intOf i).toNat)
  case atStart => exact ⟨0, Nat.zero_le _, rfl, by rw [HW.out]; exact Below.refl _ _, Lib.hid (fun j h => by omega)⟩
  case round =>
    obtain ⟨k, hk, rfl, hB, HG⟩ := hrel
    by_cases hlt : k < l.length
    · obtain ⟨b, off, rfl, hc⟩ := (hU.below HBW.out).cells (by omega)
      obtain ⟨A1, c1, hfd, _, p0, p1, p2, p3⟩ := hc k hlt
      replace p0 := cell_regrown (below_cell hB p0)
      replace p1 := cell_regrown (below_cell hB p1)
      replace p2 := cell_regrown (below_cell hB p2)
      replace p3 := cell_regrown (below_cell hB p3)
      have b0 := cell_regrown (below_cell hB HB0.out)
      have b1 := cell_regrown (below_cell hB HB1.out)
      have b2 := cell_regrown (below_cell hB HB2.out)
      have b3 := cell_regrown (below_cell hB HB3.out)
      replace hfd := hfd.below hB
      have hfd2 := hVW.below hB
      clear hc
      have HE := Lib.hid (fun (n : Nat) (os : Array Obj) => smS_all D _ _ _ _ c1 c' _ (hfd.regrown n os) (hfd2.regrown n os))
      clear hfd hfd2
      obtain ⟨y, hy⟩ : ∃ y, sameX (exAt l k) r = y := ⟨_, rfl⟩
      rw [hy] at HE
      have HY := Lib.hid hy
      clear hy
      cases y
      all_goals
        go_wp2
        refine wp_region_quiet_below (by kernel_rfl) (by kernel_rfl) ?_
        repeat (go_big_quiet_step ((go_at_call 148; (with_reducible exact Calls.regrown_of (HE.out _ _)))))
        refine wpQuiet_nil ?_
        intro w2 hw'regrown
        replace hB := ext_trans hB (below_of_regrown hw'regrown (Nat.le_refl _))
        clear hw'regrown p0 p1 p2 p3 b0 b1 b2 b3
        go_wp2
      · go_roundw
        case rel => exact ⟨k + 1, by omega, by go_num, hB, Lib.hid (all_succ HG.out HY.out)⟩
        case measure => simp [intOf]; omega
      · go_ret
        exact ⟨by rw [hasB_yes hlt HY.out]; rfl, ext_trans HBW.out hB⟩
    · obtain rfl : k = l.length := by omega
      go_wp2
      go_ret
      exact ⟨by rw [hasB_no HG.out]; rfl, ext_trans HBW.out hB⟩
end Go.Proofs.Ytodjokdaofefdaa
/- Guards, by the reference: what is known if an expression holds. -/
namespace Go.Proofs.Ytodjokdaofefdaa
set_option linter.unusedSimpArgs false
set_option linter.unusedVariables false
open Go.RowKit

def KnQ (d D : Nat) : Prop := ∀ (A Ak : Option Addr) (r : Ex) (kl : ExL) (c ck : Nat) (w : World), exW d w A r.ps → r.s.size ≤ 9223372036854775807 → exW D w Ak kl → d + 1 ≤ D → gdR (d + 1) r = true → kl.length + 1 + cntR (d + 1) r ≤ 1048576 →
  Calls Try.prog 121 #[.agg #[.int .i64 r.k, .int .i64 r.n, .string r.s, .slice A r.ps.length c], .slice Ak kl.length ck] w fun e w' => ∃ A' c', e = .returned (.slice A' (knS (d + 1) r kl).length c') ∧ exW D w' A' (knS (d + 1) r kl) ∧ Below w.heap.size w w'
theorem exAt_0 {b off : Nat} : (⟨b, off + 0 * 4, none⟩ : Addr) = ⟨b, off, none⟩ := by simp
theorem exAt_1 {b off : Nat} : (⟨b, off + 1 * 4, none⟩ : Addr) = ⟨b, off + 4, none⟩ := by simp
/-- The cells of two parts. -/
theorem exW.two {d : Nat} {w : World} {A : Option Addr} {l : ExL} (h : exW (d + 1) w A l) (hl : l.length = 2) : ∃ b off A0 A1 c0 c1, A = some ⟨b, off, none⟩ ∧ (exW d w A0 (exAt l 0).ps ∧ (exAt l 0).s.size ≤ 9223372036854775807 ∧
    w.cell? ⟨b, off, none⟩ = some (.int .i64 (exAt l 0).k) ∧ w.cell? ⟨b, off + 1, none⟩ = some (.int .i64 (exAt l 0).n) ∧ w.cell? ⟨b, off + 2, none⟩ = some (.string (exAt l 0).s) ∧ w.cell? ⟨b, off + 3, none⟩ = some (.slice A0 (exAt l 0).ps.length c0)) ∧
    (exW d w A1 (exAt l 1).ps ∧ (exAt l 1).s.size ≤ 9223372036854775807 ∧
    w.cell? ⟨b, off + 4, none⟩ = some (.int .i64 (exAt l 1).k) ∧ w.cell? ⟨b, off + 4 + 1, none⟩ = some (.int .i64 (exAt l 1).n) ∧ w.cell? ⟨b, off + 4 + 2, none⟩ = some (.string (exAt l 1).s) ∧ w.cell? ⟨b, off + 4 + 3, none⟩ = some (.slice A1 (exAt l 1).ps.length c1)) := by
  obtain ⟨b, off, rfl, hc⟩ := h.cells (by omega)
  obtain ⟨A0, c0, g0⟩ := hc 0 (by omega)
  obtain ⟨A1, c1, g1⟩ := hc 1 (by omega)
  rw [show off + 0 * 4 = off by omega] at g0
  rw [show off + 1 * 4 = off + 4 by omega] at g1
  exact ⟨b, off, A0, A1, c0, c1, rfl, g0, g1⟩
set_option maxRecDepth 100000 in
set_option maxHeartbeats 4000000 in
theorem knQ_of {d D : Nat} (hQ : ∀ m, d = m + 1 → KnQ m D) : KnQ d D := by
  intro A Ak r kl c ck w hU hs hK0 hD hg hn
  have hlen := exS.len hU
  have HG := Lib.hid hg
  have HQ := Lib.hid hQ
  clear hg hQ
  obtain ⟨W, hW⟩ : ∃ W, W = w.alloc (.cells #[.int .i64 r.k, .int .i64 r.n, .string r.s, .slice A r.ps.length c] 28) := ⟨_, rfl⟩
  obtain ⟨gx, hgx⟩ : ∃ g, g = w.heap.size := ⟨_, rfl⟩
  have hBW : Below w.heap.size w W := by rw [hW]; (repeat (first | exact Below.refl _ _ | refine ext_alloc ?_ _ | refine Below.setCell ?_ (by simp) _))
  have b0 : W.cell? ⟨gx, 0, none⟩ = some (.int .i64 r.k) := by rw [hW, hgx]; exact box_cell w _ _ 0 _ rfl
  have b1 : W.cell? ⟨gx, 1, none⟩ = some (.int .i64 r.n) := by rw [hW, hgx]; exact box_cell w _ _ 1 _ rfl
  have b2 : W.cell? ⟨gx, 2, none⟩ = some (.string r.s) := by rw [hW, hgx]; exact box_cell w _ _ 2 _ rfl
  have b3 : W.cell? ⟨gx, 3, none⟩ = some (.slice A r.ps.length c) := by rw [hW, hgx]; exact box_cell w _ _ 3 _ rfl
  have hUW := hU.below hBW
  have hKW := hK0.below hBW
  have HW := Lib.hid hW
  have HGX := Lib.hid hgx
  have HBW := Lib.hid hBW
  clear hW hgx hBW hU
  by_cases h9 : r.k = 9
  · have e9 : (r.k == 9) = true := by simp [h9]
    have hkn : knS (d + 1) r kl = kl ++ [r] := by rw [knS, if_pos h9]
    rw [hkn]
    clear h9 hkn
    have HKL := Lib.hid (show kl.length + 1 ≤ 1048576 by omega)
    clear hn
    go_enter Try.func121, Try.ntmps121
    go_wp2_with fail
    rw [← HW.out, ← HGX.out]
    go_wp2_with fail
    refine wp_region_kinds2 (fun i wz vz => match i with | 0 => FrB W.heap.size 28 0 #[] wz vz | 1 => vz = .slice Ak kl.length ck | 2 => OwnE D W.heap.size W.heap.size kl wz vz | 3 => vz = .agg #[.int .i64 r.k, .int .i64 r.n, .string r.s, .slice A r.ps.length c] | 4 => FrB W.heap.size 28 1 #[.int .i64 r.k, .int .i64 r.n, .string r.s, .slice A r.ps.length c] wz vz | 5 => OwnE D W.heap.size W.heap.size (kl ++ [r]) wz vz | 6 => OwnE D W.heap.size W.heap.size (kl ++ [r]) wz vz | _ => True) (fun _ wz => Below W.heap.size W wz) (fun i w w' => Below (if i = 5 then W.heap.size else w.heap.size) w w') (fun j => match j with | 0 => some 5 | 2 => some 5 | 4 => some 5 | _ => Option.none) (by kernel_rfl) (by kernel_rfl) (by kernel_rfl) ?stab3 (ext_drew (Below.refl _ _)) ?all3 ?fin3
    case stab3 =>
      intro i j wa wb v hR hk hne hd _ h2 hT
      match j, hk, hne, hd, h2, hT with
      | 0, hk, hne, hd, h2, hT => exact FrB.below hT (rel_un (fun e => hk (by subst e; rfl)) hR)
      | 1, hk, hne, hd, h2, hT => exact hT
      | 2, hk, hne, hd, h2, hT => exact OwnE.below hT (rel_un (fun e => hk (by subst e; rfl)) hR)
      | 3, hk, hne, hd, h2, hT => exact hT
      | 4, hk, hne, hd, h2, hT => exact FrB.below hT (rel_un (fun e => hk (by subst e; rfl)) hR)
      | 5, hk, hne, hd, h2, hT => exact OwnE.below hT (rel_un (fun e => hne e.symm) hR)
      | 6, hk, hne, hd, h2, hT => exact OwnE.below hT (rel_un (fun e => by subst e; exact Bool.noConfusion (hd.symm.trans (show depB _ 6 5 = true from by kernel_rfl))) hR)
      | n + 7, _, _, _, _, _ => trivial
    case all3 =>
      refine RAll.cons rfl ?_ (RAll.cons rfl ?_ (RAll.cons rfl ?_ (RAll.cons rfl ?_ (RAll.cons rfl ?_ (RAll.cons rfl ?_ (RAll.cons rfl ?_ (RAll.none_)))))))
      · intro a k wa K Q _ hI hp hK
        go_simp
        exact hK _ _ ⟨_, rfl, hI.size, heap_alloc_new _ _⟩ (rel_ne (by decide) (below_alloc _ _)) (ext_alloc hI _)
      · intro a k wa K Q _ hI hp hK
        exact op_move _ (.inl rfl) (hK _ _ (hp.keep 1 (by kernel_rfl)) (Below.refl _ _) hI)
      · intro a k wa K Q _ hI hp hK
        have t9 : FrB W.heap.size 28 0 #[] wa (a.eval (.tmp 9)) := hp.dep 0 9 (by kernel_rfl)
        have e10 := tmp_of (show a.eval (.tmp 10) = .slice Ak kl.length ck from hp.dep 1 10 (by kernel_rfl))
        refine op_append_emptyG (R := exR D 0 W.heap.size) (l := kl) (B := W.heap.size) (.tmp 9) (.tmp 10) 26 28 _ 4 56 rfl Try.underlying26 Try.infoExpr rfl (by decide) t9 (hp.dep 1 10 (by kernel_rfl)) (exS.below hKW (Nat.le_refl _) hI).1 (fun w' hb a cs h => exR.below h hI.size hb) hI.size (by have := HKL.out; omega) (by have := HKL.out; omega) ?_
        intro v' wb ho' hb
        exact hK _ _ ⟨⟨Nat.le_trans hI.size hb.size, Nat.le_refl _⟩, ho'⟩ (rel_ne (by decide) hb) (ext_trans hI hb)
      · intro a k wa K Q _ hI hp hK
        have e2 := tmp_of (show a.eval (.tmp 2) = .pointer (some ⟨gx, 0, none⟩) from hp.keep 2 (by kernel_rfl))
        have b0_ := below_cell hI b0
        have b1_ := below_cell hI b1
        have b2_ := below_cell hI b2
        have b3_ := below_cell hI b3
        go_simp
        exact hK _ _ rfl (Below.refl _ _) hI
      · intro a k wa K Q _ hI hp hK
        have e12 := tmp_of (show a.eval (.tmp 12) = .agg #[.int .i64 r.k, .int .i64 r.n, .string r.s, .slice A r.ps.length c] from hp.dep 3 12 (by kernel_rfl))
        go_simp
        exact hK _ _ ⟨_, rfl, hI.size, heap_alloc_new _ _⟩ (rel_ne (by decide) (below_alloc _ _)) (ext_alloc hI _)
      · intro a k wa K Q _ hI hp hK
        have t11 : OwnE D W.heap.size W.heap.size kl wa (a.eval (.tmp 11)) := hp.dep 2 11 (by kernel_rfl)
        have t13 : FrB W.heap.size 28 1 #[.int .i64 r.k, .int .i64 r.n, .string r.s, .slice A r.ps.length c] wa (a.eval (.tmp 13)) := hp.dep 4 13 (by kernel_rfl)
        have hM := t11.2
        obtain ⟨A9, c9, e13, hr9⟩ := ((OwnE.one (exS.below hUW (Nat.le_refl _) hI) hs (Nat.le_refl _) hI.size t13).deeper hD).2.rd (by simp)
        refine op_appendG (R := exR D 0 W.heap.size) (l := kl) (l2 := [r]) (.tmp 11) (.tmp 13) 26 28 _ 4 56 rfl Try.underlying26 Try.infoExpr rfl (by decide) (fun a cs h => exR.one h) rfl hM e13 hr9 (fun w' hg a cs h => exR.row hI.size hg (fun k hk => (hM.ge k hk).1) h) (by have := HKL.out; simp; omega) (by have := HKL.out; simp; omega) hI.size ?_
        intro v' wb ho' hb' hgr _
        exact hK _ _ ⟨⟨Nat.le_trans hI.size hb'.size, Nat.le_refl _⟩, ho'⟩ (rel_eq rfl hb') (hI.trans hb')
      · intro a k wa K Q _ hI hp hK
        exact op_move _ (.inr rfl) (hK _ _ (hp.dep 5 14 (by kernel_rfl)) (Below.refl _ _) hI)
    case fin3 =>
      intro f w9 hT hI0
      have hI : Below W.heap.size W w9 := hI0
      have hr6 : OwnE D W.heap.size W.heap.size (kl ++ [r]) w9 (f 6) := hT 6 (by decide) rfl rfl
      clear hT hI0
      obtain ⟨A6, c6, e6, h6⟩ := hr6.rd (by have := HKL.out; simp; omega)
      simp only [putAll, e6]
      go_simp
      go_wp2
      go_ret
      exact ⟨A6, c6, by simp, h6, ext_trans HBW.out hI⟩
  · have e9 : (r.k == 9) = false := by simp [h9]
    by_cases h14 : r.k = 14
    · have e14 : (r.k == 14) = true := by simp [h14]
      have hl := head_14 (gd_head HG.out) h14
      have HW2 := Lib.hid (show W = w.alloc (.cells #[.int .i64 r.k, .int .i64 r.n, .string r.s, .slice A 2 c] 28) by rw [HW.out, hl])
      have hd : ∃ m, d = m + 1 := by
        cases d with
        | zero => have := exS.zero hUW; rw [this] at hl; simp at hl
        | succ m => exact ⟨m, rfl⟩
      obtain ⟨m, hm⟩ := hd
      subst hm
      have HQ1 := Lib.hid (HQ.out m rfl)
      have hkn : knS (m + 1 + 1) r kl = knS (m + 1) (exAt r.ps 1) (knS (m + 1) (exAt r.ps 0) kl) := by rw [knS, if_neg h9, if_pos h14]
      rw [hkn]
      have hg0 := gd_part HG.out (k := 0) (by omega)
      have hg1 := gd_part HG.out (k := 1) (by omega)
      have hct := cnt_two (d := m + 1) hl
      have hkl := kn_len (m + 1) (exAt r.ps 0) kl hg0
      have hn0 : kl.length + 1 + cntR (m + 1) (exAt r.ps 0) ≤ 1048576 := by omega
      have hn1 : (knS (m + 1) (exAt r.ps 0) kl).length + 1 + cntR (m + 1) (exAt r.ps 1) ≤ 1048576 := by omega
      obtain ⟨b, off, A0, A1, c0, c1, rfl, ⟨u0, s0, p0, p1, p2, p3⟩, ⟨u1, s1, q0, q1, q2, q3⟩⟩ := exW.two hUW hl
      obtain ⟨K1, hK1⟩ : ∃ K1, K1 = knS (m + 1) (exAt r.ps 0) kl := ⟨_, rfl⟩
      obtain ⟨K2, hK2⟩ : ∃ K2, K2 = knS (m + 1) (exAt r.ps 1) K1 := ⟨_, rfl⟩
      rw [← hK1] at hn1 ⊢
      rw [← hK2]
      have HC1 := Lib.hid hn0
      have HC2 := Lib.hid hn1
      have HG0 := Lib.hid hg0
      have HG1 := Lib.hid hg1
      have HK1 := Lib.hid hK1
      have HK2 := Lib.hid hK2
      rw [hl] at b3
      rw [hl]
      have HL := Lib.hid hl
      clear hlen hl h9 h14 hkn hn0 hn1 hct hkl hg0 hg1 hK1 hK2 hn
      go_enter Try.func121, Try.ntmps121
      go_wp2_with fail
      rw [← HW2.out, ← HGX.out]
      go_wp2_with fail
      refine wp_region_kinds2 (fun i wz vz => match i with | 0 => vz = .pointer (some ⟨gx, 3, Option.none⟩) | 1 => vz = .slice (some ⟨b, off, none⟩) 2 c | 2 => vz = .pointer (some ⟨b, off + 4, Option.none⟩) | 3 => vz = .agg #[.int .i64 (exAt r.ps 1).k, .int .i64 (exAt r.ps 1).n, .string (exAt r.ps 1).s, .slice A1 (exAt r.ps 1).ps.length c1] | 4 => vz = .pointer (some ⟨gx, 3, Option.none⟩) | 5 => vz = .slice (some ⟨b, off, none⟩) 2 c | 6 => vz = .pointer (some ⟨b, off, Option.none⟩) | 7 => vz = .agg #[.int .i64 (exAt r.ps 0).k, .int .i64 (exAt r.ps 0).n, .string (exAt r.ps 0).s, .slice A0 (exAt r.ps 0).ps.length c0] | 8 => vz = .slice Ak kl.length ck | 9 => KnV D K1 wz vz | 10 => KnV D K2 wz vz | 11 => KnV D K2 wz vz | _ => True) (fun _ wz => Below W.heap.size W wz) (fun i w w' => Below w.heap.size w w') (fun _ => Option.none) (by kernel_rfl) (by kernel_rfl) (by kernel_rfl) ?stab5 (ext_drew (Below.refl _ _)) ?all5 ?fin5
      case stab5 =>
        intro i j wa wb v hR hk hne hd _ h2 hT
        match j, hk, hne, hd, h2, hT with
        | 0, hk, hne, hd, h2, hT => exact hT
        | 1, hk, hne, hd, h2, hT => exact hT
        | 2, hk, hne, hd, h2, hT => exact hT
        | 3, hk, hne, hd, h2, hT => exact hT
        | 4, hk, hne, hd, h2, hT => exact hT
        | 5, hk, hne, hd, h2, hT => exact hT
        | 6, hk, hne, hd, h2, hT => exact hT
        | 7, hk, hne, hd, h2, hT => exact hT
        | 8, hk, hne, hd, h2, hT => exact hT
        | 9, hk, hne, hd, h2, hT => exact KnV.below hT hR
        | 10, hk, hne, hd, h2, hT => exact KnV.below hT hR
        | 11, hk, hne, hd, h2, hT => exact KnV.below hT hR
        | n + 12, _, _, _, _, _ => trivial
      case all5 =>
        refine RAll.cons rfl ?_ (RAll.cons rfl ?_ (RAll.cons rfl ?_ (RAll.cons rfl ?_ (RAll.cons rfl ?_ (RAll.cons rfl ?_ (RAll.cons rfl ?_ (RAll.cons rfl ?_ (RAll.cons rfl ?_ (RAll.cons rfl ?_ (RAll.cons rfl ?_ (RAll.cons rfl ?_ (RAll.none_))))))))))))
        · intro a k wa K Q _ hI hp hK
          have e2 := tmp_of (show a.eval (.tmp 2) = .pointer (some ⟨gx, 0, none⟩) from hp.keep 2 (by kernel_rfl))
          go_simp
          exact hK _ _ rfl (Below.refl _ _) hI
        · intro a k wa K Q _ hI hp hK
          have e17 := tmp_of (show a.eval (.tmp 17) = .pointer (some ⟨gx, 3, Option.none⟩) from hp.dep 0 17 (by kernel_rfl))
          have b3_ := below_cell hI b3
          go_simp
          exact hK _ _ rfl (Below.refl _ _) hI
        · intro a k wa K Q _ hI hp hK
          have e18 := tmp_of (show a.eval (.tmp 18) = .slice (some ⟨b, off, none⟩) 2 c from hp.dep 1 18 (by kernel_rfl))
          go_simp
          exact hK _ _ (rfl) (Below.refl _ _) hI
        · intro a k wa K Q _ hI hp hK
          have e19 := tmp_of (show a.eval (.tmp 19) = .pointer (some ⟨b, off + 4, Option.none⟩) from hp.dep 2 19 (by kernel_rfl))
          have q0_ := below_cell hI q0
          have q1_ := below_cell hI q1
          have q2_ := below_cell hI q2
          have q3_ := below_cell hI q3
          go_simp
          exact hK _ _ rfl (Below.refl _ _) hI
        · intro a k wa K Q _ hI hp hK
          have e2 := tmp_of (show a.eval (.tmp 2) = .pointer (some ⟨gx, 0, none⟩) from hp.keep 2 (by kernel_rfl))
          go_simp
          exact hK _ _ rfl (Below.refl _ _) hI
        · intro a k wa K Q _ hI hp hK
          have e21 := tmp_of (show a.eval (.tmp 21) = .pointer (some ⟨gx, 3, Option.none⟩) from hp.dep 4 21 (by kernel_rfl))
          have b3_ := below_cell hI b3
          go_simp
          exact hK _ _ rfl (Below.refl _ _) hI
        · intro a k wa K Q _ hI hp hK
          have e22 := tmp_of (show a.eval (.tmp 22) = .slice (some ⟨b, off, none⟩) 2 c from hp.dep 5 22 (by kernel_rfl))
          go_simp
          exact hK _ _ (rfl) (Below.refl _ _) hI
        · intro a k wa K Q _ hI hp hK
          have e23 := tmp_of (show a.eval (.tmp 23) = .pointer (some ⟨b, off, Option.none⟩) from hp.dep 6 23 (by kernel_rfl))
          have p0_ := below_cell hI p0
          have p1_ := below_cell hI p1
          have p2_ := below_cell hI p2
          have p3_ := below_cell hI p3
          go_simp
          exact hK _ _ rfl (Below.refl _ _) hI
        · intro a k wa K Q _ hI hp hK
          exact op_move _ (.inl rfl) (hK _ _ (hp.keep 1 (by kernel_rfl)) (Below.refl _ _) hI)
        · intro a k wa K Q _ hI hp hK
          have e24 := tmp_of (show a.eval (.tmp 24) = .agg #[.int .i64 (exAt r.ps 0).k, .int .i64 (exAt r.ps 0).n, .string (exAt r.ps 0).s, .slice A0 (exAt r.ps 0).ps.length c0] from hp.dep 7 24 (by kernel_rfl))
          have e25 := tmp_of (show a.eval (.tmp 25) = .slice Ak kl.length ck from hp.dep 8 25 (by kernel_rfl))
          go_simp
          refine (HQ1.out _ _ _ kl c0 ck _ (u0.below hI) s0 (hKW.below hI) (by omega) HG0.out HC1.out).mono ?_
          rw [← HK1.out]
          rintro e wb ⟨A5, c5, rfl, hk5, hb⟩
          exact hK _ _ ⟨A5, c5, rfl, hk5⟩ hb (ext_trans hI hb)
        · intro a k wa K Q _ hI hp hK
          have e20 := tmp_of (show a.eval (.tmp 20) = .agg #[.int .i64 (exAt r.ps 1).k, .int .i64 (exAt r.ps 1).n, .string (exAt r.ps 1).s, .slice A1 (exAt r.ps 1).ps.length c1] from hp.dep 3 20 (by kernel_rfl))
          have t26 : KnV D K1 wa (a.eval (.tmp 26)) := hp.dep 9 26 (by kernel_rfl)
          obtain ⟨A5, c5, e26, hk5⟩ := t26
          replace e26 := tmp_of e26
          go_simp
          refine (HQ1.out _ _ _ K1 c1 c5 _ (u1.below hI) s1 hk5 (by omega) HG1.out HC2.out).mono ?_
          rw [← HK2.out]
          rintro e wb ⟨A8, c8, rfl, hk8, hb⟩
          exact hK _ _ ⟨A8, c8, rfl, hk8⟩ hb (ext_trans hI hb)
        · intro a k wa K Q _ hI hp hK
          exact op_move _ (.inr rfl) (hK _ _ (hp.dep 10 27 (by kernel_rfl)) (Below.refl _ _) hI)
      case fin5 =>
        intro f w9 hT hI0
        have hI : Below W.heap.size W w9 := hI0
        have hr6 : KnV D K2 w9 (f 11) := hT 11 (by decide) rfl rfl
        clear hT hI0
        obtain ⟨A6, c6, e6, h6⟩ := hr6
        simp only [putAll, e6]
        go_simp
        go_wp2
        go_ret
        exact ⟨A6, c6, rfl, h6, ext_trans HBW.out hI⟩
    · have e14 : (r.k == 14) = false := by simp [h14]
      have hkn : knS (d + 1) r kl = kl := by rw [knS, if_neg h9, if_neg h14]
      rw [hkn]
      clear h9 h14 hkn
      go_enter Try.func121, Try.ntmps121
      go_wp2
      rw [← HW.out]
      go_ret
      exact ⟨Ak, ck, rfl, hKW, HBW.out⟩
theorem knQ_all (D : Nat) : ∀ d, KnQ d D
  | 0 => knQ_of (fun m h => by cases h)
  | d + 1 => knQ_of (fun m h => by cases h; exact knQ_all D d)
end Go.Proofs.Ytodjokdaofefdaa
/- Guards that are added, by the reference: whether a request is asked for, what must be there. -/
namespace Go.Proofs.Ytodjokdaofefdaa
set_option linter.unusedSimpArgs false
set_option linter.unusedVariables false
open Go.RowKit

def AsQ (d : Nat) : Prop := ∀ (A : Option Addr) (r : Ex) (c : Nat) (w : World), exW d w A r.ps → 
  Calls Try.prog 76 #[.agg #[.int .i64 r.k, .int .i64 r.n, .string r.s, .slice A r.ps.length c]] w fun e w' => e = .returned (.bool (asB (d + 1) r)) ∧ Below w.heap.size w w'
theorem as_yes {d : Nat} {r : Ex} {k : Nat} (hk : k < r.ps.length) (h : asB d (exAt r.ps k) = true) : asB (d + 1) r = true := by
  rw [asB, Bool.or_eq_true, List.any_eq_true]
  exact .inl ⟨_, List.getElem_mem hk, by rw [← exAt_eq hk]; exact h⟩
theorem as_no {d : Nat} {r : Ex} (h : ∀ k, k < r.ps.length → asB d (exAt r.ps k) = false) : asB (d + 1) r = decide (r.k = 7) := by
  have : r.ps.any (asB d) = false := by
    rw [List.any_eq_false]
    intro x hx
    obtain ⟨k, hk, rfl⟩ := List.getElem_of_mem hx
    have := h k hk
    rw [exAt_eq hk] at this
    rw [this]; simp
  rw [asB, this]; simp
set_option maxRecDepth 100000 in
set_option maxHeartbeats 4000000 in
theorem asQ_of {d : Nat} (hQ : ∀ m, d = m + 1 → AsQ m) : AsQ d := by
  intro A r c w hU
  have hlen := exS.len hU
  have HQ := Lib.hid hQ
  clear hQ
  obtain ⟨W, hW⟩ : ∃ W, W = w.alloc (.cells #[.int .i64 r.k, .int .i64 r.n, .string r.s, .slice A r.ps.length c] 28) := ⟨_, rfl⟩
  obtain ⟨gx, hgx⟩ : ∃ g, g = w.heap.size := ⟨_, rfl⟩
  have hBW : Below w.heap.size w W := by rw [hW]; (repeat (first | exact Below.refl _ _ | refine ext_alloc ?_ _ | refine Below.setCell ?_ (by simp) _))
  have b0 : W.cell? ⟨gx, 0, none⟩ = some (.int .i64 r.k) := by rw [hW, hgx]; exact box_cell w _ _ 0 _ rfl
  have b3 : W.cell? ⟨gx, 3, none⟩ = some (.slice A r.ps.length c) := by rw [hW, hgx]; exact box_cell w _ _ 3 _ rfl
  have hUW := hU.below hBW
  have HW := Lib.hid hW
  have HGX := Lib.hid hgx
  have HBW := Lib.hid hBW
  have HB0 := Lib.hid b0
  have HB3 := Lib.hid b3
  clear hW hgx hBW hU b0 b3
  go_enter Try.func76, Try.ntmps76
  go_wp2
  rw [← HW.out, ← HGX.out]
  go_loopw [3] (fun i wr => ∃ k : Nat, k ≤ r.ps.length ∧ i = .int .i64 k ∧ Hid (∀ j, j < k → asB d (exAt r.ps j) = false) ∧ Below W.heap.size W wr) (fun i _ => r.ps.length - (intOf i).toNat)
  case atStart => exact ⟨0, Nat.zero_le _, rfl, Lib.hid (fun j h => by omega), Below.refl _ _⟩
  case round =>
    obtain ⟨k, hk, rfl, HA, hB⟩ := hrel
    have b0 := below_cell hB HB0.out
    have b3 := below_cell hB HB3.out
    by_cases hlt : k < r.ps.length
    · have hd : ∃ m, d = m + 1 := by
        cases d with
        | zero => have := exS.zero hUW; rw [this] at hlt; simp at hlt
        | succ m => exact ⟨m, rfl⟩
      obtain ⟨m, hm⟩ := hd
      subst hm
      have HQ1 := Lib.hid (HQ.out m rfl)
      obtain ⟨b, off, rfl, hc⟩ := hUW.cells (by omega)
      obtain ⟨A1, c1, hfd, hs1, p0, p1, p2, p3⟩ := hc k hlt
      replace p0 := below_cell hB p0
      replace p1 := below_cell hB p1
      replace p2 := below_cell hB p2
      replace p3 := below_cell hB p3
      replace hfd := hfd.below hB
      clear hc
      obtain ⟨y, hy⟩ : ∃ y, asB (m + 1) (exAt r.ps k) = y := ⟨_, rfl⟩
      have HY := Lib.hid hy
      clear hy
      cases y
      all_goals
        go_wp2_with fail
        refine (HQ1.out _ _ _ _ hfd).mono ?_
        rintro e w4 ⟨rfl, hb⟩
        rw [HY.out]
        replace hB := ext_trans hB hb
        clear hb p0 p1 p2 p3 b0 b3
        go_wp2
      · go_roundw
        case rel => exact ⟨k + 1, by omega, by go_num, Lib.hid (all_succ HA.out HY.out), hB⟩
        case measure => simp [intOf]; omega
      · go_ret
        exact ⟨by rw [as_yes hlt HY.out]; rfl, ext_trans HBW.out hB⟩
    · obtain rfl : k = r.ps.length := by omega
      go_wp2
      go_ret
      exact ⟨by rw [as_no HA.out]; first | rfl | (apply ret_bool; simp), ext_trans HBW.out hB⟩
theorem asQ_all : ∀ d, AsQ d
  | 0 => asQ_of (fun m h => by cases h)
  | d + 1 => asQ_of (fun m h => by cases h; exact asQ_all d)
def FiQ (d D : Nat) : Prop := ∀ (A Ak : Option Addr) (r : Ex) (kl : ExL) (c ck : Nat) (w : World), exW d w A r.ps → r.s.size ≤ 9223372036854775807 → exW D w Ak kl → d + 1 ≤ D → kl.length + 1 + cntR (d + 1) r ≤ 1048576 →
  Calls Try.prog 77 #[.agg #[.int .i64 r.k, .int .i64 r.n, .string r.s, .slice A r.ps.length c], .slice Ak kl.length ck] w fun e w' => ∃ A' c', e = .returned (.slice A' (fiS (d + 1) r kl).length c') ∧ exW D w' A' (fiS (d + 1) r kl) ∧ Below w.heap.size w w'
set_option maxRecDepth 100000 in
set_option maxHeartbeats 8000000 in
theorem fiQ_of {d D : Nat} (hQ : ∀ m, d = m + 1 → FiQ m D) : FiQ d D := by
  intro A Ak r kl c ck w hU hs hK0 hD hn
  have hlen := exS.len hU
  have HQ := Lib.hid hQ
  have HN := Lib.hid hn
  have HFL := Lib.hid (fi_len (d + 1) r kl)
  clear hQ hn
  obtain ⟨W, hW⟩ : ∃ W, W = w.alloc (.cells #[.int .i64 r.k, .int .i64 r.n, .string r.s, .slice A r.ps.length c] 28) := ⟨_, rfl⟩
  obtain ⟨gx, hgx⟩ : ∃ g, g = w.heap.size := ⟨_, rfl⟩
  have hBW : Below w.heap.size w W := by rw [hW]; (repeat (first | exact Below.refl _ _ | refine ext_alloc ?_ _ | refine Below.setCell ?_ (by simp) _))
  have b0 : W.cell? ⟨gx, 0, none⟩ = some (.int .i64 r.k) := by rw [hW, hgx]; exact box_cell w _ _ 0 _ rfl
  have b2 : W.cell? ⟨gx, 2, none⟩ = some (.string r.s) := by rw [hW, hgx]; exact box_cell w _ _ 2 _ rfl
  have b3 : W.cell? ⟨gx, 3, none⟩ = some (.slice A r.ps.length c) := by rw [hW, hgx]; exact box_cell w _ _ 3 _ rfl
  have hUW := hU.below hBW
  have hKW := hK0.below hBW
  have HW := Lib.hid hW
  have HGX := Lib.hid hgx
  have HBW := Lib.hid hBW
  have HB0 := Lib.hid b0
  have HB2 := Lib.hid b2
  have HB3 := Lib.hid b3
  clear hW hgx hBW hU hK0 b0 b2 b3
  go_enter Try.func77, Try.ntmps77
  go_wp2
  rw [← HW.out, ← HGX.out]
  go_loopw [1, 5] (fun kv i wr => ∃ k : Nat, k ≤ r.ps.length ∧ i = .int .i64 k ∧ KnV D (fiF d r.ps kl k) wr kv ∧ Below W.heap.size W wr) (fun _ i _ => r.ps.length - (intOf i).toNat)
  case atStart => exact ⟨0, Nat.zero_le _, rfl, ⟨Ak, ck, rfl, hKW⟩, Below.refl _ _⟩
  case round =>
    clear hKW
    obtain ⟨k, hk, rfl, ⟨A5, c5, rfl, hk5⟩, hB⟩ := hrel
    have b3 := below_cell hB HB3.out
    by_cases hlt : k < r.ps.length
    · have hd : ∃ m, d = m + 1 := by
        cases d with
        | zero => have := exS.zero hUW; rw [this] at hlt; simp at hlt
        | succ m => exact ⟨m, rfl⟩
      obtain ⟨m, hm⟩ := hd
      subst hm
      have HQ1 := Lib.hid (HQ.out m rfl)
      have hstep := fiF_succ (d := m + 1) (l := kl) hlt
      have hfl := fiF_len (d := m + 1) (t := r) (l := kl) hlt
      have HC := Lib.hid (Nat.le_trans hfl HN.out)
      obtain ⟨K1, hK1⟩ : ∃ K, K = fiF (m + 1) r.ps kl k := ⟨_, rfl⟩
      rw [← hK1] at hstep HC hk5 ⊢
      have HS := Lib.hid hstep
      obtain ⟨b, off, rfl, hc⟩ := hUW.cells (by omega)
      obtain ⟨A1, c1, hfd, hs1, p0, p1, p2, p3⟩ := hc k hlt
      replace p0 := below_cell hB p0
      replace p1 := below_cell hB p1
      replace p2 := below_cell hB p2
      replace p3 := below_cell hB p3
      replace hfd := hfd.below hB
      clear hc hstep hfl hK1
      go_wp2_with fail
      refine (HQ1.out _ _ _ K1 c1 c5 _ hfd hs1 hk5 (by omega) HC.out).mono ?_
      rw [← HS.out]
      rintro e w4 ⟨A6, c6, rfl, hk6, hb⟩
      replace hB := ext_trans hB hb
      clear hb p0 p1 p2 p3 b3 hk5
      go_wp2
      go_roundw
      case rel => exact ⟨k + 1, by omega, by go_num, ⟨A6, c6, rfl, hk6⟩, hB⟩
      case measure => simp [intOf]; omega
    · obtain rfl : k = r.ps.length := by omega
      obtain ⟨K1, hK1⟩ : ∃ K, K = fiF d r.ps kl r.ps.length := ⟨_, rfl⟩
      have HR : Hid (fiS (d + 1) r kl = addS r K1) := Lib.hid (by rw [fiS, hK1, fiF_all])
      rw [← hK1] at hk5 ⊢
      clear hK1
      have b0 := below_cell hB HB0.out
      have b2 := below_cell hB HB2.out
      have HKL := Lib.hid (show (addS r K1).length ≤ 1048576 by rw [← HR.out]; have := HFL.out; have := HN.out; omega)
      have hD2 : ∃ D', D = D' + 1 := ⟨D - 1, by omega⟩
      obtain ⟨D', hD'⟩ := hD2
      subst hD'
      obtain ⟨Y, hY⟩ : ∃ Y, Y = wr.alloc (.cells #[.int .i64 9, .int .i64 0, .string r.s, .slice A r.ps.length c] 28) := ⟨_, rfl⟩
      obtain ⟨gy, hgy⟩ : ∃ g, g = wr.heap.size := ⟨_, rfl⟩
      have hbY : Below wr.heap.size wr Y := by rw [hY]; (repeat (first | exact Below.refl _ _ | refine ext_alloc ?_ _ | refine Below.setCell ?_ (by simp) _))
      have y0 : Y.cell? ⟨gy, 0, none⟩ = some (.int .i64 9) := by rw [hY, hgy]; exact box_cell _ _ _ 0 _ rfl
      have y1 : Y.cell? ⟨gy, 1, none⟩ = some (.int .i64 0) := by rw [hY, hgy]; exact box_cell _ _ _ 1 _ rfl
      have y2 : Y.cell? ⟨gy, 2, none⟩ = some (.string r.s) := by rw [hY, hgy]; exact box_cell _ _ _ 2 _ rfl
      have y3 : Y.cell? ⟨gy, 3, none⟩ = some (.slice A r.ps.length c) := by rw [hY, hgy]; exact box_cell _ _ _ 3 _ rfl
      have a0 : (wr.alloc (.cells #[.int .i64 9, .int .i64 0, .string r.s, .slice A r.ps.length c] 28)).cell? ⟨gx, 0, none⟩ = some (.int .i64 r.k) := by rw [← hY]; exact below_cell hbY b0
      have hk6 := hk5.below hbY
      have hU6 := (hUW.below hB).below hbY
      have hB6 := ext_trans hB hbY
      have HY := Lib.hid hY
      have HGY := Lib.hid hgy
      have HK6 := Lib.hid hk6
      have HU6 := Lib.hid hU6
      clear hY hgy hk6 hU6 hbY hlt
      by_cases h8 : r.k = 8
      · have e8 : (r.k == 8) = true := by simp [h8]
        obtain ⟨y, hy⟩ : ∃ y, hasB K1 (asHas0 r) = y := ⟨_, rfl⟩
        have hcon : Calls Try.prog 120 #[.slice A5 K1.length c5, .agg #[.int .i64 9, .int .i64 0, .string r.s, .slice A r.ps.length c]] Y fun e w' => e = .returned (.bool y) ∧ Below Y.heap.size Y w' := by
          have h := specHas_any (D := D') (l := K1) (r := asHas0 r) (A := A5) (A' := A) (c := c5) (c' := c) (w := Y) HK6.out (exS.deeper HU6.out (by omega))
          rw [hy] at h
          exact h
        have HCON := Lib.hid hcon
        cases y
        · have HR2 : Hid (addS r K1 = K1 ++ [asHas0 r]) := Lib.hid (by rw [addS, if_pos ⟨h8, hy⟩])
          rw [HR2.out] at HKL
          clear hcon hy h8
          go_wp2_with fail
          rw [← HY.out, ← HGY.out]
          refine HCON.out.mono ?_
          rintro e w5 ⟨rfl, hb⟩
          replace hB := ext_trans hB6 hb
          replace y0 := below_cell hb y0
          replace y1 := below_cell hb y1
          replace y2 := below_cell hb y2
          replace y3 := below_cell hb y3
          have hK5 := HK6.out.below hb
          have hU5 := exS.deeper (HU6.out.below hb) (show d ≤ D' by omega)
          clear hb a0 b0 b2 b3
          go_wp2_with fail
          refine wp_region_kinds2 (fun i wz vz => match i with | 0 => FrB w5.heap.size 28 0 #[] wz vz | 1 => vz = .slice A5 K1.length c5 | 2 => OwnE (D' + 1) w5.heap.size w5.heap.size K1 wz vz | 3 => vz = .agg #[.int .i64 9, .int .i64 0, .string r.s, .slice A r.ps.length c] | 4 => FrB w5.heap.size 28 1 #[.int .i64 9, .int .i64 0, .string r.s, .slice A r.ps.length c] wz vz | 5 => OwnE (D' + 1) w5.heap.size w5.heap.size (K1 ++ [asHas0 r]) wz vz | 6 => OwnE (D' + 1) w5.heap.size w5.heap.size (K1 ++ [asHas0 r]) wz vz | _ => True) (fun _ wz => Below w5.heap.size w5 wz) (fun i w w' => Below (if i = 5 then w5.heap.size else w.heap.size) w w') (fun j => match j with | 0 => some 5 | 2 => some 5 | 4 => some 5 | _ => Option.none) (by kernel_rfl) (by kernel_rfl) (by kernel_rfl) ?stab7 (ext_drew (Below.refl _ _)) ?all7 ?fin7
          case stab7 =>
            intro i j wa wb v hR hk hne hd _ h2 hT
            match j, hk, hne, hd, h2, hT with
            | 0, hk, hne, hd, h2, hT => exact FrB.below hT (rel_un (fun e => hk (by subst e; rfl)) hR)
            | 1, hk, hne, hd, h2, hT => exact hT
            | 2, hk, hne, hd, h2, hT => exact OwnE.below hT (rel_un (fun e => hk (by subst e; rfl)) hR)
            | 3, hk, hne, hd, h2, hT => exact hT
            | 4, hk, hne, hd, h2, hT => exact FrB.below hT (rel_un (fun e => hk (by subst e; rfl)) hR)
            | 5, hk, hne, hd, h2, hT => exact OwnE.below hT (rel_un (fun e => hne e.symm) hR)
            | 6, hk, hne, hd, h2, hT => exact OwnE.below hT (rel_un (fun e => by subst e; exact Bool.noConfusion (hd.symm.trans (show depB _ 6 5 = true from by kernel_rfl))) hR)
            | n + 7, _, _, _, _, _ => trivial
          case all7 =>
            refine RAll.cons rfl ?_ (RAll.cons rfl ?_ (RAll.cons rfl ?_ (RAll.cons rfl ?_ (RAll.cons rfl ?_ (RAll.cons rfl ?_ (RAll.cons rfl ?_ (RAll.none_)))))))
            · intro a k wa K Q _ hI hp hK
              go_simp
              exact hK _ _ ⟨_, rfl, hI.size, heap_alloc_new _ _⟩ (rel_ne (by decide) (below_alloc _ _)) (ext_alloc hI _)
            · intro a k wa K Q _ hI hp hK
              exact op_move _ (.inl rfl) (hK _ _ (hp.keep 1 (by kernel_rfl)) (Below.refl _ _) hI)
            · intro a k wa K Q _ hI hp hK
              have t35 : FrB w5.heap.size 28 0 #[] wa (a.eval (.tmp 35)) := hp.dep 0 35 (by kernel_rfl)
              have e36 := tmp_of (show a.eval (.tmp 36) = .slice A5 K1.length c5 from hp.dep 1 36 (by kernel_rfl))
              refine op_append_emptyG (R := exR (D' + 1) 0 w5.heap.size) (l := K1) (B := w5.heap.size) (.tmp 35) (.tmp 36) 26 28 _ 4 56 rfl Try.underlying26 Try.infoExpr rfl (by decide) t35 (hp.dep 1 36 (by kernel_rfl)) (exS.below hK5 (Nat.le_refl _) hI).1 (fun w' hb a cs h => exR.below h hI.size hb) hI.size (by have := HKL.out; simp at this; omega) (by have := HKL.out; simp at this; omega) ?_
              intro v' wb ho' hb
              exact hK _ _ ⟨⟨Nat.le_trans hI.size hb.size, Nat.le_refl _⟩, ho'⟩ (rel_ne (by decide) hb) (ext_trans hI hb)
            · intro a k wa K Q _ hI hp hK
              have e6 := tmp_of (show a.eval (.tmp 6) = .pointer (some ⟨gy, 0, none⟩) from hp.keep 6 (by kernel_rfl))
              have y0_ := below_cell hI y0
              have y1_ := below_cell hI y1
              have y2_ := below_cell hI y2
              have y3_ := below_cell hI y3
              go_simp
              exact hK _ _ rfl (Below.refl _ _) hI
            · intro a k wa K Q _ hI hp hK
              have e38 := tmp_of (show a.eval (.tmp 38) = .agg #[.int .i64 9, .int .i64 0, .string r.s, .slice A r.ps.length c] from hp.dep 3 38 (by kernel_rfl))
              go_simp
              exact hK _ _ ⟨_, rfl, hI.size, heap_alloc_new _ _⟩ (rel_ne (by decide) (below_alloc _ _)) (ext_alloc hI _)
            · intro a k wa K Q _ hI hp hK
              have t37 : OwnE (D' + 1) w5.heap.size w5.heap.size K1 wa (a.eval (.tmp 37)) := hp.dep 2 37 (by kernel_rfl)
              have t39 : FrB w5.heap.size 28 1 #[.int .i64 9, .int .i64 0, .string r.s, .slice A r.ps.length c] wa (a.eval (.tmp 39)) := hp.dep 4 39 (by kernel_rfl)
              have hM := t37.2
              obtain ⟨A9, c9, e39, hr9⟩ := ((OwnE.one (t := asHas0 r) (exS.below hU5 (Nat.le_refl _) hI) hs (Nat.le_refl _) hI.size t39)).2.rd (by simp)
              refine op_appendG (R := exR (D' + 1) 0 w5.heap.size) (l := K1) (l2 := [asHas0 r]) (.tmp 37) (.tmp 39) 26 28 _ 4 56 rfl Try.underlying26 Try.infoExpr rfl (by decide) (fun a cs h => exR.one h) rfl hM e39 hr9 (fun w' hg a cs h => exR.row hI.size hg (fun k hk => (hM.ge k hk).1) h) (by have := HKL.out; simp at this; simp; omega) (by have := HKL.out; simp at this; simp; omega) hI.size ?_
              intro v' wb ho' hb' hgr _
              exact hK _ _ ⟨⟨Nat.le_trans hI.size hb'.size, Nat.le_refl _⟩, ho'⟩ (rel_eq rfl hb') (hI.trans hb')
            · intro a k wa K Q _ hI hp hK
              exact op_move _ (.inr rfl) (hK _ _ (hp.dep 5 40 (by kernel_rfl)) (Below.refl _ _) hI)
          case fin7 =>
            intro f w9 hT hI0
            have hI : Below w5.heap.size w5 w9 := hI0
            have hr6 : OwnE (D' + 1) w5.heap.size w5.heap.size (K1 ++ [asHas0 r]) w9 (f 6) := hT 6 (by decide) rfl rfl
            clear hT hI0
            obtain ⟨A6, c6, e6, h6⟩ := hr6.rd (by have := HKL.out; omega)
            simp only [putAll, e6]
            go_simp
            go_wp2
            go_ret
            rw [HR.out, HR2.out]
            exact ⟨A6, c6, by simp, h6, ext_trans HBW.out (ext_trans hB hI)⟩
        · have HR2 : Hid (addS r K1 = K1) := Lib.hid (by rw [addS, if_neg (fun h => by rw [hy] at h; cases h.2)])
          clear hcon hy h8
          go_wp2_with fail
          rw [← HY.out, ← HGY.out]
          refine HCON.out.mono ?_
          rintro e w5 ⟨rfl, hb⟩
          replace hB := ext_trans hB6 hb
          have hK5 := HK6.out.below hb
          clear hb a0 b0 b2 b3 y0 y1 y2 y3
          go_wp2
          go_ret
          rw [HR.out, HR2.out]
          exact ⟨A5, c5, rfl, hK5, ext_trans HBW.out hB⟩
      · have e8 : (r.k == 8) = false := by simp [h8]
        have HR2 : Hid (addS r K1 = K1) := Lib.hid (by rw [addS, if_neg (fun h => h8 h.1)])
        clear h8
        go_wp2
        go_ret
        rw [HR.out, HR2.out]
        rw [← HY.out]
        exact ⟨A5, c5, rfl, HK6.out, ext_trans HBW.out hB6⟩
theorem fiQ_all (D : Nat) : ∀ d, FiQ d D
  | 0 => fiQ_of (fun m h => by cases h)
  | d + 1 => fiQ_of (fun m h => by cases h; exact fiQ_all D d)
end Go.Proofs.Ytodjokdaofefdaa

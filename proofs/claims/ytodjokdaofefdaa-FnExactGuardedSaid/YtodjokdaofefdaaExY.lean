/- Expressions: sizes of valid ones: the program's walk. -/
import Derived.Test.YtodjokdaofefdaaExW
namespace Go.Proofs.Ytodjokdaofefdaa
set_option linter.unusedSimpArgs false
set_option linter.unusedVariables false
open Go.RowKit

def SeQ (m : Nat) : Prop := ∀ (d : Nat) (A : Option Addr) (r : Ex) (c : Nat) (w : World), exW d w A r.ps → r.s.size ≤ 9223372036854775807 →
  Calls Try.prog 87 #[.agg #[.int .i64 r.k, .int .i64 r.n, .string r.s, .slice A r.ps.length c], .int .i64 (m : Int)] w fun e w' => e = .returned (.int .i64 (szE m r)) ∧ Below w.heap.size w w'
theorem str_isEmpty (s : ByteArray) : s.toList.isEmpty = decide (s = ByteArray.empty) := by
  have h0 : ByteArray.empty.toList = [] := by first | (unfold ByteArray.toList ByteArray.toList.loop; simp; done) | (simp [ByteArray.toList, ByteArray.toList.loop]; done) | kernel_rfl | decide +kernel
  rw [Bool.eq_iff_iff, List.isEmpty_iff, decide_eq_true_eq, ← h0]
  exact str_eq
theorem szE_no {m k : Nat} {r : Ex} (hk : k < r.ps.length) (h : szE m (exAt r.ps k) = 0) : szE (m + 1) r = 0 := by
  rw [szE, if_neg]
  intro h2
  have h3 := List.all_eq_true.1 (Bool.and_eq_true_iff.1 h2).2 _ (List.getElem_mem hk)
  rw [← exAt_eq hk, h] at h3
  simp at h3
theorem szE_yes {m : Nat} {r : Ex} (g : headB r = true) (h : ∀ j, j < r.ps.length → szE m (exAt r.ps j) ≠ 0) : szE (m + 1) r = 1 + (r.ps.map (szE m)).sum := by
  rw [szE, if_pos]
  rw [g, Bool.true_and, List.all_eq_true]
  intro p hp
  obtain ⟨j, hj, rfl⟩ := List.getElem_of_mem hp
  have := h j hj
  rw [exAt_eq hj] at this
  simpa using this
theorem szE_sum {m : Nat} (hm : m < 7) (l : ExL) : (l.map (szE m)).sum ≤ l.length * 127 := by
  have h2 : (2 : Nat) ^ m ≤ 2 ^ 7 := Nat.pow_le_pow_right (by omega) (by omega)
  induction l with
  | nil => simp
  | cons a l ihl =>
    have := szE_lt m a
    simp only [List.map_cons, List.sum_cons, List.length_cons, Nat.succ_mul]
    omega
theorem sum_take {m : Nat} {l : ExL} {k : Nat} (hk : k < l.length) : ((l.take (k + 1)).map (szE m)).sum = ((l.take k).map (szE m)).sum + szE m (exAt l k) := by
  rw [List.take_succ_eq_append_getElem hk, List.map_append, List.sum_append, exAt_eq hk]; simp
theorem implNameValid_v {s : ByteArray} {b : Bool} (hb : nmOk s = b) (hs : s.size ≤ 9223372036854775807) (w : World) :
    Calls Try.prog 70 #[.string s] w fun e w' => e = .returned (.bool b) ∧ Below w.heap.size w w' := hb ▸ implNameValid s hs w
set_option maxRecDepth 100000 in
set_option maxHeartbeats 4000000 in
theorem seQ_succ {m : Nat} (hm : m < 7) (hQ : SeQ m) : SeQ (m + 1) := by
  intro d A r c w hU hs
  have hl := exS.len hU
  have HQ := Lib.hid hQ
  clear hQ
  obtain ⟨W, hW⟩ : ∃ W, W = w.alloc (.cells #[.int .i64 r.k, .int .i64 r.n, .string r.s, .slice A r.ps.length c] 28) := ⟨_, rfl⟩
  have hBW : Below w.heap.size w W := by rw [hW]; (repeat (first | exact Below.refl _ _ | refine ext_alloc ?_ _ | refine Below.setCell ?_ (by simp) _))
  have b0 : W.cell? ⟨w.heap.size, 0, none⟩ = some (.int .i64 r.k) := by rw [hW]; exact box_cell w _ _ 0 _ rfl
  have b1 : W.cell? ⟨w.heap.size, 1, none⟩ = some (.int .i64 r.n) := by rw [hW]; exact box_cell w _ _ 1 _ rfl
  have b2 : W.cell? ⟨w.heap.size, 2, none⟩ = some (.string r.s) := by rw [hW]; exact box_cell w _ _ 2 _ rfl
  have b3 : W.cell? ⟨w.heap.size, 3, none⟩ = some (.slice A r.ps.length c) := by rw [hW]; exact box_cell w _ _ 3 _ rfl
  have HW := Lib.hid hW
  have HBW := Lib.hid hBW
  clear hW hBW
  have hm0 : (((m + 1 : Nat) : Int) == 0) = false := by simp; omega
  have hm1 : (((m : Int) + 1) == 0) = false := by simp; omega
  rcases headCases r with ⟨g1, g0⟩ | ⟨g1, g2, g0⟩ | ⟨g1, g2, g3, g0⟩ | ⟨g1, g2, g3, g4, g0⟩ | ⟨g1, g2, g3, g4, g5, g0⟩ | ⟨g1, g2, g3, g4, g5, g0⟩ | ⟨g1, g2, g3, g4, g0⟩
  · have HZ : Hid (szE (m + 1) r = 0) := Lib.hid (by rw [szE, g0]; simp)
    clear g0
    go_enter Try.func87, Try.ntmps87
    go_wp2_with fail
    rw [← HW.out]
    refine (partsOf_any _ _).mono ?_
    rintro e w1 ⟨rfl, hB⟩
    have a0 := cell_regrown (below_cell hB b0)
    have a1 := cell_regrown (below_cell hB b1)
    have a2 := cell_regrown (below_cell hB b2)
    have a3 := cell_regrown (below_cell hB b3)
    clear b0 b1 b2 b3
    go_wp2
    refine wp_region_quiet_below (by kernel_rfl) (by kernel_rfl) ?_
    repeat (go_big_quiet_step (first | (go_at_call 55; exact Calls.regrown_of (in_any _ _ _ _)) | (go_at_call 128; exact Calls.regrown_of (greatestNumber_any _ _)) | (go_at_call 70; exact Calls.regrown_of (implNameValid _ hs _))))
    refine wpQuiet_nil ?_
    intro w2 hw'regrown
    replace hB := ext_trans hB (below_of_regrown hw'regrown (Nat.le_refl _))
    clear hw'regrown a0 a1 a2 a3
    go_wp2
    go_ret
    exact ⟨by rw [HZ.out]; rfl, ext_trans HBW.out hB⟩
  · have HZ : Hid (szE (m + 1) r = 0) := Lib.hid (by rw [szE, g0]; simp)
    clear g0
    go_enter Try.func87, Try.ntmps87
    go_wp2_with fail
    rw [← HW.out]
    refine (partsOf_any _ _).mono ?_
    rintro e w1 ⟨rfl, hB⟩
    have a0 := cell_regrown (below_cell hB b0)
    have a1 := cell_regrown (below_cell hB b1)
    have a2 := cell_regrown (below_cell hB b2)
    have a3 := cell_regrown (below_cell hB b3)
    clear b0 b1 b2 b3
    go_wp2
    refine wp_region_quiet_below (by kernel_rfl) (by kernel_rfl) ?_
    repeat (go_big_quiet_step (first | (go_at_call 55; exact Calls.regrown_of (in_any _ _ _ _)) | (go_at_call 128; exact Calls.regrown_of (greatestNumber_any _ _)) | (go_at_call 70; exact Calls.regrown_of (implNameValid _ hs _))))
    refine wpQuiet_nil ?_
    intro w2 hw'regrown
    replace hB := ext_trans hB (below_of_regrown hw'regrown (Nat.le_refl _))
    clear hw'regrown a0 a1 a2 a3
    go_wp2
    go_ret
    exact ⟨by rw [HZ.out]; rfl, ext_trans HBW.out hB⟩
  · have HZ : Hid (szE (m + 1) r = 0) := Lib.hid (by rw [szE, g0]; simp)
    have e3 : ((r.ps.length : Int) != (arK r.k : Int)) = true := by simp; omega
    have G3 := Lib.hid g3
    clear g3
    clear g0
    go_enter Try.func87, Try.ntmps87
    go_wp2_with fail
    rw [← HW.out]
    refine (partsOf_any _ _).mono ?_
    rintro e w1 ⟨rfl, hB⟩
    have a0 := cell_regrown (below_cell hB b0)
    have a1 := cell_regrown (below_cell hB b1)
    have a2 := cell_regrown (below_cell hB b2)
    have a3 := cell_regrown (below_cell hB b3)
    clear b0 b1 b2 b3
    go_wp2
    refine wp_region_quiet_below (by kernel_rfl) (by kernel_rfl) ?_
    repeat (go_big_quiet_step (first | (go_at_call 55; exact Calls.regrown_of (in_any _ _ _ _)) | (go_at_call 128; exact Calls.regrown_of (greatestNumber_any _ _)) | (go_at_call 70; exact Calls.regrown_of (implNameValid _ hs _))))
    refine wpQuiet_nil ?_
    intro w2 hw'regrown
    replace hB := ext_trans hB (below_of_regrown hw'regrown (Nat.le_refl _))
    clear hw'regrown a0 a1 a2 a3
    go_wp2
    go_ret
    exact ⟨by rw [HZ.out]; rfl, ext_trans HBW.out hB⟩
  · obtain ⟨q, hq⟩ : ∃ q, nmK r.k = q := ⟨_, rfl⟩
    have hq2 : decide (r.s = ByteArray.empty) = q := by rw [← g4, hq]
    have e3 : ((r.ps.length : Int) != (arK r.k : Int)) = false := by simp; omega
    have e5 : r.s.toList.isEmpty = q := by rw [str_isEmpty]; exact hq2
    have HQQ := Lib.hid hq
    have G3 := Lib.hid g3
    obtain ⟨x5, g5⟩ : ∃ x, nmOk r.s = x := ⟨_, rfl⟩
    clear g3 g4 hq hq2
    have HZ : Hid (szE (m + 1) r = 0) := Lib.hid (by rw [szE, g0]; simp)
    clear g0
    cases q
    · go_enter Try.func87, Try.ntmps87
      go_wp2_with fail
      rw [← HW.out]
      refine (partsOf_any _ _).mono ?_
      rintro e w1 ⟨rfl, hB⟩
      rw [HQQ.out]
      have a0 := cell_regrown (below_cell hB b0)
      have a1 := cell_regrown (below_cell hB b1)
      have a2 := cell_regrown (below_cell hB b2)
      have a3 := cell_regrown (below_cell hB b3)
      clear b0 b1 b2 b3
      go_wp2
      refine wp_region_quiet_below (by kernel_rfl) (by kernel_rfl) ?_
      repeat (go_big_quiet_step (first | (go_at_call 55; exact Calls.regrown_of (in_any _ _ _ _)) | (go_at_call 128; exact Calls.regrown_of (greatestNumber_any _ _)) | (go_at_call 70; (with_reducible exact Calls.regrown_of (implNameValid_v g5 hs _)))))
      refine wpQuiet_nil ?_
      intro w2 hw'regrown
      replace hB := ext_trans hB (below_of_regrown hw'regrown (Nat.le_refl _))
      clear hw'regrown a0 a1 a2 a3
      go_wp2
      go_ret
      exact ⟨by rw [HZ.out]; rfl, ext_trans HBW.out hB⟩
    · go_enter Try.func87, Try.ntmps87
      go_wp2_with fail
      rw [← HW.out]
      refine (partsOf_any _ _).mono ?_
      rintro e w1 ⟨rfl, hB⟩
      rw [HQQ.out]
      have a0 := cell_regrown (below_cell hB b0)
      have a1 := cell_regrown (below_cell hB b1)
      have a2 := cell_regrown (below_cell hB b2)
      have a3 := cell_regrown (below_cell hB b3)
      clear b0 b1 b2 b3
      go_wp2
      refine wp_region_quiet_below (by kernel_rfl) (by kernel_rfl) ?_
      repeat (go_big_quiet_step (first | (go_at_call 55; exact Calls.regrown_of (in_any _ _ _ _)) | (go_at_call 128; exact Calls.regrown_of (greatestNumber_any _ _)) | (go_at_call 70; (with_reducible exact Calls.regrown_of (implNameValid_v g5 hs _)))))
      refine wpQuiet_nil ?_
      intro w2 hw'regrown
      replace hB := ext_trans hB (below_of_regrown hw'regrown (Nat.le_refl _))
      clear hw'regrown a0 a1 a2 a3
      go_wp2
      go_ret
      exact ⟨by rw [HZ.out]; rfl, ext_trans HBW.out hB⟩
  · have e3 : ((r.ps.length : Int) != (arK r.k : Int)) = false := by simp; omega
    have e5 : r.s.toList.isEmpty = false := by rw [str_isEmpty]; exact g4.2
    have HQQ := Lib.hid g4.1
    have G3 := Lib.hid g3
    clear g3 g4
    have HZ : Hid (szE (m + 1) r = 0) := Lib.hid (by rw [szE, g0]; simp)
    clear g0
    go_enter Try.func87, Try.ntmps87
    go_wp2_with fail
    rw [← HW.out]
    refine (partsOf_any _ _).mono ?_
    rintro e w1 ⟨rfl, hB⟩
    rw [HQQ.out]
    have a0 := cell_regrown (below_cell hB b0)
    have a1 := cell_regrown (below_cell hB b1)
    have a2 := cell_regrown (below_cell hB b2)
    have a3 := cell_regrown (below_cell hB b3)
    clear b0 b1 b2 b3
    go_wp2
    refine wp_region_quiet_below (by kernel_rfl) (by kernel_rfl) ?_
    repeat (go_big_quiet_step (first | (go_at_call 55; exact Calls.regrown_of (in_any _ _ _ _)) | (go_at_call 128; exact Calls.regrown_of (greatestNumber_any _ _)) | (go_at_call 70; (with_reducible exact Calls.regrown_of (implNameValid_v g5 hs _)))))
    refine wpQuiet_nil ?_
    intro w2 hw'regrown
    replace hB := ext_trans hB (below_of_regrown hw'regrown (Nat.le_refl _))
    clear hw'regrown a0 a1 a2 a3
    go_wp2
    go_ret
    exact ⟨by rw [HZ.out]; rfl, ext_trans HBW.out hB⟩
  · have e3 : ((r.ps.length : Int) != (arK r.k : Int)) = false := by simp; omega
    have e5 : r.s.toList.isEmpty = false := by rw [str_isEmpty]; exact g4.2
    have HQQ := Lib.hid g4.1
    have G3 := Lib.hid g3
    clear g3 g4
    have HGH := Lib.hid g0
    have hl2 := headB_len g0
    clear g0
    go_enter Try.func87, Try.ntmps87
    go_wp2_with fail
    rw [← HW.out]
    refine (partsOf_any _ _).mono ?_
    rintro e w1 ⟨rfl, hB⟩
    rw [HQQ.out]
    have a0 := cell_regrown (below_cell hB b0)
    have a1 := cell_regrown (below_cell hB b1)
    have a2 := cell_regrown (below_cell hB b2)
    have a3 := cell_regrown (below_cell hB b3)
    clear b0 b1 b2
    go_wp2
    refine wp_region_quiet_below (by kernel_rfl) (by kernel_rfl) ?_
    repeat (go_big_quiet_step (first | (go_at_call 55; exact Calls.regrown_of (in_any _ _ _ _)) | (go_at_call 128; exact Calls.regrown_of (greatestNumber_any _ _)) | (go_at_call 70; (with_reducible exact Calls.regrown_of (implNameValid_v g5 hs _)))))
    refine wpQuiet_nil ?_
    intro w2 hw'regrown
    replace hB := ext_trans hB (below_of_regrown hw'regrown (Nat.le_refl _))
    clear hw'regrown a0 a1 a2 a3
    rw [g1, g2]
    have hB3 := below_cell hB b3
    go_wp2
    go_loopw [7, 60] (fun ov kv wr => ∃ (k s : Nat), k ≤ r.ps.length ∧ kv = .int .i64 k ∧ ov = .int .i64 ((1 + s : Nat) : Int) ∧ Hid (s = ((r.ps.take k).map (szE m)).sum) ∧ s ≤ 254 ∧ Hid (∀ j, j < k → szE m (exAt r.ps j) ≠ 0) ∧ Below W.heap.size W wr) (fun _ kv _ => r.ps.length - (intOf kv).toNat)
    case atStart => exact ⟨0, 0, Nat.zero_le _, rfl, rfl, Lib.hid rfl, by omega, Lib.hid (fun j h => by omega), hB⟩
    case round =>
      clear hB hB3
      obtain ⟨k, s, hk, rfl, rfl, HS, hs254, HG, hB⟩ := hrel
      by_cases hlt : k < r.ps.length
      · have hd : ∃ m, d = m + 1 := by
          cases d with
          | zero => have := exS.zero hU; rw [this] at hlt; simp at hlt
          | succ m => exact ⟨m, rfl⟩
        obtain ⟨dd, hdd⟩ := hd
        subst hdd
        obtain ⟨b, off, rfl, hc⟩ := (hU.below HBW.out).cells (by omega)
        obtain ⟨A1, c1, hfd, hs1, p0, p1, p2, p3⟩ := hc k hlt
        replace p0 := below_cell hB p0
        replace p1 := below_cell hB p1
        replace p2 := below_cell hB p2
        replace p3 := below_cell hB p3
        replace hfd := hfd.below hB
        have HST := Lib.hid (sum_take (m := m) hlt)
        have HTB := Lib.hid (szE_sum hm (r.ps.take (k + 1)))
        clear hc
        obtain ⟨z, hz⟩ : ∃ z, szE m (exAt r.ps k) = z := ⟨_, rfl⟩
        have HZ := Lib.hid hz
        have hzb : s + z ≤ 254 := by
          have h1 := HTB.out
          rw [HST.out, ← HS.out, hz, List.length_take] at h1
          have : min (k + 1) r.ps.length ≤ 2 := by omega
          omega
        clear hz
        go_wp2_with fail
        refine (HQ.out _ _ _ _ _ (hfd.below (by (repeat (first | exact Below.refl _ _ | refine ext_alloc ?_ _ | refine Below.setCell ?_ (by simp) _)))) hs1).mono ?_
        rintro e w4 ⟨rfl, hb⟩
        rw [HZ.out]
        replace hB := ext_trans (ext_trans hB (by (repeat (first | exact Below.refl _ _ | refine ext_alloc ?_ _ | refine Below.setCell ?_ (by simp) _)))) hb
        clear hb p0 p1 p2 p3 hfd
        by_cases h0 : z = 0
        · subst h0
          have HN := Lib.hid (szE_no hlt HZ.out)
          go_wp2
          go_ret
          exact ⟨by rw [HN.out]; rfl, ext_trans HBW.out hB⟩
        · have hz0 : ((z : Int) == 0) = false := by simp; omega
          have HN0 := Lib.hid h0
          clear h0
          go_wp2
          go_roundw
          case rel =>
            exact ⟨k + 1, s + z, by omega, by go_num, by go_num, Lib.hid (by rw [HST.out, ← HS.out, HZ.out]), hzb, Lib.hid (all_succ HG.out (by rw [HZ.out]; exact HN0.out)), hB⟩
          case measure => simp [intOf]; omega
      · obtain rfl : k = r.ps.length := by omega
        have HY := Lib.hid (szE_yes HGH.out HG.out)
        go_wp2
        go_ret
        exact ⟨by rw [HY.out, HS.out, List.take_length]; rfl, ext_trans HBW.out hB⟩
  · have e3 : ((r.ps.length : Int) != (arK r.k : Int)) = false := by simp; omega
    have e5 : r.s.toList.isEmpty = true := by rw [str_isEmpty]; exact g4.2
    have HQQ := Lib.hid g4.1
    have G3 := Lib.hid g3
    obtain ⟨x5, g5⟩ : ∃ x, nmOk r.s = x := ⟨_, rfl⟩
    clear g3 g4
    have HGH := Lib.hid g0
    have hl2 := headB_len g0
    clear g0
    go_enter Try.func87, Try.ntmps87
    go_wp2_with fail
    rw [← HW.out]
    refine (partsOf_any _ _).mono ?_
    rintro e w1 ⟨rfl, hB⟩
    rw [HQQ.out]
    have a0 := cell_regrown (below_cell hB b0)
    have a1 := cell_regrown (below_cell hB b1)
    have a2 := cell_regrown (below_cell hB b2)
    have a3 := cell_regrown (below_cell hB b3)
    clear b0 b1 b2
    go_wp2
    refine wp_region_quiet_below (by kernel_rfl) (by kernel_rfl) ?_
    repeat (go_big_quiet_step (first | (go_at_call 55; exact Calls.regrown_of (in_any _ _ _ _)) | (go_at_call 128; exact Calls.regrown_of (greatestNumber_any _ _)) | (go_at_call 70; (with_reducible exact Calls.regrown_of (implNameValid_v g5 hs _)))))
    refine wpQuiet_nil ?_
    intro w2 hw'regrown
    replace hB := ext_trans hB (below_of_regrown hw'regrown (Nat.le_refl _))
    clear hw'regrown a0 a1 a2 a3
    rw [g1, g2]
    have hB3 := below_cell hB b3
    go_wp2
    go_loopw [7, 60] (fun ov kv wr => ∃ (k s : Nat), k ≤ r.ps.length ∧ kv = .int .i64 k ∧ ov = .int .i64 ((1 + s : Nat) : Int) ∧ Hid (s = ((r.ps.take k).map (szE m)).sum) ∧ s ≤ 254 ∧ Hid (∀ j, j < k → szE m (exAt r.ps j) ≠ 0) ∧ Below W.heap.size W wr) (fun _ kv _ => r.ps.length - (intOf kv).toNat)
    case atStart => exact ⟨0, 0, Nat.zero_le _, rfl, rfl, Lib.hid rfl, by omega, Lib.hid (fun j h => by omega), hB⟩
    case round =>
      clear hB hB3
      obtain ⟨k, s, hk, rfl, rfl, HS, hs254, HG, hB⟩ := hrel
      by_cases hlt : k < r.ps.length
      · have hd : ∃ m, d = m + 1 := by
          cases d with
          | zero => have := exS.zero hU; rw [this] at hlt; simp at hlt
          | succ m => exact ⟨m, rfl⟩
        obtain ⟨dd, hdd⟩ := hd
        subst hdd
        obtain ⟨b, off, rfl, hc⟩ := (hU.below HBW.out).cells (by omega)
        obtain ⟨A1, c1, hfd, hs1, p0, p1, p2, p3⟩ := hc k hlt
        replace p0 := below_cell hB p0
        replace p1 := below_cell hB p1
        replace p2 := below_cell hB p2
        replace p3 := below_cell hB p3
        replace hfd := hfd.below hB
        have HST := Lib.hid (sum_take (m := m) hlt)
        have HTB := Lib.hid (szE_sum hm (r.ps.take (k + 1)))
        clear hc
        obtain ⟨z, hz⟩ : ∃ z, szE m (exAt r.ps k) = z := ⟨_, rfl⟩
        have HZ := Lib.hid hz
        have hzb : s + z ≤ 254 := by
          have h1 := HTB.out
          rw [HST.out, ← HS.out, hz, List.length_take] at h1
          have : min (k + 1) r.ps.length ≤ 2 := by omega
          omega
        clear hz
        go_wp2_with fail
        refine (HQ.out _ _ _ _ _ (hfd.below (by (repeat (first | exact Below.refl _ _ | refine ext_alloc ?_ _ | refine Below.setCell ?_ (by simp) _)))) hs1).mono ?_
        rintro e w4 ⟨rfl, hb⟩
        rw [HZ.out]
        replace hB := ext_trans (ext_trans hB (by (repeat (first | exact Below.refl _ _ | refine ext_alloc ?_ _ | refine Below.setCell ?_ (by simp) _)))) hb
        clear hb p0 p1 p2 p3 hfd
        by_cases h0 : z = 0
        · subst h0
          have HN := Lib.hid (szE_no hlt HZ.out)
          go_wp2
          go_ret
          exact ⟨by rw [HN.out]; rfl, ext_trans HBW.out hB⟩
        · have hz0 : ((z : Int) == 0) = false := by simp; omega
          have HN0 := Lib.hid h0
          clear h0
          go_wp2
          go_roundw
          case rel =>
            exact ⟨k + 1, s + z, by omega, by go_num, by go_num, Lib.hid (by rw [HST.out, ← HS.out, HZ.out]), hzb, Lib.hid (all_succ HG.out (by rw [HZ.out]; exact HN0.out)), hB⟩
          case measure => simp [intOf]; omega
      · obtain rfl : k = r.ps.length := by omega
        have HY := Lib.hid (szE_yes HGH.out HG.out)
        go_wp2
        go_ret
        exact ⟨by rw [HY.out, HS.out, List.take_length]; rfl, ext_trans HBW.out hB⟩
set_option maxRecDepth 100000 in
set_option maxHeartbeats 4000000 in
theorem seQ_zero : SeQ 0 := by
  intro d A r c w hU hs
  have hl := exS.len hU
  obtain ⟨W, hW⟩ : ∃ W, W = w.alloc (.cells #[.int .i64 r.k, .int .i64 r.n, .string r.s, .slice A r.ps.length c] 28) := ⟨_, rfl⟩
  have hBW : Below w.heap.size w W := by rw [hW]; (repeat (first | exact Below.refl _ _ | refine ext_alloc ?_ _ | refine Below.setCell ?_ (by simp) _))
  have b0 : W.cell? ⟨w.heap.size, 0, none⟩ = some (.int .i64 r.k) := by rw [hW]; exact box_cell w _ _ 0 _ rfl
  have HW := Lib.hid hW
  clear hW
  go_enter Try.func87, Try.ntmps87
  go_wp2_with fail
  rw [← HW.out]
  refine (partsOf_any _ _).mono ?_
  rintro e w1 ⟨rfl, hB⟩
  go_wp2
  refine wp_region_quiet_below (by kernel_rfl) (by kernel_rfl) ?_
  repeat (go_big_quiet_step (fail))
  refine wpQuiet_nil ?_
  intro w2 hw'regrown
  replace hB := ext_trans hB (below_of_regrown hw'regrown (Nat.le_refl _))
  clear hw'regrown
  go_wp2
  go_ret
  exact ⟨rfl, ext_trans hBW hB⟩
theorem seQ_all : ∀ m, m ≤ 7 → SeQ m
  | 0, _ => seQ_zero
  | m + 1, h => seQ_succ (by omega) (seQ_all m (by omega))
end Go.Proofs.Ytodjokdaofefdaa

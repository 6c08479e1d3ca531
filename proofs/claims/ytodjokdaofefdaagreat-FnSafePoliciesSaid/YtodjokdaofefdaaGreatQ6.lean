/- spec.NameValid of any text (the same text stands in XRoA: never import both). -/
import Derived.Test.YtodjokdaofefdaaGreatQ2
import Derived.Test.YtodjokdaofefdaaGreatQ3
namespace Go.Proofs.YtodjokdaofefdaaGreat
set_option linter.unusedSimpArgs false
set_option linter.unusedVariables false
open Go.RowKit

set_option maxHeartbeats 1000000 in
theorem specNameValid (s : ByteArray) (hs : s.size ≤ 9223372036854775807) (w : World) :
    Calls Tryz.prog 69 #[.string s] w fun e w' => e = .returned (.bool (nmOk s)) ∧ Below w.heap.size w w' := by
  go_enter Tryz.func69, Tryz.ntmps69
  go_wp2
  go_loopw [3] (fun i wr => ∃ k : Nat, k ≤ s.size ∧ i = .int .i64 k ∧ (∀ j, j < k → nmGood s j = true) ∧ Below w.heap.size w wr) (fun i _ => s.size - (intOf i).toNat)
  case atStart => exact ⟨0, Nat.zero_le _, rfl, fun j h => by omega, Below.refl _ _⟩
  case round =>
    obtain ⟨k, hk, rfl, hgood, hB⟩ := hrel
    have HG := Lib.hid hgood
    clear hgood
    by_cases hlt : k < s.size
    · have hx := byteAt_of hlt
      by_cases h1 : ((s[k]'hlt).toNat : Int) < 97
      · go_wp2
        go_ret
        exact ⟨ret_bool (nmOk_no hlt (by rw [nmGood, inB_false]; omega)), hB⟩
      · by_cases h2 : 122 < ((s[k]'hlt).toNat : Int)
        · go_wp2
          go_ret
          exact ⟨ret_bool (nmOk_no hlt (by rw [nmGood, inB_false]; omega)), hB⟩
        · go_wp2
          go_roundw
          case rel => exact ⟨k + 1, by omega, by go_num, all_succ HG.out (by rw [nmGood, inB_true]; omega), hB⟩
          case measure => simp [intOf]; omega
    · obtain rfl : k = s.size := by omega
      go_wp2_with fail
      refine (l1In_any _ _ _ _).mono ?_
      rintro e w2 ⟨rfl, hB2⟩
      go_wp2
      go_ret
      exact ⟨ret_bool (nmOk_yes HG.out).symm, ext_trans hB hB2⟩
end Go.Proofs.YtodjokdaofefdaaGreat
/- Expressions: goodness, by the reference: cases. Printed by gen_good.py. -/
namespace Go.Proofs.YtodjokdaofefdaaGreat
set_option linter.unusedSimpArgs false
set_option linter.unusedVariables false
open Go.RowKit

def goodB (d : Nat) (r : Ex) : Bool := headB r && r.ps.all (gdR d)
def GoQ (d : Nat) : Prop := ∀ (A : Option Addr) (r : Ex) (c : Nat) (w : World), exW d w A r.ps → r.s.size ≤ 9223372036854775807 →
  Calls Tryz.prog 61 #[.agg #[.int .i64 r.k, .int .i64 r.n, .string r.s, .slice A r.ps.length c]] w fun e w' => e = .returned (.bool (goodB d r)) ∧ Below w.heap.size w w'
theorem l4Parts_v {k : Int} {q : Int} (h : arS k = q) (w : World) :
    Calls Tryz.prog 78 #[.int .i64 k] w fun e w' => e = .returned (.int .i64 q) ∧ Below w.heap.size w w' := h ▸ l4Parts_any k w
theorem specNameValid_v {s : ByteArray} {b : Bool} (hb : nmOk s = b) (hs : s.size ≤ 9223372036854775807) (w : World) :
    Calls Tryz.prog 69 #[.string s] w fun e w' => e = .returned (.bool b) ∧ Below w.heap.size w w' := hb ▸ specNameValid s hs w
theorem goodB_no {d : Nat} {r : Ex} {k : Nat} (hk : k < r.ps.length) (h : gdR d (exAt r.ps k) = false) : goodB d r = false := by
  rw [goodB, Bool.and_eq_false_iff]
  right
  rw [List.all_eq_false]
  exact ⟨_, List.getElem_mem hk, by rw [← exAt_eq hk, h]; simp⟩
theorem goodB_yes {d : Nat} {r : Ex} (g : headB r = true) (h : ∀ j, j < r.ps.length → gdR d (exAt r.ps j) = true) : goodB d r = true := by
  rw [goodB, g, Bool.true_and, List.all_eq_true]
  intro p hp
  obtain ⟨j, hj, rfl⟩ := List.getElem_of_mem hp
  have := h j hj
  rwa [exAt_eq hj] at this
/-- Where a head stops being a valid one, by the reference. -/
theorem specCases (t : Ex) {m q : Int} {nm x5 : Bool} (hm : mostK t.k = m) (hn : nmK t.k = nm) (hq : arS t.k = q) (h5 : nmOk t.s = x5) :
    (((t.ps.length : Int) != q) = true ∧ headB t = false) ∨
    (((t.ps.length : Int) != q) = false ∧ inB t.n 0 m = false ∧ headB t = false) ∨
    (((t.ps.length : Int) != q) = false ∧ inB t.n 0 m = true ∧ t.s.toList.isEmpty = nm ∧ headB t = false) ∨
    (((t.ps.length : Int) != q) = false ∧ inB t.n 0 m = true ∧ nm = true ∧ t.s.toList.isEmpty = false ∧ false = x5 ∧ headB t = false) ∨
    (((t.ps.length : Int) != q) = false ∧ inB t.n 0 m = true ∧ t.s.toList.isEmpty = (!nm) ∧ (nm = true → true = x5) ∧ headB t = true) := by
  rw [str_isEmpty, ← hm, ← hn, ← hq, ← h5]
  unfold headB arS
  cases hi : inB t.k 1 15
  · left; refine ⟨?_, by simp⟩; simp <;> omega
  · by_cases hl : t.ps.length = arK t.k
    · right
      have e : ((t.ps.length : Int) != (if true = true then (arK t.k : Int) else -1)) = false := by simp [hl]
      cases inB t.n 0 (mostK t.k) <;> cases nmK t.k <;> cases decide (t.s = ByteArray.empty) <;> cases nmOk t.s <;> simp [hl]
    · left
      refine ⟨?_, by simp [hl]⟩
      simp only [if_true, bne_iff_ne, ne_eq]
      omega
end Go.Proofs.YtodjokdaofefdaaGreat
/- Expressions: goodness, by the reference: the walk at one kind. Printed by gen_good.py. -/
namespace Go.Proofs.YtodjokdaofefdaaGreat
set_option linter.unusedSimpArgs false
set_option linter.unusedVariables false
open Go.RowKit

set_option maxRecDepth 100000 in
set_option maxHeartbeats 4000000 in
theorem goQ_1 {d : Nat} (hQS : ∀ m, d = m + 1 → GoQ m) (A : Option Addr) (r : Ex) (c : Nat) (w : World) (hU : exW d w A r.ps) (hs : r.s.size ≤ 9223372036854775807) (hk : r.k = 1) :
    Calls Tryz.prog 61 #[.agg #[.int .i64 r.k, .int .i64 r.n, .string r.s, .slice A r.ps.length c]] w fun e w' => e = .returned (.bool (goodB d r)) ∧ Below w.heap.size w w' := by
  have hl := exS.len hU
  have HQS := Lib.hid hQS
  clear hQS
  obtain ⟨W, hW⟩ : ∃ W, W = w.alloc (.cells #[.int .i64 r.k, .int .i64 r.n, .string r.s, .slice A r.ps.length c] 36) := ⟨_, rfl⟩
  have hBW : Below w.heap.size w W := by rw [hW]; (repeat (first | exact Below.refl _ _ | refine ext_alloc ?_ _ | refine Below.setCell ?_ (by simp) _))
  have b0 : W.cell? ⟨w.heap.size, 0, none⟩ = some (.int .i64 r.k) := by rw [hW]; exact box_cell w _ _ 0 _ rfl
  have b1 : W.cell? ⟨w.heap.size, 1, none⟩ = some (.int .i64 r.n) := by rw [hW]; exact box_cell w _ _ 1 _ rfl
  have b2 : W.cell? ⟨w.heap.size, 2, none⟩ = some (.string r.s) := by rw [hW]; exact box_cell w _ _ 2 _ rfl
  have b3 : W.cell? ⟨w.heap.size, 3, none⟩ = some (.slice A r.ps.length c) := by rw [hW]; exact box_cell w _ _ 3 _ rfl
  have HB3 := Lib.hid b3
  replace b0 := cell_regrown b0
  replace b1 := cell_regrown b1
  replace b2 := cell_regrown b2
  replace b3 := cell_regrown b3
  have HW := Lib.hid hW
  have HBW := Lib.hid hBW
  clear hW hBW
  obtain ⟨q, hq⟩ : ∃ q, arS r.k = q := ⟨_, rfl⟩
  obtain ⟨x5, g5⟩ : ∃ x, nmOk r.s = x := ⟨_, rfl⟩
  have hm : mostK r.k = 1 := by rw [hk]; decide
  have hn : nmK r.k = false := by rw [hk]; decide
  have hcs := specCases r hm hn hq g5
  have e1 : (r.k == 1) = true := by rw [hk]; rfl
  have e2 : (r.k == 2) = false := by rw [hk]; rfl
  have e3 : (r.k == 3) = false := by rw [hk]; rfl
  have e7 : (r.k == 7) = false := by rw [hk]; rfl
  have e8 : (r.k == 8) = false := by rw [hk]; rfl
  have e9 : (r.k == 9) = false := by rw [hk]; rfl
  have HQ := Lib.hid hq
  clear hq hm hn hk
  rcases hcs with ⟨g1, gz⟩ | ⟨g1, gn, gz⟩ | ⟨g1, gn, g3, gz⟩ | ⟨g1, gn, g2, g3, g4, gz⟩ | ⟨g1, gn, g3, g4, gz⟩
  · have HZ : Hid (goodB d r = false) := Lib.hid (by rw [goodB, gz]; rfl)
    clear gz
    go_enter Tryz.func61, Tryz.ntmps61
    go_wp2
    rw [← HW.out]
    refine wp_region_quiet_below (by kernel_rfl) (by kernel_rfl) ?_
    repeat (go_big_quiet_step (first | (go_at_call 78; (with_reducible exact Calls.regrown_of (l4Parts_v HQ.out _))) | (go_at_call 23; exact Calls.regrown_of (l1In_any _ _ _ _)) | (go_at_call 69; (with_reducible exact Calls.regrown_of (specNameValid_v g5 hs _)))))
    refine wpQuiet_nil ?_
    intro w2 hw'regrown
    have hB := below_of_regrown hw'regrown (Nat.le_refl _)
    clear hw'regrown b0 b1 b2 b3
    go_wp2
    go_ret
    exact ⟨by rw [HZ.out]; rfl, ext_trans HBW.out hB⟩
  · have HZ : Hid (goodB d r = false) := Lib.hid (by rw [goodB, gz]; rfl)
    clear gz
    go_enter Tryz.func61, Tryz.ntmps61
    go_wp2
    rw [← HW.out]
    refine wp_region_quiet_below (by kernel_rfl) (by kernel_rfl) ?_
    repeat (go_big_quiet_step (first | (go_at_call 78; (with_reducible exact Calls.regrown_of (l4Parts_v HQ.out _))) | (go_at_call 23; exact Calls.regrown_of (l1In_any _ _ _ _)) | (go_at_call 69; (with_reducible exact Calls.regrown_of (specNameValid_v g5 hs _)))))
    refine wpQuiet_nil ?_
    intro w2 hw'regrown
    have hB := below_of_regrown hw'regrown (Nat.le_refl _)
    clear hw'regrown b0 b1 b2 b3
    go_wp2
    go_ret
    exact ⟨by rw [HZ.out]; rfl, ext_trans HBW.out hB⟩
  · have HZ : Hid (goodB d r = false) := Lib.hid (by rw [goodB, gz]; rfl)
    clear gz
    go_enter Tryz.func61, Tryz.ntmps61
    go_wp2
    rw [← HW.out]
    refine wp_region_quiet_below (by kernel_rfl) (by kernel_rfl) ?_
    repeat (go_big_quiet_step (first | (go_at_call 78; (with_reducible exact Calls.regrown_of (l4Parts_v HQ.out _))) | (go_at_call 23; exact Calls.regrown_of (l1In_any _ _ _ _)) | (go_at_call 69; (with_reducible exact Calls.regrown_of (specNameValid_v g5 hs _)))))
    refine wpQuiet_nil ?_
    intro w2 hw'regrown
    have hB := below_of_regrown hw'regrown (Nat.le_refl _)
    clear hw'regrown b0 b1 b2 b3
    go_wp2
    go_ret
    exact ⟨by rw [HZ.out]; rfl, ext_trans HBW.out hB⟩
  · cases g2
  · have HZ := Lib.hid gz
    clear gz
    go_enter Tryz.func61, Tryz.ntmps61
    go_wp2
    rw [← HW.out]
    refine wp_region_quiet_below (by kernel_rfl) (by kernel_rfl) ?_
    repeat (go_big_quiet_step (first | (go_at_call 78; (with_reducible exact Calls.regrown_of (l4Parts_v HQ.out _))) | (go_at_call 23; exact Calls.regrown_of (l1In_any _ _ _ _)) | (go_at_call 69; (with_reducible exact Calls.regrown_of (specNameValid_v g5 hs _)))))
    refine wpQuiet_nil ?_
    intro w2 hw'regrown
    have hB := below_of_regrown hw'regrown (Nat.le_refl _)
    clear hw'regrown b0 b1 b2 b3
    try rw [gn]
    have b3 := below_cell hB HB3.out
    go_wp2
    go_loopw [5] (fun i wr => ∃ k : Nat, k ≤ r.ps.length ∧ i = .int .i64 k ∧ Hid (∀ j, j < k → gdR d (exAt r.ps j) = true) ∧ Below W.heap.size W wr) (fun i _ => r.ps.length - (intOf i).toNat)
    case atStart => exact ⟨0, Nat.zero_le _, rfl, Lib.hid (fun j h => by omega), hB⟩
    case round =>
      clear hB b3
      obtain ⟨k, hk, rfl, HG, hB⟩ := hrel
      have b3 := below_cell hB HB3.out
      by_cases hlt : k < r.ps.length
      · have hd : ∃ m, d = m + 1 := by
          cases d with
          | zero => have := exS.zero hU; rw [this] at hlt; simp at hlt
          | succ m => exact ⟨m, rfl⟩
        obtain ⟨m, hm⟩ := hd
        subst hm
        have HQ1 := Lib.hid (HQS.out m rfl)
        obtain ⟨b, off, rfl, hc⟩ := (hU.below HBW.out).cells (by omega)
        obtain ⟨A1, c1, hfd, hs1, p0, p1, p2, p3⟩ := hc k hlt
        replace p0 := below_cell hB p0
        replace p1 := below_cell hB p1
        replace p2 := below_cell hB p2
        replace p3 := below_cell hB p3
        replace hfd := hfd.below hB
        clear hc
        have HGD := Lib.hid (show gdR (m + 1) (exAt r.ps k) = goodB m (exAt r.ps k) from rfl)
        cases g : goodB m (exAt r.ps k)
        all_goals
          rw [g] at HGD
          go_wp2_with fail
          refine (HQ1.out _ _ c1 _ hfd hs1).mono ?_
          rintro e w4 ⟨rfl, hb⟩
          rw [g]
          replace hB := ext_trans hB hb
          clear hb p0 p1 p2 p3 b3
          go_wp2
        · go_ret
          exact ⟨by rw [goodB_no hlt HGD.out]; rfl, ext_trans HBW.out hB⟩
        · go_roundw
          case rel => exact ⟨k + 1, by omega, by go_num, Lib.hid (all_succ HG.out HGD.out), hB⟩
          case measure => simp [intOf]; omega
      · obtain rfl : k = r.ps.length := by omega
        go_wp2
        go_ret
        exact ⟨by rw [goodB_yes HZ.out HG.out]; rfl, ext_trans HBW.out hB⟩
end Go.Proofs.YtodjokdaofefdaaGreat
/- Expressions: goodness, by the reference: the walk at one kind. Printed by gen_good.py. -/
namespace Go.Proofs.YtodjokdaofefdaaGreat
set_option linter.unusedSimpArgs false
set_option linter.unusedVariables false
open Go.RowKit

set_option maxRecDepth 100000 in
set_option maxHeartbeats 4000000 in
theorem goQ_2 {d : Nat} (hQS : ∀ m, d = m + 1 → GoQ m) (A : Option Addr) (r : Ex) (c : Nat) (w : World) (hU : exW d w A r.ps) (hs : r.s.size ≤ 9223372036854775807) (hk : r.k = 2) :
    Calls Tryz.prog 61 #[.agg #[.int .i64 r.k, .int .i64 r.n, .string r.s, .slice A r.ps.length c]] w fun e w' => e = .returned (.bool (goodB d r)) ∧ Below w.heap.size w w' := by
  have hl := exS.len hU
  have HQS := Lib.hid hQS
  clear hQS
  obtain ⟨W, hW⟩ : ∃ W, W = w.alloc (.cells #[.int .i64 r.k, .int .i64 r.n, .string r.s, .slice A r.ps.length c] 36) := ⟨_, rfl⟩
  have hBW : Below w.heap.size w W := by rw [hW]; (repeat (first | exact Below.refl _ _ | refine ext_alloc ?_ _ | refine Below.setCell ?_ (by simp) _))
  have b0 : W.cell? ⟨w.heap.size, 0, none⟩ = some (.int .i64 r.k) := by rw [hW]; exact box_cell w _ _ 0 _ rfl
  have b1 : W.cell? ⟨w.heap.size, 1, none⟩ = some (.int .i64 r.n) := by rw [hW]; exact box_cell w _ _ 1 _ rfl
  have b2 : W.cell? ⟨w.heap.size, 2, none⟩ = some (.string r.s) := by rw [hW]; exact box_cell w _ _ 2 _ rfl
  have b3 : W.cell? ⟨w.heap.size, 3, none⟩ = some (.slice A r.ps.length c) := by rw [hW]; exact box_cell w _ _ 3 _ rfl
  have HB3 := Lib.hid b3
  replace b0 := cell_regrown b0
  replace b1 := cell_regrown b1
  replace b2 := cell_regrown b2
  replace b3 := cell_regrown b3
  have HW := Lib.hid hW
  have HBW := Lib.hid hBW
  clear hW hBW
  obtain ⟨q, hq⟩ : ∃ q, arS r.k = q := ⟨_, rfl⟩
  obtain ⟨x5, g5⟩ : ∃ x, nmOk r.s = x := ⟨_, rfl⟩
  have hm : mostK r.k = 99 := by rw [hk]; decide
  have hn : nmK r.k = false := by rw [hk]; decide
  have hcs := specCases r hm hn hq g5
  have e1 : (r.k == 1) = false := by rw [hk]; rfl
  have e2 : (r.k == 2) = true := by rw [hk]; rfl
  have e3 : (r.k == 3) = false := by rw [hk]; rfl
  have e7 : (r.k == 7) = false := by rw [hk]; rfl
  have e8 : (r.k == 8) = false := by rw [hk]; rfl
  have e9 : (r.k == 9) = false := by rw [hk]; rfl
  have HQ := Lib.hid hq
  clear hq hm hn hk
  rcases hcs with ⟨g1, gz⟩ | ⟨g1, gn, gz⟩ | ⟨g1, gn, g3, gz⟩ | ⟨g1, gn, g2, g3, g4, gz⟩ | ⟨g1, gn, g3, g4, gz⟩
  · have HZ : Hid (goodB d r = false) := Lib.hid (by rw [goodB, gz]; rfl)
    clear gz
    go_enter Tryz.func61, Tryz.ntmps61
    go_wp2
    rw [← HW.out]
    refine wp_region_quiet_below (by kernel_rfl) (by kernel_rfl) ?_
    repeat (go_big_quiet_step (first | (go_at_call 78; (with_reducible exact Calls.regrown_of (l4Parts_v HQ.out _))) | (go_at_call 23; exact Calls.regrown_of (l1In_any _ _ _ _)) | (go_at_call 69; (with_reducible exact Calls.regrown_of (specNameValid_v g5 hs _)))))
    refine wpQuiet_nil ?_
    intro w2 hw'regrown
    have hB := below_of_regrown hw'regrown (Nat.le_refl _)
    clear hw'regrown b0 b1 b2 b3
    go_wp2
    go_ret
    exact ⟨by rw [HZ.out]; rfl, ext_trans HBW.out hB⟩
  · have HZ : Hid (goodB d r = false) := Lib.hid (by rw [goodB, gz]; rfl)
    clear gz
    go_enter Tryz.func61, Tryz.ntmps61
    go_wp2
    rw [← HW.out]
    refine wp_region_quiet_below (by kernel_rfl) (by kernel_rfl) ?_
    repeat (go_big_quiet_step (first | (go_at_call 78; (with_reducible exact Calls.regrown_of (l4Parts_v HQ.out _))) | (go_at_call 23; exact Calls.regrown_of (l1In_any _ _ _ _)) | (go_at_call 69; (with_reducible exact Calls.regrown_of (specNameValid_v g5 hs _)))))
    refine wpQuiet_nil ?_
    intro w2 hw'regrown
    have hB := below_of_regrown hw'regrown (Nat.le_refl _)
    clear hw'regrown b0 b1 b2 b3
    go_wp2
    go_ret
    exact ⟨by rw [HZ.out]; rfl, ext_trans HBW.out hB⟩
  · have HZ : Hid (goodB d r = false) := Lib.hid (by rw [goodB, gz]; rfl)
    clear gz
    go_enter Tryz.func61, Tryz.ntmps61
    go_wp2
    rw [← HW.out]
    refine wp_region_quiet_below (by kernel_rfl) (by kernel_rfl) ?_
    repeat (go_big_quiet_step (first | (go_at_call 78; (with_reducible exact Calls.regrown_of (l4Parts_v HQ.out _))) | (go_at_call 23; exact Calls.regrown_of (l1In_any _ _ _ _)) | (go_at_call 69; (with_reducible exact Calls.regrown_of (specNameValid_v g5 hs _)))))
    refine wpQuiet_nil ?_
    intro w2 hw'regrown
    have hB := below_of_regrown hw'regrown (Nat.le_refl _)
    clear hw'regrown b0 b1 b2 b3
    go_wp2
    go_ret
    exact ⟨by rw [HZ.out]; rfl, ext_trans HBW.out hB⟩
  · cases g2
  · have HZ := Lib.hid gz
    clear gz
    go_enter Tryz.func61, Tryz.ntmps61
    go_wp2
    rw [← HW.out]
    refine wp_region_quiet_below (by kernel_rfl) (by kernel_rfl) ?_
    repeat (go_big_quiet_step (first | (go_at_call 78; (with_reducible exact Calls.regrown_of (l4Parts_v HQ.out _))) | (go_at_call 23; exact Calls.regrown_of (l1In_any _ _ _ _)) | (go_at_call 69; (with_reducible exact Calls.regrown_of (specNameValid_v g5 hs _)))))
    refine wpQuiet_nil ?_
    intro w2 hw'regrown
    have hB := below_of_regrown hw'regrown (Nat.le_refl _)
    clear hw'regrown b0 b1 b2 b3
    try rw [gn]
    have b3 := below_cell hB HB3.out
    go_wp2
    go_loopw [5] (fun i wr => ∃ k : Nat, k ≤ r.ps.length ∧ i = .int .i64 k ∧ Hid (∀ j, j < k → gdR d (exAt r.ps j) = true) ∧ Below W.heap.size W wr) (fun i _ => r.ps.length - (intOf i).toNat)
    case atStart => exact ⟨0, Nat.zero_le _, rfl, Lib.hid (fun j h => by omega), hB⟩
    case round =>
      clear hB b3
      obtain ⟨k, hk, rfl, HG, hB⟩ := hrel
      have b3 := below_cell hB HB3.out
      by_cases hlt : k < r.ps.length
      · have hd : ∃ m, d = m + 1 := by
          cases d with
          | zero => have := exS.zero hU; rw [this] at hlt; simp at hlt
          | succ m => exact ⟨m, rfl⟩
        obtain ⟨m, hm⟩ := hd
        subst hm
        have HQ1 := Lib.hid (HQS.out m rfl)
        obtain ⟨b, off, rfl, hc⟩ := (hU.below HBW.out).cells (by omega)
        obtain ⟨A1, c1, hfd, hs1, p0, p1, p2, p3⟩ := hc k hlt
        replace p0 := below_cell hB p0
        replace p1 := below_cell hB p1
        replace p2 := below_cell hB p2
        replace p3 := below_cell hB p3
        replace hfd := hfd.below hB
        clear hc
        have HGD := Lib.hid (show gdR (m + 1) (exAt r.ps k) = goodB m (exAt r.ps k) from rfl)
        cases g : goodB m (exAt r.ps k)
        all_goals
          rw [g] at HGD
          go_wp2_with fail
          refine (HQ1.out _ _ c1 _ hfd hs1).mono ?_
          rintro e w4 ⟨rfl, hb⟩
          rw [g]
          replace hB := ext_trans hB hb
          clear hb p0 p1 p2 p3 b3
          go_wp2
        · go_ret
          exact ⟨by rw [goodB_no hlt HGD.out]; rfl, ext_trans HBW.out hB⟩
        · go_roundw
          case rel => exact ⟨k + 1, by omega, by go_num, Lib.hid (all_succ HG.out HGD.out), hB⟩
          case measure => simp [intOf]; omega
      · obtain rfl : k = r.ps.length := by omega
        go_wp2
        go_ret
        exact ⟨by rw [goodB_yes HZ.out HG.out]; rfl, ext_trans HBW.out hB⟩
end Go.Proofs.YtodjokdaofefdaaGreat
/- Expressions: goodness, by the reference: the walk at one kind. Printed by gen_good.py. -/
namespace Go.Proofs.YtodjokdaofefdaaGreat
set_option linter.unusedSimpArgs false
set_option linter.unusedVariables false
open Go.RowKit

set_option maxRecDepth 100000 in
set_option maxHeartbeats 4000000 in
theorem goQ_3 {d : Nat} (hQS : ∀ m, d = m + 1 → GoQ m) (A : Option Addr) (r : Ex) (c : Nat) (w : World) (hU : exW d w A r.ps) (hs : r.s.size ≤ 9223372036854775807) (hk : r.k = 3) :
    Calls Tryz.prog 61 #[.agg #[.int .i64 r.k, .int .i64 r.n, .string r.s, .slice A r.ps.length c]] w fun e w' => e = .returned (.bool (goodB d r)) ∧ Below w.heap.size w w' := by
  have hl := exS.len hU
  have HQS := Lib.hid hQS
  clear hQS
  obtain ⟨W, hW⟩ : ∃ W, W = w.alloc (.cells #[.int .i64 r.k, .int .i64 r.n, .string r.s, .slice A r.ps.length c] 36) := ⟨_, rfl⟩
  have hBW : Below w.heap.size w W := by rw [hW]; (repeat (first | exact Below.refl _ _ | refine ext_alloc ?_ _ | refine Below.setCell ?_ (by simp) _))
  have b0 : W.cell? ⟨w.heap.size, 0, none⟩ = some (.int .i64 r.k) := by rw [hW]; exact box_cell w _ _ 0 _ rfl
  have b1 : W.cell? ⟨w.heap.size, 1, none⟩ = some (.int .i64 r.n) := by rw [hW]; exact box_cell w _ _ 1 _ rfl
  have b2 : W.cell? ⟨w.heap.size, 2, none⟩ = some (.string r.s) := by rw [hW]; exact box_cell w _ _ 2 _ rfl
  have b3 : W.cell? ⟨w.heap.size, 3, none⟩ = some (.slice A r.ps.length c) := by rw [hW]; exact box_cell w _ _ 3 _ rfl
  have HB3 := Lib.hid b3
  replace b0 := cell_regrown b0
  replace b1 := cell_regrown b1
  replace b2 := cell_regrown b2
  replace b3 := cell_regrown b3
  have HW := Lib.hid hW
  have HBW := Lib.hid hBW
  clear hW hBW
  obtain ⟨q, hq⟩ : ∃ q, arS r.k = q := ⟨_, rfl⟩
  obtain ⟨x5, g5⟩ : ∃ x, nmOk r.s = x := ⟨_, rfl⟩
  have hm : mostK r.k = 6 := by rw [hk]; decide
  have hn : nmK r.k = false := by rw [hk]; decide
  have hcs := specCases r hm hn hq g5
  have e1 : (r.k == 1) = false := by rw [hk]; rfl
  have e2 : (r.k == 2) = false := by rw [hk]; rfl
  have e3 : (r.k == 3) = true := by rw [hk]; rfl
  have e7 : (r.k == 7) = false := by rw [hk]; rfl
  have e8 : (r.k == 8) = false := by rw [hk]; rfl
  have e9 : (r.k == 9) = false := by rw [hk]; rfl
  have HQ := Lib.hid hq
  clear hq hm hn hk
  rcases hcs with ⟨g1, gz⟩ | ⟨g1, gn, gz⟩ | ⟨g1, gn, g3, gz⟩ | ⟨g1, gn, g2, g3, g4, gz⟩ | ⟨g1, gn, g3, g4, gz⟩
  · have HZ : Hid (goodB d r = false) := Lib.hid (by rw [goodB, gz]; rfl)
    clear gz
    go_enter Tryz.func61, Tryz.ntmps61
    go_wp2
    rw [← HW.out]
    refine wp_region_quiet_below (by kernel_rfl) (by kernel_rfl) ?_
    repeat (go_big_quiet_step (first | (go_at_call 78; (with_reducible exact Calls.regrown_of (l4Parts_v HQ.out _))) | (go_at_call 23; exact Calls.regrown_of (l1In_any _ _ _ _)) | (go_at_call 69; (with_reducible exact Calls.regrown_of (specNameValid_v g5 hs _)))))
    refine wpQuiet_nil ?_
    intro w2 hw'regrown
    have hB := below_of_regrown hw'regrown (Nat.le_refl _)
    clear hw'regrown b0 b1 b2 b3
    go_wp2
    go_ret
    exact ⟨by rw [HZ.out]; rfl, ext_trans HBW.out hB⟩
  · have HZ : Hid (goodB d r = false) := Lib.hid (by rw [goodB, gz]; rfl)
    clear gz
    go_enter Tryz.func61, Tryz.ntmps61
    go_wp2
    rw [← HW.out]
    refine wp_region_quiet_below (by kernel_rfl) (by kernel_rfl) ?_
    repeat (go_big_quiet_step (first | (go_at_call 78; (with_reducible exact Calls.regrown_of (l4Parts_v HQ.out _))) | (go_at_call 23; exact Calls.regrown_of (l1In_any _ _ _ _)) | (go_at_call 69; (with_reducible exact Calls.regrown_of (specNameValid_v g5 hs _)))))
    refine wpQuiet_nil ?_
    intro w2 hw'regrown
    have hB := below_of_regrown hw'regrown (Nat.le_refl _)
    clear hw'regrown b0 b1 b2 b3
    go_wp2
    go_ret
    exact ⟨by rw [HZ.out]; rfl, ext_trans HBW.out hB⟩
  · have HZ : Hid (goodB d r = false) := Lib.hid (by rw [goodB, gz]; rfl)
    clear gz
    go_enter Tryz.func61, Tryz.ntmps61
    go_wp2
    rw [← HW.out]
    refine wp_region_quiet_below (by kernel_rfl) (by kernel_rfl) ?_
    repeat (go_big_quiet_step (first | (go_at_call 78; (with_reducible exact Calls.regrown_of (l4Parts_v HQ.out _))) | (go_at_call 23; exact Calls.regrown_of (l1In_any _ _ _ _)) | (go_at_call 69; (with_reducible exact Calls.regrown_of (specNameValid_v g5 hs _)))))
    refine wpQuiet_nil ?_
    intro w2 hw'regrown
    have hB := below_of_regrown hw'regrown (Nat.le_refl _)
    clear hw'regrown b0 b1 b2 b3
    go_wp2
    go_ret
    exact ⟨by rw [HZ.out]; rfl, ext_trans HBW.out hB⟩
  · cases g2
  · have HZ := Lib.hid gz
    clear gz
    go_enter Tryz.func61, Tryz.ntmps61
    go_wp2
    rw [← HW.out]
    refine wp_region_quiet_below (by kernel_rfl) (by kernel_rfl) ?_
    repeat (go_big_quiet_step (first | (go_at_call 78; (with_reducible exact Calls.regrown_of (l4Parts_v HQ.out _))) | (go_at_call 23; exact Calls.regrown_of (l1In_any _ _ _ _)) | (go_at_call 69; (with_reducible exact Calls.regrown_of (specNameValid_v g5 hs _)))))
    refine wpQuiet_nil ?_
    intro w2 hw'regrown
    have hB := below_of_regrown hw'regrown (Nat.le_refl _)
    clear hw'regrown b0 b1 b2 b3
    try rw [gn]
    have b3 := below_cell hB HB3.out
    go_wp2
    go_loopw [5] (fun i wr => ∃ k : Nat, k ≤ r.ps.length ∧ i = .int .i64 k ∧ Hid (∀ j, j < k → gdR d (exAt r.ps j) = true) ∧ Below W.heap.size W wr) (fun i _ => r.ps.length - (intOf i).toNat)
    case atStart => exact ⟨0, Nat.zero_le _, rfl, Lib.hid (fun j h => by omega), hB⟩
    case round =>
      clear hB b3
      obtain ⟨k, hk, rfl, HG, hB⟩ := hrel
      have b3 := below_cell hB HB3.out
      by_cases hlt : k < r.ps.length
      · have hd : ∃ m, d = m + 1 := by
          cases d with
          | zero => have := exS.zero hU; rw [this] at hlt; simp at hlt
          | succ m => exact ⟨m, rfl⟩
        obtain ⟨m, hm⟩ := hd
        subst hm
        have HQ1 := Lib.hid (HQS.out m rfl)
        obtain ⟨b, off, rfl, hc⟩ := (hU.below HBW.out).cells (by omega)
        obtain ⟨A1, c1, hfd, hs1, p0, p1, p2, p3⟩ := hc k hlt
        replace p0 := below_cell hB p0
        replace p1 := below_cell hB p1
        replace p2 := below_cell hB p2
        replace p3 := below_cell hB p3
        replace hfd := hfd.below hB
        clear hc
        have HGD := Lib.hid (show gdR (m + 1) (exAt r.ps k) = goodB m (exAt r.ps k) from rfl)
        cases g : goodB m (exAt r.ps k)
        all_goals
          rw [g] at HGD
          go_wp2_with fail
          refine (HQ1.out _ _ c1 _ hfd hs1).mono ?_
          rintro e w4 ⟨rfl, hb⟩
          rw [g]
          replace hB := ext_trans hB hb
          clear hb p0 p1 p2 p3 b3
          go_wp2
        · go_ret
          exact ⟨by rw [goodB_no hlt HGD.out]; rfl, ext_trans HBW.out hB⟩
        · go_roundw
          case rel => exact ⟨k + 1, by omega, by go_num, Lib.hid (all_succ HG.out HGD.out), hB⟩
          case measure => simp [intOf]; omega
      · obtain rfl : k = r.ps.length := by omega
        go_wp2
        go_ret
        exact ⟨by rw [goodB_yes HZ.out HG.out]; rfl, ext_trans HBW.out hB⟩
end Go.Proofs.YtodjokdaofefdaaGreat
/- Expressions: goodness, by the reference: the walk at one kind. Printed by gen_good.py. -/
namespace Go.Proofs.YtodjokdaofefdaaGreat
set_option linter.unusedSimpArgs false
set_option linter.unusedVariables false
open Go.RowKit

set_option maxRecDepth 100000 in
set_option maxHeartbeats 4000000 in
theorem goQ_7 {d : Nat} (hQS : ∀ m, d = m + 1 → GoQ m) (A : Option Addr) (r : Ex) (c : Nat) (w : World) (hU : exW d w A r.ps) (hs : r.s.size ≤ 9223372036854775807) (hk : r.k = 7) :
    Calls Tryz.prog 61 #[.agg #[.int .i64 r.k, .int .i64 r.n, .string r.s, .slice A r.ps.length c]] w fun e w' => e = .returned (.bool (goodB d r)) ∧ Below w.heap.size w w' := by
  have hl := exS.len hU
  have HQS := Lib.hid hQS
  clear hQS
  obtain ⟨W, hW⟩ : ∃ W, W = w.alloc (.cells #[.int .i64 r.k, .int .i64 r.n, .string r.s, .slice A r.ps.length c] 36) := ⟨_, rfl⟩
  have hBW : Below w.heap.size w W := by rw [hW]; (repeat (first | exact Below.refl _ _ | refine ext_alloc ?_ _ | refine Below.setCell ?_ (by simp) _))
  have b0 : W.cell? ⟨w.heap.size, 0, none⟩ = some (.int .i64 r.k) := by rw [hW]; exact box_cell w _ _ 0 _ rfl
  have b1 : W.cell? ⟨w.heap.size, 1, none⟩ = some (.int .i64 r.n) := by rw [hW]; exact box_cell w _ _ 1 _ rfl
  have b2 : W.cell? ⟨w.heap.size, 2, none⟩ = some (.string r.s) := by rw [hW]; exact box_cell w _ _ 2 _ rfl
  have b3 : W.cell? ⟨w.heap.size, 3, none⟩ = some (.slice A r.ps.length c) := by rw [hW]; exact box_cell w _ _ 3 _ rfl
  have HB3 := Lib.hid b3
  replace b0 := cell_regrown b0
  replace b1 := cell_regrown b1
  replace b2 := cell_regrown b2
  replace b3 := cell_regrown b3
  have HW := Lib.hid hW
  have HBW := Lib.hid hBW
  clear hW hBW
  obtain ⟨q, hq⟩ : ∃ q, arS r.k = q := ⟨_, rfl⟩
  obtain ⟨x5, g5⟩ : ∃ x, nmOk r.s = x := ⟨_, rfl⟩
  have hm : mostK r.k = 0 := by rw [hk]; decide
  have hn : nmK r.k = true := by rw [hk]; decide
  have hcs := specCases r hm hn hq g5
  have e1 : (r.k == 1) = false := by rw [hk]; rfl
  have e2 : (r.k == 2) = false := by rw [hk]; rfl
  have e3 : (r.k == 3) = false := by rw [hk]; rfl
  have e7 : (r.k == 7) = true := by rw [hk]; rfl
  have e8 : (r.k == 8) = false := by rw [hk]; rfl
  have e9 : (r.k == 9) = false := by rw [hk]; rfl
  have HQ := Lib.hid hq
  clear hq hm hn hk
  rcases hcs with ⟨g1, gz⟩ | ⟨g1, gn, gz⟩ | ⟨g1, gn, g3, gz⟩ | ⟨g1, gn, g2, g3, g4, gz⟩ | ⟨g1, gn, g3, g4, gz⟩
  · have HZ : Hid (goodB d r = false) := Lib.hid (by rw [goodB, gz]; rfl)
    clear gz
    go_enter Tryz.func61, Tryz.ntmps61
    go_wp2
    rw [← HW.out]
    refine wp_region_quiet_below (by kernel_rfl) (by kernel_rfl) ?_
    repeat (go_big_quiet_step (first | (go_at_call 78; (with_reducible exact Calls.regrown_of (l4Parts_v HQ.out _))) | (go_at_call 23; exact Calls.regrown_of (l1In_any _ _ _ _)) | (go_at_call 69; (with_reducible exact Calls.regrown_of (specNameValid_v g5 hs _)))))
    refine wpQuiet_nil ?_
    intro w2 hw'regrown
    have hB := below_of_regrown hw'regrown (Nat.le_refl _)
    clear hw'regrown b0 b1 b2 b3
    go_wp2
    go_ret
    exact ⟨by rw [HZ.out]; rfl, ext_trans HBW.out hB⟩
  · have HZ : Hid (goodB d r = false) := Lib.hid (by rw [goodB, gz]; rfl)
    clear gz
    go_enter Tryz.func61, Tryz.ntmps61
    go_wp2
    rw [← HW.out]
    refine wp_region_quiet_below (by kernel_rfl) (by kernel_rfl) ?_
    repeat (go_big_quiet_step (first | (go_at_call 78; (with_reducible exact Calls.regrown_of (l4Parts_v HQ.out _))) | (go_at_call 23; exact Calls.regrown_of (l1In_any _ _ _ _)) | (go_at_call 69; (with_reducible exact Calls.regrown_of (specNameValid_v g5 hs _)))))
    refine wpQuiet_nil ?_
    intro w2 hw'regrown
    have hB := below_of_regrown hw'regrown (Nat.le_refl _)
    clear hw'regrown b0 b1 b2 b3
    go_wp2
    go_ret
    exact ⟨by rw [HZ.out]; rfl, ext_trans HBW.out hB⟩
  · have HZ : Hid (goodB d r = false) := Lib.hid (by rw [goodB, gz]; rfl)
    clear gz
    go_enter Tryz.func61, Tryz.ntmps61
    go_wp2
    rw [← HW.out]
    refine wp_region_quiet_below (by kernel_rfl) (by kernel_rfl) ?_
    repeat (go_big_quiet_step (first | (go_at_call 78; (with_reducible exact Calls.regrown_of (l4Parts_v HQ.out _))) | (go_at_call 23; exact Calls.regrown_of (l1In_any _ _ _ _)) | (go_at_call 69; (with_reducible exact Calls.regrown_of (specNameValid_v g5 hs _)))))
    refine wpQuiet_nil ?_
    intro w2 hw'regrown
    have hB := below_of_regrown hw'regrown (Nat.le_refl _)
    clear hw'regrown b0 b1 b2 b3
    go_wp2
    go_ret
    exact ⟨by rw [HZ.out]; rfl, ext_trans HBW.out hB⟩
  · have HZ : Hid (goodB d r = false) := Lib.hid (by rw [goodB, gz]; rfl)
    clear gz
    clear g2
    subst g4
    go_enter Tryz.func61, Tryz.ntmps61
    go_wp2
    rw [← HW.out]
    refine wp_region_quiet_below (by kernel_rfl) (by kernel_rfl) ?_
    repeat (go_big_quiet_step (first | (go_at_call 78; (with_reducible exact Calls.regrown_of (l4Parts_v HQ.out _))) | (go_at_call 23; exact Calls.regrown_of (l1In_any _ _ _ _)) | (go_at_call 69; (with_reducible exact Calls.regrown_of (specNameValid_v g5 hs _)))))
    refine wpQuiet_nil ?_
    intro w2 hw'regrown
    have hB := below_of_regrown hw'regrown (Nat.le_refl _)
    clear hw'regrown b0 b1 b2 b3
    go_wp2
    go_ret
    exact ⟨by rw [HZ.out]; rfl, ext_trans HBW.out hB⟩
  · have HZ := Lib.hid gz
    clear gz
    replace g4 := g4 rfl
    subst g4
    go_enter Tryz.func61, Tryz.ntmps61
    go_wp2
    rw [← HW.out]
    refine wp_region_quiet_below (by kernel_rfl) (by kernel_rfl) ?_
    repeat (go_big_quiet_step (first | (go_at_call 78; (with_reducible exact Calls.regrown_of (l4Parts_v HQ.out _))) | (go_at_call 23; exact Calls.regrown_of (l1In_any _ _ _ _)) | (go_at_call 69; (with_reducible exact Calls.regrown_of (specNameValid_v g5 hs _)))))
    refine wpQuiet_nil ?_
    intro w2 hw'regrown
    have hB := below_of_regrown hw'regrown (Nat.le_refl _)
    clear hw'regrown b0 b1 b2 b3
    try rw [gn]
    have b3 := below_cell hB HB3.out
    go_wp2
    go_loopw [5] (fun i wr => ∃ k : Nat, k ≤ r.ps.length ∧ i = .int .i64 k ∧ Hid (∀ j, j < k → gdR d (exAt r.ps j) = true) ∧ Below W.heap.size W wr) (fun i _ => r.ps.length - (intOf i).toNat)
    case atStart => exact ⟨0, Nat.zero_le _, rfl, Lib.hid (fun j h => by omega), hB⟩
    case round =>
      clear hB b3
      obtain ⟨k, hk, rfl, HG, hB⟩ := hrel
      have b3 := below_cell hB HB3.out
      by_cases hlt : k < r.ps.length
      · have hd : ∃ m, d = m + 1 := by
          cases d with
          | zero => have := exS.zero hU; rw [this] at hlt; simp at hlt
          | succ m => exact ⟨m, rfl⟩
        obtain ⟨m, hm⟩ := hd
        subst hm
        have HQ1 := Lib.hid (HQS.out m rfl)
        obtain ⟨b, off, rfl, hc⟩ := (hU.below HBW.out).cells (by omega)
        obtain ⟨A1, c1, hfd, hs1, p0, p1, p2, p3⟩ := hc k hlt
        replace p0 := below_cell hB p0
        replace p1 := below_cell hB p1
        replace p2 := below_cell hB p2
        replace p3 := below_cell hB p3
        replace hfd := hfd.below hB
        clear hc
        have HGD := Lib.hid (show gdR (m + 1) (exAt r.ps k) = goodB m (exAt r.ps k) from rfl)
        cases g : goodB m (exAt r.ps k)
        all_goals
          rw [g] at HGD
          go_wp2_with fail
          refine (HQ1.out _ _ c1 _ hfd hs1).mono ?_
          rintro e w4 ⟨rfl, hb⟩
          rw [g]
          replace hB := ext_trans hB hb
          clear hb p0 p1 p2 p3 b3
          go_wp2
        · go_ret
          exact ⟨by rw [goodB_no hlt HGD.out]; rfl, ext_trans HBW.out hB⟩
        · go_roundw
          case rel => exact ⟨k + 1, by omega, by go_num, Lib.hid (all_succ HG.out HGD.out), hB⟩
          case measure => simp [intOf]; omega
      · obtain rfl : k = r.ps.length := by omega
        go_wp2
        go_ret
        exact ⟨by rw [goodB_yes HZ.out HG.out]; rfl, ext_trans HBW.out hB⟩
end Go.Proofs.YtodjokdaofefdaaGreat
/- Expressions: goodness, by the reference: the walk at one kind. Printed by gen_good.py. -/
namespace Go.Proofs.YtodjokdaofefdaaGreat
set_option linter.unusedSimpArgs false
set_option linter.unusedVariables false
open Go.RowKit

set_option maxRecDepth 100000 in
set_option maxHeartbeats 4000000 in
theorem goQ_8 {d : Nat} (hQS : ∀ m, d = m + 1 → GoQ m) (A : Option Addr) (r : Ex) (c : Nat) (w : World) (hU : exW d w A r.ps) (hs : r.s.size ≤ 9223372036854775807) (hk : r.k = 8) :
    Calls Tryz.prog 61 #[.agg #[.int .i64 r.k, .int .i64 r.n, .string r.s, .slice A r.ps.length c]] w fun e w' => e = .returned (.bool (goodB d r)) ∧ Below w.heap.size w w' := by
  have hl := exS.len hU
  have HQS := Lib.hid hQS
  clear hQS
  obtain ⟨W, hW⟩ : ∃ W, W = w.alloc (.cells #[.int .i64 r.k, .int .i64 r.n, .string r.s, .slice A r.ps.length c] 36) := ⟨_, rfl⟩
  have hBW : Below w.heap.size w W := by rw [hW]; (repeat (first | exact Below.refl _ _ | refine ext_alloc ?_ _ | refine Below.setCell ?_ (by simp) _))
  have b0 : W.cell? ⟨w.heap.size, 0, none⟩ = some (.int .i64 r.k) := by rw [hW]; exact box_cell w _ _ 0 _ rfl
  have b1 : W.cell? ⟨w.heap.size, 1, none⟩ = some (.int .i64 r.n) := by rw [hW]; exact box_cell w _ _ 1 _ rfl
  have b2 : W.cell? ⟨w.heap.size, 2, none⟩ = some (.string r.s) := by rw [hW]; exact box_cell w _ _ 2 _ rfl
  have b3 : W.cell? ⟨w.heap.size, 3, none⟩ = some (.slice A r.ps.length c) := by rw [hW]; exact box_cell w _ _ 3 _ rfl
  have HB3 := Lib.hid b3
  replace b0 := cell_regrown b0
  replace b1 := cell_regrown b1
  replace b2 := cell_regrown b2
  replace b3 := cell_regrown b3
  have HW := Lib.hid hW
  have HBW := Lib.hid hBW
  clear hW hBW
  obtain ⟨q, hq⟩ : ∃ q, arS r.k = q := ⟨_, rfl⟩
  obtain ⟨x5, g5⟩ : ∃ x, nmOk r.s = x := ⟨_, rfl⟩
  have hm : mostK r.k = 0 := by rw [hk]; decide
  have hn : nmK r.k = true := by rw [hk]; decide
  have hcs := specCases r hm hn hq g5
  have e1 : (r.k == 1) = false := by rw [hk]; rfl
  have e2 : (r.k == 2) = false := by rw [hk]; rfl
  have e3 : (r.k == 3) = false := by rw [hk]; rfl
  have e7 : (r.k == 7) = false := by rw [hk]; rfl
  have e8 : (r.k == 8) = true := by rw [hk]; rfl
  have e9 : (r.k == 9) = false := by rw [hk]; rfl
  have HQ := Lib.hid hq
  clear hq hm hn hk
  rcases hcs with ⟨g1, gz⟩ | ⟨g1, gn, gz⟩ | ⟨g1, gn, g3, gz⟩ | ⟨g1, gn, g2, g3, g4, gz⟩ | ⟨g1, gn, g3, g4, gz⟩
  · have HZ : Hid (goodB d r = false) := Lib.hid (by rw [goodB, gz]; rfl)
    clear gz
    go_enter Tryz.func61, Tryz.ntmps61
    go_wp2
    rw [← HW.out]
    refine wp_region_quiet_below (by kernel_rfl) (by kernel_rfl) ?_
    repeat (go_big_quiet_step (first | (go_at_call 78; (with_reducible exact Calls.regrown_of (l4Parts_v HQ.out _))) | (go_at_call 23; exact Calls.regrown_of (l1In_any _ _ _ _)) | (go_at_call 69; (with_reducible exact Calls.regrown_of (specNameValid_v g5 hs _)))))
    refine wpQuiet_nil ?_
    intro w2 hw'regrown
    have hB := below_of_regrown hw'regrown (Nat.le_refl _)
    clear hw'regrown b0 b1 b2 b3
    go_wp2
    go_ret
    exact ⟨by rw [HZ.out]; rfl, ext_trans HBW.out hB⟩
  · have HZ : Hid (goodB d r = false) := Lib.hid (by rw [goodB, gz]; rfl)
    clear gz
    go_enter Tryz.func61, Tryz.ntmps61
    go_wp2
    rw [← HW.out]
    refine wp_region_quiet_below (by kernel_rfl) (by kernel_rfl) ?_
    repeat (go_big_quiet_step (first | (go_at_call 78; (with_reducible exact Calls.regrown_of (l4Parts_v HQ.out _))) | (go_at_call 23; exact Calls.regrown_of (l1In_any _ _ _ _)) | (go_at_call 69; (with_reducible exact Calls.regrown_of (specNameValid_v g5 hs _)))))
    refine wpQuiet_nil ?_
    intro w2 hw'regrown
    have hB := below_of_regrown hw'regrown (Nat.le_refl _)
    clear hw'regrown b0 b1 b2 b3
    go_wp2
    go_ret
    exact ⟨by rw [HZ.out]; rfl, ext_trans HBW.out hB⟩
  · have HZ : Hid (goodB d r = false) := Lib.hid (by rw [goodB, gz]; rfl)
    clear gz
    go_enter Tryz.func61, Tryz.ntmps61
    go_wp2
    rw [← HW.out]
    refine wp_region_quiet_below (by kernel_rfl) (by kernel_rfl) ?_
    repeat (go_big_quiet_step (first | (go_at_call 78; (with_reducible exact Calls.regrown_of (l4Parts_v HQ.out _))) | (go_at_call 23; exact Calls.regrown_of (l1In_any _ _ _ _)) | (go_at_call 69; (with_reducible exact Calls.regrown_of (specNameValid_v g5 hs _)))))
    refine wpQuiet_nil ?_
    intro w2 hw'regrown
    have hB := below_of_regrown hw'regrown (Nat.le_refl _)
    clear hw'regrown b0 b1 b2 b3
    go_wp2
    go_ret
    exact ⟨by rw [HZ.out]; rfl, ext_trans HBW.out hB⟩
  · have HZ : Hid (goodB d r = false) := Lib.hid (by rw [goodB, gz]; rfl)
    clear gz
    clear g2
    subst g4
    go_enter Tryz.func61, Tryz.ntmps61
    go_wp2
    rw [← HW.out]
    refine wp_region_quiet_below (by kernel_rfl) (by kernel_rfl) ?_
    repeat (go_big_quiet_step (first | (go_at_call 78; (with_reducible exact Calls.regrown_of (l4Parts_v HQ.out _))) | (go_at_call 23; exact Calls.regrown_of (l1In_any _ _ _ _)) | (go_at_call 69; (with_reducible exact Calls.regrown_of (specNameValid_v g5 hs _)))))
    refine wpQuiet_nil ?_
    intro w2 hw'regrown
    have hB := below_of_regrown hw'regrown (Nat.le_refl _)
    clear hw'regrown b0 b1 b2 b3
    go_wp2
    go_ret
    exact ⟨by rw [HZ.out]; rfl, ext_trans HBW.out hB⟩
  · have HZ := Lib.hid gz
    clear gz
    replace g4 := g4 rfl
    subst g4
    go_enter Tryz.func61, Tryz.ntmps61
    go_wp2
    rw [← HW.out]
    refine wp_region_quiet_below (by kernel_rfl) (by kernel_rfl) ?_
    repeat (go_big_quiet_step (first | (go_at_call 78; (with_reducible exact Calls.regrown_of (l4Parts_v HQ.out _))) | (go_at_call 23; exact Calls.regrown_of (l1In_any _ _ _ _)) | (go_at_call 69; (with_reducible exact Calls.regrown_of (specNameValid_v g5 hs _)))))
    refine wpQuiet_nil ?_
    intro w2 hw'regrown
    have hB := below_of_regrown hw'regrown (Nat.le_refl _)
    clear hw'regrown b0 b1 b2 b3
    try rw [gn]
    have b3 := below_cell hB HB3.out
    go_wp2
    go_loopw [5] (fun i wr => ∃ k : Nat, k ≤ r.ps.length ∧ i = .int .i64 k ∧ Hid (∀ j, j < k → gdR d (exAt r.ps j) = true) ∧ Below W.heap.size W wr) (fun i _ => r.ps.length - (intOf i).toNat)
    case atStart => exact ⟨0, Nat.zero_le _, rfl, Lib.hid (fun j h => by omega), hB⟩
    case round =>
      clear hB b3
      obtain ⟨k, hk, rfl, HG, hB⟩ := hrel
      have b3 := below_cell hB HB3.out
      by_cases hlt : k < r.ps.length
      · have hd : ∃ m, d = m + 1 := by
          cases d with
          | zero => have := exS.zero hU; rw [this] at hlt; simp at hlt
          | succ m => exact ⟨m, rfl⟩
        obtain ⟨m, hm⟩ := hd
        subst hm
        have HQ1 := Lib.hid (HQS.out m rfl)
        obtain ⟨b, off, rfl, hc⟩ := (hU.below HBW.out).cells (by omega)
        obtain ⟨A1, c1, hfd, hs1, p0, p1, p2, p3⟩ := hc k hlt
        replace p0 := below_cell hB p0
        replace p1 := below_cell hB p1
        replace p2 := below_cell hB p2
        replace p3 := below_cell hB p3
        replace hfd := hfd.below hB
        clear hc
        have HGD := Lib.hid (show gdR (m + 1) (exAt r.ps k) = goodB m (exAt r.ps k) from rfl)
        cases g : goodB m (exAt r.ps k)
        all_goals
          rw [g] at HGD
          go_wp2_with fail
          refine (HQ1.out _ _ c1 _ hfd hs1).mono ?_
          rintro e w4 ⟨rfl, hb⟩
          rw [g]
          replace hB := ext_trans hB hb
          clear hb p0 p1 p2 p3 b3
          go_wp2
        · go_ret
          exact ⟨by rw [goodB_no hlt HGD.out]; rfl, ext_trans HBW.out hB⟩
        · go_roundw
          case rel => exact ⟨k + 1, by omega, by go_num, Lib.hid (all_succ HG.out HGD.out), hB⟩
          case measure => simp [intOf]; omega
      · obtain rfl : k = r.ps.length := by omega
        go_wp2
        go_ret
        exact ⟨by rw [goodB_yes HZ.out HG.out]; rfl, ext_trans HBW.out hB⟩
end Go.Proofs.YtodjokdaofefdaaGreat
/- Expressions: goodness, by the reference: the walk at one kind. Printed by gen_good.py. -/
namespace Go.Proofs.YtodjokdaofefdaaGreat
set_option linter.unusedSimpArgs false
set_option linter.unusedVariables false
open Go.RowKit

set_option maxRecDepth 100000 in
set_option maxHeartbeats 4000000 in
theorem goQ_9 {d : Nat} (hQS : ∀ m, d = m + 1 → GoQ m) (A : Option Addr) (r : Ex) (c : Nat) (w : World) (hU : exW d w A r.ps) (hs : r.s.size ≤ 9223372036854775807) (hk : r.k = 9) :
    Calls Tryz.prog 61 #[.agg #[.int .i64 r.k, .int .i64 r.n, .string r.s, .slice A r.ps.length c]] w fun e w' => e = .returned (.bool (goodB d r)) ∧ Below w.heap.size w w' := by
  have hl := exS.len hU
  have HQS := Lib.hid hQS
  clear hQS
  obtain ⟨W, hW⟩ : ∃ W, W = w.alloc (.cells #[.int .i64 r.k, .int .i64 r.n, .string r.s, .slice A r.ps.length c] 36) := ⟨_, rfl⟩
  have hBW : Below w.heap.size w W := by rw [hW]; (repeat (first | exact Below.refl _ _ | refine ext_alloc ?_ _ | refine Below.setCell ?_ (by simp) _))
  have b0 : W.cell? ⟨w.heap.size, 0, none⟩ = some (.int .i64 r.k) := by rw [hW]; exact box_cell w _ _ 0 _ rfl
  have b1 : W.cell? ⟨w.heap.size, 1, none⟩ = some (.int .i64 r.n) := by rw [hW]; exact box_cell w _ _ 1 _ rfl
  have b2 : W.cell? ⟨w.heap.size, 2, none⟩ = some (.string r.s) := by rw [hW]; exact box_cell w _ _ 2 _ rfl
  have b3 : W.cell? ⟨w.heap.size, 3, none⟩ = some (.slice A r.ps.length c) := by rw [hW]; exact box_cell w _ _ 3 _ rfl
  have HB3 := Lib.hid b3
  replace b0 := cell_regrown b0
  replace b1 := cell_regrown b1
  replace b2 := cell_regrown b2
  replace b3 := cell_regrown b3
  have HW := Lib.hid hW
  have HBW := Lib.hid hBW
  clear hW hBW
  obtain ⟨q, hq⟩ : ∃ q, arS r.k = q := ⟨_, rfl⟩
  obtain ⟨x5, g5⟩ : ∃ x, nmOk r.s = x := ⟨_, rfl⟩
  have hm : mostK r.k = 0 := by rw [hk]; decide
  have hn : nmK r.k = true := by rw [hk]; decide
  have hcs := specCases r hm hn hq g5
  have e1 : (r.k == 1) = false := by rw [hk]; rfl
  have e2 : (r.k == 2) = false := by rw [hk]; rfl
  have e3 : (r.k == 3) = false := by rw [hk]; rfl
  have e7 : (r.k == 7) = false := by rw [hk]; rfl
  have e8 : (r.k == 8) = false := by rw [hk]; rfl
  have e9 : (r.k == 9) = true := by rw [hk]; rfl
  have HQ := Lib.hid hq
  clear hq hm hn hk
  rcases hcs with ⟨g1, gz⟩ | ⟨g1, gn, gz⟩ | ⟨g1, gn, g3, gz⟩ | ⟨g1, gn, g2, g3, g4, gz⟩ | ⟨g1, gn, g3, g4, gz⟩
  · have HZ : Hid (goodB d r = false) := Lib.hid (by rw [goodB, gz]; rfl)
    clear gz
    go_enter Tryz.func61, Tryz.ntmps61
    go_wp2
    rw [← HW.out]
    refine wp_region_quiet_below (by kernel_rfl) (by kernel_rfl) ?_
    repeat (go_big_quiet_step (first | (go_at_call 78; (with_reducible exact Calls.regrown_of (l4Parts_v HQ.out _))) | (go_at_call 23; exact Calls.regrown_of (l1In_any _ _ _ _)) | (go_at_call 69; (with_reducible exact Calls.regrown_of (specNameValid_v g5 hs _)))))
    refine wpQuiet_nil ?_
    intro w2 hw'regrown
    have hB := below_of_regrown hw'regrown (Nat.le_refl _)
    clear hw'regrown b0 b1 b2 b3
    go_wp2
    go_ret
    exact ⟨by rw [HZ.out]; rfl, ext_trans HBW.out hB⟩
  · have HZ : Hid (goodB d r = false) := Lib.hid (by rw [goodB, gz]; rfl)
    clear gz
    go_enter Tryz.func61, Tryz.ntmps61
    go_wp2
    rw [← HW.out]
    refine wp_region_quiet_below (by kernel_rfl) (by kernel_rfl) ?_
    repeat (go_big_quiet_step (first | (go_at_call 78; (with_reducible exact Calls.regrown_of (l4Parts_v HQ.out _))) | (go_at_call 23; exact Calls.regrown_of (l1In_any _ _ _ _)) | (go_at_call 69; (with_reducible exact Calls.regrown_of (specNameValid_v g5 hs _)))))
    refine wpQuiet_nil ?_
    intro w2 hw'regrown
    have hB := below_of_regrown hw'regrown (Nat.le_refl _)
    clear hw'regrown b0 b1 b2 b3
    go_wp2
    go_ret
    exact ⟨by rw [HZ.out]; rfl, ext_trans HBW.out hB⟩
  · have HZ : Hid (goodB d r = false) := Lib.hid (by rw [goodB, gz]; rfl)
    clear gz
    go_enter Tryz.func61, Tryz.ntmps61
    go_wp2
    rw [← HW.out]
    refine wp_region_quiet_below (by kernel_rfl) (by kernel_rfl) ?_
    repeat (go_big_quiet_step (first | (go_at_call 78; (with_reducible exact Calls.regrown_of (l4Parts_v HQ.out _))) | (go_at_call 23; exact Calls.regrown_of (l1In_any _ _ _ _)) | (go_at_call 69; (with_reducible exact Calls.regrown_of (specNameValid_v g5 hs _)))))
    refine wpQuiet_nil ?_
    intro w2 hw'regrown
    have hB := below_of_regrown hw'regrown (Nat.le_refl _)
    clear hw'regrown b0 b1 b2 b3
    go_wp2
    go_ret
    exact ⟨by rw [HZ.out]; rfl, ext_trans HBW.out hB⟩
  · have HZ : Hid (goodB d r = false) := Lib.hid (by rw [goodB, gz]; rfl)
    clear gz
    clear g2
    subst g4
    go_enter Tryz.func61, Tryz.ntmps61
    go_wp2
    rw [← HW.out]
    refine wp_region_quiet_below (by kernel_rfl) (by kernel_rfl) ?_
    repeat (go_big_quiet_step (first | (go_at_call 78; (with_reducible exact Calls.regrown_of (l4Parts_v HQ.out _))) | (go_at_call 23; exact Calls.regrown_of (l1In_any _ _ _ _)) | (go_at_call 69; (with_reducible exact Calls.regrown_of (specNameValid_v g5 hs _)))))
    refine wpQuiet_nil ?_
    intro w2 hw'regrown
    have hB := below_of_regrown hw'regrown (Nat.le_refl _)
    clear hw'regrown b0 b1 b2 b3
    go_wp2
    go_ret
    exact ⟨by rw [HZ.out]; rfl, ext_trans HBW.out hB⟩
  · have HZ := Lib.hid gz
    clear gz
    replace g4 := g4 rfl
    subst g4
    go_enter Tryz.func61, Tryz.ntmps61
    go_wp2
    rw [← HW.out]
    refine wp_region_quiet_below (by kernel_rfl) (by kernel_rfl) ?_
    repeat (go_big_quiet_step (first | (go_at_call 78; (with_reducible exact Calls.regrown_of (l4Parts_v HQ.out _))) | (go_at_call 23; exact Calls.regrown_of (l1In_any _ _ _ _)) | (go_at_call 69; (with_reducible exact Calls.regrown_of (specNameValid_v g5 hs _)))))
    refine wpQuiet_nil ?_
    intro w2 hw'regrown
    have hB := below_of_regrown hw'regrown (Nat.le_refl _)
    clear hw'regrown b0 b1 b2 b3
    try rw [gn]
    have b3 := below_cell hB HB3.out
    go_wp2
    go_loopw [5] (fun i wr => ∃ k : Nat, k ≤ r.ps.length ∧ i = .int .i64 k ∧ Hid (∀ j, j < k → gdR d (exAt r.ps j) = true) ∧ Below W.heap.size W wr) (fun i _ => r.ps.length - (intOf i).toNat)
    case atStart => exact ⟨0, Nat.zero_le _, rfl, Lib.hid (fun j h => by omega), hB⟩
    case round =>
      clear hB b3
      obtain ⟨k, hk, rfl, HG, hB⟩ := hrel
      have b3 := below_cell hB HB3.out
      by_cases hlt : k < r.ps.length
      · have hd : ∃ m, d = m + 1 := by
          cases d with
          | zero => have := exS.zero hU; rw [this] at hlt; simp at hlt
          | succ m => exact ⟨m, rfl⟩
        obtain ⟨m, hm⟩ := hd
        subst hm
        have HQ1 := Lib.hid (HQS.out m rfl)
        obtain ⟨b, off, rfl, hc⟩ := (hU.below HBW.out).cells (by omega)
        obtain ⟨A1, c1, hfd, hs1, p0, p1, p2, p3⟩ := hc k hlt
        replace p0 := below_cell hB p0
        replace p1 := below_cell hB p1
        replace p2 := below_cell hB p2
        replace p3 := below_cell hB p3
        replace hfd := hfd.below hB
        clear hc
        have HGD := Lib.hid (show gdR (m + 1) (exAt r.ps k) = goodB m (exAt r.ps k) from rfl)
        cases g : goodB m (exAt r.ps k)
        all_goals
          rw [g] at HGD
          go_wp2_with fail
          refine (HQ1.out _ _ c1 _ hfd hs1).mono ?_
          rintro e w4 ⟨rfl, hb⟩
          rw [g]
          replace hB := ext_trans hB hb
          clear hb p0 p1 p2 p3 b3
          go_wp2
        · go_ret
          exact ⟨by rw [goodB_no hlt HGD.out]; rfl, ext_trans HBW.out hB⟩
        · go_roundw
          case rel => exact ⟨k + 1, by omega, by go_num, Lib.hid (all_succ HG.out HGD.out), hB⟩
          case measure => simp [intOf]; omega
      · obtain rfl : k = r.ps.length := by omega
        go_wp2
        go_ret
        exact ⟨by rw [goodB_yes HZ.out HG.out]; rfl, ext_trans HBW.out hB⟩
end Go.Proofs.YtodjokdaofefdaaGreat
/- Expressions: goodness, by the reference: the walk at one kind. Printed by gen_good.py. -/
namespace Go.Proofs.YtodjokdaofefdaaGreat
set_option linter.unusedSimpArgs false
set_option linter.unusedVariables false
open Go.RowKit

set_option maxRecDepth 100000 in
set_option maxHeartbeats 4000000 in
theorem goQ_o {d : Nat} (hQS : ∀ m, d = m + 1 → GoQ m) (A : Option Addr) (r : Ex) (c : Nat) (w : World) (hU : exW d w A r.ps) (hs : r.s.size ≤ 9223372036854775807) (hk : r.k ≠ 1 ∧ r.k ≠ 2 ∧ r.k ≠ 3 ∧ r.k ≠ 7 ∧ r.k ≠ 8 ∧ r.k ≠ 9) :
    Calls Tryz.prog 61 #[.agg #[.int .i64 r.k, .int .i64 r.n, .string r.s, .slice A r.ps.length c]] w fun e w' => e = .returned (.bool (goodB d r)) ∧ Below w.heap.size w w' := by
  have hl := exS.len hU
  have HQS := Lib.hid hQS
  clear hQS
  obtain ⟨W, hW⟩ : ∃ W, W = w.alloc (.cells #[.int .i64 r.k, .int .i64 r.n, .string r.s, .slice A r.ps.length c] 36) := ⟨_, rfl⟩
  have hBW : Below w.heap.size w W := by rw [hW]; (repeat (first | exact Below.refl _ _ | refine ext_alloc ?_ _ | refine Below.setCell ?_ (by simp) _))
  have b0 : W.cell? ⟨w.heap.size, 0, none⟩ = some (.int .i64 r.k) := by rw [hW]; exact box_cell w _ _ 0 _ rfl
  have b1 : W.cell? ⟨w.heap.size, 1, none⟩ = some (.int .i64 r.n) := by rw [hW]; exact box_cell w _ _ 1 _ rfl
  have b2 : W.cell? ⟨w.heap.size, 2, none⟩ = some (.string r.s) := by rw [hW]; exact box_cell w _ _ 2 _ rfl
  have b3 : W.cell? ⟨w.heap.size, 3, none⟩ = some (.slice A r.ps.length c) := by rw [hW]; exact box_cell w _ _ 3 _ rfl
  have HB3 := Lib.hid b3
  replace b0 := cell_regrown b0
  replace b1 := cell_regrown b1
  replace b2 := cell_regrown b2
  replace b3 := cell_regrown b3
  have HW := Lib.hid hW
  have HBW := Lib.hid hBW
  clear hW hBW
  obtain ⟨q, hq⟩ : ∃ q, arS r.k = q := ⟨_, rfl⟩
  obtain ⟨x5, g5⟩ : ∃ x, nmOk r.s = x := ⟨_, rfl⟩
  have hm : mostK r.k = 0 := by unfold mostK; rw [if_neg hk.1, if_neg hk.2.1, if_neg hk.2.2.1]
  have hn : nmK r.k = false := by unfold nmK; simp only [decide_eq_false_iff_not]; omega
  have hcs := specCases r hm hn hq g5
  have e1 : (r.k == 1) = false := by simp; omega
  have e2 : (r.k == 2) = false := by simp; omega
  have e3 : (r.k == 3) = false := by simp; omega
  have e7 : (r.k == 7) = false := by simp; omega
  have e8 : (r.k == 8) = false := by simp; omega
  have e9 : (r.k == 9) = false := by simp; omega
  have HQ := Lib.hid hq
  clear hq hm hn hk
  rcases hcs with ⟨g1, gz⟩ | ⟨g1, gn, gz⟩ | ⟨g1, gn, g3, gz⟩ | ⟨g1, gn, g2, g3, g4, gz⟩ | ⟨g1, gn, g3, g4, gz⟩
  · have HZ : Hid (goodB d r = false) := Lib.hid (by rw [goodB, gz]; rfl)
    clear gz
    go_enter Tryz.func61, Tryz.ntmps61
    go_wp2
    rw [← HW.out]
    refine wp_region_quiet_below (by kernel_rfl) (by kernel_rfl) ?_
    repeat (go_big_quiet_step (first | (go_at_call 78; (with_reducible exact Calls.regrown_of (l4Parts_v HQ.out _))) | (go_at_call 23; exact Calls.regrown_of (l1In_any _ _ _ _)) | (go_at_call 69; (with_reducible exact Calls.regrown_of (specNameValid_v g5 hs _)))))
    refine wpQuiet_nil ?_
    intro w2 hw'regrown
    have hB := below_of_regrown hw'regrown (Nat.le_refl _)
    clear hw'regrown b0 b1 b2 b3
    go_wp2
    go_ret
    exact ⟨by rw [HZ.out]; rfl, ext_trans HBW.out hB⟩
  · have HZ : Hid (goodB d r = false) := Lib.hid (by rw [goodB, gz]; rfl)
    clear gz
    go_enter Tryz.func61, Tryz.ntmps61
    go_wp2
    rw [← HW.out]
    refine wp_region_quiet_below (by kernel_rfl) (by kernel_rfl) ?_
    repeat (go_big_quiet_step (first | (go_at_call 78; (with_reducible exact Calls.regrown_of (l4Parts_v HQ.out _))) | (go_at_call 23; exact Calls.regrown_of (l1In_any _ _ _ _)) | (go_at_call 69; (with_reducible exact Calls.regrown_of (specNameValid_v g5 hs _)))))
    refine wpQuiet_nil ?_
    intro w2 hw'regrown
    have hB := below_of_regrown hw'regrown (Nat.le_refl _)
    clear hw'regrown b0 b1 b2 b3
    go_wp2
    go_ret
    exact ⟨by rw [HZ.out]; rfl, ext_trans HBW.out hB⟩
  · have HZ : Hid (goodB d r = false) := Lib.hid (by rw [goodB, gz]; rfl)
    clear gz
    go_enter Tryz.func61, Tryz.ntmps61
    go_wp2
    rw [← HW.out]
    refine wp_region_quiet_below (by kernel_rfl) (by kernel_rfl) ?_
    repeat (go_big_quiet_step (first | (go_at_call 78; (with_reducible exact Calls.regrown_of (l4Parts_v HQ.out _))) | (go_at_call 23; exact Calls.regrown_of (l1In_any _ _ _ _)) | (go_at_call 69; (with_reducible exact Calls.regrown_of (specNameValid_v g5 hs _)))))
    refine wpQuiet_nil ?_
    intro w2 hw'regrown
    have hB := below_of_regrown hw'regrown (Nat.le_refl _)
    clear hw'regrown b0 b1 b2 b3
    go_wp2
    go_ret
    exact ⟨by rw [HZ.out]; rfl, ext_trans HBW.out hB⟩
  · cases g2
  · have HZ := Lib.hid gz
    clear gz
    go_enter Tryz.func61, Tryz.ntmps61
    go_wp2
    rw [← HW.out]
    refine wp_region_quiet_below (by kernel_rfl) (by kernel_rfl) ?_
    repeat (go_big_quiet_step (first | (go_at_call 78; (with_reducible exact Calls.regrown_of (l4Parts_v HQ.out _))) | (go_at_call 23; exact Calls.regrown_of (l1In_any _ _ _ _)) | (go_at_call 69; (with_reducible exact Calls.regrown_of (specNameValid_v g5 hs _)))))
    refine wpQuiet_nil ?_
    intro w2 hw'regrown
    have hB := below_of_regrown hw'regrown (Nat.le_refl _)
    clear hw'regrown b0 b1 b2 b3
    try rw [gn]
    have b3 := below_cell hB HB3.out
    go_wp2
    go_loopw [5] (fun i wr => ∃ k : Nat, k ≤ r.ps.length ∧ i = .int .i64 k ∧ Hid (∀ j, j < k → gdR d (exAt r.ps j) = true) ∧ Below W.heap.size W wr) (fun i _ => r.ps.length - (intOf i).toNat)
    case atStart => exact ⟨0, Nat.zero_le _, rfl, Lib.hid (fun j h => by omega), hB⟩
    case round =>
      clear hB b3
      obtain ⟨k, hk, rfl, HG, hB⟩ := hrel
      have b3 := below_cell hB HB3.out
      by_cases hlt : k < r.ps.length
      · have hd : ∃ m, d = m + 1 := by
          cases d with
          | zero => have := exS.zero hU; rw [this] at hlt; simp at hlt
          | succ m => exact ⟨m, rfl⟩
        obtain ⟨m, hm⟩ := hd
        subst hm
        have HQ1 := Lib.hid (HQS.out m rfl)
        obtain ⟨b, off, rfl, hc⟩ := (hU.below HBW.out).cells (by omega)
        obtain ⟨A1, c1, hfd, hs1, p0, p1, p2, p3⟩ := hc k hlt
        replace p0 := below_cell hB p0
        replace p1 := below_cell hB p1
        replace p2 := below_cell hB p2
        replace p3 := below_cell hB p3
        replace hfd := hfd.below hB
        clear hc
        have HGD := Lib.hid (show gdR (m + 1) (exAt r.ps k) = goodB m (exAt r.ps k) from rfl)
        cases g : goodB m (exAt r.ps k)
        all_goals
          rw [g] at HGD
          go_wp2_with fail
          refine (HQ1.out _ _ c1 _ hfd hs1).mono ?_
          rintro e w4 ⟨rfl, hb⟩
          rw [g]
          replace hB := ext_trans hB hb
          clear hb p0 p1 p2 p3 b3
          go_wp2
        · go_ret
          exact ⟨by rw [goodB_no hlt HGD.out]; rfl, ext_trans HBW.out hB⟩
        · go_roundw
          case rel => exact ⟨k + 1, by omega, by go_num, Lib.hid (all_succ HG.out HGD.out), hB⟩
          case measure => simp [intOf]; omega
      · obtain rfl : k = r.ps.length := by omega
        go_wp2
        go_ret
        exact ⟨by rw [goodB_yes HZ.out HG.out]; rfl, ext_trans HBW.out hB⟩
end Go.Proofs.YtodjokdaofefdaaGreat
/- Expressions: goodness and validity, by the reference. Printed by gen_good.py. -/
namespace Go.Proofs.YtodjokdaofefdaaGreat
set_option linter.unusedSimpArgs false
set_option linter.unusedVariables false
open Go.RowKit

theorem goQ_of {d : Nat} (hQ : ∀ m, d = m + 1 → GoQ m) : GoQ d := by
  intro A r c w hU hs
  by_cases h1 : r.k = 1
  · exact goQ_1 hQ A r c w hU hs h1
  by_cases h2 : r.k = 2
  · exact goQ_2 hQ A r c w hU hs h2
  by_cases h3 : r.k = 3
  · exact goQ_3 hQ A r c w hU hs h3
  by_cases h7 : r.k = 7
  · exact goQ_7 hQ A r c w hU hs h7
  by_cases h8 : r.k = 8
  · exact goQ_8 hQ A r c w hU hs h8
  by_cases h9 : r.k = 9
  · exact goQ_9 hQ A r c w hU hs h9
  exact goQ_o hQ A r c w hU hs ⟨h1, h2, h3, h7, h8, h9⟩
theorem goQ_all : ∀ d, GoQ d
  | 0 => goQ_of (fun m h => by cases h)
  | d + 1 => goQ_of (fun m h => by cases h; exact goQ_all d)
end Go.Proofs.YtodjokdaofefdaaGreat

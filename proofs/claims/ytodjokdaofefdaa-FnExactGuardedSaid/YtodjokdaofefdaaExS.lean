/- Expressions: sizes, by the reference. -/
import Derived.Test.YtodjokdaofefdaaExC
import Derived.Test.YtodjokdaofefdaaExW
namespace Go.Proofs.Ytodjokdaofefdaa
set_option linter.unusedSimpArgs false
set_option linter.unusedVariables false
open Go.RowKit

theorem cnt_le {d : Nat} {l : ExL} {k : Nat} (hk : k ≤ l.length) : ((l.take k).map (cntR d)).sum ≤ (l.map (cntR d)).sum := by
  have h : l.map (cntR d) = (l.take k).map (cntR d) ++ (l.drop k).map (cntR d) := by rw [← List.map_append, List.take_append_drop]
  rw [h, List.sum_append]; omega
def SsQ (d : Nat) : Prop := ∀ (A : Option Addr) (r : Ex) (c : Nat) (w : World), exW d w A r.ps → cntS d r.ps ≤ 2097152 →
  Calls Try.prog 118 #[.agg #[.int .i64 r.k, .int .i64 r.n, .string r.s, .slice A r.ps.length c]] w fun e w' => e = .returned (.int .i64 ((1 + cntS d r.ps : Nat) : Int)) ∧ Below w.heap.size w w'
set_option maxRecDepth 100000 in
set_option maxHeartbeats 4000000 in
theorem ssQ_of {d : Nat} (hQ : ∀ m, d = m + 1 → SsQ m) : SsQ d := by
  intro A r c w hU hcnt
  have hl := exS.len hU
  have HQ := Lib.hid hQ
  have HCN := Lib.hid hcnt
  clear hQ
  obtain ⟨W, hW⟩ : ∃ W, W = w.alloc (.cells #[.int .i64 r.k, .int .i64 r.n, .string r.s, .slice A r.ps.length c] 28) := ⟨_, rfl⟩
  have hBW : Below w.heap.size w W := by rw [hW]; (repeat (first | exact Below.refl _ _ | refine ext_alloc ?_ _ | refine Below.setCell ?_ (by simp) _))
  have b3 : W.cell? ⟨w.heap.size, 3, none⟩ = some (.slice A r.ps.length c) := by rw [hW]; exact box_cell w _ _ 3 _ rfl
  have HW := Lib.hid hW
  have HB3 := Lib.hid b3
  have HBW := Lib.hid hBW
  have hlc : r.ps.length ≤ 2097152 := by unfold cntS at hcnt; omega
  clear hW b3 hBW hcnt
  go_enter Try.func118, Try.ntmps118
  go_wp2
  go_loopw [3, 4] (fun ov kv wr => ∃ (k s : Nat), k ≤ r.ps.length ∧ kv = .int .i64 k ∧ ov = .int .i64 (s : Int) ∧ Hid (s = 1 + k + ((r.ps.take k).map (cntR d)).sum) ∧ s ≤ 2097153 ∧ Below W.heap.size W wr) (fun _ kv _ => r.ps.length - (intOf kv).toNat)
  case atStart => exact ⟨0, 1, Nat.zero_le _, rfl, rfl, Lib.hid (by simp), by omega, by rw [HW.out]; exact Below.refl _ _⟩
  case round =>
    obtain ⟨k, s, hk, rfl, rfl, HS, hs, hB⟩ := hrel
    have b3 := below_cell hB HB3.out
    by_cases hlt : k < r.ps.length
    · have hd : ∃ m, d = m + 1 := by
        cases d with
        | zero => have := exS.zero hU; rw [this] at hlt; simp at hlt
        | succ m => exact ⟨m, rfl⟩
      obtain ⟨m, hm⟩ := hd
      subst hm
      have HQ1 := Lib.hid (HQ.out m rfl)
      obtain ⟨b, off, rfl, hc⟩ := (hU.below HBW.out).cells (by omega)
      obtain ⟨A1, c1, hfd, hs1, p0, p1, p2, p3⟩ := hc k hlt
      replace p0 := below_cell hB p0
      replace p1 := below_cell hB p1
      replace p2 := below_cell hB p2
      replace p3 := below_cell hB p3
      replace hfd := hfd.below hB
      clear hc
      have HT := Lib.hid (cnt_take (d := m + 1) hlt)
      have HL := Lib.hid (cnt_le (d := m + 1) (l := r.ps) (k := k + 1) (by omega))
      obtain ⟨z, hz⟩ : ∃ z, cntS m (exAt r.ps k).ps = z := ⟨_, rfl⟩
      have hz2 : cntR (m + 1) (exAt r.ps k) = z := hz
      have hall : s + (1 + z) ≤ 2097153 ∧ s + (1 + z) = 1 + (k + 1) + ((r.ps.take (k + 1)).map (cntR (m + 1))).sum := by
        have h1 := HL.out
        have h2 := HT.out
        have h3 := HCN.out
        have h4 := HS.out
        unfold cntS at h3
        rw [hz2] at h2
        omega
      have hzl : z ≤ 2097152 := by omega
      have HZ := Lib.hid hz
      have HALL := Lib.hid hall.2
      have hall1 := hall.1
      clear hz hz2 hall
      go_wp2_with fail
      refine (HQ1.out _ _ _ _ hfd (by rw [HZ.out]; exact hzl)).mono ?_
      rintro e w4 ⟨rfl, hb⟩
      rw [HZ.out]
      replace hB := ext_trans hB hb
      clear hb p0 p1 p2 p3 hfd b3
      go_wp2
      go_roundw
      case rel => exact ⟨k + 1, s + (1 + z), by omega, by go_num, by go_num, Lib.hid HALL.out, hall1, hB⟩
      case measure => simp [intOf]; omega
    · obtain rfl : k = r.ps.length := by omega
      have HE : Hid (s = 1 + cntS d r.ps) := Lib.hid (by have := HS.out; rw [List.take_length] at this; unfold cntS; omega)
      go_wp2
      go_ret
      exact ⟨by rw [← HE.out]; rfl, ext_trans HBW.out hB⟩
theorem ssQ_all : ∀ d, SsQ d
  | 0 => ssQ_of (fun m h => by cases h)
  | d + 1 => ssQ_of (fun m h => by cases h; exact ssQ_all d)
end Go.Proofs.Ytodjokdaofefdaa

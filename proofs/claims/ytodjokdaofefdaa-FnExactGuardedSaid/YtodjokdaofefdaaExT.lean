/- Expressions: depths, by the reference. -/
import Derived.Test.YtodjokdaofefdaaExS
namespace Go.Proofs.Ytodjokdaofefdaa
set_option linter.unusedSimpArgs false
set_option linter.unusedVariables false
open Go.RowKit

def mxL : List Nat → Nat
  | [] => 0
  | a :: l => max a (mxL l)
theorem mx_snoc (a : Nat) : ∀ l : List Nat, mxL (l ++ [a]) = max (mxL l) a
  | [] => by simp [mxL]
  | b :: l => by rw [List.cons_append, mxL, mx_snoc a l, mxL]; omega
def dpR : Nat → Ex → Nat
  | 0, _ => 0
  | d + 1, t => 1 + mxL (t.ps.map (dpR d))
theorem mx_take {d : Nat} {l : ExL} {k : Nat} (hk : k < l.length) : mxL ((l.take (k + 1)).map (dpR d)) = max (mxL ((l.take k).map (dpR d))) (dpR d (exAt l k)) := by
  rw [List.take_succ_eq_append_getElem hk, List.map_append, exAt_eq hk, List.map_cons, List.map_nil, mx_snoc]
theorem dp_le : ∀ (d : Nat) (t : Ex), dpR d t ≤ 1 + cntR d t
  | 0, _ => by simp [dpR]
  | d + 1, t => by
    have h : ∀ l : ExL, mxL (l.map (dpR d)) ≤ l.length + (l.map (cntR d)).sum := by
      intro l
      induction l with
      | nil => simp [mxL]
      | cons a l ih =>
        have := dp_le d a
        simp only [List.map_cons, mxL, List.sum_cons, List.length_cons]
        omega
    have := h t.ps
    rw [dpR, cntR]
    omega
def SdQ (d : Nat) : Prop := ∀ (A : Option Addr) (r : Ex) (c : Nat) (w : World), exW d w A r.ps → cntS d r.ps ≤ 2097152 →
  Calls Try.prog 119 #[.agg #[.int .i64 r.k, .int .i64 r.n, .string r.s, .slice A r.ps.length c]] w fun e w' => e = .returned (.int .i64 ((1 + mxL (r.ps.map (dpR d)) : Nat) : Int)) ∧ Below w.heap.size w w'
set_option maxRecDepth 100000 in
set_option maxHeartbeats 4000000 in
theorem sdQ_of {d : Nat} (hQ : ∀ m, d = m + 1 → SdQ m) : SdQ d := by
  intro A r c w hU hcnt
  have hl := exS.len hU
  have HQ := Lib.hid hQ
  have HCN := Lib.hid hcnt
  clear hQ
  obtain ⟨W, hW⟩ : ∃ W, W = w.alloc (.cells #[.int .i64 r.k, .int .i64 r.n, .string r.s, .slice A r.ps.length c] 28) := ⟨_, rfl⟩
  have hBW : Below w.heap.size w W := by rw [hW]; (repeat (first | exact Below.refl _ _ | refine ext_alloc ?_ _ | refine Below.setCell ?_ (by simp) _))
  have b3 : W.cell? ⟨w.heap.size, 3, none⟩ = some (.slice A r.ps.length c) := by rw [hW]; exact box_cell w _ _ 3 _ rfl
  have HW := Lib.hid hW
  have HB3 := Lib.hid b3
  have HBW := Lib.hid hBW
  have hlc : r.ps.length ≤ 2097152 := by unfold cntS at hcnt; omega
  clear hW b3 hBW hcnt
  go_enter Try.func119, Try.ntmps119
  go_wp2
  go_loopw [3, 4] (fun ov kv wr => ∃ (k s : Nat), k ≤ r.ps.length ∧ kv = .int .i64 k ∧ ov = .int .i64 (s : Int) ∧ Hid (s = mxL ((r.ps.take k).map (dpR d))) ∧ s ≤ 2097153 ∧ Below W.heap.size W wr) (fun _ kv _ => r.ps.length - (intOf kv).toNat)
  case atStart => exact ⟨0, 0, Nat.zero_le _, rfl, rfl, Lib.hid (by simp [mxL]), by omega, by rw [HW.out]; exact Below.refl _ _⟩
  case round =>
    obtain ⟨k, s, hk, rfl, rfl, HS, hs, hB⟩ := hrel
    have b3 := below_cell hB HB3.out
    by_cases hlt : k < r.ps.length
    · have hd : ∃ m, d = m + 1 := by
        cases d with
        | zero => have := exS.zero hU; rw [this] at hlt; simp at hlt
        | succ m => exact ⟨m, rfl⟩
      obtain ⟨m, hm⟩ := hd
      subst hm
      have HQ1 := Lib.hid (HQ.out m rfl)
      obtain ⟨b, off, rfl, hc⟩ := (hU.below HBW.out).cells (by omega)
      obtain ⟨A1, c1, hfd, hs1, p0, p1, p2, p3⟩ := hc k hlt
      replace p0 := below_cell hB p0
      replace p1 := below_cell hB p1
      replace p2 := below_cell hB p2
      replace p3 := below_cell hB p3
      replace hfd := hfd.below hB
      clear hc
      have HT := Lib.hid (mx_take (d := m + 1) hlt)
      have hcz : cntS m (exAt r.ps k).ps ≤ 2097152 := by
        have h1 := cnt_le (d := m + 1) (l := r.ps) (k := k + 1) (by omega)
        have h2 := cnt_take (d := m + 1) hlt
        have h3 := HCN.out
        have h4 : cntR (m + 1) (exAt r.ps k) = cntS m (exAt r.ps k).ps := rfl
        unfold cntS at h3
        omega
      obtain ⟨z, hz⟩ : ∃ z, 1 + mxL ((exAt r.ps k).ps.map (dpR m)) = z := ⟨_, rfl⟩
      have hz2 : dpR (m + 1) (exAt r.ps k) = z := hz
      have hzl : z ≤ 2097153 := by
        have h1 := dp_le (m + 1) (exAt r.ps k)
        have h4 : cntR (m + 1) (exAt r.ps k) = cntS m (exAt r.ps k).ps := rfl
        omega
      have HCZ := Lib.hid hcz
      have HZ := Lib.hid hz
      have HZ2 := Lib.hid hz2
      clear hz hz2 hcz
      go_wp2_with fail
      refine (HQ1.out _ _ _ _ hfd HCZ.out).mono ?_
      rintro e w4 ⟨rfl, hb⟩
      rw [HZ.out]
      replace hB := ext_trans hB hb
      clear hb p0 p1 p2 p3 hfd b3
      by_cases h : s < z
      · go_wp2
        go_roundw
        case rel => exact ⟨k + 1, z, by omega, by go_num, by simp [h], Lib.hid (by rw [HT.out, ← HS.out, HZ2.out]; omega), hzl, hB⟩
        case measure => simp [intOf]; omega
      · go_wp2
        go_roundw
        case rel => exact ⟨k + 1, s, by omega, by go_num, by simp [h], Lib.hid (by rw [HT.out, ← HS.out, HZ2.out]; omega), hs, hB⟩
        case measure => simp [intOf]; omega
    · obtain rfl : k = r.ps.length := by omega
      have HE : Hid (s = mxL (r.ps.map (dpR d))) := Lib.hid (by have := HS.out; rwa [List.take_length] at this)
      go_wp2
      go_ret
      exact ⟨by rw [← HE.out, Nat.add_comm 1 s]; rfl, ext_trans HBW.out hB⟩
theorem sdQ_all : ∀ d, SdQ d
  | 0 => sdQ_of (fun m h => by cases h)
  | d + 1 => sdQ_of (fun m h => by cases h; exact sdQ_all d)
end Go.Proofs.Ytodjokdaofefdaa

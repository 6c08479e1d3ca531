/- Guards that are added, by the program: all expressions in one. -/
import Derived.Test.YtodjokdaofefdaaQ15
namespace Go.Proofs.Ytodjokdaofefdaa
set_option linter.unusedSimpArgs false
set_option linter.unusedVariables false
open Go.RowKit

theorem GiM.ofBelow {b4 b5 : Nat} {w w' : World} (hb : Below w.heap.size w w') (h5 : b5 < w.heap.size) {k : Nat} (hm : GiM b4 b5 w' k) : GiM b4 b5 w k := by
  rcases hm with hm | hm | ⟨v, hv, hk⟩
  · exact .inl hm
  · exact .inr (.inl hm)
  · rw [hb.block _ h5] at hv; exact .inr (.inr ⟨v, hv, hk⟩)
theorem enters_gb1 : ∀ args w, (callFunc 80 args).run Try.prog w = .ok (.enter 80 args) w := enters_of Try.func80 (by kernel_rfl) rfl
theorem po_step {d : Nat} {t : Ex} {k : Nat} (hk : k < t.ps.length) : (t.ps.take (k + 1)).flatMap (poL d) = (t.ps.take k).flatMap (poL d) ++ poL d (exAt t.ps k) := by
  rw [List.take_succ_eq_append_getElem hk, List.flatMap_append, exAt_eq hk]; simp
theorem po_len {d : Nat} {t : Ex} (k : Nat) : ((t.ps.take k).flatMap (poL d)).length + 1 ≤ (poL (d + 1) t).length := by
  rw [poL, List.length_append, List.length_singleton]
  have : (t.ps.flatMap (poL d)).length = ((t.ps.take k).flatMap (poL d)).length + ((t.ps.drop k).flatMap (poL d)).length := by
    rw [← List.length_append, ← List.flatMap_append, List.take_append_drop]
  omega
def EcQ (d : Nat) : Prop := ∀ (D n0 b4 b5 : Nat) (pre : ExL) (A : Option Addr) (r : Ex) (c : Nat) (w : World), d ≤ D → GiJ D n0 b4 b5 pre w → exS d 0 n0 w A r.ps → r.s.size ≤ 9223372036854775807 → pre.length + (poL (d + 1) r).length ≤ 1048576 →
  Calls Try.prog 79 #[.agg #[.int .i64 r.k, .int .i64 r.n, .string r.s, .slice A r.ps.length c], .func (.func 80) #[] #[.pointer (some ⟨b4, 0, none⟩), .pointer (some ⟨b5, 0, none⟩)]] w fun e w' => (∃ v, e = .returned v) ∧ GiJ D n0 b4 b5 (pre ++ poL (d + 1) r) w' ∧ GiF b4 b5 w w'
set_option maxRecDepth 100000 in
set_option maxHeartbeats 8000000 in
theorem ecQ_of {d : Nat} (hQ : ∀ m, d = m + 1 → EcQ m) : EcQ d := by
  intro D n0 b4 b5 pre A r c w hdD hJ hU hs hn
  have hlen := exS.len hU
  have eg := enters_gb1
  have hlt5 := hJ.lt
  have hn0 : n0 ≤ w.heap.size := by obtain ⟨_, _, _, _, _, hO⟩ := hJ; exact hO.1.1
  obtain ⟨gx, hgx⟩ : ∃ g, g = w.heap.size := ⟨_, rfl⟩
  obtain ⟨W, hW⟩ : ∃ W, W = w.alloc (.cells #[.int .i64 r.k, .int .i64 r.n, .string r.s, .slice A r.ps.length c] 28) := ⟨_, rfl⟩
  have hBW : Below w.heap.size w W := by rw [hW]; exact below_alloc _ _
  have hbx : W.heap[gx]? = some (.cells #[.int .i64 r.k, .int .i64 r.n, .string r.s, .slice A r.ps.length c] 28 (0, 0)) := by rw [hW, hgx]; exact heap_alloc_new _ _
  have hF : GiF b4 b5 w W := GiF.ofBelow hBW hlt5
  have hJW : GiJ D n0 b4 b5 pre W := GiP.below hJ hBW
  have hgm : ¬ GiM b4 b5 W gx := fun hm => by
    have := GiP.m hJ gx (GiM.ofBelow hBW hlt5 hm)
    omega
  have hm0 : ∀ k, k < n0 → ¬ GiM b4 b5 W k := fun k hk hm => by have := GiP.m hJW k hm; omega
  have HU := Lib.hid (exS.below hU hn0 hBW)
  have HQ := Lib.hid hQ
  have HW := Lib.hid hW
  have HGX := Lib.hid hgx
  have HF := Lib.hid hF
  have HJ := Lib.hid hJW
  have HBX := Lib.hid hbx
  have HGM := Lib.hid hgm
  have HM0 := Lib.hid hm0
  have HNN := Lib.hid hn
  have hn0W : n0 ≤ W.heap.size := Nat.le_trans hn0 hBW.size
  obtain ⟨b0, b1, b2, b3⟩ := cells4 hbx
  have hgxW := (Array.getElem?_eq_some_iff.1 hbx).1
  have HGXW := Lib.hid hgxW
  clear hQ hW hgx hF hJW hbx hgm hm0 hn hBW hJ hU hn0 hgxW hlt5
  go_enter Try.func79, Try.ntmps79
  go_wp2_with fail
  rw [← HW.out, ← HGX.out]
  clear b0 b1 b2 b3
  go_loopw [9] (fun iv wr => ∃ k : Nat, k ≤ r.ps.length ∧ iv = .int .i64 k ∧ GiJ D n0 b4 b5 (pre ++ (r.ps.take k).flatMap (poL d)) wr ∧ GiF b4 b5 W wr) (fun iv _ => r.ps.length - (intOf iv).toNat)
  case atStart => exact ⟨0, Nat.zero_le _, rfl, by simpa using HJ.out, GiF.refl _ _ _⟩
  case round =>
    obtain ⟨k, hk, rfl, hJr, hFr⟩ := hrel
    have hUr : exS d 0 n0 wr A r.ps := HU.out.keep (fun q _ hq => hFr.keep q (by omega) (HM0.out q hq)) (Nat.le_refl _) (Nat.le_refl _)
    have hws := hFr.size
    by_cases hlt : k < r.ps.length
    · have hd : ∃ m, d = m + 1 := by
        cases d with
        | zero => have := exS.zero hUr; rw [this] at hlt; simp at hlt
        | succ m => exact ⟨m, rfl⟩
      obtain ⟨m, hm⟩ := hd
      subst hm
      have HQ1 := Lib.hid (HQ.out m rfl)
      obtain ⟨b, off, rfl, _, hc⟩ := exS.cells hUr (by omega)
      obtain ⟨A1, c1, hfd, hs1, p0, p1, p2, p3⟩ := hc k hlt
      have hb0 := below_alloc wr (.cells #[.int .i64 (exAt r.ps k).k, .int .i64 (exAt r.ps k).n, .string (exAt r.ps k).s, .slice A1 (exAt r.ps k).ps.length c1] 28)
      have hlr := GiP.lt hJr
      have HFD := Lib.hid (exS.below hfd (by omega) hb0)
      have HJY := Lib.hid (GiP.below hJr hb0)
      have HFY := Lib.hid (hFr.trans (GiF.ofBelow hb0 hlr))
      have HS1 := Lib.hid hs1
      have HST := Lib.hid (po_step (d := m + 1) hlt)
      have HL : Hid ((pre ++ (r.ps.take k).flatMap (poL (m + 1))).length + (poL (m + 1) (exAt r.ps k)).length ≤ 1048576) := Lib.hid (by
        have h1 := po_len (d := m + 1) (t := r) (k + 1)
        rw [HST.out, List.length_append] at h1
        have := HNN.out
        rw [List.length_append]
        omega)
      clear hc hfd hs1 hb0 hJr hFr hUr hws
      go_wp2_with fail
      refine (HQ1.out D n0 b4 b5 _ A1 (exAt r.ps k) c1 _ (by omega) HJY.out HFD.out HS1.out HL.out).mono ?_
      rintro e w1 ⟨⟨v, rfl⟩, hJ1, hF1⟩
      rw [List.append_assoc, ← HST.out] at hJ1
      have HF2 := Lib.hid (HFY.out.trans hF1)
      clear p0 p1 p2 p3 hF1
      go_wp2
      go_roundw
      case rel => exact ⟨k + 1, by omega, by go_num, hJ1, HF2.out⟩
      case measure => simp [intOf]; omega
    · obtain rfl : k = r.ps.length := by omega
      have hbr := (hFr.keep gx HGXW.out HGM.out).trans HBX.out
      obtain ⟨b0, b1, b2, b3⟩ := cells4 hbr
      rw [List.take_length] at hJr
      have HG := Lib.hid (gi1_any (c := c) hJr (exS.deeper hUr hdD) hs (by have := HNN.out; have h1 := po_len (d := d) (t := r) r.ps.length; rw [List.take_length] at h1; rw [List.length_append]; omega))
      have HFR := Lib.hid (HF.out.trans hFr)
      clear hJr hUr hbr hFr
      go_wp2_with fail
      refine HG.out.mono ?_
      rintro e w1 ⟨⟨v, rfl⟩, hJ1, hF1⟩
      have HJ1 := Lib.hid hJ1
      have HF2 := Lib.hid (HFR.out.trans hF1)
      clear b0 b1 b2 b3 hJ1 hF1
      go_wp2
      go_end0
      refine ⟨⟨_, rfl⟩, ?_, HF2.out⟩
      have h := HJ1.out
      rw [List.append_assoc] at h
      exact h
theorem ecQ_all : ∀ d, EcQ d
  | 0 => ecQ_of (fun m h => by cases h)
  | d + 1 => ecQ_of (fun m h => by cases h; exact ecQ_all d)
end Go.Proofs.Ytodjokdaofefdaa

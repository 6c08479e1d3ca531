/- Paths that fit patterns, by the program. -/
import Derived.Test.YtpmelhkhmichcaaDoorPfC
namespace Go.Proofs.YtpmelhkhmichcaaDoor
set_option linter.unusedSimpArgs false
set_option linter.unusedVariables false
open Go.RowKit

theorem any_range {α : Type} (l : List α) (d : α) (p : α → Bool) : (List.range l.length).any (fun k => p (l.getD k d)) = l.any p := by
  rw [Bool.eq_iff_iff]
  simp only [List.any_eq_true, List.mem_range]
  constructor
  · rintro ⟨k, hk, h⟩
    exact ⟨l[k], List.getElem_mem hk, by simpa [hk] using h⟩
  · rintro ⟨x, hx, h⟩
    obtain ⟨k, hk, rfl⟩ := List.getElem_of_mem hx
    exact ⟨k, hk, by simpa [hk] using h⟩
set_option maxHeartbeats 1000000 in
theorem cov1_any {A A' : Option Addr} {a b : Wd} {c c' bx : Nat} {w : World} (hU : sgR w A a) (hV : sgR w A' b) (b0 : w.cell? ⟨bx, 0, none⟩ = some (.slice A' b.length c')) :
    Calls Tryd.prog 86 #[.slice A a.length c, .pointer (some ⟨bx, 0, none⟩)] w fun e w' => e = .returned (.bool (covW a b)) ∧ Below w.heap.size w w' := by
  go_enter Tryd.func86, Tryd.ntmps86
  go_wp2_with fail
  refine (covers_any hU hV).mono ?_
  rintro e w1 ⟨rfl, hB⟩
  go_wp2
  go_ret
  exact ⟨rfl, hB⟩
theorem enters_cov1 : ∀ args w, (callFunc 86 args).run Tryd.prog w = .ok (.enter 86 args) w := enters_of Tryd.func86 (by kernel_rfl) rfl
set_option maxHeartbeats 2000000 in
theorem coveredBy_any {s : ByteArray} {A : Option Addr} {ws : Wd} {c : Nat} {w : World} (hs : s.size ≤ 2097152) (h5 : (pws s).length ≤ 5) (hU : sgR w A ws) :
    Calls Tryd.prog 70 #[.string s, .slice A ws.length c] w fun e w' => e = .returned (.bool (covBy (pws s) ws)) ∧ Below w.heap.size w w' := by
  obtain ⟨W, hW⟩ : ∃ W, W = w.alloc (.cells #[.slice A ws.length c] 63) := ⟨_, rfl⟩
  have hB : Below w.heap.size w W := by rw [hW]; (repeat (first | exact Below.refl _ _ | refine ext_alloc ?_ _ | refine Below.setCell ?_ (by simp) _))
  have b0 : W.cell? ⟨w.heap.size, 0, none⟩ = some (.slice A ws.length c) := by rw [hW]; exact box_cell w _ _ 0 _ rfl
  have hUW := hU.below hB
  have HW := Lib.hid hW
  clear hW hU
  obtain ⟨q, hq⟩ : ∃ q, covBy (pws s) ws = q := ⟨_, rfl⟩
  have hq2 : (List.range (lens (pws s)).length).any (fun k => covW (lsAt (lens (pws s)) k) ws) = q := by rw [← hq]; exact any_range _ [] (fun v => covW v ws)
  rw [hq]
  have HQ := Lib.hid hq2
  clear hq hq2
  go_enter Tryd.func70, Tryd.ntmps70
  go_wp2_with fail
  rw [← HW.out]
  refine (lengths_any hs h5).mono ?_
  rintro e w1 ⟨A1, c1, rfl, hL, hb⟩
  replace b0 := below_cell hb b0
  replace hUW := hUW.below hb
  replace hB := ext_trans hB hb
  have HC := Lib.hid (containsFunc_ls (c := c1) (lb := #[.pointer (some ⟨w.heap.size, 0, none⟩)]) enters_cov1 hL (fun k _ X A2 c2 hX h1 => cov1_any h1 (hUW.below hX) (below_cell hX b0)) HQ.out)
  clear hb hL hUW
  go_wp2_with fail
  refine HC.out.mono ?_
  rintro e w2 ⟨rfl, hb⟩
  replace hB := ext_trans hB hb
  go_wp2
  go_ret
  exact ⟨rfl, hB⟩
theorem pathOk_no {s : ByteArray} {k : Nat} (hk : k < (pws s).length) (h : nmOk (sg0 (pws s) k) = false) : pathOk s = false := by
  rw [pathOk, Bool.and_eq_false_iff]
  left
  rw [decide_eq_false_iff_not]
  intro hh
  rw [hh k hk] at h
  cases h
theorem pathOk_yes {s : ByteArray} (h : ∀ k, k < (pws s).length → nmOk (sg0 (pws s) k) = true) : pathOk s = decide (((pws s).length : Int) ≤ 5) := by
  rw [pathOk, decide_eq_true h, Bool.true_and]
  exact decide_eq_decide.2 (by omega)
set_option maxHeartbeats 1000000 in
theorem pathV1_any {s : ByteArray} {w : World} (hs : s.size ≤ 2097152) :
    Calls Tryd.prog 72 #[.string s] w fun e w' => e = .returned (.bool (!nmOk s)) ∧ Below w.heap.size w w' := by
  go_enter Tryd.func72, Tryd.ntmps72
  go_wp2_with fail
  refine (implNameValid s (by omega) _).mono ?_
  rintro e w1 ⟨rfl, hB⟩
  go_wp2
  go_ret
  exact ⟨rfl, hB⟩
theorem enters_pathV1 : ∀ args w, (callFunc 72 args).run Tryd.prog w = .ok (.enter 72 args) w := enters_of Tryd.func72 (by kernel_rfl) rfl
set_option maxHeartbeats 2000000 in
theorem implPathValid {s : ByteArray} {w : World} (hs : s.size ≤ 2097152) :
    Calls Tryd.prog 33 #[.string s] w fun e w' => e = .returned (.bool (pathOk s)) ∧ Below w.heap.size w w' := by
  have hl := pws_len s
  obtain ⟨q, hq⟩ : ∃ q, decide (∀ i, i < (pws s).length → nmOk (sg0 (pws s) i) = true) = q := ⟨_, rfl⟩
  have hq2 : (List.range (pws s).length).any (fun k => !nmOk (sg0 (pws s) k)) = !q := by rw [← hq, ← any_not]; simp
  have HQ2 := Lib.hid hq2
  have HQ := Lib.hid hq
  clear hq hq2
  by_cases h5 : (pws s).length ≤ 5
  · have HR : Hid (pathOk s = q) := Lib.hid (by rw [pathOk, HQ.out, decide_eq_true h5, Bool.and_true])
    go_enter Tryd.func33, Tryd.ntmps33
    go_wp2_with fail
    refine (split_any hs).mono ?_
    rintro e w1 ⟨A, c, rfl, hown, hB⟩
    have hU : sgR w1 A (pws s) := sgR.own rfl (by omega) hown
    have HC := Lib.hid (containsFunc_sg (c := c) (lb := #[]) enters_pathV1 hU (fun k hk X _ => pathV1_any (by have := pws_size hk; omega)) HQ2.out)
    clear hown hU
    go_wp2_with fail
    refine HC.out.mono ?_
    rintro e w2 ⟨rfl, hb⟩
    replace hB := ext_trans hB hb
    go_wp2
    go_ret
    exact ⟨by rw [HR.out]; cases q <;> rfl, hB⟩
  · have HR : Hid (pathOk s = false) := Lib.hid (by rw [pathOk, decide_eq_false h5, Bool.and_false])
    go_enter Tryd.func33, Tryd.ntmps33
    go_wp2_with fail
    refine (split_any hs).mono ?_
    rintro e w1 ⟨A, c, rfl, hown, hB⟩
    go_wp2
    go_ret
    exact ⟨by rw [HR.out]; rfl, hB⟩
theorem implPathValid_v {s : ByteArray} {b : Bool} (hb : pathOk s = b) (hs : s.size ≤ 2097152) (w : World) :
    Calls Tryd.prog 33 #[.string s] w fun e w' => e = .returned (.bool b) ∧ Below w.heap.size w w' := hb ▸ implPathValid hs
theorem implPatternValid_w {s : ByteArray} {b : Bool} (hb : patOk s = b) (hs : s.size ≤ 2097152) (w : World) :
    Calls Tryd.prog 59 #[.string s] w fun e w' => e = .returned (.bool b) ∧ Below w.heap.size w w' := hb ▸ implPatternValid hs
def fitB (path pat : ByteArray) : Bool := pathOk path && (patOk pat && covBy (pws pat) (pws path))
theorem patOk_len {s : ByteArray} (h : patOk s = true) : (pws s).length ≤ 5 := by
  simp only [patOk, Bool.and_eq_true, decide_eq_true_eq] at h
  exact h.2
theorem pathOk_len {s : ByteArray} (h : pathOk s = true) : (pws s).length ≤ 5 := by
  simp only [pathOk, Bool.and_eq_true, decide_eq_true_eq] at h
  exact h.2
set_option maxHeartbeats 2000000 in
theorem implPathFits {p s : ByteArray} {w : World} (hp : p.size ≤ 2097152) (hs : s.size ≤ 2097152) :
    Calls Tryd.prog 29 #[.string p, .string s] w fun e w' => e = .returned (.bool (fitB p s)) ∧ Below w.heap.size w w' := by
  have hl := pws_len p
  cases h1 : pathOk p
  · have HR : Hid (fitB p s = false) := Lib.hid (by rw [fitB, h1]; rfl)
    go_enter Tryd.func29, Tryd.ntmps29
    go_wp2_with fail
    refine (implPathValid_v h1 hp _).mono ?_
    rintro e w1 ⟨rfl, hB⟩
    go_wp2
    go_ret
    exact ⟨by rw [HR.out]; rfl, hB⟩
  · cases h2 : patOk s
    · have HR : Hid (fitB p s = false) := Lib.hid (by rw [fitB, h1, h2]; rfl)
      go_enter Tryd.func29, Tryd.ntmps29
      go_wp2_with fail
      refine (implPathValid_v h1 hp _).mono ?_
      rintro e w1 ⟨rfl, hB⟩
      go_wp2_with fail
      refine (implPatternValid_w h2 hs _).mono ?_
      rintro e w2 ⟨rfl, hb⟩
      replace hB := ext_trans hB hb
      go_wp2
      go_ret
      exact ⟨by rw [HR.out]; rfl, hB⟩
    · obtain ⟨q, hq⟩ : ∃ q, covBy (pws s) (pws p) = q := ⟨_, rfl⟩
      have HR : Hid (fitB p s = q) := Lib.hid (by rw [fitB, h1, h2, hq]; rfl)
      have HQ := Lib.hid hq
      clear hq
      go_enter Tryd.func29, Tryd.ntmps29
      go_wp2_with fail
      refine (implPathValid_v h1 hp _).mono ?_
      rintro e w1 ⟨rfl, hB⟩
      go_wp2_with fail
      refine (implPatternValid_w h2 hs _).mono ?_
      rintro e w2 ⟨rfl, hb⟩
      replace hB := ext_trans hB hb
      clear hb
      go_wp2_with fail
      refine (split_any hp).mono ?_
      rintro e w3 ⟨A, c, rfl, hown, hb⟩
      replace hB := ext_trans hB hb
      have hU : sgR w3 A (pws p) := sgR.own rfl (by omega) hown
      clear hb hown
      go_wp2_with fail
      refine (coveredBy_any hs (patOk_len h2) hU).mono ?_
      rintro e w4 ⟨rfl, hb⟩
      rw [HQ.out]
      replace hB := ext_trans hB hb
      go_wp2
      go_ret
      exact ⟨by rw [HR.out]; rfl, hB⟩
end Go.Proofs.YtpmelhkhmichcaaDoor

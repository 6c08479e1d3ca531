/- Expressions: what a library function finds by a predicate; what is the same as one of a list. -/
import Derived.Test.YtodjokdaofefdaaGdA
import Derived.Test.YtodjokdaofefdaaExF
import Derived.Shelf.Abstract
namespace Go.Proofs.Ytodjokdaofefdaa
set_option linter.unusedSimpArgs false
set_option linter.unusedVariables false
open Go.RowKit

/-- What is asked of a predicate over a list's elements. -/
def PrA (d g : Nat) (lb : Array Value) (p : Nat → Bool) (w : World) (l : ExL) : Prop :=
  ∀ k, k < l.length → ∀ (W : World) (A' : Option Addr) (c' : Nat), Below w.heap.size w W → exW d W A' (exAt l k).ps → (exAt l k).s.size ≤ 9223372036854775807 →
    Calls Try.prog g (#[.agg #[.int .i64 (exAt l k).k, .int .i64 (exAt l k).n, .string (exAt l k).s, .slice A' (exAt l k).ps.length c']] ++ lb) W fun e w' => e = .returned (.bool (p k)) ∧ Below W.heap.size W w'
theorem any_hit {n k : Nat} {p : Nat → Bool} {q : Bool} (hq : (List.range n).any p = q) (hk : k < n) (h : p k = true) : q = true := by
  rw [← hq, List.any_eq_true]
  exact ⟨k, List.mem_range.2 hk, h⟩
theorem any_miss {n : Nat} {p : Nat → Bool} {q : Bool} (hq : (List.range n).any p = q) (h : ∀ j, j < n → p j = false) : q = false := by
  rw [← hq, List.any_eq_false]
  intro x hx
  rw [h x (List.mem_range.1 hx)]; simp
set_option maxRecDepth 100000 in
set_option maxHeartbeats 4000000 in
theorem indexFunc_any {d g : Nat} {lb : Array Value} {p : Nat → Bool} {A : Option Addr} {l : ExL} {c : Nat} {w : World} {q : Bool} (eg : ∀ args w, (callFunc g args).run Try.prog w = .ok (.enter g args) w)
    (hU : exW (d + 1) w A l) (hp : PrA d g lb p w l) (hq : (List.range l.length).any p = q) :
    Calls Try.prog 146 #[.slice A l.length c, .func (.func g) #[] lb] w fun e w' => ∃ i : Int, e = .returned (.int .i64 i) ∧ ((q = true → 0 ≤ i) ∧ (q = false → i = -1)) ∧ Below w.heap.size w w' := by
  have hlen := exS.len hU
  have HQ := Lib.hid hq
  have HP := Lib.hid hp
  clear hp hq
  go_enter Try.func146, Try.ntmps146
  go_wp2
  go_loopw [5, 8] (fun _ iv wr => ∃ k : Nat, k ≤ l.length ∧ iv = .int .i64 k ∧ Hid (∀ j, j < k → p j = false) ∧ Below w.heap.size w wr) (fun _ iv _ => l.length - (intOf iv).toNat)
  case atStart => exact ⟨0, Nat.zero_le _, rfl, Lib.hid (fun j h => by omega), Below.refl _ _⟩
  case round =>
    obtain ⟨k, hk, rfl, HG, hB⟩ := hrel
    by_cases hlt : k < l.length
    · obtain ⟨b, off, rfl, hc⟩ := hU.cells (by omega)
      obtain ⟨A1, c1, hfd, hs1, p0, p1, p2, p3⟩ := hc k hlt
      replace p0 := below_cell hB p0
      replace p1 := below_cell hB p1
      replace p2 := below_cell hB p2
      replace p3 := below_cell hB p3
      clear hc
      have HCALL := Lib.hid (HP.out k hlt _ A1 c1 hB (hfd.below hB) hs1)
      obtain ⟨y, hy⟩ : ∃ y, p k = y := ⟨_, rfl⟩
      rw [hy] at HCALL
      have HY := Lib.hid hy
      clear hfd hy
      cases y
      · go_wp2_with fail
        refine HCALL.out.mono ?_
        rintro e w1 ⟨rfl, hb⟩
        replace hB := ext_trans hB hb
        clear hb p0 p1 p2 p3
        go_wp2
        go_roundw
        case rel => exact ⟨k + 1, by omega, by go_num, Lib.hid (all_succ HG.out HY.out), hB⟩
        case measure => simp [intOf]; omega
      · go_wp2_with fail
        refine HCALL.out.mono ?_
        rintro e w1 ⟨rfl, hb⟩
        replace hB := ext_trans hB hb
        clear hb p0 p1 p2 p3
        go_wp2
        go_ret
        exact ⟨k, rfl, ⟨fun _ => by omega, fun h => by have := any_hit HQ.out hlt HY.out; rw [h] at this; cases this⟩, hB⟩
    · obtain rfl : k = l.length := by omega
      go_wp2
      go_ret
      exact ⟨-1, rfl, ⟨fun h => (by have := any_miss HQ.out HG.out; rw [h] at this; cases this), fun _ => rfl⟩, hB⟩
set_option maxHeartbeats 1000000 in
theorem containsFunc_any {d g : Nat} {lb : Array Value} {p : Nat → Bool} {A : Option Addr} {l : ExL} {c : Nat} {w : World} {q : Bool} (eg : ∀ args w, (callFunc g args).run Try.prog w = .ok (.enter g args) w)
    (hU : exW (d + 1) w A l) (hp : PrA d g lb p w l) (hq : (List.range l.length).any p = q) :
    Calls Try.prog 114 #[.slice A l.length c, .func (.func g) #[] lb] w fun e w' => e = .returned (.bool q) ∧ Below w.heap.size w w' := by
  have HI := Lib.hid (indexFunc_any (c := c) eg hU hp hq)
  clear hp hq
  go_enter Try.func114, Try.ntmps114
  go_wp2_with fail
  refine HI.out.mono ?_
  rintro e w1 ⟨i, rfl, ⟨h1, h2⟩, hB⟩
  cases q
  · obtain rfl := h2 rfl
    clear h1 h2
    go_wp2
    go_ret
    exact ⟨rfl, hB⟩
  · have h3 := h1 rfl
    have h4 : decide (i ≥ 0) = true := by simpa using h3
    have h5 : decide (0 ≤ i) = true := by simpa using h3
    clear h1 h2
    go_wp2
    go_ret
    first | exact ⟨rfl, hB⟩ | exact ⟨by rw [h4], hB⟩ | exact ⟨by rw [h5], hB⟩
theorem hasB_range (l : ExL) (e : Ex) : (List.range l.length).any (fun k => sameX (exAt l k) e) = hasB l e := by
  rw [Bool.eq_iff_iff]
  simp only [hasB, List.any_eq_true, List.mem_range]
  constructor
  · rintro ⟨k, hk, h⟩
    exact ⟨l[k], List.getElem_mem hk, by rw [← exAt_eq hk]; exact h⟩
  · rintro ⟨x, hx, h⟩
    obtain ⟨k, hk, rfl⟩ := List.getElem_of_mem hx
    exact ⟨k, hk, by rw [exAt_eq hk]; exact h⟩
set_option maxHeartbeats 2000000 in
/-- The predicate that asks for the same one. -/
theorem hasSame1_any {d b : Nat} {A A' : Option Addr} {r r' : Ex} {c c' : Nat} {w : World} (hU : exW d w A r.ps) (hV : exW d w A' r'.ps)
    (b0 : w.cell? ⟨b, 0, none⟩ = some (.int .i64 r'.k)) (b1 : w.cell? ⟨b, 1, none⟩ = some (.int .i64 r'.n)) (b2 : w.cell? ⟨b, 2, none⟩ = some (.string r'.s)) (b3 : w.cell? ⟨b, 3, none⟩ = some (.slice A' r'.ps.length c')) :
    Calls Try.prog 122 #[.agg #[.int .i64 r.k, .int .i64 r.n, .string r.s, .slice A r.ps.length c], .pointer (some ⟨b, 0, none⟩)] w fun e w' => e = .returned (.bool (sameX r r')) ∧ Below w.heap.size w w' := by
  have hbw := block_lt_of_cell b0
  go_enter Try.func122, Try.ntmps122
  go_wp2_with fail
  refine (smI_all d A A' r r' c c' _ (hU.below (by (repeat (first | exact Below.refl _ _ | refine ext_alloc ?_ _ | refine Below.setCell ?_ (by simp) _)))) (hV.below (by (repeat (first | exact Below.refl _ _ | refine ext_alloc ?_ _ | refine Below.setCell ?_ (by simp) _))))).mono ?_
  rintro e w1 ⟨rfl, hB⟩
  replace hB := ext_trans (show Below w.heap.size w _ by (repeat (first | exact Below.refl _ _ | refine ext_alloc ?_ _ | refine Below.setCell ?_ (by simp) _))) hB
  go_wp2
  go_ret
  exact ⟨rfl, hB⟩
theorem enters_same1 : ∀ args w, (callFunc 122 args).run Try.prog w = .ok (.enter 122 args) w := enters_of Try.func122 (by kernel_rfl) rfl
set_option maxHeartbeats 2000000 in
theorem hasSame_any {d : Nat} {A A' : Option Addr} {l : ExL} {r : Ex} {c c' : Nat} {w : World} (hU : exW (d + 1) w A l) (hV : exW d w A' r.ps) :
    Calls Try.prog 81 #[.slice A l.length c, .agg #[.int .i64 r.k, .int .i64 r.n, .string r.s, .slice A' r.ps.length c']] w fun e w' => e = .returned (.bool (hasB l r)) ∧ Below w.heap.size w w' := by
  obtain ⟨W, hW⟩ : ∃ W, W = w.alloc (.cells #[.int .i64 r.k, .int .i64 r.n, .string r.s, .slice A' r.ps.length c'] 28) := ⟨_, rfl⟩
  have hBW : Below w.heap.size w W := by rw [hW]; (repeat (first | exact Below.refl _ _ | refine ext_alloc ?_ _ | refine Below.setCell ?_ (by simp) _))
  have b0 : W.cell? ⟨w.heap.size, 0, none⟩ = some (.int .i64 r.k) := by rw [hW]; exact box_cell w _ _ 0 _ rfl
  have b1 : W.cell? ⟨w.heap.size, 1, none⟩ = some (.int .i64 r.n) := by rw [hW]; exact box_cell w _ _ 1 _ rfl
  have b2 : W.cell? ⟨w.heap.size, 2, none⟩ = some (.string r.s) := by rw [hW]; exact box_cell w _ _ 2 _ rfl
  have b3 : W.cell? ⟨w.heap.size, 3, none⟩ = some (.slice A' r.ps.length c') := by rw [hW]; exact box_cell w _ _ 3 _ rfl
  have hcon := containsFunc_any (c := c) (lb := #[.pointer (some ⟨w.heap.size, 0, none⟩)]) enters_same1 (hU.below hBW)
    (fun k hk X A1 c1 hX h1 _ => hasSame1_any h1 (hV.below (hBW.trans (hX.mono hBW.size))) (below_cell hX b0) (below_cell hX b1) (below_cell hX b2) (below_cell hX b3)) (hasB_range l r)
  have HC := Lib.hid hcon
  have HW := Lib.hid hW
  have HB := Lib.hid hBW
  clear hcon hW hBW b0 b1 b2 b3 hU hV
  go_enter Try.func81, Try.ntmps81
  go_wp2_with fail
  rw [← HW.out]
  refine HC.out.mono ?_
  rintro e w1 ⟨rfl, hB⟩
  replace hB := ext_trans HB.out hB
  go_wp2
  go_ret
  exact ⟨rfl, hB⟩
end Go.Proofs.Ytodjokdaofefdaa

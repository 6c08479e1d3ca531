/- Rules of a list: sizes. -/
import Derived.Test.YtpmelhkhmichcaaDoorRuT
namespace Go.Proofs.YtpmelhkhmichcaaDoor
set_option linter.unusedSimpArgs false
set_option linter.unusedVariables false
open Go.RowKit

abbrev RuL := List (ByteArray × Int × Bool)
/-- What a size leaves. -/
def SzPost (left : Int) (n : Nat) (w : World) (e : Ending) (w' : World) : Prop := ∃ x : Int, e = .returned (.int .i64 x) ∧ (x = -1 ∨ (0 ≤ x ∧ x + n ≤ left)) ∧ Below w.heap.size w w'
def WfRu (l : RuL) : Prop := ∀ f ∈ l, f.1.size ≤ 9223372036854775807
/-- Short paths. -/
def FewP (l : RuL) : Prop := ∀ k, k < l.length → (ru0 l k).size ≤ 1048576
theorem WfRu.at {l : RuL} (h : WfRu l) {k : Nat} (hk : k < l.length) : (ru0 l k).size ≤ 9223372036854775807 := by
  have := h _ (List.getElem_mem hk)
  rwa [← ru_elem hk] at this

set_option maxHeartbeats 400000 in
theorem szRule_any {s : ByteArray} {a left : Int} {b : Bool} {w : World} (hs : s.size ≤ 9223372036854775807) (h0 : 0 ≤ left) (h1 : left ≤ 1048576) :
    Calls Tryd.prog 42 #[.agg #[.string s, .int .i64 a, .bool b], .int .i64 left] w (SzPost left s.size w) := by
  by_cases h : left < s.size
  · go_enter Tryd.func42, Tryd.ntmps42
    go_wp2
    go_ret
    exact ⟨-1, rfl, .inl rfl, below_alloc _ _⟩
  · go_enter Tryd.func42, Tryd.ntmps42
    go_wp2
    go_ret
    exact ⟨_, rfl, .inr ⟨by omega, by omega⟩, below_alloc _ _⟩
set_option maxHeartbeats 1000000 in
theorem szRuleS_any {A : Option Addr} {l : RuL} {c : Nat} {left : Int} {w : World} (hU : ruR w A l) (hw : WfRu l) (h0 : 0 ≤ left) (h1 : left ≤ 1048576) :
    Calls Tryd.prog 23 #[.slice A l.length c, .int .i64 left] w fun e w' => ∃ x : Int, e = .returned (.int .i64 x) ∧ (x = -1 ∨ (0 ≤ x ∧ x + l.length ≤ left ∧ FewP l)) ∧ Below w.heap.size w w' := by
  have hlen := hU.len
  by_cases h : left < l.length
  · go_enter Tryd.func23, Tryd.ntmps23
    go_wp2
    go_ret
    exact ⟨-1, rfl, .inl rfl, Below.refl _ _⟩
  · go_enter Tryd.func23, Tryd.ntmps23
    go_wp2
    go_loopw [1, 5] (fun xv iv wr => ∃ (k : Nat) (x : Int), k ≤ l.length ∧ iv = .int .i64 k ∧ xv = .int .i64 x ∧ (0 ≤ x ∧ x + l.length ≤ left) ∧ Hid (∀ j, j < k → (ru0 l j).size ≤ 1048576) ∧ Below w.heap.size w wr) (fun _ iv _ => l.length - (intOf iv).toNat)
    case atStart => exact ⟨0, left - l.length, Nat.zero_le _, rfl, rfl, by omega, Lib.hid (fun j h => by omega), Below.refl _ _⟩
    case round =>
      obtain ⟨k, x, hk, rfl, rfl, ⟨x0, x1⟩, HF, hB⟩ := hrel
      by_cases hlt : k < l.length
      · obtain ⟨b, off, rfl, hc⟩ := hU.cells (by omega)
        obtain ⟨c0, c1, c2⟩ := hc k hlt
        replace c0 := below_cell hB c0
        replace c1 := below_cell hB c1
        replace c2 := below_cell hB c2
        have hs := hw.at hlt
        clear hc
        go_wp2_with fail
        refine (szRule_any hs x0 (by omega)).mono ?_
        rintro e w1 ⟨y, rfl, hy, hb⟩
        replace hB := ext_trans hB hb
        clear c0 c1 c2
        rcases hy with rfl | ⟨y0, y1⟩
        · go_wp2
          go_ret
          exact ⟨-1, rfl, .inl rfl, hB⟩
        · go_wp2
          go_roundw
          case rel => exact ⟨k + 1, y, by omega, by go_num, rfl, by omega, Lib.hid (all_succ HF.out (by omega)), hB⟩
          case measure => simp [intOf]; omega
      · obtain rfl : k = l.length := by omega
        go_wp2
        go_ret
        exact ⟨x, rfl, .inr ⟨x0, x1, HF.out⟩, hB⟩
end Go.Proofs.YtpmelhkhmichcaaDoor

/- impl.Rule: what the library finds in a slice of them by a predicate. Printed by gen_index.py. -/
import Derived.Test.YtpmelhkhmichcaaDoorRuT
namespace Go.Proofs.YtpmelhkhmichcaaDoor
set_option linter.unusedSimpArgs false
set_option linter.unusedVariables false
open Go.RowKit

/-- Where a predicate holds first. -/
def FirstP (p : Nat → Bool) (n : Nat) (i : Int) : Prop := (i = -1 ∧ ∀ k, k < n → p k = false) ∨ ∃ k : Nat, i = k ∧ k < n ∧ p k = true ∧ ∀ j, j < k → p j = false
theorem FirstP.any {p : Nat → Bool} {n : Nat} {i : Int} (h : FirstP p n i) : decide (i ≥ 0) = (List.range n).any p := by
  rw [Bool.eq_iff_iff, decide_eq_true_eq, List.any_eq_true]
  rcases h with ⟨rfl, h⟩ | ⟨k, rfl, hk, hp, _⟩
  · constructor
    · intro h; omega
    · rintro ⟨k, hk, hp⟩
      rw [h k (List.mem_range.1 hk)] at hp
      cases hp
  · exact ⟨fun _ => ⟨k, List.mem_range.2 hk, hp⟩, fun _ => by omega⟩
theorem any_not {n : Nat} {p : Nat → Bool} : (!(List.range n).any (fun k => !p k)) = decide (∀ k, k < n → p k = true) := by
  rw [Bool.eq_iff_iff, Bool.not_eq_true', List.any_eq_false, decide_eq_true_eq]
  constructor
  · intro h k hk
    have := h k (List.mem_range.2 hk)
    simpa using this
  · intro h k hk
    simp [h k (List.mem_range.1 hk)]
/-- What is asked of a predicate over a list's elements. -/
def Prru (g : Nat) (lb : Array Value) (p : Nat → Bool) (w : World) (l : List (ByteArray × Int × Bool)) : Prop :=
  ∀ k, k < l.length → ∀ W : World, Below w.heap.size w W → Calls Tryd.prog g (#[.agg #[.string (ru0 l k), .int .i64 (ru1 l k), .bool (ru2 l k)]] ++ lb) W fun e w' => e = .returned (.bool (p k)) ∧ Below W.heap.size W w'
set_option maxRecDepth 100000 in
set_option maxHeartbeats 4000000 in
theorem indexFunc_ru {g : Nat} {lb : Array Value} {p : Nat → Bool} {A : Option Addr} {l : List (ByteArray × Int × Bool)} {c : Nat} {w : World} (eg : ∀ args w, (callFunc g args).run Tryd.prog w = .ok (.enter g args) w)
    (hU : ruR w A l) (hp : Prru g lb p w l) :
    Calls Tryd.prog 66 #[.slice A l.length c, .func (.func g) #[] lb] w fun e w' => ∃ i : Int, e = .returned (.int .i64 i) ∧ FirstP p l.length i ∧ Below w.heap.size w w' := by
  have hlen := hU.len
  have HP := Lib.hid hp
  clear hp
  go_enter Tryd.func66, Tryd.ntmps66
  go_wp2
  go_loopw [5, 8] (fun _ iv wr => ∃ k : Nat, k ≤ l.length ∧ iv = .int .i64 k ∧ Hid (∀ j, j < k → p j = false) ∧ Below w.heap.size w wr) (fun _ iv _ => l.length - (intOf iv).toNat)
  case atStart => exact ⟨0, Nat.zero_le _, rfl, Lib.hid (fun j h => by omega), Below.refl _ _⟩
  case round =>
    obtain ⟨k, hk, rfl, HG, hB⟩ := hrel
    by_cases hlt : k < l.length
    · obtain ⟨b, off, rfl, hc⟩ := hU.cells (by omega)
      obtain ⟨c0, c1, c2⟩ := hc k hlt
      replace c0 := below_cell hB c0
      replace c1 := below_cell hB c1
      replace c2 := below_cell hB c2
      clear hc
      have HCALL := Lib.hid (HP.out k hlt _ hB)
      obtain ⟨y, hy⟩ : ∃ y, p k = y := ⟨_, rfl⟩
      rw [hy] at HCALL
      have HY := Lib.hid hy
      clear hy
      cases y
      · go_wp2_with fail
        refine HCALL.out.mono ?_
        rintro e w1 ⟨rfl, hb⟩
        replace hB := ext_trans hB hb
        clear hb c0 c1 c2
        go_wp2
        go_roundw
        case rel => exact ⟨k + 1, by omega, by go_num, Lib.hid (all_succ HG.out HY.out), hB⟩
        case measure => simp [intOf]; omega
      · go_wp2_with fail
        refine HCALL.out.mono ?_
        rintro e w1 ⟨rfl, hb⟩
        replace hB := ext_trans hB hb
        clear hb c0 c1 c2
        go_wp2
        go_ret
        exact ⟨k, rfl, .inr ⟨k, rfl, hlt, HY.out, HG.out⟩, hB⟩
    · obtain rfl : k = l.length := by omega
      go_wp2
      go_ret
      exact ⟨-1, rfl, .inl ⟨rfl, HG.out⟩, hB⟩
set_option maxHeartbeats 1000000 in
theorem containsFunc_ru {g : Nat} {lb : Array Value} {p : Nat → Bool} {A : Option Addr} {l : List (ByteArray × Int × Bool)} {c : Nat} {w : World} {q : Bool} (eg : ∀ args w, (callFunc g args).run Tryd.prog w = .ok (.enter g args) w)
    (hU : ruR w A l) (hp : Prru g lb p w l) (hq : (List.range l.length).any p = q) :
    Calls Tryd.prog 57 #[.slice A l.length c, .func (.func g) #[] lb] w fun e w' => e = .returned (.bool q) ∧ Below w.heap.size w w' := by
  have HI := Lib.hid (indexFunc_ru (c := c) eg hU hp)
  have HQ := Lib.hid hq
  clear hp hq
  go_enter Tryd.func57, Tryd.ntmps57
  go_wp2_with fail
  refine HI.out.mono ?_
  rintro e w1 ⟨i, rfl, hf, hB⟩
  have HE : Hid (decide (i ≥ 0) = q) := Lib.hid (by rw [hf.any, HQ.out])
  have HE2 : Hid (decide (0 ≤ i) = q) := Lib.hid HE.out
  clear hf
  go_wp2
  go_ret
  first | exact ⟨by rw [← HE.out]; rfl, hB⟩ | exact ⟨by rw [← HE2.out]; rfl, hB⟩
end Go.Proofs.YtpmelhkhmichcaaDoor

/- string: what the library finds in a slice of them by a predicate. Printed by gen_index.py. -/
import Derived.Test.YtpmelhkhmichcaaDoorSgT
import Derived.Test.YtpmelhkhmichcaaDoorRuI
namespace Go.Proofs.YtpmelhkhmichcaaDoor
set_option linter.unusedSimpArgs false
set_option linter.unusedVariables false
open Go.RowKit

/-- What is asked of a predicate over a list's elements. -/
def Prsg (g : Nat) (lb : Array Value) (p : Nat → Bool) (w : World) (l : List (ByteArray)) : Prop :=
  ∀ k, k < l.length → ∀ W : World, Below w.heap.size w W → Calls Tryd.prog g (#[.string (sg0 l k)] ++ lb) W fun e w' => e = .returned (.bool (p k)) ∧ Below W.heap.size W w'
set_option maxRecDepth 100000 in
set_option maxHeartbeats 4000000 in
theorem indexFunc_sg {g : Nat} {lb : Array Value} {p : Nat → Bool} {A : Option Addr} {l : List (ByteArray)} {c : Nat} {w : World} (eg : ∀ args w, (callFunc g args).run Tryd.prog w = .ok (.enter g args) w)
    (hU : sgR w A l) (hp : Prsg g lb p w l) :
    Calls Tryd.prog 88 #[.slice A l.length c, .func (.func g) #[] lb] w fun e w' => ∃ i : Int, e = .returned (.int .i64 i) ∧ FirstP p l.length i ∧ Below w.heap.size w w' := by
  have hlen := hU.len
  have HP := Lib.hid hp
  clear hp
  go_enter Tryd.func88, Tryd.ntmps88
  go_wp2
  go_loopw [5, 8] (fun _ iv wr => ∃ k : Nat, k ≤ l.length ∧ iv = .int .i64 k ∧ Hid (∀ j, j < k → p j = false) ∧ Below w.heap.size w wr) (fun _ iv _ => l.length - (intOf iv).toNat)
  case atStart => exact ⟨0, Nat.zero_le _, rfl, Lib.hid (fun j h => by omega), Below.refl _ _⟩
  case round =>
    obtain ⟨k, hk, rfl, HG, hB⟩ := hrel
    by_cases hlt : k < l.length
    · obtain ⟨b, off, rfl, hc⟩ := hU.cells (by omega)
      have c0 := hc k hlt
      replace c0 := below_cell hB c0
      clear hc
      have HCALL := Lib.hid (HP.out k hlt _ hB)
      obtain ⟨y, hy⟩ : ∃ y, p k = y := ⟨_, rfl⟩
      rw [hy] at HCALL
      have HY := Lib.hid hy
      clear hy
      cases y
      · go_wp2_with fail
        refine HCALL.out.mono ?_
        rintro e w1 ⟨rfl, hb⟩
        replace hB := ext_trans hB hb
        clear hb c0
        go_wp2
        go_roundw
        case rel => exact ⟨k + 1, by omega, by go_num, Lib.hid (all_succ HG.out HY.out), hB⟩
        case measure => simp [intOf]; omega
      · go_wp2_with fail
        refine HCALL.out.mono ?_
        rintro e w1 ⟨rfl, hb⟩
        replace hB := ext_trans hB hb
        clear hb c0
        go_wp2
        go_ret
        exact ⟨k, rfl, .inr ⟨k, rfl, hlt, HY.out, HG.out⟩, hB⟩
    · obtain rfl : k = l.length := by omega
      go_wp2
      go_ret
      exact ⟨-1, rfl, .inl ⟨rfl, HG.out⟩, hB⟩
set_option maxHeartbeats 1000000 in
theorem containsFunc_sg {g : Nat} {lb : Array Value} {p : Nat → Bool} {A : Option Addr} {l : List (ByteArray)} {c : Nat} {w : World} {q : Bool} (eg : ∀ args w, (callFunc g args).run Tryd.prog w = .ok (.enter g args) w)
    (hU : sgR w A l) (hp : Prsg g lb p w l) (hq : (List.range l.length).any p = q) :
    Calls Tryd.prog 71 #[.slice A l.length c, .func (.func g) #[] lb] w fun e w' => e = .returned (.bool q) ∧ Below w.heap.size w w' := by
  have HI := Lib.hid (indexFunc_sg (c := c) eg hU hp)
  have HQ := Lib.hid hq
  clear hp hq
  go_enter Tryd.func71, Tryd.ntmps71
  go_wp2_with fail
  refine HI.out.mono ?_
  rintro e w1 ⟨i, rfl, hf, hB⟩
  have HE : Hid (decide (i ≥ 0) = q) := Lib.hid (by rw [hf.any, HQ.out])
  have HE2 : Hid (decide (0 ≤ i) = q) := Lib.hid HE.out
  clear hf
  go_wp2
  go_ret
  first | exact ⟨by rw [← HE.out]; rfl, hB⟩ | exact ⟨by rw [← HE2.out]; rfl, hB⟩
end Go.Proofs.YtpmelhkhmichcaaDoor

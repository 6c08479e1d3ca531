/- The slices library, at visits. -/
import Derived.Test.YtflhmkpabhedjaaViE
import Derived.Test.YtflhmkpabhedjaaKi3
namespace Go.Proofs.Ytflhmkpabhedjaa
open Go.RowKit

/-- The first number from i on, among so many, at which p holds. -/
def firstOf (p : Nat → Bool) : Nat → Nat → Int
  | 0, _ => -1
  | f + 1, i => if p i then (i : Int) else firstOf p f (i + 1)
theorem firstOf_step {p : Nat → Bool} {N k : Nat} (hk : k < N) (h : firstOf p N 0 = firstOf p (N - k) k) : firstOf p N 0 = if p k then (k : Int) else firstOf p (N - (k + 1)) (k + 1) := by
  rw [h, show N - k = (N - (k + 1)) + 1 by omega, firstOf]
theorem firstOf_cases {p : Nat → Bool} (f : Nat) : ∀ i, (firstOf p f i = -1 ∧ ∀ j, i ≤ j → j < i + f → p j = false) ∨ ∃ m : Nat, firstOf p f i = m ∧ i ≤ m ∧ m < i + f ∧ p m = true ∧ ∀ j, i ≤ j → j < m → p j = false := by
  induction f with
  | zero => intro i; exact .inl ⟨rfl, fun j h1 h2 => by omega⟩
  | succ f ih =>
    intro i
    simp only [firstOf]
    cases hp : p i
    · simp only [Bool.false_eq_true, if_false]
      rcases ih (i + 1) with ⟨h1, h2⟩ | ⟨m, h1, h2, h3, h4, h5⟩
      · refine .inl ⟨h1, fun j h3 h4 => ?_⟩
        by_cases e : j = i
        · subst e; exact hp
        · exact h2 j (by omega) (by omega)
      · refine .inr ⟨m, h1, by omega, by omega, h4, fun j h6 h7 => ?_⟩
        by_cases e : j = i
        · subst e; exact hp
        · exact h5 j (by omega) h7
    · exact .inr ⟨i, by simp, Nat.le_refl _, by omega, hp, fun j h1 h2 => by omega⟩
def viIs (who : Int) (l : ViL) (k : Nat) : Bool := decide (vi0 l k = who)
def viIdx (who : Int) (l : ViL) : Int := firstOf (viIs who l) l.length 0
/-- What a closure that asks for someone does. -/
def AsksWho (f : FuncId) (bw : Nat) (who : Int) : Prop := ∀ (w : World) (x y z : Int), w.cell? ⟨bw, 0, Option.none⟩ = some (.int .i64 who) →
  Calls Try.prog f #[.agg #[.int .i64 x, .int .i64 y, .int .i64 z], .pointer (some ⟨bw, 0, Option.none⟩)] w fun e w' => e = .returned (.bool (decide (x = who))) ∧ Below w.heap.size w w'
set_option maxHeartbeats 1000000 in
theorem touch_asks (bw : Nat) (who : Int) : AsksWho 44 bw who := by
  intro w x y z hc
  have hB := below_alloc w (.cells #[.int .i64 x, .int .i64 y, .int .i64 z] 38)
  have q0 := box_cell w #[.int .i64 x, .int .i64 y, .int .i64 z] 38 0 (.int .i64 x) rfl
  replace hc := below_cell hB hc
  go_enter Try.func44, Try.ntmps44
  go_wp2
  go_ret
  exact ⟨ret_bool (by rw [Bool.eq_iff_iff]; simp), hB⟩
set_option maxHeartbeats 1000000 in
theorem begin_asks (bw : Nat) (who : Int) : AsksWho 47 bw who := by
  intro w x y z hc
  have hB := below_alloc w (.cells #[.int .i64 x, .int .i64 y, .int .i64 z] 38)
  have q0 := box_cell w #[.int .i64 x, .int .i64 y, .int .i64 z] 38 0 (.int .i64 x) rfl
  replace hc := below_cell hB hc
  go_enter Try.func47, Try.ntmps47
  go_wp2
  go_ret
  exact ⟨ret_bool (by rw [Bool.eq_iff_iff]; simp), hB⟩

set_option maxHeartbeats 1000000 in
theorem indexFunc_touch {bw : Nat} {who : Int} {A : Option Addr} {l : ViL} {c : Nat} {w : World} (hU : viR w A l) (hbw : w.cell? ⟨bw, 0, Option.none⟩ = some (.int .i64 who)) :
    Calls Try.prog 43 #[.slice A l.length c, .func (.func 44) #[] #[.pointer (some ⟨bw, 0, Option.none⟩)]] w fun e w' => e = .returned (.int .i64 (viIdx who l)) ∧ Below w.heap.size w w' := by
  have hl := hU.len
  have HF := Lib.hid (touch_asks bw who)
  go_enter Try.func43, Try.ntmps43
  go_wp2
  go_loopw [8] (fun i wr => ∃ k : Nat, k ≤ l.length ∧ i = .int .i64 k ∧ firstOf (viIs who l) l.length 0 = firstOf (viIs who l) (l.length - k) k ∧ Below w.heap.size w wr) (fun i _ => l.length - (intOf i).toNat)
  case atStart => exact ⟨0, Nat.zero_le _, rfl, rfl, Below.refl _ _⟩
  case round =>
    obtain ⟨k, hk, rfl, hfo, hB⟩ := hrel
    have HO := Lib.hid hfo
    clear hfo
    by_cases hlt : k < l.length
    · obtain ⟨b, off, rfl, hc⟩ := hU.cells (by omega)
      obtain ⟨c0, c1, c2⟩ := hc k hlt
      have m0 := below_cell hB c0
      have m1 := below_cell hB c1
      have m2 := below_cell hB c2
      have hw := below_cell hB hbw
      have hst := Lib.hid (firstOf_step hlt HO.out)
      have HI : Hid (viIs who l k = decide (vi0 l k = who)) := Lib.hid rfl
      clear c0 c1 c2 hc
      go_wp2_with fail
      refine (HF.out wr _ _ _ hw).mono ?_
      rintro e w1 ⟨rfl, hBc⟩
      replace hB := ext_trans hB hBc
      clear hBc m0 m1 m2 hw
      rw [← HI.out]
      cases g : viIs who l k
      · go_wp2
        go_roundw
        case rel => exact ⟨k + 1, by omega, by go_num, by rw [hst.out, g]; simp, hB⟩
        case measure => simp [intOf]; omega
      · go_wp2
        go_ret
        exact ⟨ret_int (by rw [viIdx, hst.out, g]; simp), hB⟩
    · have HK : Hid (-1 = viIdx who l) := Lib.hid (by rw [viIdx, HO.out, show l.length - k = 0 by omega, firstOf])
      go_wp2
      go_ret
      exact ⟨ret_int HK.out, hB⟩

set_option maxHeartbeats 1000000 in
theorem indexFunc_begin {bw : Nat} {who : Int} {A : Option Addr} {l : ViL} {c : Nat} {w : World} (hU : viR w A l) (hbw : w.cell? ⟨bw, 0, Option.none⟩ = some (.int .i64 who)) :
    Calls Try.prog 43 #[.slice A l.length c, .func (.func 47) #[] #[.pointer (some ⟨bw, 0, Option.none⟩)]] w fun e w' => e = .returned (.int .i64 (viIdx who l)) ∧ Below w.heap.size w w' := by
  have hl := hU.len
  have HF := Lib.hid (begin_asks bw who)
  go_enter Try.func43, Try.ntmps43
  go_wp2
  go_loopw [8] (fun i wr => ∃ k : Nat, k ≤ l.length ∧ i = .int .i64 k ∧ firstOf (viIs who l) l.length 0 = firstOf (viIs who l) (l.length - k) k ∧ Below w.heap.size w wr) (fun i _ => l.length - (intOf i).toNat)
  case atStart => exact ⟨0, Nat.zero_le _, rfl, rfl, Below.refl _ _⟩
  case round =>
    obtain ⟨k, hk, rfl, hfo, hB⟩ := hrel
    have HO := Lib.hid hfo
    clear hfo
    by_cases hlt : k < l.length
    · obtain ⟨b, off, rfl, hc⟩ := hU.cells (by omega)
      obtain ⟨c0, c1, c2⟩ := hc k hlt
      have m0 := below_cell hB c0
      have m1 := below_cell hB c1
      have m2 := below_cell hB c2
      have hw := below_cell hB hbw
      have hst := Lib.hid (firstOf_step hlt HO.out)
      have HI : Hid (viIs who l k = decide (vi0 l k = who)) := Lib.hid rfl
      clear c0 c1 c2 hc
      go_wp2_with fail
      refine (HF.out wr _ _ _ hw).mono ?_
      rintro e w1 ⟨rfl, hBc⟩
      replace hB := ext_trans hB hBc
      clear hBc m0 m1 m2 hw
      rw [← HI.out]
      cases g : viIs who l k
      · go_wp2
        go_roundw
        case rel => exact ⟨k + 1, by omega, by go_num, by rw [hst.out, g]; simp, hB⟩
        case measure => simp [intOf]; omega
      · go_wp2
        go_ret
        exact ⟨ret_int (by rw [viIdx, hst.out, g]; simp), hB⟩
    · have HK : Hid (-1 = viIdx who l) := Lib.hid (by rw [viIdx, HO.out, show l.length - k = 0 by omega, firstOf])
      go_wp2
      go_ret
      exact ⟨ret_int HK.out, hB⟩
end Go.Proofs.Ytflhmkpabhedjaa

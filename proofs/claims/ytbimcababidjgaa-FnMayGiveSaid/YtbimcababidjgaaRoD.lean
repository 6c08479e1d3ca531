/- Roles: what a role has, and what these have: the plain law. -/
import Derived.Test.YtbimcababidjgaaRoC
import Derived.Test.YtbimcababidjgaaBit
namespace Go.Proofs.Ytbimcababidjgaa
set_option linter.unusedSimpArgs false
set_option linter.unusedVariables false
open Go.RowKit

def Closed (l : RoL) (R : Nat) : Prop := ∀ i, i < l.length → R.testBit i = true → ∀ j, j < (ro2 l i).length → R.testBit (il0 (ro2 l i) j).toNat = true
def SubB (R R' : Nat) : Prop := ∀ i, R.testBit i = true → R'.testBit i = true
/-- R is the least set with n in it that has what each in it has. -/
def Reach (l : RoL) (n R : Nat) : Prop := R.testBit n = true ∧ Closed l R ∧ ∀ R', R'.testBit n = true → Closed l R' → SubB R R'
noncomputable def roReach (l : RoL) (n : Nat) : Nat := Classical.epsilon (fun R => Reach l n R)
theorem SubB.refl (R : Nat) : SubB R R := fun _ h => h
theorem SubB.trans {a b c : Nat} (h : SubB a b) (h2 : SubB b c) : SubB a c := fun i hi => h2 i (h i hi)
theorem SubB.eq {a b : Nat} (h : SubB a b) (h2 : SubB b a) : a = b := Nat.eq_of_testBit_eq (fun i => by
  rw [Bool.eq_iff_iff]
  exact ⟨h i, h2 i⟩)
theorem SubB.le {a b : Nat} (h : SubB a b) : a ≤ b := by
  have e : a ||| b = b := Nat.eq_of_testBit_eq (fun i => by
    rw [Nat.testBit_or, Bool.eq_iff_iff, Bool.or_eq_true]
    exact ⟨fun hh => hh.elim (h i) id, .inr⟩)
  rw [← e]
  exact Nat.left_le_or
theorem SubB.or_l (a b : Nat) : SubB a (a ||| b) := fun i h => by rw [Nat.testBit_or, h]; rfl
theorem SubB.or {a b c : Nat} (h : SubB a c) (h2 : SubB b c) : SubB (a ||| b) c := fun i hi => by
  rw [Nat.testBit_or, Bool.or_eq_true] at hi
  exact hi.elim (h i) (h2 i)
theorem SubB.two {n c : Nat} (h : c.testBit n = true) : SubB (2 ^ n) c := fun i hi => by
  rw [Nat.testBit_two_pow, decide_eq_true_eq] at hi
  subst hi; exact h
theorem Reach.uniq {l : RoL} {n R R' : Nat} (h : Reach l n R) (h' : Reach l n R') : R = R' := (h.2.2 R' h'.1 h'.2.1).eq (h'.2.2 R h.1 h.2.1)
theorem Reach.eq {l : RoL} {n R : Nat} (h : Reach l n R) : roReach l n = R := Reach.uniq (Classical.epsilon_spec (p := fun R => Reach l n R) ⟨R, h⟩) h
theorem roGood_has {l : RoL} {i : Nat} (h : roGood l i = true) (hi : i < l.length) : ∀ j, j < (ro2 l i).length → 0 ≤ il0 (ro2 l i) j ∧ il0 (ro2 l i) j ≤ l.length - 1 := by
  simp only [roGood, Bool.and_eq_true] at h
  exact fun j hj => (ascAt_iff.1 (ascB_iff.1 h.2.2 j hj)).1
theorem all_bits {k i : Nat} : (2 ^ k - 1).testBit i = decide (i < k) := Nat.testBit_two_pow_sub_one k i
theorem Reach.lt {l : RoL} {n R : Nat} (h : Reach l n R) (hok : roOk l = true) (hn : n < l.length) : R < 2 ^ l.length := by
  obtain ⟨_, hg⟩ := roOk_good hok
  have hs := h.2.2 (2 ^ l.length - 1) (by rw [all_bits]; simpa using hn) (fun i hi _ j hj => by
    have := roGood_has (hg i hi) hi j hj
    rw [all_bits]; simp; omega)
  have := hs.le
  have hp := Nat.two_pow_pos l.length
  omega
theorem pow_le8 {k : Nat} (h : k ≤ 8) : 2 ^ k ≤ 256 := by
  have := Nat.pow_le_pow_right (n := 2) (by omega) h
  simpa using this
theorem Reach.lt8 {l : RoL} {n R : Nat} (h : Reach l n R) (hok : roOk l = true) (hn : n < l.length) : R < 256 := by
  have h1 := h.lt hok hn
  have h2 := pow_le8 (roOk_good hok).1
  omega
/-- A step of the program: set is closed so far, next has what those behind have. -/
def StepI (l : RoL) (n s nx i : Nat) : Prop := SubB s nx ∧ (∀ R', R'.testBit n = true → Closed l R' → SubB s R' → SubB nx R') ∧ ∀ i', i' < i → i' < l.length → s.testBit i' = true → ∀ j, j < (ro2 l i').length → nx.testBit (il0 (ro2 l i') j).toNat = true
theorem StepI.start (l : RoL) (n s : Nat) : StepI l n s s 0 := ⟨SubB.refl _, fun _ _ _ h => h, fun i h => by omega⟩
theorem StepI.end {l : RoL} {n s : Nat} (h : StepI l n s s l.length) (hn : s.testBit n = true) (hm : ∀ R', R'.testBit n = true → Closed l R' → SubB s R') : Reach l n s := ⟨hn, fun i hi hb j hj => h.2.2 i hi hi hb j hj, hm⟩
theorem StepI.skip {l : RoL} {n s nx i : Nat} (h : StepI l n s nx i) (hb : s.testBit i = false) : StepI l n s nx (i + 1) := ⟨h.1, h.2.1, fun i' h1 h2 h3 => by
  by_cases e : i' = i
  · subst e; rw [hb] at h3; cases h3
  · exact h.2.2 i' (by omega) h2 h3⟩
/-- Within the numbers of one role. -/
theorem StepI.add {l : RoL} {n s nx i m : Nat} (h : StepI l n s nx i) (hi : i < l.length) (hb : s.testBit i = true) {j : Nat} (hj : j < (ro2 l i).length) (hm : (il0 (ro2 l i) j).toNat = m) : StepI l n s (nx ||| 2 ^ m) i := by
  refine ⟨h.1.trans (SubB.or_l _ _), fun R' h1 h2 h3 => SubB.or (h.2.1 R' h1 h2 h3) (SubB.two ?_), fun i' g1 g2 g3 j' g4 => SubB.or_l _ _ _ (h.2.2 i' g1 g2 g3 j' g4)⟩
  rw [← hm]
  exact h2 i hi (h3 i hb) j hj
theorem StepI.next {l : RoL} {n s nx i : Nat} (h : StepI l n s nx i) (ha : ∀ j, j < (ro2 l i).length → nx.testBit (il0 (ro2 l i) j).toNat = true) : StepI l n s nx (i + 1) := ⟨h.1, h.2.1, fun i' h1 h2 h3 => by
  by_cases e : i' = i
  · subst e; exact ha
  · exact h.2.2 i' (by omega) h2 h3⟩
theorem bit_test {s i : Nat} (hs : s < 256) (hi : i < 8) : bits BinOp.and IntKind.i64 ((s : Int) / 2 ^ i) 1 = ((s.testBit i).toNat : Int) := by
  have e : ((s : Int) / 2 ^ i) = ((s / 2 ^ i : Nat) : Int) := by simp
  have h1 : s / 2 ^ i < 256 := Nat.lt_of_le_of_lt (Nat.div_le_self _ _) hs
  rw [e]
  have := bits_and64 (t := 1) h1 (by omega)
  rw [show ((1 : Nat) : Int) = 1 from rfl] at this
  rw [this, Nat.and_one_is_mod, Nat.testBit_eq_decide_div_mod_eq]
  have h2 : s / 2 ^ i % 2 < 2 := Nat.mod_lt _ (by omega)
  by_cases e2 : s / 2 ^ i % 2 = 1
  · simp [e2]
  · have : s / 2 ^ i % 2 = 0 := by omega
    simp [this]
set_option maxRecDepth 100000 in
set_option maxHeartbeats 8000000 in
theorem rolesWith_any {A : Option Addr} {l : RoL} {c n : Nat} {w : World} (hU : roR w A l) (hok : roOk l = true) (hn : n < l.length) :
    Calls Try.prog 42 #[.slice A l.length c, .int .i64 (n : Int)] w fun e w' => e = .returned (.int .i64 (roReach l n)) ∧ Below w.heap.size w w' := by
  obtain ⟨h8, hgood⟩ := roOk_good hok
  have HG := Lib.hid hgood
  have HK := Lib.hid hok
  clear hgood hok
  have hl := hU.len
  have hn8 : n < 8 := by omega
  have hneg : ¬ (n : Int) < 0 := by omega
  have hw2 := wrap_two hn8
  have HW2 := Lib.hid hw2
  clear hw2
  go_enter Try.func42, Try.ntmps42
  go_wp2
  rw [HW2.out]
  go_loopw [5] (fun sv wr => ∃ s : Nat, sv = .int .i64 (s : Int) ∧ s < 256 ∧ Hid (s.testBit n = true ∧ ∀ R', R'.testBit n = true → Closed l R' → SubB s R') ∧ Below w.heap.size w wr) (fun sv _ => 256 - (intOf sv).toNat)
  case atStart => exact ⟨2 ^ n, rfl, two_lt hn8, Lib.hid ⟨by rw [Nat.testBit_two_pow]; simp, fun R' h _ => SubB.two h⟩, Below.refl _ _⟩
  case round =>
    obtain ⟨s, rfl, hs, HS, hB⟩ := hrel
    go_wp2
    go_loopw [6, 16] (fun nv iv w2 => ∃ i nx : Nat, i ≤ l.length ∧ iv = .int .i64 i ∧ nv = .int .i64 (nx : Int) ∧ nx < 256 ∧ Hid (StepI l n s nx i) ∧ Below w.heap.size w w2) (fun _ iv _ => l.length - (intOf iv).toNat)
    case atStart => exact ⟨0, s, Nat.zero_le _, rfl, rfl, hs, Lib.hid (StepI.start l n s), hB⟩
    case round =>
      clear hB
      obtain ⟨i, nx, hi, rfl, rfl, hnx, HI, hB⟩ := hrel
      by_cases hlt : i < l.length
      · obtain ⟨b, off, rfl, hc⟩ := roR.cells hU (by omega)
        obtain ⟨A', c', hfd, c0, c1, c2⟩ := hc i hlt
        replace c0 := below_cell hB c0
        replace c1 := below_cell hB c1
        replace c2 := below_cell hB c2
        replace hfd := hfd.below hB
        have hll := hfd.len
        have HR := Lib.hid (roGood_has (HG.out i hlt) hlt)
        clear hc
        have hi8 : i < 8 := by omega
        have hbt := bit_test hs hi8
        have hineg : ¬ (i : Int) < 0 := by omega
        cases g : s.testBit i
        · rw [g] at hbt
          have HGB := Lib.hid g
          simp only [Bool.toNat_false] at hbt
          clear g
          go_wp2
          go_roundw
          case rel => exact ⟨i + 1, nx, by omega, by go_num, rfl, hnx, Lib.hid (HI.out.skip HGB.out), ext_alloc hB _⟩
          case measure => simp [intOf]; omega
        · rw [g] at hbt
          have HGB := Lib.hid g
          simp only [Bool.toNat_true] at hbt
          clear g
          have hbl := below_alloc wr (.cells #[.string (ro0 l i), .int .i64 (ro1 l i), .slice A' (ro2 l i).length c'] 73)
          obtain ⟨X, hX⟩ : ∃ X, X = wr.alloc (.cells #[.string (ro0 l i), .int .i64 (ro1 l i), .slice A' (ro2 l i).length c'] 73) := ⟨_, rfl⟩
          rw [← hX] at hbl
          have hBX := ext_trans hB hbl
          have hfd2 := hfd.below hbl
          have HX := Lib.hid hX
          clear hX hbl
          go_wp2
          rw [← HX.out]
          clear hbt
          go_loop [6, 29] (fun nv jv => ∃ j x : Nat, j ≤ (ro2 l i).length ∧ jv = .int .i64 j ∧ nv = .int .i64 (x : Int) ∧ x < 256 ∧ Hid (StepI l n s x i ∧ ∀ j', j' < j → x.testBit (il0 (ro2 l i) j').toNat = true)) (fun _ jv => (ro2 l i).length - (intOf jv).toNat)
          case atStart => exact ⟨0, nx, Nat.zero_le _, rfl, rfl, hnx, Lib.hid ⟨HI.out, fun j h => by omega⟩⟩
          case round =>
            obtain ⟨j, x, hj, rfl, rfl, hx, HJ⟩ := hrel
            by_cases hlt2 : j < (ro2 l i).length
            · obtain ⟨b2, off2, rfl, hc2⟩ := hfd2.cells (by omega)
              have m0 := hc2 j hlt2
              obtain ⟨n0, n1⟩ := HR.out j hlt2
              clear hc2
              obtain ⟨m, hm⟩ : ∃ m : Nat, il0 (ro2 l i) j = m := ⟨(il0 (ro2 l i) j).toNat, by omega⟩
              have hm8 : m < 8 := by omega
              have HM := Lib.hid hm
              rw [hm] at m0
              clear hm n0 n1
              have hmneg : ¬ (m : Int) < 0 := by omega
              have HBS := Lib.hid (bits_set hx hm8)
              go_wp2
              go_round
              case rel => exact ⟨j + 1, x ||| 2 ^ m, by omega, by go_num, by rw [HBS.out], or_lt hx (two_lt hm8), Lib.hid ⟨HJ.out.1.add hlt HGB.out hlt2 (by rw [HM.out]; rfl), fun j' hj' => by
                by_cases e : j' = j
                · subst e
                  rw [Nat.testBit_or, HM.out]
                  simp [Nat.testBit_two_pow]
                · exact SubB.or_l _ _ _ (HJ.out.2 j' (by omega))⟩⟩
              case measure => simp [intOf]; omega
            · obtain rfl : j = (ro2 l i).length := by omega
              go_wp2
              go_roundw
              case rel => exact ⟨_, _, _, _, _, ⟨i + 1, by omega, by go_num, x, rfl, hx, Lib.hid (HJ.out.1.next HJ.out.2)⟩, rfl, rfl, rfl, rfl, rfl⟩
              case measure => simp [intOf]; omega
      · obtain rfl : i = l.length := by omega
        by_cases g : nx = s
        · have g1 : ((nx : Int) == (s : Int)) = true := by simp [g]
          have HR := Lib.hid (show Reach l n s from StepI.end (by have := HI.out; rwa [g] at this) HS.out.1 HS.out.2)
          clear g
          go_wp2
          go_ret
          exact ⟨ret_int (by rw [HR.out.eq]), hB⟩
        · have g1 : ((nx : Int) == (s : Int)) = false := by simp only [beq_eq_false_iff_ne, ne_eq]; omega
          have hle := SubB.le HI.out.1
          have hlt3 : s < nx := by omega
          have HN := Lib.hid HI.out.2.1
          have HSN : Hid (nx.testBit n = true ∧ ∀ R', R'.testBit n = true → Closed l R' → SubB nx R') := Lib.hid ⟨HI.out.1 n HS.out.1, fun R' h1 h2 => HN.out R' h1 h2 (HS.out.2 R' h1 h2)⟩
          clear g hle
          go_wp2
          go_roundw
          case rel => exact ⟨nx, rfl, hnx, HSN, hB⟩
          case measure => simp [intOf]; omega
end Go.Proofs.Ytbimcababidjgaa

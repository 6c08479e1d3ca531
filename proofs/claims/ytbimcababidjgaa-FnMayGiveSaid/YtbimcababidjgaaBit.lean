/- Sets of small numbers, as bits of a number. -/
import Derived.Test.YtbimcababidjgaaIlB
import Derived.IntWalk
namespace Go.Proofs.Ytbimcababidjgaa
set_option linter.unusedSimpArgs false
set_option linter.unusedVariables false
open Go.RowKit

/-- How many of the numbers 0 to 7 are in a set. -/
def popc (s : Nat) : Nat := (s.testBit 0).toNat + (s.testBit 1).toNat + (s.testBit 2).toNat + (s.testBit 3).toNat + (s.testBit 4).toNat + (s.testBit 5).toNat + (s.testBit 6).toNat + (s.testBit 7).toNat
def setOf (l : IL) : Nat := l.foldl (fun s n => s ||| 2 ^ n.toNat) 0
def cnt (S : Nat) (l : IL) : Nat := (l.filter (fun n => S.testBit n.toNat)).length
theorem two_lt {n : Nat} (h : n < 8) : 2 ^ n < 256 := by
  have := Nat.pow_lt_pow_right (a := 2) (by omega) h
  simpa using this
theorem or_lt {s t : Nat} (hs : s < 256) (ht : t < 256) : s ||| t < 256 := Nat.or_lt_two_pow (n := 8) hs ht
theorem and_lt {s t : Nat} (hs : s < 256) : s &&& t < 256 := Nat.lt_of_le_of_lt Nat.and_le_left hs
theorem ofInt_nat (s : Nat) : BitVec.ofInt 64 (s : Int) = BitVec.ofNat 64 s := by
  apply BitVec.eq_of_toNat_eq
  rw [BitVec.toNat_ofInt, BitVec.toNat_ofNat]
  omega
theorem wrap_or {s t : Nat} (hs : s < 256) (ht : t < 256) : IntKind.i64.wrap ((BitVec.ofInt 64 (s : Int) ||| BitVec.ofInt 64 (t : Int)).toNat : Int) = ((s ||| t : Nat) : Int) := by
  have h := or_lt hs ht
  rw [ofInt_nat, ofInt_nat, BitVec.toNat_or, BitVec.toNat_ofNat, BitVec.toNat_ofNat, Nat.mod_eq_of_lt (by omega), Nat.mod_eq_of_lt (by omega)]
  exact IntWalk.i64_in _ (by omega)
theorem wrap_and {s t : Nat} (hs : s < 256) (ht : t < 256) : IntKind.i64.wrap ((BitVec.ofInt 64 (s : Int) &&& BitVec.ofInt 64 (t : Int)).toNat : Int) = ((s &&& t : Nat) : Int) := by
  have h := and_lt (t := t) hs
  rw [ofInt_nat, ofInt_nat, BitVec.toNat_and, BitVec.toNat_ofNat, BitVec.toNat_ofNat, Nat.mod_eq_of_lt (by omega), Nat.mod_eq_of_lt (by omega)]
  exact IntWalk.i64_in _ (by omega)
theorem wrap_two {n : Nat} (h : n < 8) : wrap64 (2 ^ n) = ((2 ^ n : Nat) : Int) := by
  have h2 := two_lt h
  have e : ((2 : Int) ^ n) = ((2 ^ n : Nat) : Int) := by simp
  rw [e]
  clear e
  generalize 2 ^ n = m at h2
  exact IntWalk.wrap64_in _ (by omega)
theorem bits_or64 {s t : Nat} (hs : s < 256) (ht : t < 256) : bits BinOp.or IntKind.i64 (s : Int) (t : Int) = ((s ||| t : Nat) : Int) := wrap_or hs ht
theorem bits_and64 {s t : Nat} (hs : s < 256) (ht : t < 256) : bits BinOp.and IntKind.i64 (s : Int) (t : Int) = ((s &&& t : Nat) : Int) := wrap_and hs ht
theorem bits_set {s n : Nat} (hs : s < 256) (hn : n < 8) : bits BinOp.or IntKind.i64 (s : Int) (wrap64 (2 ^ n)) = ((s ||| 2 ^ n : Nat) : Int) := by
  rw [wrap_two hn, bits_or64 hs (two_lt hn)]
theorem setOf_snoc (l : IL) (n : Int) : setOf (l ++ [n]) = setOf l ||| 2 ^ n.toNat := by simp [setOf]
theorem setOf_nil : setOf [] = 0 := rfl
theorem setOf_take (l : IL) {k : Nat} (hk : k < l.length) : setOf (l.take (k + 1)) = setOf (l.take k) ||| 2 ^ (il0 l k).toNat := by
  rw [List.take_succ_eq_append_getElem hk, setOf_snoc, il_get hk]
theorem fold_testBit (i : Nat) : ∀ (l : IL) (s : Nat), (l.foldl (fun s n => s ||| 2 ^ n.toNat) s).testBit i = (s.testBit i || l.any (fun n => n.toNat == i))
  | [], s => by simp
  | n :: l, s => by
    rw [List.foldl_cons, fold_testBit i l, Nat.testBit_or, Nat.testBit_two_pow, List.any_cons, Bool.or_assoc]
    congr 2
theorem setOf_testBit (l : IL) (i : Nat) : (setOf l).testBit i = l.any (fun n => n.toNat == i) := by
  rw [setOf, fold_testBit]; simp
theorem setOf_lt : ∀ (l : IL), (∀ n ∈ l, 0 ≤ n ∧ n ≤ 7) → setOf l < 256 := by
  intro l h
  have key : ∀ (l : IL) (s : Nat), s < 256 → (∀ n ∈ l, 0 ≤ n ∧ n ≤ 7) → l.foldl (fun s n => s ||| 2 ^ n.toNat) s < 256 := by
    intro l
    induction l with
    | nil => intro s hs _; exact hs
    | cons n l ih =>
      intro s hs h
      refine ih _ (or_lt hs (two_lt ?_)) (fun m hm => h m (by simp [hm]))
      have := h n (by simp)
      omega
  exact key l 0 (by omega) h
theorem popc_or {s S n : Nat} (hn : n < 8) (h : s.testBit n = false) : popc ((s ||| 2 ^ n) &&& S) = popc (s &&& S) + (S.testBit n).toNat := by
  unfold popc
  have hc : n = 0 ∨ n = 1 ∨ n = 2 ∨ n = 3 ∨ n = 4 ∨ n = 5 ∨ n = 6 ∨ n = 7 := by omega
  rcases hc with rfl | rfl | rfl | rfl | rfl | rfl | rfl | rfl <;> simp only [Nat.testBit_and, Nat.testBit_or, Nat.testBit_two_pow, h] <;> simp <;> omega
theorem cnt_take (S : Nat) (l : IL) {k : Nat} (hk : k < l.length) : cnt S (l.take (k + 1)) = cnt S (l.take k) + (S.testBit (il0 l k).toNat).toNat := by
  unfold cnt
  rw [List.take_succ_eq_append_getElem hk, List.filter_append, il_get hk]
  cases h : S.testBit l[k].toNat <;> simp [List.filter_cons, h]
theorem popc_setOf {l : IL} {hi : Int} (S : Nat) (h : ascB l hi = true) (hh : hi ≤ 7) : ∀ k, k ≤ l.length → popc (setOf (l.take k) &&& S) = cnt S (l.take k)
  | 0, _ => by simp [setOf, cnt, popc]
  | k + 1, hk => by
    have hs := ascB_iff.1 h
    have ha := ascAt_iff.1 (hs k (by omega))
    have hlt : ∀ d j, j + d + 1 < l.length → il0 l j < il0 l (j + d + 1) := by
      intro d
      induction d with
      | zero => intro j hj; have := (ascAt_iff.1 (hs (j + 1) hj)).2 (by omega); simpa using this
      | succ d ih =>
        intro j hj
        have h1 := ih j (by omega)
        have h2 := (ascAt_iff.1 (hs (j + (d + 1) + 1) hj)).2 (by omega)
        rw [show j + (d + 1) + 1 - 1 = j + d + 1 by omega] at h2
        omega
    have hn : (setOf (l.take k)).testBit (il0 l k).toNat = false := by
      rw [setOf_testBit, Bool.eq_false_iff]
      intro hany
      obtain ⟨n, hn, he⟩ := List.any_eq_true.1 hany
      obtain ⟨j, hj, rfl⟩ := List.getElem_of_mem hn
      simp only [List.length_take] at hj
      have hjl : j < l.length := by omega
      rw [List.getElem_take, ← il_get hjl] at he
      have h1 := hlt (k - j - 1) j (by omega)
      rw [show j + (k - j - 1) + 1 = k by omega] at h1
      have h2 := (ascAt_iff.1 (hs j hjl)).1
      simp at he
      omega
    rw [setOf_take l (by omega), popc_or (by omega) hn, popc_setOf S h hh k (by omega), cnt_take S l (by omega)]
theorem popc_all {l : IL} {hi : Int} (S : Nat) (h : ascB l hi = true) (hh : hi ≤ 7) : popc (setOf l &&& S) = cnt S l := by
  have := popc_setOf S h hh l.length (Nat.le_refl _)
  rwa [List.take_length] at this
end Go.Proofs.Ytbimcababidjgaa

/- Seals of records: what they are, and the functions that reckon them. -/
import Derived.Test.YtdpiaiblpafglaaFdV
import Derived.Test.YtdpiaiblpafglaaKi3
import Derived.Test.YtdpiaiblpafglaaIlR
import Derived.Test.YtdpiaiblpafglaaPer
import Derived.Test.YtdpiaiblpafglaaTim
namespace Go.Proofs.Ytdpiaiblpafglaa
set_option linter.unusedSimpArgs false
set_option linter.unusedVariables false
open Go.RowKit

def mixI (s n : Int) : Int := (((31 * s + 7919 * n + 17) % 1000003) * ((31 * s + 7919 * n + 17) % 1000003) + (31 * s + 7919 * n + 17) % 1000003 + 7) % 1000003
theorem mixI_bounds (s n : Int) : 0 ≤ mixI s n ∧ mixI s n ≤ 1000002 := by
  unfold mixI
  exact ⟨Int.emod_nonneg _ (by omega), by have := Int.emod_lt_of_pos (((31 * s + 7919 * n + 17) % 1000003) * ((31 * s + 7919 * n + 17) % 1000003) + (31 * s + 7919 * n + 17) % 1000003 + 7) (b := 1000003) (by omega); omega⟩
def b2i (b : Bool) : Int := if b then 1 else 0
theorem b2i_bounds (b : Bool) : 0 ≤ b2i b ∧ b2i b ≤ 1 := by cases b <;> simp [b2i]
def rcOk (before tm who act what : Int) : Bool := inB before 0 1000002 && (inB tm 0 1000 && (inB who 0 6 && (inB act 0 6 && inB what 0 6)))
def rcMix (before tm who act what : Int) (al : Bool) : Int := mixI (mixI (mixI (mixI (mixI before tm) who) act) what) (b2i al)
def rcSeal (before tm who act what : Int) (al : Bool) : Int := if rcOk before tm who act what then rcMix before tm who act what al else -1
theorem rcMix_bounds (before tm who act what : Int) (al : Bool) : 0 ≤ rcMix before tm who act what al ∧ rcMix before tm who act what al ≤ 1000002 := mixI_bounds _ _
theorem rcSeal_bounds (before tm who act what : Int) (al : Bool) : -1 ≤ rcSeal before tm who act what al ∧ rcSeal before tm who act what al ≤ 1000002 := by
  have := rcMix_bounds before tm who act what al
  unfold rcSeal
  split <;> omega
theorem rcOk_bounds {before tm who act what : Int} (h : rcOk before tm who act what = true) : (0 ≤ before ∧ before ≤ 1000002) ∧ (0 ≤ tm ∧ tm ≤ 1000) ∧ (0 ≤ who ∧ who ≤ 6) ∧ (0 ≤ act ∧ act ≤ 6) ∧ (0 ≤ what ∧ what ≤ 6) := by
  simp only [rcOk, Bool.and_eq_true, inB_true] at h
  exact ⟨h.1, h.2.1, h.2.2.1, h.2.2.2.1, h.2.2.2.2⟩
theorem mix_steps {s n : Int} (h0 : 0 ≤ s) (h1 : s ≤ 1000002) (h2 : 0 ≤ n) (h3 : n ≤ 1000) : ∃ x : Int, x = (31 * s + 7919 * n + 17) % 1000003 ∧ 0 ≤ x ∧ x ≤ 1000002 ∧ 0 ≤ x * x ∧ x * x ≤ 1000004000004 ∧ mixI s n = (x * x + x + 7) % 1000003 := by
  refine ⟨_, rfl, Int.emod_nonneg _ (by omega), by have := Int.emod_lt_of_pos (31 * s + 7919 * n + 17) (b := 1000003) (by omega); omega, ?_, ?_, rfl⟩
  · exact Int.mul_nonneg (Int.emod_nonneg _ (by omega)) (Int.emod_nonneg _ (by omega))
  · have a := Int.emod_nonneg (31 * s + 7919 * n + 17) (b := 1000003) (by omega)
    have b : (31 * s + 7919 * n + 17) % 1000003 ≤ 1000002 := by have := Int.emod_lt_of_pos (31 * s + 7919 * n + 17) (b := 1000003) (by omega); omega
    have := Int.mul_le_mul b b a (by omega)
    omega

set_option maxHeartbeats 400000 in
theorem l29Mix_any {s n : Int} {w : World} (h0 : 0 ≤ s) (h1 : s ≤ 1000002) (h2 : 0 ≤ n) (h3 : n ≤ 1000) :
    Calls Try.prog 46 #[.int .i64 s, .int .i64 n] w fun e w' => e = .returned (.int .i64 (mixI s n)) ∧ Below w.heap.size w w' := by
  obtain ⟨x, hx, x0, x1, x2, x3, hm⟩ := mix_steps h0 h1 h2 h3
  rw [hm]
  have hx' : (s * 31 + n * 7919 + 17) % 1000003 = x := by rw [hx]; congr 1; omega
  obtain ⟨y, hy⟩ : ∃ y, y = x * x := ⟨_, rfl⟩
  rw [← hy] at x2 x3 ⊢
  have HX := Lib.hid hx'
  have HY := Lib.hid hy
  clear hx hx' hm hy
  go_enter Try.func46, Try.ntmps46
  go_wp2
  go_ret
  refine ⟨ret_int ?_, Below.refl _ _⟩
  rw [HX.out, ← HY.out, IntWalk.wrap64_in y (by omega), IntWalk.wrap64_in (y + x) (by omega), IntWalk.wrap64_in (y + x + 7) (by omega), Int.tmod_eq_emod_of_nonneg (by omega)]

/-- What is mixed in, one after the other. -/
def mixAll (s : Int) : List Int → Int
  | [] => s
  | n :: l => mixAll (mixI s n) l
theorem mixAll_snoc (s : Int) (l : List Int) (n : Int) : mixAll s (l ++ [n]) = mixI (mixAll s l) n := by
  induction l generalizing s with
  | nil => rfl
  | cons a l ih => simp only [List.cons_append, mixAll, ih]
theorem mixAll_bounds (s : Int) (l : List Int) (h0 : 0 ≤ s) (h1 : s ≤ 1000002) : 0 ≤ mixAll s l ∧ mixAll s l ≤ 1000002 := by
  induction l generalizing s with
  | nil => exact ⟨h0, h1⟩
  | cons a l ih => exact ih _ (mixI_bounds _ _).1 (mixI_bounds _ _).2

set_option maxHeartbeats 1000000 in
theorem sealNext_any {A : Option Addr} {l : List Int} {c : Nat} {s : Int} {w : World} (hU : ilR w A l) (hl : ∀ n ∈ l, 0 ≤ n ∧ n ≤ 1000) (h0 : 0 ≤ s) (h1 : s ≤ 1000002) :
    Calls Try.prog 43 #[.int .i64 s, .slice A l.length c] w fun e w' => e = .returned (.int .i64 (mixAll s l)) ∧ Below w.heap.size w w' := by
  have hlen := hU.len
  go_enter Try.func43, Try.ntmps43
  go_wp2
  go_loopw [0, 10] (fun sv iv wr => ∃ (k : Nat) (t : Int), k ≤ l.length ∧ iv = .int .i64 k ∧ sv = .int .i64 t ∧ t = mixAll s (l.take k) ∧ (0 ≤ t ∧ t ≤ 1000002) ∧ w = wr) (fun _ iv _ => l.length - (intOf iv).toNat)
  case atStart => exact ⟨0, s, Nat.zero_le _, rfl, rfl, rfl, ⟨h0, h1⟩, rfl⟩
  case round =>
    obtain ⟨k, t, hk, rfl, rfl, ht, ⟨t0, t1⟩, rfl⟩ := hrel
    have HT := Lib.hid ht
    clear ht
    by_cases hlt : k < l.length
    · obtain ⟨b, off, rfl, hc⟩ := hU.cells (by omega)
      have c0 := hc k hlt
      have hn := hl _ (List.getElem_mem hlt)
      rw [← il_elem hlt] at hn
      obtain ⟨n, hnn⟩ : ∃ n, n = il0 l k := ⟨_, rfl⟩
      rw [← hnn] at c0 hn
      obtain ⟨n0, n1⟩ := hn
      obtain ⟨x, hx, x0, x1, x2, x3, hm⟩ := mix_steps t0 t1 n0 n1
      obtain ⟨y, hy⟩ : ∃ y, y = x * x := ⟨_, rfl⟩
      rw [← hy] at x2 x3 hm
      have HN := Lib.hid hnn
      have HX := Lib.hid hx.symm
      have HY := Lib.hid hy
      have HM := Lib.hid hm
      clear hx hm hy hnn hc
      go_wp2
      go_roundw
      case rel =>
        refine ⟨k + 1, mixI t n, by omega, by go_num, ?_, ?_, mixI_bounds _ _, by first | rfl | trivial⟩
        · rw [HX.out, ← HY.out, IntWalk.wrap64_in y (by omega), IntWalk.wrap64_in (y + x) (by omega), IntWalk.wrap64_in (y + x + 7) (by omega), Int.tmod_eq_emod_of_nonneg (by omega), HM.out]
        · rw [List.take_succ_eq_append_getElem hlt, mixAll_snoc, ← HT.out, HN.out, il_elem hlt]
      case measure => simp [intOf]; omega
    · obtain rfl : k = l.length := by omega
      go_wp2
      go_ret
      exact ⟨ret_int (by rw [HT.out, List.take_length]), Below.refl _ _⟩
set_option maxHeartbeats 400000 in
theorem TruthOf_any (b : Bool) (w : World) :
    Calls Try.prog 44 #[.bool b] w fun e w' => e = .returned (.agg #[.int .i64 1, .int .i64 (b2i b)]) ∧ Below w.heap.size w w' := by
  cases b
  all_goals
    go_enter Try.func44, Try.ntmps44
    go_wp2
    refine bodyPost_ret (v := .agg #[.int .i64 1, .int .i64 (b2i _)]) (by simp [results, go_sem, b2i]) rfl ⟨rfl, ?_⟩
    repeat (first | exact Below.refl _ _ | refine ext_alloc ?_ _)
end Go.Proofs.Ytdpiaiblpafglaa

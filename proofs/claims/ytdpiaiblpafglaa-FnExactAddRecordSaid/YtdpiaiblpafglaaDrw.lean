/- The reader of codes: pick and odd. -/
import Derived.Test.YtdpiaiblpafglaaBas
namespace Go.Proofs.Ytdpiaiblpafglaa
set_option linter.unusedSimpArgs false
set_option linter.unusedVariables false
open Go.RowKit

/-- The reader at block br stands at p: its code reads as bytes. -/
def Rdr (w : World) (br cb : Nat) (p : Int) : Prop :=
  cb ≤ br ∧ ∃ A n c, w.heap[br]? = some (.cells #[.slice A n c, .int .i64 p] 82 (0, 0)) ∧ n ≤ 2000 ∧
    (0 < n → ∃ b off, A = some ⟨b, off, Option.none⟩ ∧ b < cb ∧ ∀ k, k < n → ∃ u : Int, (0 ≤ u ∧ u ≤ 255) ∧ w.cell? ⟨b, off + k, Option.none⟩ = some (.int .u8 u))
theorem Rdr.lt {w : World} {br cb : Nat} {p : Int} (h : Rdr w br cb p) : br < w.heap.size := by
  obtain ⟨_, A, n, c, hb, _⟩ := h
  exact (Array.getElem?_eq_some_iff.1 hb).1
theorem Rdr.cb {w : World} {br cb : Nat} {p : Int} (h : Rdr w br cb p) : cb ≤ br := h.1
theorem Rdr.below {w w' : World} {br cb : Nat} {p : Int} (h : Rdr w br cb p) (hb : Below w.heap.size w w') : Rdr w' br cb p := by
  have hlt := h.lt
  obtain ⟨h0, A, n, c, h1, h2, h3⟩ := h
  refine ⟨h0, A, n, c, (hb.block br hlt).trans h1, h2, fun hn => ?_⟩
  obtain ⟨b, off, e, hne, hc⟩ := h3 hn
  exact ⟨b, off, e, hne, fun k hk => let ⟨u, hu, hcu⟩ := hc k hk; ⟨u, hu, below_cell hb hcu⟩⟩
def PickPost (w : World) (br cb : Nat) (p n : Int) (e : Ending) (w' : World) : Prop :=
  ∃ x : Int, e = .returned (.int .i64 x) ∧ 0 ≤ x ∧ (1 ≤ n → x < n) ∧ (n < 1 → x = 0) ∧ Rdr w' br cb (p + 1) ∧ w.grownBy w' (some br)

theorem xor_nonneg (a b : Nat) (ha : a < 9223372036854775808) (hb : b < 9223372036854775808) : 0 ≤ bits .xor .i64 (a : Int) (b : Int) ∧ bits .xor .i64 (a : Int) (b : Int) ≤ 9223372036854775807 := by
  have hx : a ^^^ b < 2 ^ 63 := Nat.xor_lt_two_pow (by omega) (by omega)
  have e : bits .xor .i64 (a : Int) (b : Int) = ((a ^^^ b : Nat) : Int) := by
    show IntKind.i64.wrap ((BitVec.ofInt 64 (a : Int) ^^^ BitVec.ofInt 64 (b : Int)).toNat : Int) = _
    rw [BitVec.toNat_xor, BitVec.ofInt_natCast, BitVec.ofInt_natCast, BitVec.toNat_ofNat, BitVec.toNat_ofNat, Nat.mod_eq_of_lt (by omega), Nat.mod_eq_of_lt (by omega), IntKind.wrap_i64]
    omega
  rw [e]
  omega
theorem xor_pos {x : Int} (h0 : 0 ≤ x) (h1 : x ≤ 1000000000000000) : 0 ≤ bits .xor .i64 x (x / 64) ∧ bits .xor .i64 x (x / 64) ≤ 9223372036854775807 := by
  obtain ⟨n, rfl⟩ := Int.eq_ofNat_of_zero_le h0
  have := xor_nonneg n (n / 64) (by omega) (by omega)
  rwa [Int.natCast_ediv] at this

theorem rdr_set {w : World} {br cb : Nat} {p : Int} (h : Rdr w br cb p) : Rdr (w.setCell ⟨br, 1, Option.none⟩ (.int .i64 (p + 1))) br cb (p + 1) ∧ w.grownBy (w.setCell ⟨br, 1, Option.none⟩ (.int .i64 (p + 1))) (some br) := by
  obtain ⟨h0, A, n, c, h1, h2, h3⟩ := h
  have hg : w.grownBy (w.setCell ⟨br, 1, Option.none⟩ (.int .i64 (p + 1))) (some br) := ⟨rfl, rfl, rfl, by simp [World.setCell], fun k _ hk => Below.heap_setCell w ⟨br, 1, Option.none⟩ _ k (fun e => hk (by simp [e]))⟩
  refine ⟨⟨h0, A, n, c, ?_, h2, fun hn => ?_⟩, hg⟩
  · simp [World.setCell, Array.getElem?_modify, h1]
  · obtain ⟨b, off, e, hne, hc⟩ := h3 hn
    exact ⟨b, off, e, hne, fun k hk => let ⟨u, hu, hcu⟩ := hc k hk; ⟨u, hu, hg.cell hcu (by simp; omega)⟩⟩

set_option maxRecDepth 100000 in
set_option maxHeartbeats 4000000 in
theorem pick_any {br cb : Nat} {p n : Int} {w : World} (hR : Rdr w br cb p) (hp0 : 0 ≤ p) (hp1 : p ≤ 1000000000) (hn : n ≤ 1000000) :
    Calls Try.prog 39 #[.pointer (some ⟨br, 0, Option.none⟩), .int .i64 n] w (PickPost w br cb p n) := by
  obtain ⟨hR2, hG⟩ := rdr_set hR
  have hlt := hR.lt
  obtain ⟨h0, A, m, c, hb, hm, hcode⟩ := hR
  have c0 : w.cell? ⟨br, 0, Option.none⟩ = some (.slice A m c) := cell_of_row w br 0 _ _ (0, 0) hb
  have c1 : w.cell? ⟨br, 1, Option.none⟩ = some (.int .i64 p) := cell_of_row w br 1 _ _ (0, 0) hb
  have f1 : w.frozen? ⟨br, 1, Option.none⟩ = false := frozen_of_row w br 1 _ _ hb
  have d0 : (w.setCell ⟨br, 1, Option.none⟩ (.int .i64 (p + 1))).cell? ⟨br, 0, Option.none⟩ = some (.slice A m c) := by rw [World.cell?_setCell_other w _ _ _ (by simp)]; exact c0
  have d1 : (w.setCell ⟨br, 1, Option.none⟩ (.int .i64 (p + 1))).cell? ⟨br, 1, Option.none⟩ = some (.int .i64 (p + 1)) := by rw [cell_of_row _ br 1 _ _ (0, 0) (hR2.2.choose_spec.choose_spec.choose_spec.1)]; rfl
  by_cases h1 : n < 1
  · go_enter Try.func39, Try.ntmps39
    go_wp2
    go_ret
    exact ⟨0, rfl, by omega, by omega, fun _ => rfl, hR2, hG⟩
  · rcases Nat.eq_zero_or_pos m with hm0 | hm0
    · subst hm0
      go_enter Try.func39, Try.ntmps39
      go_wp2
      go_ret
      exact ⟨0, rfl, by omega, by omega, fun _ => rfl, hR2, hG⟩
    · have hm1 : ((m : Int) == 0) = false := by simp; omega
      obtain ⟨b, off, rfl, hne, hc⟩ := hcode hm0
      by_cases h2 : p < m
      · obtain ⟨k, rfl⟩ := Int.eq_ofNat_of_zero_le hp0
        obtain ⟨u, ⟨hu0, hu1⟩, hcu⟩ := hc k (by omega)
        have e1 := hG.cell hcu (by simp; omega)
        go_enter Try.func39, Try.ntmps39
        go_wp2
        go_ret
        exact ⟨_, rfl, Int.emod_nonneg _ (by omega), fun _ => Int.emod_lt_of_pos _ (by omega), fun h => by omega, hR2, hG⟩
      · have hmp : (0 : Int) < m := by omega
        have i0 := Int.emod_nonneg p (b := (m : Int)) (by omega)
        have i1 := Int.emod_lt_of_pos p (b := (m : Int)) (by omega)
        have j0 := Int.emod_nonneg (p * 7 + 3) (b := (m : Int)) (by omega)
        have j1 := Int.emod_lt_of_pos (p * 7 + 3) (b := (m : Int)) (by omega)
        obtain ⟨u1, ⟨u10, u11⟩, hu1⟩ := hc (p % m).toNat (by omega)
        obtain ⟨u2, ⟨u20, u21⟩, hu2⟩ := hc ((p * 7 + 3) % m).toNat (by omega)
        have v0 := Int.ediv_nonneg hp0 (Int.le_of_lt hmp)
        have v1 := Int.ediv_le_self (m : Int) hp0
        obtain ⟨x0, x1⟩ := xor_pos (x := u1 * 131 + u2 * 1117 + p * 29 + p / m * 53) (by omega) (by omega)
        have l1 := cell_regrown (hG.cell hu1 (by simp; omega))
        have l2 := cell_regrown (hG.cell hu2 (by simp; omega))
        have k0 := cell_regrown d0
        have k1 := cell_regrown d1
        go_enter Try.func39, Try.ntmps39
        go_wp2
        refine wp_region_quiet_below (by kernel_rfl) (by kernel_rfl) ?_
        repeat (go_big_quiet_step (fail))
        refine wpQuiet_nil ?_
        intro w2 hw2
        have hb2 := below_of_regrown hw2 (Nat.le_refl _)
        clear hw2
        go_wp2
        go_ret
        exact ⟨_, rfl, Int.emod_nonneg _ (by omega), fun _ => Int.emod_lt_of_pos _ (by omega), fun h => by omega, hR2.below hb2, grown_trans_ hG ⟨hb2.os, hb2.tape, hb2.output, hb2.size, fun k hk _ => hb2.block k hk⟩⟩
end Go.Proofs.Ytdpiaiblpafglaa

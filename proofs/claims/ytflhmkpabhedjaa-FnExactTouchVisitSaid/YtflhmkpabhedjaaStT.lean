/- Stay: how a slice of them reads; conversions, comparison, marks. Printed by gentype.py. -/
import Derived.Test.YtflhmkpabhedjaaKit
namespace Go.Proofs.Ytflhmkpabhedjaa
open Go.RowKit

def stD : Int × Int := (0, 0)
def st0 (l : List (Int × Int)) (k : Nat) : Int := (l.getD k stD).1
def st1 (l : List (Int × Int)) (k : Nat) : Int := (l.getD k stD).2
def stEnc (u : Int × Int) : List Value := [.int .i64 u.1, .int .i64 u.2]
def stR (w : World) (A : Option Addr) (l : List (Int × Int)) : Prop := RdL (Flat stEnc) 2 w A l
section
variable {w w' : World} {A : Option Addr} {l : List (Int × Int)}
theorem stR.below (h : stR w A l) (hb : Below w.heap.size w w') : stR w' A l := RdL.below (Flat.mono _) h hb
theorem stR.regrown (h : stR w A l) (d : Nat) (os : Array Obj) : stR (Sort.grow (redrawn w d) os) A l := RdL.regrown (Flat.mono _) h d os
theorem stR.len (h : stR w A l) : l.length ≤ 9223372036854775807 := h.1
theorem stR.cells (h : stR w A l) (hn : 0 < l.length) : ∃ b off, A = some ⟨b, off, none⟩ ∧ ∀ k, k < l.length →
    w.cell? ⟨b, off + k * 2, none⟩ = some (.int .i64 (st0 l k)) ∧ w.cell? ⟨b, off + k * 2 + 1, none⟩ = some (.int .i64 (st1 l k)) := by
  obtain ⟨b, off, e, hc⟩ := h.2 hn
  refine ⟨b, off, e, fun k hk => ?_⟩
  obtain ⟨cs, _, rfl, hv⟩ := hc k hk
  have e : l.getD k stD = l[k] := by simp [hk]
  simp only [st0, st1, e]
  exact ⟨hv 0 _ rfl, hv 1 _ rfl⟩
theorem stR.own {B n c : Nat} {e : TypeId} (hl : l.length = n) (hb : n ≤ 4194304) (h : w.ownsRow B e 2 (.slice A n c) n (l.flatMap stEnc)) : stR w A l :=
  RdL.of_own (fun _ => rfl) hl (by omega) h
theorem stEnc_one (a : Int × Int) : ∀ u ∈ stEnc a, u.oneCell' = true := by intro u hu; simp [stEnc] at hu; rcases hu with rfl | rfl <;> rfl
theorem st_elem {k : Nat} (hk : k < l.length) : (st0 l k, st1 l k) = l[k] := by
  have e : l.getD k stD = l[k] := by simp [hk]
  simp only [st0, st1, e]
end
theorem st_differ {us vs : List (Int × Int)} {k : Nat} (hk : k < us.length) (hk' : k < vs.length) (h : ¬ (st0 us k, st1 us k) = (st0 vs k, st1 vs k)) : false = sameB us vs := by
  rw [eq_comm, sameB_false]
  rintro rfl
  exact h rfl
theorem st_same {us vs : List (Int × Int)} (h : us.length = vs.length) (h2 : ∀ k, k < us.length → (st0 us k, st1 us k) = (st0 vs k, st1 vs k)) : true = sameB us vs := by
  rw [eq_comm, sameB_true]
  apply List.ext_getElem h
  intro k h3 h4
  rw [← st_elem h3, ← st_elem h4]
  exact h2 k h3

set_option maxHeartbeats 400000 in
theorem toStay_any (x0 : Int) (x1 : Int) (w : World) :
    Calls Try.prog 13 #[.agg #[.int .i64 x0, .int .i64 x1]] w fun e w' => e = .returned (.agg #[.int .i64 x0, .int .i64 x1]) ∧ Below w.heap.size w w' := by
  go_enter Try.func13, Try.ntmps13
  go_wp2
  refine bodyPost_ret (v := .agg #[.int .i64 x0, .int .i64 x1]) (by simp [results, go_sem]) rfl ⟨rfl, ?_⟩
  repeat (first | exact Below.refl _ _ | refine ext_alloc ?_ _)

theorem Try.infoStay : (Try.prog.info? 27).map (fun i => (i.zero, i.size, i.bytes)) = some (some (.agg #[.int .i64 0, .int .i64 0]), 2, 16) := by kernel_rfl

end Go.Proofs.Ytflhmkpabhedjaa

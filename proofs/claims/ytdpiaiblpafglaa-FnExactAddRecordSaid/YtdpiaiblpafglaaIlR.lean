/- Int: how a slice of them reads; conversions, comparison, marks. Printed by gentype.py. -/
import Derived.Test.YtdpiaiblpafglaaKit
namespace Go.Proofs.Ytdpiaiblpafglaa
set_option linter.unusedSimpArgs false
set_option linter.unusedVariables false
open Go.RowKit

def ilD : Int := 0
def il0 (l : List (Int)) (k : Nat) : Int := (l.getD k ilD)
def ilEnc (u : Int) : List Value := [.int .i64 u]
def ilR (w : World) (A : Option Addr) (l : List (Int)) : Prop := RdL (Flat ilEnc) 1 w A l
section
variable {w w' : World} {A : Option Addr} {l : List (Int)}
theorem ilR.below (h : ilR w A l) (hb : Below w.heap.size w w') : ilR w' A l := RdL.below (Flat.mono _) h hb
theorem ilR.regrown (h : ilR w A l) (d : Nat) (os : Array Obj) : ilR (Sort.grow (redrawn w d) os) A l := RdL.regrown (Flat.mono _) h d os
theorem ilR.len (h : ilR w A l) : l.length ≤ 9223372036854775807 := h.1
theorem ilR.cells (h : ilR w A l) (hn : 0 < l.length) : ∃ b off, A = some ⟨b, off, none⟩ ∧ ∀ k, k < l.length →
    w.cell? ⟨b, off + k, none⟩ = some (.int .i64 (il0 l k)) := by
  obtain ⟨b, off, e, hc⟩ := h.2 hn
  refine ⟨b, off, e, fun k hk => ?_⟩
  obtain ⟨cs, _, rfl, hv⟩ := hc k hk
  have e : l.getD k ilD = l[k] := by simp [hk]
  simp only [il0, e]
  have := hv 0 _ rfl
  simpa using this
theorem ilR.own {B n c : Nat} {e : TypeId} (hl : l.length = n) (hb : n ≤ 4194304) (h : w.ownsRow B e 1 (.slice A n c) n (l.flatMap ilEnc)) : ilR w A l :=
  RdL.of_own (fun _ => rfl) hl (by omega) h
theorem ilEnc_one (a : Int) : ∀ u ∈ ilEnc a, u.oneCell' = true := by intro u hu; simp [ilEnc] at hu; subst hu; rfl
theorem il_elem {k : Nat} (hk : k < l.length) : il0 l k = l[k] := by
  have e : l.getD k ilD = l[k] := by simp [hk]
  simp only [il0, e]
end
theorem il_differ {us vs : List (Int)} {k : Nat} (hk : k < us.length) (hk' : k < vs.length) (h : ¬ il0 us k = il0 vs k) : false = sameB us vs := by
  rw [eq_comm, sameB_false]
  rintro rfl
  exact h rfl
theorem il_same {us vs : List (Int)} (h : us.length = vs.length) (h2 : ∀ k, k < us.length → il0 us k = il0 vs k) : true = sameB us vs := by
  rw [eq_comm, sameB_true]
  apply List.ext_getElem h
  intro k h3 h4
  rw [← il_elem h3, ← il_elem h4]
  exact h2 k h3

theorem Try.infoInt : (Try.prog.info? 3).map (fun i => (i.zero, i.size, i.bytes)) = some (some (.int .i64 0), 1, 8) := by kernel_rfl

end Go.Proofs.Ytdpiaiblpafglaa

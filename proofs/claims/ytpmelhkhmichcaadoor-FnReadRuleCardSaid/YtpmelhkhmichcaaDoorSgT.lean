/- Text: how a slice of them reads; conversions, comparison, marks. Printed by gentype.py. -/
import Derived.Test.YtpmelhkhmichcaaDoorKit
namespace Go.Proofs.YtpmelhkhmichcaaDoor
set_option linter.unusedSimpArgs false
set_option linter.unusedVariables false
open Go.RowKit

def sgD : ByteArray := ByteArray.empty
def sg0 (l : List (ByteArray)) (k : Nat) : ByteArray := (l.getD k sgD)
def sgEnc (u : ByteArray) : List Value := [.string u]
def sgR (w : World) (A : Option Addr) (l : List (ByteArray)) : Prop := RdL (Flat sgEnc) 1 w A l
section
variable {w w' : World} {A : Option Addr} {l : List (ByteArray)}
theorem sgR.below (h : sgR w A l) (hb : Below w.heap.size w w') : sgR w' A l := RdL.below (Flat.mono _) h hb
theorem sgR.regrown (h : sgR w A l) (d : Nat) (os : Array Obj) : sgR (Sort.grow (redrawn w d) os) A l := RdL.regrown (Flat.mono _) h d os
theorem sgR.len (h : sgR w A l) : l.length ≤ 9223372036854775807 := h.1
theorem sgR.cells (h : sgR w A l) (hn : 0 < l.length) : ∃ b off, A = some ⟨b, off, none⟩ ∧ ∀ k, k < l.length →
    w.cell? ⟨b, off + k, none⟩ = some (.string (sg0 l k)) := by
  obtain ⟨b, off, e, hc⟩ := h.2 hn
  refine ⟨b, off, e, fun k hk => ?_⟩
  obtain ⟨cs, _, rfl, hv⟩ := hc k hk
  have e : l.getD k sgD = l[k] := by simp [hk]
  simp only [sg0, e]
  have := hv 0 _ rfl
  simpa using this
theorem sgR.own {B n c : Nat} {e : TypeId} (hl : l.length = n) (hb : n ≤ 4194304) (h : w.ownsRow B e 1 (.slice A n c) n (l.flatMap sgEnc)) : sgR w A l :=
  RdL.of_own (fun _ => rfl) hl (by omega) h
theorem sgEnc_one (a : ByteArray) : ∀ u ∈ sgEnc a, u.oneCell' = true := by intro u hu; simp [sgEnc] at hu; subst hu; rfl
theorem sg_elem {k : Nat} (hk : k < l.length) : sg0 l k = l[k] := by
  have e : l.getD k sgD = l[k] := by simp [hk]
  simp only [sg0, e]
end
theorem sg_differ {us vs : List (ByteArray)} {k : Nat} (hk : k < us.length) (hk' : k < vs.length) (h : ¬ sg0 us k = sg0 vs k) : false = sameB us vs := by
  rw [eq_comm, sameB_false]
  rintro rfl
  exact h rfl
theorem sg_same {us vs : List (ByteArray)} (h : us.length = vs.length) (h2 : ∀ k, k < us.length → sg0 us k = sg0 vs k) : true = sameB us vs := by
  rw [eq_comm, sameB_true]
  apply List.ext_getElem h
  intro k h3 h4
  rw [← sg_elem h3, ← sg_elem h4]
  exact h2 k h3

theorem Tryd.infoText : (Tryd.prog.info? 9).map (fun i => (i.zero, i.size, i.bytes)) = some (some (.string ByteArray.empty), 1, 16) := by kernel_rfl

end Go.Proofs.YtpmelhkhmichcaaDoor

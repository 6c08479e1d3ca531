/- Paths: valid patterns: plain. -/
import Derived.Test.YtpmelhkhmichcaaDoorPaA
import Derived.Test.YtpmelhkhmichcaaDoorSgT
import Derived.Test.YtpmelhkhmichcaaDoorAlv
namespace Go.Proofs.YtpmelhkhmichcaaDoor
set_option linter.unusedSimpArgs false
set_option linter.unusedVariables false
open Go.RowKit

def star1 : ByteArray := ⟨#[42]⟩
def star2 : ByteArray := ⟨#[42, 42]⟩
/-- The words of a path. -/
def pws (s : ByteArray) : List ByteArray := wds 47 s
def pwOk (ws : List ByteArray) (i : Nat) : Bool := nmOk (sg0 ws i) || (decide (sg0 ws i = star1) || (decide (sg0 ws i = star2) && !decide (i + 1 < ws.length)))
def patOk (s : ByteArray) : Bool := decide (∀ i, i < (pws s).length → pwOk (pws s) i = true) && decide ((pws s).length ≤ 5)
theorem patOk_no {s : ByteArray} {k : Nat} (hk : k < (pws s).length) (h : pwOk (pws s) k = false) : patOk s = false := by
  rw [patOk, Bool.and_eq_false_iff]
  left
  rw [decide_eq_false_iff_not]
  intro hh
  rw [hh k hk] at h
  cases h
theorem patOk_yes {s : ByteArray} (h : ∀ k, k < (pws s).length → pwOk (pws s) k = true) : patOk s = decide ((pws s).length ≤ 5) := by
  rw [patOk, decide_eq_true h, Bool.true_and]
theorem pws_len (s : ByteArray) : (pws s).length ≤ s.size + 1 := by
  rw [pws, wds, List.length_map]
  have := wdL_len 47 s.data.toList
  rw [show s.data.toList.length = s.size from rfl] at this
  exact this
theorem pws_pos (s : ByteArray) : 0 < (pws s).length := by
  rw [pws, wds, List.length_map]
  have := wdL_ne 47 s.data.toList
  exact List.length_pos_iff.2 this
theorem pws_size {s : ByteArray} {k : Nat} (hk : k < (pws s).length) : (sg0 (pws s) k).size ≤ s.size := by
  have e : sg0 (pws s) k = (pws s)[k] := sg_elem hk
  rw [e]
  have hm : (pws s)[k] ∈ pws s := List.getElem_mem hk
  unfold pws wds at hm
  obtain ⟨x, hx, h2⟩ := List.mem_map.1 hm
  have := wdL_size 47 _ x hx
  rw [show (pws s)[k] = bsOf x from h2.symm]
  exact this
end Go.Proofs.YtpmelhkhmichcaaDoor

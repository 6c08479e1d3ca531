/- Paths: words, by the library: a text split at one byte. -/
import Derived.Test.YtpmelhkhmichcaaDoorPaC
import Derived.Test.YtpmelhkhmichcaaDoorPaL
namespace Go.Proofs.YtpmelhkhmichcaaDoor
set_option linter.unusedSimpArgs false
set_option linter.unusedVariables false
open Go.RowKit Go.Shelf

theorem indexByte_one (c : UInt8) : ∀ l : List UInt8, Lib.indexByte l c = Lib.index l [c]
  | [] => rfl
  | b :: l => by
    rw [Lib.indexByte, index_cons, indexByte_one c l]
    by_cases h : b = c
    · rw [if_pos (by simpa using h), if_pos h]
    · rw [if_neg (by simpa using h), if_neg h]
      by_cases h2 : Lib.index l [c] = -1
      · rw [if_pos (by simpa using h2), if_pos h2]
      · rw [if_neg (by simpa using h2), if_neg h2]
section
variable {P : Program} {ρ : Ren}
set_option maxHeartbeats 2000000 in
theorem split_one (L : Lays.n146 P ρ) (hi9 : (P.info? (ρ.t 9)).map (fun i => (i.zero, i.size, i.bytes)) = some (some (.string ByteArray.empty), 1, 16)) (s : ByteArray) (c : UInt8) (w : World) (hs : s.size < 4294967281) :
    Calls P (ρ.f 146) #[.string s, .string ⟨#[c]⟩] w fun e w' =>
      e = .returned (.slice (some ⟨w.heap.size, 0, none⟩) (Lib.countB s ⟨#[c]⟩ + 1) (Lib.countB s ⟨#[c]⟩ + 1)) ∧ w' = w.alloc (.cells ((Lib.splitB ⟨#[c]⟩ 0 (Lib.countB s ⟨#[c]⟩) s).map Value.string).toArray (ρ.t 9)) := by
  have h1 : 1 ≤ (⟨#[c]⟩ : ByteArray).size := Nat.le_refl 1
  have hle := Lib.countB_le ⟨#[c]⟩ h1 s.size s (Nat.le_refl _)
  have hlen := Lib.splitB_all ⟨#[c]⟩ h1 0 _ s rfl
  have hC : Calls P (ρ.f 138) #[.string s, .string ⟨#[c]⟩] w fun e w' => e = .returned (.int .i64 (Lib.countB s ⟨#[c]⟩)) ∧ w' = w := by
    refine (Any.strings_Count_one { L with } s c w).mono fun e w' ⟨he, hw⟩ => ⟨?_, hw⟩
    rw [he]
    show _ = Ending.returned (Value.int .i64 ((Lib.count s.data.toList [c] : Nat) : Int))
    rw [Lib.count_one]
    try rfl
  have hI : ∀ (x : ByteArray) (cc : Array Value), x.size ≤ s.size → Calls P (ρ.f 143) #[.string x, .string ⟨#[c]⟩] (w.alloc (.cells cc (ρ.t 9))) fun e w' => e = .returned (.int .i64 (Lib.indexB x ⟨#[c]⟩)) ∧ w' = w.alloc (.cells cc (ρ.t 9)) := fun x cc _ => by
    refine (Any.strings_Index_one { L with } x c _).mono fun e w' ⟨he, hw⟩ => ⟨?_, hw⟩
    rw [he, indexByte_one]
    try rfl
  have cc := Any.strings_genSplit_core { L with } hi9 s ⟨#[c]⟩ 0 (-1) (Lib.countB s ⟨#[c]⟩ + 1) w hs h1 (Nat.zero_le _) hI hC (by decide) (by decide) (by rw [if_pos (by decide)]; omega)
  rw [Nat.add_sub_cancel, hlen] at cc
  have e2 : Lib.cellsOf (Lib.splitB ⟨#[c]⟩ 0 (Lib.countB s ⟨#[c]⟩) s) (Lib.countB s ⟨#[c]⟩ + 1) = ((Lib.splitB ⟨#[c]⟩ 0 (Lib.countB s ⟨#[c]⟩) s).map Value.string).toArray := by rw [← hlen]; exact Lib.cellsOf_full _
  rw [e2] at cc
  have t3 := L.t3; have t9 := L.t9; have t31 := L.t31
  have a3 := L.a3; have a9 := L.a9; have a31 := L.a31
  have z3 := L.z3; have v3 := L.v3; have z9 := L.z9; have v9 := L.v9; have z31 := L.z31; have v31 := L.v31
  have e221 : ∀ args w, (callFunc (ρ.f 221) args).run P w = .ok (.enter (ρ.f 221) args) w := enters_of L.f221 (by kernel_rfl) rfl
  go_enter L.f146, Body.n146_ntmps ρ
  go_wp2_with (go_at_fn (ρ.f 221); refine cc.mono ?_; rintro e w' ⟨rfl, hw⟩; rw [hw])
  go_ret
  exact ⟨rfl, rfl⟩
end
theorem flatMap_sg (l : List ByteArray) : l.flatMap sgEnc = l.map Value.string := by
  induction l with
  | nil => rfl
  | cons a l ih => rw [List.flatMap_cons, ih]; rfl
theorem split_any {s : ByteArray} {w : World} (hs : s.size ≤ 2097152) :
    Calls Tryd.prog 51 #[.string s, .string ⟨#[47]⟩] w fun e w' => ∃ A c, e = .returned (.slice A (pws s).length c) ∧ w'.ownsRow w.heap.size 9 1 (.slice A (pws s).length c) (pws s).length ((pws s).flatMap sgEnc) ∧ Below w.heap.size w w' := by
  have h := split_one Tryd.lays146 (by kernel_rfl) s 47 w (by omega)
  have hlen := Lib.splitB_all ⟨#[47]⟩ (Nat.le_refl 1) 0 _ s rfl
  rw [splitB_wds] at h hlen
  change Calls Tryd.prog 51 _ w _ at h
  refine h.mono ?_
  rintro e w' ⟨rfl, rfl⟩
  have hl := pws_len s
  have hl2 : (pws s).length = Lib.countB s ⟨#[47]⟩ + 1 := hlen
  refine ⟨_, _, by rw [← hl2], ⟨by rw [flatMap_length sgEnc 1 (fun _ => rfl)], .inr ⟨w.heap.size, _, _, rfl, Nat.le_refl _, heap_alloc_new _ _, by omega, ?_, ?_, ?_⟩⟩, below_alloc _ _⟩
  · simp only [maxLen]; omega
  · simp [pws]
  · rw [flatMap_sg, List.take_of_length_le (by simp [pws])]
    rfl
end Go.Proofs.YtpmelhkhmichcaaDoor

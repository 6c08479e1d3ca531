/- Drawn needs with votes, for the laws of approvals. -/
import Derived.Test.YtbkjolbgnkpjpaaNdM
namespace Go.Proofs.Ytbkjolbgnkpjpaa
open Go.RowKit

theorem CodeR.mono_ {w : World} {cb cb' : Nat} {A : Option Addr} {l : List Int} (h : CodeR w cb A l) (hb : cb ≤ cb') : CodeR w cb' A l :=
  ⟨h.1, fun hn => let ⟨b, off, e, hb0, hc⟩ := h.2 hn; ⟨b, off, e, Nat.lt_of_lt_of_le hb0 hb, hc⟩⟩
set_option maxRecDepth 100000 in
set_option maxHeartbeats 4000000 in
theorem DrawIsApproved_d {A : Option Addr} {l : List Int} {c : Nat} {w : World} (hC : CodeR w w.heap.size A l) (hc : l.length ≤ c) :
    Calls Try.prog 18 #[.slice A l.length c] w fun e w' => ∃ v u, e = .returned (.tuple #[v, u]) ∧ NdD w.heap.size w' v ∧ DrS w.heap.size 42 2 voEnc 21 VoQ w' u ∧ Below w.heap.size w w' := by
  obtain ⟨W, hW⟩ : ∃ W, W = w.alloc (.cells #[.slice Option.none 0 0, .int .i64 0, .int .i64 0] 25) := ⟨_, rfl⟩
  have hB := show Below w.heap.size w W by rw [hW]; exact below_alloc _ _
  have hb2 : W.heap[w.heap.size]? = some (.cells #[.slice Option.none 0 0, .int .i64 0, .int .i64 0] 25 (0, 0)) := by rw [hW]; exact heap_alloc_new _ _
  have hs : W.heap.size = w.heap.size + 1 := by rw [hW]; simp
  have HW := Lib.hid hW
  have HB2 := Lib.hid hb2
  clear hW hb2
  go_enter Try.func18, Try.ntmps18
  go_wp2_with fail
  rw [← HW.out]
  refine (DrawVotesFor_d (A := A) (l := l) (c := c) (w := W) ((hC.below hB).mono_ (by omega)) hc).mono ?_
  rintro e w2 ⟨v, u, rfl, ⟨A2, c2, may, least, asked, rfl, hn, h1, h2, ho⟩, hu, hB2⟩
  have HB3 := Lib.hid ((hB2.block _ (by omega)).trans HB2.out)
  replace hB := ext_trans hB hB2
  have d0 : w2.cell? ⟨w.heap.size, 0, none⟩ = some (.slice Option.none 0 0) := (cell_of_row w2 _ 0 _ _ _ HB3.out).trans rfl
  have d1 : w2.cell? ⟨w.heap.size, 1, none⟩ = some (.int .i64 0) := (cell_of_row w2 _ 1 _ _ _ HB3.out).trans rfl
  have d2 : w2.cell? ⟨w.heap.size, 2, none⟩ = some (.int .i64 0) := (cell_of_row w2 _ 2 _ _ _ HB3.out).trans rfl
  have z0 := frozen_of_row w2 w.heap.size 0 _ _ HB3.out
  have z1 := frozen_of_row w2 w.heap.size 1 _ _ HB3.out
  have z2 := frozen_of_row w2 w.heap.size 2 _ _ HB3.out
  have hs4 := setCells_grown w.heap.size [.slice A2 may.length c2, .int .i64 least, .int .i64 asked] w2 0
  have hro := own_apart ho hs4 (fun k hk => by have := (ho.lt k hk).1; omega)
  have HRO := Lib.hid (show NdD w.heap.size _ _ from ⟨A2, c2, may, least, asked, rfl, hn, h1, h2, own_lower hro (by omega)⟩)
  have HU := Lib.hid ((hu.grown hs4 (fun k e => by cases e; omega)).lower (B' := w.heap.size) (by omega))
  have HBB := Lib.hid (hB.grown hs4 (by have := hB.size; omega) (fun k e => by cases e; exact Nat.le_refl _))
  clear hs4 hro ho hu
  go_wp2
  exact bodyPost_ret (v := .tuple #[.agg #[.slice A2 may.length c2, .int .i64 least, .int .i64 asked], u]) (by simp only [results, Try.results18]; go_simp) rfl ⟨_, _, rfl, HRO.out, HU.out, HBB.out⟩
set_option maxRecDepth 100000 in
set_option maxHeartbeats 4000000 in
theorem DrawApprovedAt_d {A : Option Addr} {l : List Int} {c : Nat} {w : World} (hC : CodeR w w.heap.size A l) (hc : l.length ≤ c) :
    Calls Try.prog 25 #[.slice A l.length c] w fun e w' => ∃ v u, e = .returned (.tuple #[v, u]) ∧ NdD w.heap.size w' v ∧ DrS w.heap.size 42 2 voEnc 21 VoQ w' u ∧ Below w.heap.size w w' := by
  obtain ⟨W, hW⟩ : ∃ W, W = w.alloc (.cells #[.slice Option.none 0 0, .int .i64 0, .int .i64 0] 25) := ⟨_, rfl⟩
  have hB := show Below w.heap.size w W by rw [hW]; exact below_alloc _ _
  have hb2 : W.heap[w.heap.size]? = some (.cells #[.slice Option.none 0 0, .int .i64 0, .int .i64 0] 25 (0, 0)) := by rw [hW]; exact heap_alloc_new _ _
  have hs : W.heap.size = w.heap.size + 1 := by rw [hW]; simp
  have HW := Lib.hid hW
  have HB2 := Lib.hid hb2
  clear hW hb2
  go_enter Try.func25, Try.ntmps25
  go_wp2_with fail
  rw [← HW.out]
  refine (DrawVotesFor_d (A := A) (l := l) (c := c) (w := W) ((hC.below hB).mono_ (by omega)) hc).mono ?_
  rintro e w2 ⟨v, u, rfl, ⟨A2, c2, may, least, asked, rfl, hn, h1, h2, ho⟩, hu, hB2⟩
  have HB3 := Lib.hid ((hB2.block _ (by omega)).trans HB2.out)
  replace hB := ext_trans hB hB2
  have d0 : w2.cell? ⟨w.heap.size, 0, none⟩ = some (.slice Option.none 0 0) := (cell_of_row w2 _ 0 _ _ _ HB3.out).trans rfl
  have d1 : w2.cell? ⟨w.heap.size, 1, none⟩ = some (.int .i64 0) := (cell_of_row w2 _ 1 _ _ _ HB3.out).trans rfl
  have d2 : w2.cell? ⟨w.heap.size, 2, none⟩ = some (.int .i64 0) := (cell_of_row w2 _ 2 _ _ _ HB3.out).trans rfl
  have z0 := frozen_of_row w2 w.heap.size 0 _ _ HB3.out
  have z1 := frozen_of_row w2 w.heap.size 1 _ _ HB3.out
  have z2 := frozen_of_row w2 w.heap.size 2 _ _ HB3.out
  have hs4 := setCells_grown w.heap.size [.slice A2 may.length c2, .int .i64 least, .int .i64 asked] w2 0
  have hro := own_apart ho hs4 (fun k hk => by have := (ho.lt k hk).1; omega)
  have HRO := Lib.hid (show NdD w.heap.size _ _ from ⟨A2, c2, may, least, asked, rfl, hn, h1, h2, own_lower hro (by omega)⟩)
  have HU := Lib.hid ((hu.grown hs4 (fun k e => by cases e; omega)).lower (B' := w.heap.size) (by omega))
  have HBB := Lib.hid (hB.grown hs4 (by have := hB.size; omega) (fun k e => by cases e; exact Nat.le_refl _))
  clear hs4 hro ho hu
  go_wp2
  exact bodyPost_ret (v := .tuple #[.agg #[.slice A2 may.length c2, .int .i64 least, .int .i64 asked], u]) (by simp only [results, Try.results25]; go_simp) rfl ⟨_, _, rfl, HRO.out, HU.out, HBB.out⟩
end Go.Proofs.Ytbkjolbgnkpjpaa

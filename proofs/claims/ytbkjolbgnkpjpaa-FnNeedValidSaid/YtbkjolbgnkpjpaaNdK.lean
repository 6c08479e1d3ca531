/- FnNeedValid, walked. -/
import Derived.Test.YtbkjolbgnkpjpaaNdJ
namespace Go.Proofs.Ytbkjolbgnkpjpaa
open Go.RowKit

set_option maxRecDepth 100000 in
set_option maxHeartbeats 4000000 in
theorem DrawNeedValid_d {A : Option Addr} {l : List Int} {c : Nat} {w : World} (hC : CodeR w w.heap.size A l) (hc : l.length ≤ c) :
    Calls Try.prog 11 #[.slice A l.length c] w fun e w' => ∃ v, e = .returned v ∧ NdD w.heap.size w' v ∧ Below w.heap.size w w' := by
  obtain ⟨W, hW⟩ : ∃ W, W = w.alloc (.cells #[.slice Option.none 0 0, .int .i64 0, .int .i64 0] 25) := ⟨_, rfl⟩
  have hB := show Below w.heap.size w W by rw [hW]; exact below_alloc _ _
  have hb2 : W.heap[w.heap.size]? = some (.cells #[.slice Option.none 0 0, .int .i64 0, .int .i64 0] 25 (0, 0)) := by rw [hW]; exact heap_alloc_new _ _
  have hs : W.heap.size = w.heap.size + 1 := by rw [hW]; simp
  have HW := Lib.hid hW
  have HB2 := Lib.hid hb2
  clear hW hb2
  go_enter Try.func11, Try.ntmps11
  go_wp2_with fail
  rw [← HW.out]
  refine (l20Open_any (cb := w.heap.size) hB.size (hC.below hB) hc hC.1).mono ?_
  rintro e w1 ⟨rfl, hR, hB1⟩
  replace HB2 := Lib.hid ((hB1.block _ (by omega)).trans HB2.out)
  replace hB := ext_trans hB hB1
  have hs1 := hR.lt
  obtain ⟨br, hbr⟩ : ∃ br, br = W.heap.size := ⟨_, rfl⟩
  rw [← hbr] at hR hs1 ⊢
  have hbrw : w.heap.size < br := by omega
  have hbrW : w1.heap.size > br := hs1
  clear hbr hs hB1
  go_wp2_with fail
  refine (l20Need_d (N := 0) ⟨0, by omega, by omega, hR⟩ (by omega) (by omega) (by omega)).mono ?_
  rintro e w2 ⟨_, rfl, ⟨A2, c2, may, least, asked, rfl, hn, h1, h2, ho⟩, hRd, hG⟩
  have HB3 := Lib.hid (box_after HB2.out (Below.refl _ _) hG (fun e => by cases e; omega))
  have d0 : w2.cell? ⟨w.heap.size, 0, none⟩ = some (.slice Option.none 0 0) := (cell_of_row w2 _ 0 _ _ _ HB3.out).trans rfl
  have d1 : w2.cell? ⟨w.heap.size, 1, none⟩ = some (.int .i64 0) := (cell_of_row w2 _ 1 _ _ _ HB3.out).trans rfl
  have d2 : w2.cell? ⟨w.heap.size, 2, none⟩ = some (.int .i64 0) := (cell_of_row w2 _ 2 _ _ _ HB3.out).trans rfl
  have z0 := frozen_of_row w2 w.heap.size 0 _ _ HB3.out
  have z1 := frozen_of_row w2 w.heap.size 1 _ _ HB3.out
  have z2 := frozen_of_row w2 w.heap.size 2 _ _ HB3.out
  have hs4 := setCells_grown w.heap.size [.slice A2 may.length c2, .int .i64 least, .int .i64 asked] w2 0
  have hro := own_apart ho hs4 (fun k hk => by have := (ho.lt k hk).1; have := hB.size; omega)
  have HRO := Lib.hid (show NdD w.heap.size _ _ from ⟨A2, c2, may, least, asked, rfl, hn, h1, h2, own_lower hro hB.size⟩)
  have HBB := Lib.hid ((below_of_new hB hG (fun k e => by cases e; omega)).grown hs4 (by have := hB.size; have := hG.size; omega) (fun k e => by cases e; exact Nat.le_refl _))
  clear hs4 hro ho hG hRd
  go_wp2
  exact bodyPost_ret (v := .agg #[.slice A2 may.length c2, .int .i64 least, .int .i64 asked]) (by simp only [results, Try.results11]; go_simp) rfl ⟨_, rfl, HRO.out, HBB.out⟩

theorem ndOk_zero (may : IL) (asked : Int) : ndOk may 0 asked = false := by simp [ndOk, inB]
theorem ndOk_nobody {may : IL} {least asked : Int} (h : ndOk may least asked = true) : ndOk [] least asked = true := by
  simp only [ndOk, Bool.and_eq_true] at h ⊢
  exact ⟨ascB_iff.2 (fun k hk => absurd hk (by simp)), h.2⟩
theorem implNeedValid_n {A : Option Addr} {may : IL} {c n : Nat} {least asked : Int} {w : World} (hn : may.length = n) (hU : ilR w A may) :
    Calls Try.prog 12 #[.agg #[.slice A n c, .int .i64 least, .int .i64 asked]] w fun e w' => e = .returned (.bool (ndOk may least asked)) ∧ Below w.heap.size w w' := by
  subst hn; exact implNeedValid hU

set_option maxRecDepth 100000 in
set_option maxHeartbeats 4000000 in
theorem lawNeedValid {A : Option Addr} {l : List Int} {c : Nat} {w : World} (hC : CodeR w w.heap.size A l) (hc : l.length ≤ c) :
    Calls Try.prog 3 #[.slice A l.length c] w fun e w' => e = .returned (.bool true) ∧ Below w.heap.size w w' := by
  by_cases h : (1048576 : Int) < l.length
  · go_enter Try.func3, Try.ntmps3
    go_wp2
    go_ret
    exact ⟨rfl, Below.refl _ _⟩
  · go_enter Try.func3, Try.ntmps3
    go_wp2_with fail
    refine (DrawNeedValid_d hC hc).mono ?_
    rintro e w1 ⟨_, rfl, ⟨A2, c2, may, least, asked, rfl, hn, h1, h2, ho⟩, hB⟩
    have q0 := box_cell w1 #[.slice A2 may.length c2, .int .i64 least, .int .i64 asked] 25 0 (.slice A2 may.length c2) rfl
    have q1 := box_cell w1 #[.slice A2 may.length c2, .int .i64 least, .int .i64 asked] 25 1 (.int .i64 least) rfl
    have q2 := box_cell w1 #[.slice A2 may.length c2, .int .i64 least, .int .i64 asked] 25 2 (.int .i64 asked) rfl
    have hbl := below_alloc w1 (.cells #[.slice A2 may.length c2, .int .i64 least, .int .i64 asked] 25)
    have hU : ilR _ A2 may := (ilR.own rfl (by omega) ho).below hbl
    obtain ⟨X, hX⟩ : ∃ X, X = w1.alloc (.cells #[.slice A2 may.length c2, .int .i64 least, .int .i64 asked] 25) := ⟨_, rfl⟩
    obtain ⟨g, hg⟩ : ∃ g, g = w1.heap.size := ⟨_, rfl⟩
    rw [← hX] at q0 q1 q2 hU hbl
    rw [← hg] at q0 q1 q2
    replace hB := ext_trans hB hbl
    have HX := Lib.hid hX
    have HG := Lib.hid hg
    clear hX hg hbl ho
    go_wp2_with fail
    rw [← HX.out, ← HG.out]
    refine (implNeedValid hU).mono ?_
    rintro e w2 ⟨rfl, hBc⟩
    replace hB := ext_trans hB hBc
    replace q0 := below_cell hBc q0
    replace q1 := below_cell hBc q1
    replace q2 := below_cell hBc q2
    replace hU := hU.below hBc
    clear hBc
    go_wp2_with fail
    refine (specNeedValid hU).mono ?_
    rintro e w3 ⟨rfl, hBc⟩
    replace hB := ext_trans hB hBc
    replace q0 := below_cell hBc q0
    replace q1 := below_cell hBc q1
    replace q2 := below_cell hBc q2
    replace hU := hU.below hBc
    clear hBc
    obtain ⟨ok, hok⟩ : ∃ ok, ok = ndOk may least asked := ⟨_, rfl⟩
    rw [← hok]
    have HOK := Lib.hid hok
    clear hok
    go_wp2_with fail
    refine (implNeedValid hU).mono ?_
    rintro e w4 ⟨rfl, hBc⟩
    rw [ndOk_zero]
    replace hB := ext_trans hB hBc
    replace q1 := below_cell hBc q1
    replace q2 := below_cell hBc q2
    clear hBc
    cases ok
    · skip
      go_wp2_with fail
      refine (alive_any _).mono ?_
      rintro e w5 ⟨rfl, hBc⟩
      replace hB := ext_trans hB hBc
      clear hBc
      go_wp2
      go_ret
      exact ⟨rfl, hB⟩
    · have HN := Lib.hid (ndOk_nobody HOK.out.symm)
      go_wp2_with fail
      refine (implNeedValid_n (may := []) rfl (RdL.nil _)).mono ?_
      rintro e w5 ⟨rfl, hBc⟩
      rw [HN.out]
      replace hB := ext_trans hB hBc
      go_wp2_with fail
      refine (alive_any _).mono ?_
      rintro e w6 ⟨rfl, hBc⟩
      replace hB := ext_trans hB hBc
      clear hBc
      go_wp2
      go_ret
      exact ⟨rfl, hB⟩
end Go.Proofs.Ytbkjolbgnkpjpaa

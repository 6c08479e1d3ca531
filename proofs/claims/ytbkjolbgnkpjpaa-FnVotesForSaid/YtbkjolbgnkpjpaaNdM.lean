/- Drawn needs with votes. -/
import Derived.Test.YtbkjolbgnkpjpaaNdL
namespace Go.Proofs.Ytbkjolbgnkpjpaa
open Go.RowKit

/-- A row of one's own, where only rows of another kind have turned. -/
theorem own_grownP {R : Nat → Prop} {a b : World} {B sz n : Nat} {e : TypeId} {v : Value} {xs : List Value} (ho : a.ownsRow B e sz v n xs) (hp : GrownP R a b) (hr : ∀ k, R k → v.ownBlock ≠ some k) : b.ownsRow B e sz v n xs := by
  rcases ho.2 with h0 | ⟨g, cap, cur, hv, hB, hx, hrest⟩
  · exact ⟨ho.1, .inl h0⟩
  · have hk : v.ownBlock = some g := by rw [hv]; rfl
    exact ⟨ho.1, .inr ⟨g, cap, cur, hv, hB, (hp.2.2.2.2 g (ho.lt g hk).2 (fun hR => hr g hR hk)).trans hx, hrest⟩⟩
theorem below_grownP {R : Nat → Prop} {B : Nat} {a b c : World} (h : Below B a b) (hp : GrownP R b c) (hB : B ≤ b.heap.size) (hr : ∀ k, R k → B ≤ k) : Below B a c :=
  h.trans ⟨hp.1, hp.2.1, hp.2.2.1, hp.2.2.2.1, fun k hk => hp.2.2.2.2 k (Nat.lt_of_lt_of_le hk hB) (fun hR => by have := hr k hR; omega)⟩

set_option maxRecDepth 100000 in
set_option maxHeartbeats 4000000 in
theorem DrawVotesFor_d {A : Option Addr} {l : List Int} {c : Nat} {w : World} (hC : CodeR w w.heap.size A l) (hc : l.length ≤ c) :
    Calls Try.prog 22 #[.slice A l.length c] w fun e w' => ∃ v u, e = .returned (.tuple #[v, u]) ∧ NdD w.heap.size w' v ∧ DrS w.heap.size 42 2 voEnc 21 VoQ w' u ∧ Below w.heap.size w w' := by
  obtain ⟨W, hW⟩ : ∃ W, W = w.alloc (.cells #[.slice Option.none 0 0, .int .i64 0, .int .i64 0] 25) := ⟨_, rfl⟩
  have hB := show Below w.heap.size w W by rw [hW]; exact below_alloc _ _
  have hb2 : W.heap[w.heap.size]? = some (.cells #[.slice Option.none 0 0, .int .i64 0, .int .i64 0] 25 (0, 0)) := by rw [hW]; exact heap_alloc_new _ _
  have hs : W.heap.size = w.heap.size + 1 := by rw [hW]; simp
  have HW := Lib.hid hW
  have HB2 := Lib.hid hb2
  clear hW hb2
  go_enter Try.func22, Try.ntmps22
  go_wp2_with fail
  rw [← HW.out]
  refine (l20Open_any (cb := w.heap.size) hB.size (hC.below hB) hc hC.1).mono ?_
  rintro e w1 ⟨rfl, hR, hB1⟩
  replace HB2 := Lib.hid ((hB1.block _ (by omega)).trans HB2.out)
  replace hB := ext_trans hB hB1
  have hs1 := hR.lt
  obtain ⟨br, hbr⟩ : ∃ br, br = W.heap.size := ⟨_, rfl⟩
  rw [← hbr] at hR hs1 ⊢
  have hbrw : w.heap.size < br := by omega
  have hbrW : w1.heap.size > br := hs1
  clear hbr hs hB1
  go_wp2_with fail
  refine (l20Need_d (N := 0) ⟨0, by omega, by omega, hR⟩ (by omega) (by omega) (by omega)).mono ?_
  rintro e w2 ⟨_, rfl, ⟨A2, c2, may, least, asked, rfl, hn, h1, h2, ho⟩, hRd, hG⟩
  have HB3 := Lib.hid (box_after HB2.out (Below.refl _ _) hG (fun e => by cases e; omega))
  replace hB := below_of_new hB hG (fun k e => by cases e; omega)
  obtain ⟨g5, hg5⟩ : ∃ g, g = w2.heap.size := ⟨_, rfl⟩
  obtain ⟨X, hX⟩ : ∃ X, X = w2.alloc (.cells #[.slice A2 may.length c2, .int .i64 least, .int .i64 asked] 25) := ⟨_, rfl⟩
  have hA1 : Below w2.heap.size w2 X := by rw [hX]; exact below_alloc _ _
  have hX5 : X.heap[g5]? = some (.cells #[.slice A2 may.length c2, .int .i64 least, .int .i64 asked] 25 (0, 0)) := by rw [hX, hg5]; exact heap_alloc_new _ _
  have hX2 : X.heap[w.heap.size]? = some (.cells #[.slice Option.none 0 0, .int .i64 0, .int .i64 0] 25 (0, 0)) := (hA1.block _ (Array.getElem?_eq_some_iff.1 HB3.out).1).trans HB3.out
  have hg2 : w.heap.size < g5 := by have := (Array.getElem?_eq_some_iff.1 HB3.out).1; omega
  have hw2 := hG.size
  have hwX := hA1.size
  have hbr2 : br < g5 := by omega
  have hbrX : br < X.heap.size := by have := (Array.getElem?_eq_some_iff.1 hX5).1; omega
  replace hRd := hRd.below hA1
  have ho1 := (ho.lt · ·)
  replace ho := own_below ho hA1
  replace hB := ext_trans hB hA1
  have HO := Lib.hid (show ∀ k, (Value.slice A2 may.length c2).ownBlock = some k → br < k ∧ w.heap.size < k from fun k hk => by have := (ho1 k hk).1; omega)
  have HX := Lib.hid hX
  have HG5 := Lib.hid hg5
  have HX5 := Lib.hid hX5
  have HX2 := Lib.hid hX2
  clear hX hg5 hA1 hX5 hX2 ho1 HB3 HB2 hG hw2 hwX
  go_wp2_with fail
  rw [← HX.out, ← HG5.out]
  refine wp_region_draws (some 3) (fun _ => True) (fun i wz vz => match i with | 0 => vz = .agg #[.slice A2 may.length c2, .int .i64 least, .int .i64 asked] | 1 => vz = .pointer (some ⟨br, 0, Option.none⟩) | 2 => DrS X.heap.size 42 2 voEnc 21 VoQ wz vz | 4 => DrS X.heap.size 42 2 voEnc 21 VoQ wz vz | _ => True)
    (fun k wz => GrownP (fun k => k = br ∨ k = w.heap.size) X wz ∧ RdrT wz br w.heap.size (20 + 300 * k) ∧ X.heap.size ≤ wz.heap.size ∧ wz.heap[g5]? = some (.cells #[.slice A2 may.length c2, .int .i64 least, .int .i64 asked] 25 (0, 0)) ∧ (wz.heap[w.heap.size]? = some (.cells #[.slice Option.none 0 0, .int .i64 0, .int .i64 0] 25 (0, 0)) ∨ wz.heap[w.heap.size]? = some (.cells #[.slice A2 may.length c2, .int .i64 least, .int .i64 asked] 25 (0, 0))))
    (fun i wa wb => ∃ row, wa.grownBy wb row ∧ ∀ k, row = some k → k < X.heap.size) (fun _ => Option.none) (by kernel_rfl) (by kernel_rfl) (by kernel_rfl) ?stab3 ?stabG3 ?inv3 ?pre3 ?all3 ?fin3
  case stab3 =>
    intro i j wa wb v hR hk hne hd _ hT
    obtain ⟨row, hgr, hrow⟩ := hR
    match j, hT with
    | 0, hT => exact hT
    | 1, hT => exact hT
    | 2, hT => exact hT.grown hgr hrow
    | 3, _ => trivial
    | 4, hT => exact hT.grown hgr hrow
    | n + 5, _ => trivial
  case stabG3 => intros; trivial
  case inv3 => exact ⟨GrownP.refl _ _, (hRd.below (ext_drew (Below.refl _ _))).mono (by omega), Nat.le_refl _, HX5.out, .inl HX2.out⟩
  case pre3 => trivial
  case all3 =>
    refine RAll.cons rfl ?_ (RAll.cons rfl ?_ (RAll.cons rfl ?_ (RAll.cons rfl ?_ (RAll.cons rfl ?_ RAll.none_))))
    · intro a k wa K Q hkn hI hp hK
      have e5 := tmp_of (show a.eval (.tmp 5) = .pointer (some ⟨g5, 0, Option.none⟩) from hp.keep 5 (by kernel_rfl))
      have k0 : wa.cell? ⟨g5, 0, Option.none⟩ = some _ := (cell_of_row wa g5 0 _ _ _ hI.2.2.2.1).trans rfl
      have k1 : wa.cell? ⟨g5, 1, Option.none⟩ = some _ := (cell_of_row wa g5 1 _ _ _ hI.2.2.2.1).trans rfl
      have k2 : wa.cell? ⟨g5, 2, Option.none⟩ = some _ := (cell_of_row wa g5 2 _ _ _ hI.2.2.2.1).trans rfl
      go_simp
      exact hK _ _ rfl ⟨Option.none, World.grownBy.refl _ _, fun k e => by cases e⟩ ⟨hI.1, hI.2.1.mono (by omega), hI.2.2⟩
    · intro a k wa K Q hkn hI hp hK
      exact op_move _ (.inl rfl) (hK _ _ (hp.keep 4 (by kernel_rfl)) ⟨Option.none, World.grownBy.refl _ _, fun k e => by cases e⟩ ⟨hI.1, hI.2.1.mono (by omega), hI.2.2⟩)
    · intro a k wa K Q hkn hI hp hK
      replace hkn : k < 5 := hkn
      have e11 := tmp_of (show a.eval (.tmp 11) = .pointer (some ⟨br, 0, Option.none⟩) from hp.dep 1 11 (by kernel_rfl))
      go_simp
      refine (l20Ballots_d hI.2.1 (by omega)).mono ?_
      rintro e wb ⟨v, rfl, hv, hR, hG⟩
      exact hK _ _ (hv.lower hI.2.2.1) ⟨_, hG, fun k e => by cases e; omega⟩ ⟨hI.1.step hG (fun k e => by cases e; exact .inl (.inl rfl)), hR.mono (by omega), Nat.le_trans hI.2.2.1 hG.size, box_after hI.2.2.2.1 (Below.refl _ _) hG (fun e => by cases e; omega),
        hI.2.2.2.2.elim (fun h => .inl (box_after h (Below.refl _ _) hG (fun e => by cases e; omega))) (fun h => .inr (box_after h (Below.refl _ _) hG (fun e => by cases e; omega)))⟩
    · intro a k wa K Q hkn hI hp hK
      have e2 := tmp_of (show a.eval (.tmp 2) = .pointer (some ⟨w.heap.size, 0, Option.none⟩) from hp.keep 2 (by kernel_rfl))
      have e10 := tmp_of (show a.eval (.tmp 10) = .agg #[.slice A2 may.length c2, .int .i64 least, .int .i64 asked] from hp.dep 0 10 (by kernel_rfl))
      have hs4 := setCells_grown w.heap.size [.slice A2 may.length c2, .int .i64 least, .int .i64 asked] wa 0
      obtain ⟨cs2, hcs2, hx2⟩ : ∃ cs : List Value, cs.length = 3 ∧ wa.heap[w.heap.size]? = some (.cells cs.toArray 25 (0, 0)) := by
        rcases hI.2.2.2.2 with h | h
        · exact ⟨_, by rfl, h⟩
        · exact ⟨_, by rfl, h⟩
      obtain ⟨y0, y1, y2, rfl⟩ : ∃ y0 y1 y2, cs2 = [y0, y1, y2] := by
        match cs2, hcs2 with
        | [y0, y1, y2], _ => exact ⟨y0, y1, y2, rfl⟩
      have hat := setCells_at [.slice A2 may.length c2, .int .i64 least, .int .i64 asked] 0 hx2 (by simp)
      have d0 : wa.cell? ⟨w.heap.size, 0, none⟩ = some y0 := (cell_of_row wa _ 0 _ _ _ hx2).trans rfl
      have d1 : wa.cell? ⟨w.heap.size, 1, none⟩ = some y1 := (cell_of_row wa _ 1 _ _ _ hx2).trans rfl
      have d2 : wa.cell? ⟨w.heap.size, 2, none⟩ = some y2 := (cell_of_row wa _ 2 _ _ _ hx2).trans rfl
      have z0 := frozen_of_row wa w.heap.size 0 _ _ hx2
      have z1 := frozen_of_row wa w.heap.size 1 _ _ hx2
      have z2 := frozen_of_row wa w.heap.size 2 _ _ hx2
      have HS4 := Lib.hid hs4
      have HAT := Lib.hid hat
      clear hs4 hat hx2
      go_simp
      exact hK undef _ trivial ⟨_, HS4.out, fun k e => by cases e; omega⟩ ⟨hI.1.step HS4.out (fun k e => by cases e; exact .inl (.inr rfl)), (hI.2.1.grown HS4.out (fun k e => by cases e; omega)).mono (by omega), Nat.le_trans hI.2.2.1 HS4.out.size, box_after hI.2.2.2.1 (Below.refl _ _) HS4.out (fun e => by cases e; omega), .inr HAT.out⟩
    · intro a k wa K Q hkn hI hp hK
      exact op_move _ (.inr rfl) (hK _ _ (hp.dep 2 12 (by kernel_rfl)) ⟨Option.none, World.grownBy.refl _ _, fun k e => by cases e⟩ ⟨hI.1, hI.2.1.mono (by omega), hI.2.2⟩)
  case fin3 =>
    intro f W7 hT hI0
    have hv : DrS X.heap.size 42 2 voEnc 21 VoQ W7 (f 4) := hT 4 (by decide) rfl rfl
    obtain ⟨hGP, _, hsz, _, hbox⟩ := hI0
    clear hT
    obtain ⟨u, hu⟩ : ∃ x, x = f 4 := ⟨_, rfl⟩
    rw [← hu] at hv
    have hro : W7.ownsRow w.heap.size 3 1 (.slice A2 may.length c2) may.length (may.flatMap ilEnc) := by
      exact own_grownP (own_lower ho (by omega)) hGP (fun k hk e => by have := HO.out k e; rcases hk with hk | hk <;> omega)
    have hBB : Below w.heap.size w W7 := below_grownP hB hGP hB.size (fun k hk => by rcases hk with hk | hk <;> omega)
    simp only [putAll, ← hu]
    go_simp
    rw [← hu]
    clear hu
    rcases hbox with hx | hx
    · have k0 : W7.cell? ⟨w.heap.size, 0, Option.none⟩ = some _ := (cell_of_row W7 w.heap.size 0 _ _ _ hx).trans rfl
      have k1 : W7.cell? ⟨w.heap.size, 1, Option.none⟩ = some _ := (cell_of_row W7 w.heap.size 1 _ _ _ hx).trans rfl
      have k2 : W7.cell? ⟨w.heap.size, 2, Option.none⟩ = some _ := (cell_of_row W7 w.heap.size 2 _ _ _ hx).trans rfl
      go_wp2
      exact bodyPost_ret (v := .tuple #[.agg #[.slice Option.none 0 0, .int .i64 0, .int .i64 0], u]) (by simp only [results, Try.results22]; go_simp) rfl ⟨_, _, rfl, ⟨Option.none, 0, [], 0, 0, rfl, by decide, by decide, by decide, World.ownsRow_nil _ _ _ _⟩, hv.lower (by omega), hBB⟩
    · have k0 : W7.cell? ⟨w.heap.size, 0, Option.none⟩ = some _ := (cell_of_row W7 w.heap.size 0 _ _ _ hx).trans rfl
      have k1 : W7.cell? ⟨w.heap.size, 1, Option.none⟩ = some _ := (cell_of_row W7 w.heap.size 1 _ _ _ hx).trans rfl
      have k2 : W7.cell? ⟨w.heap.size, 2, Option.none⟩ = some _ := (cell_of_row W7 w.heap.size 2 _ _ _ hx).trans rfl
      go_wp2
      exact bodyPost_ret (v := .tuple #[.agg #[.slice A2 may.length c2, .int .i64 least, .int .i64 asked], u]) (by simp only [results, Try.results22]; go_simp) rfl ⟨_, _, rfl, ⟨A2, c2, may, least, asked, rfl, hn, h1, h2, hro⟩, hv.lower (by omega), hBB⟩
end Go.Proofs.Ytbkjolbgnkpjpaa

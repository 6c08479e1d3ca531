/- Drawn needs. -/
import Derived.Test.YtbkjolbgnkpjpaaNdG
import Derived.Test.YtbkjolbgnkpjpaaNdT
import Derived.Test.YtbkjolbgnkpjpaaCode
import Derived.Test.YtbkjolbgnkpjpaaAlv
import Derived.OwnWalk
namespace Go.Proofs.Ytbkjolbgnkpjpaa
open Go.RowKit

theorem own_ne {B sz n g : Nat} {e T : TypeId} {w : World} {v : Value} {xs : List Value} {cs : Array Value} {fr : Nat × Nat} (h : w.ownsRow B e sz v n xs) (hb : w.heap[g]? = some (.cells cs T fr)) (hT : e ≠ T) : ∀ k, v.ownBlock = some k → k ≠ g := by
  intro k hk e2
  subst e2
  rcases h.2 with ⟨h1, _⟩ | ⟨g2, cap, cur, hv, _, hx, _⟩
  · rw [h1] at hk; cases hk
  · rw [hv] at hk
    simp only [Value.ownBlock, Option.some.injEq] at hk
    subst hk
    rw [hb] at hx
    simp only [Option.some.injEq, Obj.cells.injEq] at hx
    exact hT hx.2.1.symm
theorem dr_ne {α : Type} {B sz n g : Nat} {e T : TypeId} {enc : α → List Value} {Q : α → Prop} {w : World} {v : Value} {cs : Array Value} {fr : Nat × Nat} (h : DrS B e sz enc n Q w v) (hb : w.heap[g]? = some (.cells cs T fr)) (hT : e ≠ T) : v.ownBlock ≠ some g := by
  obtain ⟨l, _, _, A, c, rfl, ho⟩ := h
  exact fun hk => own_ne ho hb hT g hk rfl
theorem box_after {w w1 w2 : World} {g : Nat} {o : Obj} {row : Option Nat} (hbx : w.heap[g]? = some o) (hb : Below w.heap.size w w1) (hg : w1.grownBy w2 row) (hne : row ≠ some g) : w2.heap[g]? = some o := by
  have hlt := (Array.getElem?_eq_some_iff.1 hbx).1
  exact (hg.block g (Nat.lt_of_lt_of_le hlt hb.size) (fun e => hne e.symm)).trans ((hb.block g hlt).trans hbx)
/-- What is known of a drawn need. -/
def NdD (B : Nat) (w : World) (v : Value) : Prop := ∃ (A : Option Addr) (c : Nat) (may : IL) (least asked : Int), v = .agg #[.slice A may.length c, .int .i64 least, .int .i64 asked] ∧ may.length ≤ 5 ∧ (0 ≤ least ∧ least ≤ 8) ∧ (0 ≤ asked ∧ asked ≤ 7) ∧
  w.ownsRow B 3 1 (.slice A may.length c) may.length (may.flatMap ilEnc)
theorem NdD.of {B n : Nat} {Q : Int → Prop} {w : World} {v : Value} {least asked : Int} (h : DrS B 3 1 ilEnc n Q w v) (hn : n ≤ 5) (h1 : 0 ≤ least ∧ least ≤ 8) (h2 : 0 ≤ asked ∧ asked ≤ 7) : NdD B w (.agg #[v, .int .i64 least, .int .i64 asked]) := by
  obtain ⟨l, hl, _, A, c, rfl, ho⟩ := h
  exact ⟨A, c, l, least, asked, rfl, by omega, h1, h2, ho⟩
theorem NdD.grown {B : Nat} {row : Option Nat} {w w' : World} {v : Value} (h : NdD B w v) (hg : w.grownBy w' row) (hr : ∀ k, row = some k → k < B) : NdD B w' v := by
  obtain ⟨A, c, may, least, asked, rfl, h1, h2, h3, ho⟩ := h
  exact ⟨A, c, may, least, asked, rfl, h1, h2, h3, own_apart_ ho hg (fun k hk e => by have := (ho.lt k hk).1; have := hr k e; omega)⟩
theorem NdD.lower {B B' : Nat} {w : World} {v : Value} (h : NdD B w v) (hB : B' ≤ B) : NdD B' w v := by
  obtain ⟨A, c, may, least, asked, rfl, h1, h2, h3, ho⟩ := h
  exact ⟨A, c, may, least, asked, rfl, h1, h2, h3, own_lower ho hB⟩

set_option maxRecDepth 100000 in
set_option maxHeartbeats 8000000 in
theorem l20Need_d {br cb N : Nat} {n : Int} {w : World} (hR : RdrT w br cb N) (hN : N ≤ 100000000) (h0 : 0 ≤ n) (h1 : n ≤ 1000000) :
    Calls Try.prog 36 #[.pointer (some ⟨br, 0, Option.none⟩), .int .i64 n] w fun e w' => ∃ v, e = .returned v ∧ NdD w.heap.size w' v ∧ RdrT w' br cb (N + 20) ∧ w.grownBy w' (some br) := by
  have hbrW := hR.lt
  obtain ⟨W1, hW1⟩ : ∃ W, W = w.alloc (.cells #[.slice Option.none 0 0, .int .i64 0, .int .i64 0] 25) := ⟨_, rfl⟩
  obtain ⟨W, hW⟩ : ∃ W, W = W1.alloc (.cells #[] 3) := ⟨_, rfl⟩
  have hB1 : Below w.heap.size w W1 := by rw [hW1]; exact below_alloc _ _
  have hB2 : Below W1.heap.size W1 W := by rw [hW]; exact below_alloc _ _
  have hs1 : w.heap.size + 1 = W1.heap.size := by rw [hW1]; simp
  have hDr : DrS w.heap.size 3 1 ilEnc 0 (fun _ => True) W (.slice (some ⟨w.heap.size + 1, 0, Option.none⟩) 0 0) := by
    rw [hs1, hW]; exact DrS.empty hB1.size
  have hb4 : W.heap[w.heap.size]? = some (.cells #[.slice Option.none 0 0, .int .i64 0, .int .i64 0] 25 (0, 0)) := (hB2.block _ (by rw [← hs1]; omega)).trans (by rw [hW1]; exact heap_alloc_new _ _)
  have hBW := ext_trans hB1 hB2
  have hRd := hR.below hBW
  have hGd := grown_of_below hBW (some br)
  have HW1 := Lib.hid hW1
  have HW := Lib.hid hW
  clear hR hW1 hW hB1 hB2 hs1 hBW
  go_enter Try.func36, Try.ntmps36
  go_wp2_with fail
  rw [← HW1.out, ← HW.out]
  refine (pick_d (hRd.below (by (repeat (first | exact Below.refl _ _ | refine ext_alloc ?_ _ | refine Below.setCell ?_ (by simp) _)))) (by omega) (by omega) (by omega)).mono ?_
  rintro e wd1 ⟨p1, rfl, p1_l, p1_u, hR_, hG_⟩
  have hb4 := box_after hb4 (Below.refl _ _) hG_ (fun e => by cases e; omega)
  replace hDr := hDr.grown hG_ (fun k e => by cases e; omega)
  replace hGd := grown_trans_ hGd hG_
  replace hRd := hR_
  clear hR_ hG_
  go_wp2_with fail
  refine (pick_d (hRd.below (by (repeat (first | exact Below.refl _ _ | refine ext_alloc ?_ _ | refine Below.setCell ?_ (by simp) _)))) (by omega) (by omega) (by omega)).mono ?_
  rintro e wd2 ⟨p2, rfl, p2_l, p2_u, hR_, hG_⟩
  replace hb4 := box_after hb4 (Below.refl _ _) hG_ (fun e => by cases e; omega)
  replace hDr := hDr.grown hG_ (fun k e => by cases e; omega)
  replace hGd := grown_trans_ hGd hG_
  replace hRd := hR_
  clear hR_ hG_
  obtain ⟨gb, hgb⟩ : ∃ g, g = wd2.heap.size := ⟨_, rfl⟩
  obtain ⟨X, hX⟩ : ∃ X, X = wd2.alloc (.cells #[.slice (some ⟨w.heap.size + 1, 0, none⟩) 0 0, .int .i64 (1 + p1), .int .i64 p2] 25) := ⟨_, rfl⟩
  have hb5 : X.heap[gb]? = some (.cells #[.slice (some ⟨w.heap.size + 1, 0, none⟩) 0 0, .int .i64 (1 + p1), .int .i64 p2] 25 (0, 0)) := by rw [hX, hgb]; exact heap_alloc_new _ _
  have hBX : Below wd2.heap.size wd2 X := by rw [hX]; exact below_alloc _ _
  have hbs : w.heap.size ≤ wd2.heap.size := hGd.size
  have hgb2 : w.heap.size ≤ gb := by omega
  have hb4l := (Array.getElem?_eq_some_iff.1 hb4).1
  have hg45 : w.heap.size ≠ gb := by omega
  replace hb4 := (hBX.block _ hb4l).trans hb4
  replace hDr := hDr.below hBX
  replace hRd := hRd.below hBX
  replace hGd := grown_trans_ hGd (grown_of_below hBX _)
  have HX := Lib.hid hX
  have HGB := Lib.hid hgb
  clear hX hgb hBX hb4l hbs
  go_wp2_with fail
  rw [← HX.out, ← HGB.out]
  have HB4 := Lib.hid hb4
  have HB5 := Lib.hid hb5
  clear hb4 hb5
  go_loopw [6] (fun kv wr => ∃ (k : Nat) (v : Value), k ≤ 5 ∧ kv = .int .i64 k ∧ DrS w.heap.size 3 1 ilEnc k (fun _ => True) wr v ∧ RdrT wr br cb (N + 2 + k) ∧ w.grownBy wr (some br) ∧
    Hid (wr.heap[w.heap.size]? = some (.cells #[.slice Option.none 0 0, .int .i64 0, .int .i64 0] 25 (0, 0))) ∧ Hid (wr.heap[gb]? = some (.cells #[v, .int .i64 (1 + p1), .int .i64 p2] 25 (0, 0)))) (fun kv _ => 5 - (intOf kv).toNat)
  case atStart => exact ⟨0, _, by omega, rfl, hDr, hRd.mono (by omega), hGd, HB4, HB5⟩
  case round =>
    clear hDr hRd hGd HB4 HB5
    obtain ⟨k, v, hk, rfl, hDr, hRd, hGd, HB4, HB5⟩ := hrel
    have hne5 := dr_ne hDr HB5.out (by decide)
    have hne4 := dr_ne hDr HB4.out (by decide)
    have hlt5 := (Array.getElem?_eq_some_iff.1 HB5.out).1
    have hlt4 := (Array.getElem?_eq_some_iff.1 HB4.out).1
    by_cases hlt : k < 5
    · go_wp2_with fail
      refine (pick_d hRd (by omega) (by omega) (by omega)).mono ?_
      rintro e wd3 ⟨p3, rfl, p3_l, p3_u, hR_, hG_⟩
      replace HB4 := Lib.hid (box_after HB4.out (Below.refl _ _) hG_ (fun e => by cases e; omega))
      replace HB5 := Lib.hid (box_after HB5.out (Below.refl _ _) hG_ (fun e => by cases e; omega))
      replace hDr := hDr.grown hG_ (fun k e => by cases e; omega)
      replace hGd := grown_trans_ hGd hG_
      replace hRd := hR_
      clear hR_ hG_ hlt5 hlt4
      by_cases e3 : 0 < p3
      · have c0 : wd3.cell? ⟨gb, 0, none⟩ = some v := (cell_of_row wd3 gb 0 _ _ _ HB5.out).trans rfl
        go_wp2_with (at_builtin; go_must (refine wpList_append_dr (enc := ilEnc) ((k : Int)) rfl (.tmp 22) (.tmp 24) 23 3 _ 1 8 rfl Try.underlying23 Try.infoInt rfl (by decide) (fun _ => rfl) ilEnc_one (hDr.below (by (repeat (first | exact Below.refl _ _ | refine ext_alloc ?_ _ | refine Below.setCell ?_ (by simp) _)))) rfl (heap_alloc_new _ _) rfl trivial (by omega) (by omega) (Nat.le_trans hGd.size (show Below _ _ _ by (repeat (first | exact Below.refl _ _ | refine ext_alloc ?_ _ | refine Below.setCell ?_ (by simp) _))).size) ?_); intro v_ wd4 ho_ hg_ hb_; obtain ⟨l_, hl_, hq_, A_, c_, rfl, ho2_⟩ := ho_; have hx5 := box_after HB5.out (by (repeat (first | exact Below.refl _ _ | refine ext_alloc ?_ _ | refine Below.setCell ?_ (by simp) _))) hg_ hne5; have hx4 := box_after HB4.out (by (repeat (first | exact Below.refl _ _ | refine ext_alloc ?_ _ | refine Below.setCell ?_ (by simp) _))) hg_ hne4; have f0 : wd4.cell? ⟨gb, 0, none⟩ = some v := (cell_of_row wd4 gb 0 _ _ _ hx5).trans rfl; have z0 := frozen_of_row wd4 gb 0 _ _ hx5; replace hGd := grown_new (grown_trans_ hGd (grown_of_below (by (repeat (first | exact Below.refl _ _ | refine ext_alloc ?_ _ | refine Below.setCell ?_ (by simp) _))) _)) hg_ hb_; replace hRd := (hRd.below (by (repeat (first | exact Below.refl _ _ | refine ext_alloc ?_ _ | refine Below.setCell ?_ (by simp) _)))).grown hg_ (fun k e => by have := hb_ k e; have := hRd.cb_; omega); clear hDr hg_ hb_ c0)
        have ho_ : DrS w.heap.size 3 1 ilEnc (k + 1) (fun _ => True) wd4 (.slice A_ l_.length c_) := ⟨l_, hl_, hq_, A_, c_, rfl, ho2_⟩
        have hs5 := setCells_at [.slice A_ l_.length c_] 0 hx5 (by simp)
        have hs4 := setCells_grown gb [.slice A_ l_.length c_] wd4 0
        have hx4' := box_after hx4 (Below.refl _ _) hs4 (fun e => by cases e; exact hg45 rfl)
        have hro := ho_.apart hs4 (fun k hk e => by cases e; exact dr_ne ho_ hx5 (by decide) hk)
        have hrr := hRd.grown hs4 (fun k e => by cases e; have := hRd.cb_; have := hRd.lt; omega)
        have hrg := grown_new hGd hs4 (fun k e => by cases e; exact hgb2)
        go_roundw
        case rel => exact ⟨k + 1, .slice A_ l_.length c_, by omega, by go_num, hro.mono (by omega), hrr.mono (by omega), hrg, Lib.hid hx4', Lib.hid hs5⟩
        case measure => simp [intOf]; omega
      · go_wp2
        go_roundw
        case rel => exact ⟨k + 1, v, by omega, by go_num, hDr.mono (by omega), hRd.mono (by omega), hGd, HB4, HB5⟩
        case measure => simp [intOf]; omega
    · obtain rfl : k = 5 := by omega
      go_wp2_with fail
      refine (odd_d hRd (by omega) (by omega) (by omega)).mono ?_
      rintro e wd3 ⟨b3, rfl, hR_, hG_⟩
      replace HB4 := Lib.hid (box_after HB4.out (Below.refl _ _) hG_ (fun e => by cases e; omega))
      replace HB5 := Lib.hid (box_after HB5.out (Below.refl _ _) hG_ (fun e => by cases e; omega))
      replace hDr := hDr.grown hG_ (fun k e => by cases e; omega)
      replace hGd := grown_trans_ hGd hG_
      replace hRd := hR_
      clear hR_ hG_
      cases b3
      · obtain ⟨l5, hl5, hq5, A5, c5, rfl, ho5⟩ := hDr
        have hDr : DrS w.heap.size 3 1 ilEnc 5 (fun _ => True) wd3 (.slice A5 l5.length c5) := ⟨l5, hl5, hq5, A5, c5, rfl, ho5⟩
        have c0 : wd3.cell? ⟨gb, 0, none⟩ = some (.slice A5 l5.length c5) := (cell_of_row wd3 gb 0 _ _ _ HB5.out).trans rfl
        have c1 : wd3.cell? ⟨gb, 1, none⟩ = some (.int .i64 (1 + p1)) := (cell_of_row wd3 gb 1 _ _ _ HB5.out).trans rfl
        have c2 : wd3.cell? ⟨gb, 2, none⟩ = some (.int .i64 p2) := (cell_of_row wd3 gb 2 _ _ _ HB5.out).trans rfl
        have d0 : wd3.cell? ⟨w.heap.size, 0, none⟩ = some (.slice Option.none 0 0) := (cell_of_row wd3 _ 0 _ _ _ HB4.out).trans rfl
        have d1 : wd3.cell? ⟨w.heap.size, 1, none⟩ = some (.int .i64 0) := (cell_of_row wd3 _ 1 _ _ _ HB4.out).trans rfl
        have d2 : wd3.cell? ⟨w.heap.size, 2, none⟩ = some (.int .i64 0) := (cell_of_row wd3 _ 2 _ _ _ HB4.out).trans rfl
        have z0 := frozen_of_row wd3 w.heap.size 0 _ _ HB4.out
        have z1 := frozen_of_row wd3 w.heap.size 1 _ _ HB4.out
        have z2 := frozen_of_row wd3 w.heap.size 2 _ _ HB4.out
        have hs4 := setCells_grown w.heap.size [.slice A5 l5.length c5, .int .i64 (1 + p1), .int .i64 p2] wd3 0
        have hro := hDr.apart hs4 (fun k hk e => by cases e; exact dr_ne hDr HB4.out (by decide) hk)
        have hrr := hRd.grown hs4 (fun k e => by cases e; have := hRd.cb_; omega)
        have hrg := grown_new hGd hs4 (fun k e => by cases e; exact Nat.le_refl _)
        have HRO := Lib.hid hro
        have HRR := Lib.hid hrr
        have HRG := Lib.hid hrg
        clear hs4 hro hrr hrg
        go_wp2
        refine bodyPost_ret (v := .agg #[.slice A5 l5.length c5, .int .i64 (1 + p1), .int .i64 p2]) (by simp only [results, Try.results36]; go_simp) rfl ⟨_, rfl, NdD.of HRO.out (by omega) (by omega) (by omega), HRR.out.mono (by omega), HRG.out⟩
      · have hbs : w.heap.size ≤ wd3.heap.size := hGd.size
        have hlt4 := (Array.getElem?_eq_some_iff.1 HB4.out).1
        obtain ⟨V1, hV1⟩ : ∃ V, V = wd3.alloc (.cells #[.int .i64 2, .int .i64 1] 3) := ⟨_, rfl⟩
        obtain ⟨V2, hV2⟩ : ∃ V, V = V1.alloc (.cells #[.int .i64 7] 3) := ⟨_, rfl⟩
        obtain ⟨V3, hV3⟩ : ∃ V, V = V2.alloc (.cells #[.slice none 0 0, .int .i64 0, .int .i64 0, .slice (some ⟨wd3.heap.size, 0, none⟩) 2 2, .int .i64 1, .int .i64 0, .slice (some ⟨wd3.heap.size + 1, 0, none⟩) 1 1, .int .i64 1, .int .i64 0, .slice none 0 0, .int .i64 8, .int .i64 0, .slice none 0 0, .int .i64 1, .int .i64 7] 25) := ⟨_, rfl⟩
        have hA1 : Below wd3.heap.size wd3 V1 := by rw [hV1]; exact below_alloc _ _
        have hA2 : Below V1.heap.size V1 V2 := by rw [hV2]; exact below_alloc _ _
        have hA3 : Below V2.heap.size V2 V3 := by rw [hV3]; exact below_alloc _ _
        have ht1 : wd3.heap.size + 1 = V1.heap.size := by rw [hV1]; simp
        have ht2 : wd3.heap.size + 1 + 1 = V2.heap.size := by rw [hV2]; simp; omega
        have o1 : V1.ownsRow w.heap.size 3 1 (.slice (some ⟨wd3.heap.size, 0, none⟩) 2 2) 2 [.int .i64 2, .int .i64 1] := by rw [hV1]; exact own_fresh hbs rfl (by decide)
        have o2 : V2.ownsRow w.heap.size 3 1 (.slice (some ⟨wd3.heap.size + 1, 0, none⟩) 1 1) 1 [.int .i64 7] := by
          rw [ht1, hV2]; exact own_fresh (by omega) rfl (by decide)
        have hb3 : V3.heap[wd3.heap.size + 1 + 1]? = some (.cells #[.slice none 0 0, .int .i64 0, .int .i64 0, .slice (some ⟨wd3.heap.size, 0, none⟩) 2 2, .int .i64 1, .int .i64 0, .slice (some ⟨wd3.heap.size + 1, 0, none⟩) 1 1, .int .i64 1, .int .i64 0, .slice none 0 0, .int .i64 8, .int .i64 0, .slice none 0 0, .int .i64 1, .int .i64 7] 25 (0, 0)) := by rw [hV3]; exact heap_alloc_at ht2
        replace o1 := own_below (own_below o1 hA2) hA3
        replace o2 := own_below o2 hA3
        have hA := ext_trans hA1 (ext_trans hA2 hA3)
        have HV1 := Lib.hid hV1
        have HV2 := Lib.hid hV2
        have HV3 := Lib.hid hV3
        have HB3 := Lib.hid hb3
        replace hRd := hRd.below hA
        replace HB4 := Lib.hid ((hA.block _ hlt4).trans HB4.out)
        replace hGd := grown_trans_ hGd (grown_of_below hA _)
        clear hV1 hV2 hV3 hA1 hA2 hA3 ht1 ht2 hb3 hDr HB5 hA
        go_wp2_with fail
        rw [← HV1.out, ← HV2.out, ← HV3.out]
        refine (pick_d hRd (by omega) (by omega) (by omega)).mono ?_
        rintro e wd4 ⟨p4, rfl, p4_l, p4_u, hR_, hG_⟩
        replace HB4 := Lib.hid (box_after HB4.out (Below.refl _ _) hG_ (fun e => by cases e; omega))
        replace HB3 := Lib.hid (box_after HB3.out (Below.refl _ _) hG_ (fun e => by cases e; omega))
        replace o1 := own_apart o1 hG_ (fun k hk => by cases hk; show wd3.heap.size ≠ br; omega)
        replace o2 := own_apart o2 hG_ (fun k hk => by cases hk; show wd3.heap.size + 1 ≠ br; omega)
        replace hGd := grown_trans_ hGd hG_
        replace hRd := hR_
        clear hR_ hG_
        have d0 : wd4.cell? ⟨w.heap.size, 0, none⟩ = some (.slice Option.none 0 0) := (cell_of_row wd4 _ 0 _ _ _ HB4.out).trans rfl
        have d1 : wd4.cell? ⟨w.heap.size, 1, none⟩ = some (.int .i64 0) := (cell_of_row wd4 _ 1 _ _ _ HB4.out).trans rfl
        have d2 : wd4.cell? ⟨w.heap.size, 2, none⟩ = some (.int .i64 0) := (cell_of_row wd4 _ 2 _ _ _ HB4.out).trans rfl
        have z0 := frozen_of_row wd4 w.heap.size 0 _ _ HB4.out
        have z1 := frozen_of_row wd4 w.heap.size 1 _ _ HB4.out
        have z2 := frozen_of_row wd4 w.heap.size 2 _ _ HB4.out
        obtain rfl | rfl | rfl | rfl | rfl : p4 = 0 ∨ p4 = 1 ∨ p4 = 2 ∨ p4 = 3 ∨ p4 = 4 := by omega
        · have c0 : wd4.cell? ⟨wd3.heap.size + 1 + 1, 0, none⟩ = some ((.slice none 0 0)) := (cell_of_row wd4 _ 0 _ _ _ HB3.out).trans rfl
          have c1 : wd4.cell? ⟨wd3.heap.size + 1 + 1, 1, none⟩ = some (.int .i64 0) := (cell_of_row wd4 _ 1 _ _ _ HB3.out).trans rfl
          have c2 : wd4.cell? ⟨wd3.heap.size + 1 + 1, 2, none⟩ = some (.int .i64 0) := (cell_of_row wd4 _ 2 _ _ _ HB3.out).trans rfl
          have hs4 := setCells_grown w.heap.size [(.slice none 0 0), .int .i64 0, .int .i64 0] wd4 0
          have hro : (setCells wd4 w.heap.size 0 [(.slice none 0 0), .int .i64 0, .int .i64 0]).ownsRow w.heap.size 3 1 (.slice none ([] : IL).length 0) ([] : IL).length (([] : IL).flatMap ilEnc) := World.ownsRow_nil _ _ _ _
          have HRO := Lib.hid (show NdD w.heap.size _ _ from ⟨none, 0, [], 0, 0, rfl, by decide, by decide, by decide, hro⟩)
          have HRR := Lib.hid (hRd.grown hs4 (fun k e => by cases e; have := hRd.cb_; omega))
          have HRG := Lib.hid (grown_new hGd hs4 (fun k e => by cases e; exact Nat.le_refl _))
          clear hs4 hro o1 o2
          go_wp2
          refine bodyPost_ret (v := .agg #[(.slice none 0 0), .int .i64 0, .int .i64 0]) (by simp only [results, Try.results36]; go_simp) rfl ⟨_, rfl, HRO.out, HRR.out.mono (by omega), HRG.out⟩
        · have c0 : wd4.cell? ⟨wd3.heap.size + 1 + 1, 3, none⟩ = some ((.slice (some ⟨wd3.heap.size, 0, none⟩) 2 2)) := (cell_of_row wd4 _ 3 _ _ _ HB3.out).trans rfl
          have c1 : wd4.cell? ⟨wd3.heap.size + 1 + 1, 4, none⟩ = some (.int .i64 1) := (cell_of_row wd4 _ 4 _ _ _ HB3.out).trans rfl
          have c2 : wd4.cell? ⟨wd3.heap.size + 1 + 1, 5, none⟩ = some (.int .i64 0) := (cell_of_row wd4 _ 5 _ _ _ HB3.out).trans rfl
          have hs4 := setCells_grown w.heap.size [(.slice (some ⟨wd3.heap.size, 0, none⟩) 2 2), .int .i64 1, .int .i64 0] wd4 0
          have hro : (setCells wd4 w.heap.size 0 [(.slice (some ⟨wd3.heap.size, 0, none⟩) 2 2), .int .i64 1, .int .i64 0]).ownsRow w.heap.size 3 1 (.slice (some ⟨wd3.heap.size, 0, none⟩) ([2, 1] : IL).length 2) ([2, 1] : IL).length (([2, 1] : IL).flatMap ilEnc) := (own_apart o1 hs4 (fun k hk => by cases hk; show wd3.heap.size ≠ w.heap.size; omega))
          have HRO := Lib.hid (show NdD w.heap.size _ _ from ⟨(some ⟨wd3.heap.size, 0, none⟩), 2, [2, 1], 1, 0, rfl, by decide, by decide, by decide, hro⟩)
          have HRR := Lib.hid (hRd.grown hs4 (fun k e => by cases e; have := hRd.cb_; omega))
          have HRG := Lib.hid (grown_new hGd hs4 (fun k e => by cases e; exact Nat.le_refl _))
          clear hs4 hro o1 o2
          go_wp2
          refine bodyPost_ret (v := .agg #[(.slice (some ⟨wd3.heap.size, 0, none⟩) 2 2), .int .i64 1, .int .i64 0]) (by simp only [results, Try.results36]; go_simp) rfl ⟨_, rfl, HRO.out, HRR.out.mono (by omega), HRG.out⟩
        · have c0 : wd4.cell? ⟨wd3.heap.size + 1 + 1, 6, none⟩ = some ((.slice (some ⟨wd3.heap.size + 1, 0, none⟩) 1 1)) := (cell_of_row wd4 _ 6 _ _ _ HB3.out).trans rfl
          have c1 : wd4.cell? ⟨wd3.heap.size + 1 + 1, 7, none⟩ = some (.int .i64 1) := (cell_of_row wd4 _ 7 _ _ _ HB3.out).trans rfl
          have c2 : wd4.cell? ⟨wd3.heap.size + 1 + 1, 8, none⟩ = some (.int .i64 0) := (cell_of_row wd4 _ 8 _ _ _ HB3.out).trans rfl
          have hs4 := setCells_grown w.heap.size [(.slice (some ⟨wd3.heap.size + 1, 0, none⟩) 1 1), .int .i64 1, .int .i64 0] wd4 0
          have hro : (setCells wd4 w.heap.size 0 [(.slice (some ⟨wd3.heap.size + 1, 0, none⟩) 1 1), .int .i64 1, .int .i64 0]).ownsRow w.heap.size 3 1 (.slice (some ⟨wd3.heap.size + 1, 0, none⟩) ([7] : IL).length 1) ([7] : IL).length (([7] : IL).flatMap ilEnc) := (own_apart o2 hs4 (fun k hk => by cases hk; show wd3.heap.size + 1 ≠ w.heap.size; omega))
          have HRO := Lib.hid (show NdD w.heap.size _ _ from ⟨(some ⟨wd3.heap.size + 1, 0, none⟩), 1, [7], 1, 0, rfl, by decide, by decide, by decide, hro⟩)
          have HRR := Lib.hid (hRd.grown hs4 (fun k e => by cases e; have := hRd.cb_; omega))
          have HRG := Lib.hid (grown_new hGd hs4 (fun k e => by cases e; exact Nat.le_refl _))
          clear hs4 hro o1 o2
          go_wp2
          refine bodyPost_ret (v := .agg #[(.slice (some ⟨wd3.heap.size + 1, 0, none⟩) 1 1), .int .i64 1, .int .i64 0]) (by simp only [results, Try.results36]; go_simp) rfl ⟨_, rfl, HRO.out, HRR.out.mono (by omega), HRG.out⟩
        · have c0 : wd4.cell? ⟨wd3.heap.size + 1 + 1, 9, none⟩ = some ((.slice none 0 0)) := (cell_of_row wd4 _ 9 _ _ _ HB3.out).trans rfl
          have c1 : wd4.cell? ⟨wd3.heap.size + 1 + 1, 10, none⟩ = some (.int .i64 8) := (cell_of_row wd4 _ 10 _ _ _ HB3.out).trans rfl
          have c2 : wd4.cell? ⟨wd3.heap.size + 1 + 1, 11, none⟩ = some (.int .i64 0) := (cell_of_row wd4 _ 11 _ _ _ HB3.out).trans rfl
          have hs4 := setCells_grown w.heap.size [(.slice none 0 0), .int .i64 8, .int .i64 0] wd4 0
          have hro : (setCells wd4 w.heap.size 0 [(.slice none 0 0), .int .i64 8, .int .i64 0]).ownsRow w.heap.size 3 1 (.slice none ([] : IL).length 0) ([] : IL).length (([] : IL).flatMap ilEnc) := World.ownsRow_nil _ _ _ _
          have HRO := Lib.hid (show NdD w.heap.size _ _ from ⟨none, 0, [], 8, 0, rfl, by decide, by decide, by decide, hro⟩)
          have HRR := Lib.hid (hRd.grown hs4 (fun k e => by cases e; have := hRd.cb_; omega))
          have HRG := Lib.hid (grown_new hGd hs4 (fun k e => by cases e; exact Nat.le_refl _))
          clear hs4 hro o1 o2
          go_wp2
          refine bodyPost_ret (v := .agg #[(.slice none 0 0), .int .i64 8, .int .i64 0]) (by simp only [results, Try.results36]; go_simp) rfl ⟨_, rfl, HRO.out, HRR.out.mono (by omega), HRG.out⟩
        · have c0 : wd4.cell? ⟨wd3.heap.size + 1 + 1, 12, none⟩ = some ((.slice none 0 0)) := (cell_of_row wd4 _ 12 _ _ _ HB3.out).trans rfl
          have c1 : wd4.cell? ⟨wd3.heap.size + 1 + 1, 13, none⟩ = some (.int .i64 1) := (cell_of_row wd4 _ 13 _ _ _ HB3.out).trans rfl
          have c2 : wd4.cell? ⟨wd3.heap.size + 1 + 1, 14, none⟩ = some (.int .i64 7) := (cell_of_row wd4 _ 14 _ _ _ HB3.out).trans rfl
          have hs4 := setCells_grown w.heap.size [(.slice none 0 0), .int .i64 1, .int .i64 7] wd4 0
          have hro : (setCells wd4 w.heap.size 0 [(.slice none 0 0), .int .i64 1, .int .i64 7]).ownsRow w.heap.size 3 1 (.slice none ([] : IL).length 0) ([] : IL).length (([] : IL).flatMap ilEnc) := World.ownsRow_nil _ _ _ _
          have HRO := Lib.hid (show NdD w.heap.size _ _ from ⟨none, 0, [], 1, 7, rfl, by decide, by decide, by decide, hro⟩)
          have HRR := Lib.hid (hRd.grown hs4 (fun k e => by cases e; have := hRd.cb_; omega))
          have HRG := Lib.hid (grown_new hGd hs4 (fun k e => by cases e; exact Nat.le_refl _))
          clear hs4 hro o1 o2
          go_wp2
          refine bodyPost_ret (v := .agg #[(.slice none 0 0), .int .i64 1, .int .i64 7]) (by simp only [results, Try.results36]; go_simp) rfl ⟨_, rfl, HRO.out, HRR.out.mono (by omega), HRG.out⟩
end Go.Proofs.Ytbkjolbgnkpjpaa

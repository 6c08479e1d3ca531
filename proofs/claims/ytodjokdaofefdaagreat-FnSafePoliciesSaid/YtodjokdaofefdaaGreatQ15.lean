/- Values of expressions with two parts, by the program. -/
import Derived.Test.YtodjokdaofefdaaGreatQ14
namespace Go.Proofs.YtodjokdaofefdaaGreat
set_option linter.unusedSimpArgs false
set_option linter.unusedVariables false
open Go.RowKit

set_option maxRecDepth 100000 in
set_option maxHeartbeats 8000000 in
theorem va_14 {m : Nat} (hQ : EvQ m) {W : WL} {r : Rq} {A B C : Option Addr} {c c2 ct : Nat} {t : Ex} {w : World} (hW : wlR w A W) (hR : fdR w B r.fs) (hU : exW (m + 1) w C t.ps) (hO : OkW W r) (hg : gdR (m + 1 + 1) t = true) (k : t.k = 14) :
    Calls Tryz.prog 76 #[.agg #[.slice A W.length c, .int .i64 r.who, .int .i64 r.act, .int .i64 r.what, .slice B r.fs.length c2], .agg #[.int .i64 t.k, .int .i64 t.n, .string t.s, .slice C t.ps.length ct]] w fun e w' => e = .returned (evVal (ev (m + 1 + 1) W r t)) ∧ Below w.heap.size w w' := by
  obtain ⟨X, hX⟩ : ∃ X, X = ((w.alloc (.cells #[.slice A W.length c, .int .i64 r.who, .int .i64 r.act, .int .i64 r.what, .slice B r.fs.length c2] 110)).alloc (.cells #[.int .i64 t.k, .int .i64 t.n, .string t.s, .slice C t.ps.length ct] 36)).alloc (.cells #[.int .i64 0, .int .i64 0] 87) := ⟨_, rfl⟩
  obtain ⟨g, hgg⟩ : ∃ g, g = w.heap.size := ⟨_, rfl⟩
  have hB : Below w.heap.size w X := by rw [hX]; (repeat (first | exact Below.refl _ _ | refine ext_alloc ?_ _ | refine Below.setCell ?_ (by simp) _))
  have hq1 : X.heap[g]? = some (.cells #[.slice A W.length c, .int .i64 r.who, .int .i64 r.act, .int .i64 r.what, .slice B r.fs.length c2] 110 (0, 0)) := by rw [hX, hgg]; exact block_in (block_in (heap_alloc_new _ _) (below_alloc _ _)) (below_alloc _ _)
  have hq2 : X.heap[g + 1]? = some (.cells #[.int .i64 t.k, .int .i64 t.n, .string t.s, .slice C t.ps.length ct] 36 (0, 0)) := by rw [hX, hgg]; exact block_in (heap_alloc_at (by simp)) (below_alloc _ _)
  have hq3 : X.heap[g + 1 + 1]? = some (.cells #[.int .i64 0, .int .i64 0] 87 (0, 0)) := by rw [hX, hgg]; exact heap_alloc_at (by simp)
  replace hW := hW.below hB
  replace hR := hR.below hB
  replace hU := hU.below hB
  have hlW := hW.len
  have hlR := hR.len
  have hGB : w.heap.size ≤ g + 1 + 1 ∧ g + 1 + 1 < X.heap.size := ⟨by omega, by rw [hX, hgg]; simp⟩
  have har := gd_len hg
  have HX := Lib.hid hX
  have HG := Lib.hid hgg
  have HQ1 := Lib.hid hq1
  have HQ2 := Lib.hid hq2
  have HQ3 := Lib.hid hq3
  have HGB := Lib.hid hGB
  have HB := Lib.hid hB
  have HGD := Lib.hid hg
  obtain ⟨p0, p1, p2, p3, p4⟩ := cells5 hq1
  obtain ⟨q0, q1, q2, q3⟩ := cells4 hq2
  obtain ⟨z0, z1⟩ := cells2 hq3
  obtain ⟨f0, f1⟩ := froz2 hq3
  clear hX hgg hq1 hq2 hq3 hB hGB hg
  rw [k] at har
  have hn2 : t.ps.length = 2 := har
  obtain ⟨b, off, A3, c3, A4, c4, rfl, hfd, hfe, ⟨a0, a1, a2, a3⟩, ⟨b0, b1, b2, b3⟩⟩ := ex_two hU hn2
  have hg0 := gd_part HGD.out (k := 0) (by omega)
  have hg1 := gd_part HGD.out (k := 1) (by omega)
  have hi1 : (1 : Int) < t.ps.length := by omega
  have hlt1 : 1 < t.ps.length := by omega
  have hlt0 : 0 < t.ps.length := by omega
  have hlm : t.ps.length ≤ 9223372036854775807 := by omega
  obtain ⟨va, hva⟩ : ∃ v, evK (ev (m + 1) W r (exAt t.ps 0)) 1 = v := ⟨_, rfl⟩
  obtain ⟨vb, hvb⟩ : ∃ v, evK (ev (m + 1) W r (exAt t.ps 1)) 1 = v := ⟨_, rfl⟩
  have HA : Hid (∀ (Y : World) (C' : Option Addr) (c' : Nat), Below X.heap.size X Y → exW m Y C' (exAt t.ps 0).ps → Calls Tryz.prog 91 #[.agg #[.slice A W.length c, .int .i64 r.who, .int .i64 r.act, .int .i64 r.what, .slice B r.fs.length c2], .agg #[.int .i64 (exAt t.ps 0).k, .int .i64 (exAt t.ps 0).n, .string (exAt t.ps 0).s, .slice C' (exAt t.ps 0).ps.length c'], .int .i64 1] Y fun e w' => e = .returned (evVal va) ∧ Below Y.heap.size Y w') := Lib.hid (fun Y C' c' hb h => by have := kinded_any (c := c) (c2 := c2) (ct := c') (kd := 1) hQ (hW.below hb) (hR.below hb) h hO hg0; rw [hva] at this; exact this)
  have HC : Hid (∀ (Y : World) (C' : Option Addr) (c' : Nat), Below X.heap.size X Y → exW m Y C' (exAt t.ps 1).ps → Calls Tryz.prog 91 #[.agg #[.slice A W.length c, .int .i64 r.who, .int .i64 r.act, .int .i64 r.what, .slice B r.fs.length c2], .agg #[.int .i64 (exAt t.ps 1).k, .int .i64 (exAt t.ps 1).n, .string (exAt t.ps 1).s, .slice C' (exAt t.ps 1).ps.length c'], .int .i64 1] Y fun e w' => e = .returned (evVal vb) ∧ Below Y.heap.size Y w') := Lib.hid (fun Y C' c' hb h => by have := kinded_any (c := c) (c2 := c2) (ct := c') (kd := 1) hQ (hW.below hb) (hR.below hb) h hO hg1; rw [hvb] at this; exact this)
  obtain ⟨x, y, fa⟩ := va
  obtain ⟨xb, yb, fb⟩ := vb
  unfold evVal at HA HC
  have HF0 : Hid (fa ≠ 0 → ev (m + 1 + 1) W r t = (x, y, fa)) := Lib.hid (fun h => by
    have hz := evZ_K (ev_zero (m + 1) W r (exAt t.ps 0)) 1
    rw [hva] at hz
    obtain ⟨z1, z2⟩ := hz h
    have z1' : x = 0 := z1
    have z2' : y = 0 := z2
    rw [ev_k14 k, evEither, hva, if_pos h, z1', z2']; rfl)
  have HF1 : Hid (fa = 0 → y = 0 ∨ y = 1) := Lib.hid (fun h => by
    obtain ⟨e, e3⟩ := evk_zero hva h
    have hv := ev_val hO (m + 1) _ hg0 (by rw [e])
    rw [e, e3] at hv
    exact vl_1 hv)
  have HF2 : Hid (fa = 0 → y = 0 → ev (m + 1 + 1) W r t = (x, y, 0)) := Lib.hid (fun h h2 => by
    have e := (evk_zero hva h).1
    rw [ev_k14 k, evEither, hva, if_neg (by simpa using h), e, if_pos h2])
  have HF3 : Hid (fa = 0 → y ≠ 0 → ev (m + 1 + 1) W r t = (xb, yb, fb)) := Lib.hid (fun h h2 => by
    have e := (evk_zero hva h).1
    rw [ev_k14 k, evEither, hva, if_neg (by simpa using h), e, if_neg h2, hvb])
  have HFD := Lib.hid hfd
  have HFE := Lib.hid hfe
  have kb1 : (t.k == 1) = false := by rw [k]; rfl
  have kb2 : (t.k == 2) = false := by rw [k]; rfl
  have kb3 : (t.k == 3) = false := by rw [k]; rfl
  have kb4 : (t.k == 4) = false := by rw [k]; rfl
  have kb5 : (t.k == 5) = false := by rw [k]; rfl
  have kb6 : (t.k == 6) = false := by rw [k]; rfl
  have kb7 : (t.k == 7) = false := by rw [k]; rfl
  have kb8 : (t.k == 8) = false := by rw [k]; rfl
  have kb9 : (t.k == 9) = false := by rw [k]; rfl
  have kb10 : (t.k == 10) = false := by rw [k]; rfl
  have kb11 : (t.k == 11) = false := by rw [k]; rfl
  have kb12 : (t.k == 12) = false := by rw [k]; rfl
  have kb13 : (t.k == 13) = false := by rw [k]; rfl
  have kb14 : (t.k == 14) = true := by rw [k]; rfl
  have kb15 : (t.k == 15) = false := by rw [k]; rfl
  clear hU hW hR hO k har hva hvb hQ hn2 hfd hfe hg0 hg1
  go_enter Tryz.func76, Tryz.ntmps76
  go_wp2_with fail
  rw [← HX.out, ← HG.out]
  refine wp_region_nbox X 87 2 9 10 14 #[.int .i64 x, .int .i64 y] (fun i wz vz => match i with | 9 => BoxV X 87 2 wz vz | 0 => vz = .agg #[.slice A W.length c, .int .i64 r.who, .int .i64 r.act, .int .i64 r.what, .slice B r.fs.length c2] | 1 => vz = .pointer (some ⟨g + 1, 3, Option.none⟩) | 2 => vz = .slice (some ⟨b, off, none⟩) t.ps.length ct | 3 => vz = .pointer (some ⟨b, off, Option.none⟩) | 4 => vz = .agg #[.int .i64 (exAt t.ps 0).k, .int .i64 (exAt t.ps 0).n, .string (exAt t.ps 0).s, .slice A3 (exAt t.ps 0).ps.length c3] | 5 => vz = .tuple #[.agg #[.int .i64 x, .int .i64 y], .int .i64 fa] | 6 => vz = .tuple #[.agg #[.int .i64 x, .int .i64 y], .int .i64 fa] | 7 => vz = .agg #[.int .i64 x, .int .i64 y] | 8 => vz = .int .i64 fa | 11 => vz = .int .i64 fa | _ => True) (by kernel_rfl) (by kernel_rfl) (by kernel_rfl) rfl (by kernel_rfl) (fun _ _ h => h) (fun _ _ h => h) ?stab39 ?all39 (by decide) ?fin39
  case stab39 =>
    intro i wa wb v hne hT
    match i, hne, hT with
    | 0, _, hT => exact hT
    | 1, _, hT => exact hT
    | 2, _, hT => exact hT
    | 3, _, hT => exact hT
    | 4, _, hT => exact hT
    | 5, _, hT => exact hT
    | 6, _, hT => exact hT
    | 7, _, hT => exact hT
    | 8, _, hT => exact hT
    | 11, _, hT => exact hT
    | 9, hne, _ => exact absurd rfl hne
    | 10, _, _ => trivial
    | n + 12, _, _ => trivial
  case all39 =>
    refine RAllL.cons rfl ?_ (RAllL.cons rfl ?_ (RAllL.cons rfl ?_ (RAllL.cons rfl ?_ (RAllL.cons rfl ?_ (RAllL.cons rfl ?_ (RAllL.cons rfl ?_ (RAllL.cons rfl ?_ (RAllL.cons rfl ?_ (RAllL.cons rfl ?_ (RAllL.cons rfl ?_ (RAllL.cons rfl ?_ (RAllL.none_))))))))))))
    · intro a kq_ wa K Q _ hI0 hp hK0
      have hI : Below X.heap.size X wa := hI0
      have hK := fun v w' h1 (h2 : Below wa.heap.size wa w') (h3 : Below X.heap.size X w') => hK0 v w' h1 (RelB.of_below h2) h3 (fun e => absurd e (by decide))
      have e2 := tmp_of (show a.eval (.tmp 2) = .pointer (some ⟨g, 0, none⟩) from hp.keep 2 (by kernel_rfl))
      have p0_ := below_cell hI p0
      have p1_ := below_cell hI p1
      have p2_ := below_cell hI p2
      have p3_ := below_cell hI p3
      have p4_ := below_cell hI p4
      go_simp
      exact hK _ _ rfl (Below.refl _ _) hI
    · intro a kq_ wa K Q _ hI0 hp hK0
      have hI : Below X.heap.size X wa := hI0
      have hK := fun v w' h1 (h2 : Below wa.heap.size wa w') (h3 : Below X.heap.size X w') => hK0 v w' h1 (RelB.of_below h2) h3 (fun e => absurd e (by decide))
      have e3 := tmp_of (show a.eval (.tmp 3) = .pointer (some ⟨g + 1, 0, none⟩) from hp.keep 3 (by kernel_rfl))
      go_simp
      exact hK _ _ rfl (Below.refl _ _) hI
    · intro a kq_ wa K Q _ hI0 hp hK0
      have hI : Below X.heap.size X wa := hI0
      have hK := fun v w' h1 (h2 : Below wa.heap.size wa w') (h3 : Below X.heap.size X w') => hK0 v w' h1 (RelB.of_below h2) h3 (fun e => absurd e (by decide))
      have e142 := tmp_of (show a.eval (.tmp 142) = .pointer (some ⟨g + 1, 3, Option.none⟩) from hp.dep 1 142 (by kernel_rfl))
      have q3_ := below_cell hI q3
      go_simp
      exact hK _ _ rfl (Below.refl _ _) hI
    · intro a kq_ wa K Q _ hI0 hp hK0
      have hI : Below X.heap.size X wa := hI0
      have hK := fun v w' h1 (h2 : Below wa.heap.size wa w') (h3 : Below X.heap.size X w') => hK0 v w' h1 (RelB.of_below h2) h3 (fun e => absurd e (by decide))
      have e143 := tmp_of (show a.eval (.tmp 143) = .slice (some ⟨b, off, none⟩) t.ps.length ct from hp.dep 2 143 (by kernel_rfl))
      go_simp
      exact hK _ _ rfl (Below.refl _ _) hI
    · intro a kq_ wa K Q _ hI0 hp hK0
      have hI : Below X.heap.size X wa := hI0
      have hK := fun v w' h1 (h2 : Below wa.heap.size wa w') (h3 : Below X.heap.size X w') => hK0 v w' h1 (RelB.of_below h2) h3 (fun e => absurd e (by decide))
      have e144 := tmp_of (show a.eval (.tmp 144) = .pointer (some ⟨b, off, Option.none⟩) from hp.dep 3 144 (by kernel_rfl))
      have a0_ := below_cell hI a0
      have a1_ := below_cell hI a1
      have a2_ := below_cell hI a2
      have a3_ := below_cell hI a3
      go_simp
      exact hK _ _ rfl (Below.refl _ _) hI
    · intro a kq_ wa K Q _ hI0 hp hK0
      have hI : Below X.heap.size X wa := hI0
      have hK := fun v w' h1 (h2 : Below wa.heap.size wa w') (h3 : Below X.heap.size X w') => hK0 v w' h1 (RelB.of_below h2) h3 (fun e => absurd e (by decide))
      have e141 := tmp_of (show a.eval (.tmp 141) = .agg #[.slice A W.length c, .int .i64 r.who, .int .i64 r.act, .int .i64 r.what, .slice B r.fs.length c2] from hp.dep 0 141 (by kernel_rfl))
      have e145 := tmp_of (show a.eval (.tmp 145) = .agg #[.int .i64 (exAt t.ps 0).k, .int .i64 (exAt t.ps 0).n, .string (exAt t.ps 0).s, .slice A3 (exAt t.ps 0).ps.length c3] from hp.dep 4 145 (by kernel_rfl))
      go_simp
      refine (HA.out _ _ _ hI (HFD.out.below hI)).mono ?_
      rintro e wb ⟨rfl, hb⟩
      exact hK _ _ (show _ = (.tuple #[.agg #[.int .i64 x, .int .i64 y], .int .i64 fa] : Value) from rfl) hb (ext_trans hI hb)
    · intro a kq_ wa K Q _ hI0 hp hK0
      have hI : Below X.heap.size X wa := hI0
      have hK := fun v w' h1 (h2 : Below wa.heap.size wa w') (h3 : Below X.heap.size X w') => hK0 v w' h1 (RelB.of_below h2) h3 (fun e => absurd e (by decide))
      exact op_move _ (.inl rfl) (hK _ _ (hp.dep 5 146 (by kernel_rfl)) (Below.refl _ _) hI)
    · intro a kq_ wa K Q _ hI0 hp hK0
      have hI : Below X.heap.size X wa := hI0
      have hK := fun v w' h1 (h2 : Below wa.heap.size wa w') (h3 : Below X.heap.size X w') => hK0 v w' h1 (RelB.of_below h2) h3 (fun e => absurd e (by decide))
      have e140 := tmp_of (show a.eval (.tmp 140) = .tuple #[.agg #[.int .i64 x, .int .i64 y], .int .i64 fa] from hp.dep 6 140 (by kernel_rfl))
      go_simp
      exact hK _ _ rfl (Below.refl _ _) hI
    · intro a kq_ wa K Q _ hI0 hp hK0
      have hI : Below X.heap.size X wa := hI0
      have hK := fun v w' h1 (h2 : Below wa.heap.size wa w') (h3 : Below X.heap.size X w') => hK0 v w' h1 (RelB.of_below h2) h3 (fun e => absurd e (by decide))
      have e140 := tmp_of (show a.eval (.tmp 140) = .tuple #[.agg #[.int .i64 x, .int .i64 y], .int .i64 fa] from hp.dep 6 140 (by kernel_rfl))
      go_simp
      exact hK _ _ rfl (Below.refl _ _) hI
    · intro a kq_ wa K Q _ hI0 hp hK0
      have hI : Below X.heap.size X wa := hI0
      have hK := fun v w' h1 (h2 : Below wa.heap.size wa w') (h3 : Below X.heap.size X w') => hK0 v w' h1 (RelB.of_below h2) h3 (fun e => absurd e (by decide))
      go_simp
      exact hK _ _ ⟨_, rfl, hI.size, _, heap_alloc_new _ _, rfl⟩ (below_alloc _ _) (ext_alloc hI _)
    · intro a kq_ wa K Q _ hI0 hp hK0
      have hI : Below X.heap.size X wa := hI0
      obtain ⟨g8, eB, hgB, cs8, hg8, hcs8⟩ := (show BoxV X 87 2 wa (a.eval (.tmp 14)) from hp.base (by kernel_rfl))
      have eB2 := tmp_of eB
      have e147 := tmp_of (show a.eval (.tmp 147) = .agg #[.int .i64 x, .int .i64 y] from hp.dep 7 147 (by kernel_rfl))
      obtain ⟨hr8, hb8, hg9⟩ := nbox_put (N := 10) (.int .i64 x) (.int .i64 y) hgB hg8 hcs8 hI
      obtain ⟨c80, c81, d80, d81, f80, f81⟩ := nbox_cells hg8 hcs8
      go_simp
      exact hK0 (.tuple #[]) _ trivial hr8 hb8 (fun _ => ⟨g8, eB, hgB, hg9⟩)
    · intro a kq_ wa K Q _ hI0 hp hK0
      have hI : Below X.heap.size X wa := hI0
      have hK := fun v w' h1 (h2 : Below wa.heap.size wa w') (h3 : Below X.heap.size X w') => hK0 v w' h1 (RelB.of_below h2) h3 (fun e => absurd e (by decide))
      exact op_move _ (.inr rfl) (hK _ _ (hp.dep 8 148 (by kernel_rfl)) (Below.refl _ _) hI)
  case fin39 =>
    intro f w2 hT hBx hI0
    have hI : Below X.heap.size X w2 := hI0
    have hr : (f 11) = .int .i64 fa := hT 11 (by decide) rfl
    clear hT hI0
    obtain ⟨ga, eA, hgA, hqA⟩ := hBx
    simp only [putAll, eA, hr]
    have HB2 := Lib.hid (ext_trans HB.out hI)
    have HI2 := Lib.hid hI
    have HQ3 := Lib.hid (block_in HQ3.out hI)
    have HQ2b := Lib.hid (block_in HQ2.out hI)
    have HQ1b := Lib.hid (block_in HQ1.out hI)
    obtain ⟨u0, u1⟩ := cells2 hqA
    have HQA := Lib.hid hqA
    have hga : ga ≠ g + 1 + 1 := by have := HGB.out.2; omega
    have hga2 := Ne.symm hga
    clear hr eA hqA a0 a1 a2 a3 p0 p1 p2 p3 p4 q0 q1 q2 q3 z0 z1 f0 f1
    obtain ⟨p0, p1, p2, p3, p4⟩ := cells5 HQ1b.out
    obtain ⟨q0, q1, q2, q3⟩ := cells4 HQ2b.out
    obtain ⟨z0, z1⟩ := cells2 HQ3.out
    obtain ⟨f0, f1⟩ := froz2 HQ3.out
    clear hI
    go_simp
    replace b0 := below_cell HI2.out b0
    replace b1 := below_cell HI2.out b1
    replace b2 := below_cell HI2.out b2
    replace b3 := below_cell HI2.out b3
    have HFE := Lib.hid (HFE.out.below HI2.out)
    by_cases e1 : fa = 0
    · have gb : (fa != 0) = false := by simpa using e1
      by_cases e2 : y = 0
      · have gy : (y == 1) = false := by rw [e2]; rfl
        have HE := Lib.hid (HF2.out e1 e2)
        subst e1
        clear e2
        go_wp2
        obtain ⟨r0, r1⟩ := cells2 (box_put (.int .i64 (x)) (.int .i64 (y)) HQ3.out rfl)
        exact bodyPost_ret (v := .tuple #[.agg #[.int .i64 (x), .int .i64 (y)], .int .i64 (0)]) (by simp [results, go_sem, r0, r1]) rfl ⟨by rw [HE.out]; rfl, box_put_below _ _ HGB.out.1 HB2.out⟩
      · have gy : (y == 1) = true := by rcases HF1.out e1 with h | h <;> first | exact absurd h e2 | (rw [h]; rfl)
        have HE := Lib.hid (HF3.out e1 e2)
        clear e1 e2
        go_wp2
        refine wp_region_draws2H (some 8) (fun wz => Below w2.heap.size w2 wz) (fun wz => RsB (g + 1 + 1) w.heap.size xb yb w wz) (fun i wz vz => match i with | 0 => vz = .agg #[.slice A W.length c, .int .i64 r.who, .int .i64 r.act, .int .i64 r.what, .slice B r.fs.length c2] | 1 => vz = .pointer (some ⟨g + 1, 3, Option.none⟩) | 2 => vz = .slice (some ⟨b, off, none⟩) t.ps.length ct | 3 => vz = .pointer (some ⟨b, off + 4, Option.none⟩) | 4 => vz = .agg #[.int .i64 (exAt t.ps 1).k, .int .i64 (exAt t.ps 1).n, .string (exAt t.ps 1).s, .slice A4 (exAt t.ps 1).ps.length c4] | 5 => vz = .tuple #[.agg #[.int .i64 xb, .int .i64 yb], .int .i64 fb] | 6 => vz = .agg #[.int .i64 xb, .int .i64 yb] | 7 => vz = .int .i64 fb | 9 => vz = .int .i64 fb | _ => True) (fun _ _ => True) (fun i w w' => i = 8 ∨ Below w.heap.size w w') (fun j => match j with  | _ => Option.none) (by kernel_rfl) (by kernel_rfl) (by kernel_rfl) ?stab42 ?stabG42 ?stabH42 trivial (ext_drew (Below.refl _ _)) ?all42 ?fin42
        case stab42 =>
          intro i j wa wb v hR hk hne hd _ h2 hT
          match j, hk, hne, hd, h2, hT with
          | 0, hk, hne, hd, h2, hT => exact (hT)
          | 1, hk, hne, hd, h2, hT => exact (hT)
          | 2, hk, hne, hd, h2, hT => exact (hT)
          | 3, hk, hne, hd, h2, hT => exact (hT)
          | 4, hk, hne, hd, h2, hT => exact (hT)
          | 5, hk, hne, hd, h2, hT => exact (hT)
          | 6, hk, hne, hd, h2, hT => exact (hT)
          | 7, hk, hne, hd, h2, hT => exact (hT)
          | 9, hk, hne, hd, h2, hT => exact (hT)
          | 8, _, _, _, _, _ => trivial
          | n + 10, _, _, _, _, _ => trivial
        case stabG42 => exact fun i wa wb hR hne hG => ext_trans hG (hR.resolve_left (fun e => hne (by rw [e])))
        case stabH42 => exact fun i wa wb hR hne _ h => (by have hb := hR.resolve_left (fun e => hne (by rw [e])); exact RsB.below h hb)
        case all42 =>
          refine RAllH.cons rfl ?_ (RAllH.cons rfl ?_ (RAllH.cons rfl ?_ (RAllH.cons rfl ?_ (RAllH.cons rfl ?_ (RAllH.cons rfl ?_ (RAllH.cons rfl ?_ (RAllH.cons rfl ?_ (RAllH.cons rfl ?_ (RAllH.cons rfl ?_ (RAllH.none_))))))))))
          · intro a kq_ wa K Q _ _ hp hK0
            have hI : Below w2.heap.size w2 wa := hp.pre (fun c hc => by cases hc; kernel_rfl)
            have hK := fun v w' h1 h2 (_ : Below w2.heap.size w2 w') => hK0 v w' h1 (.inr h2) trivial (fun e => by cases e)
            have e2 := tmp_of (show a.eval (.tmp 2) = .pointer (some ⟨g, 0, none⟩) from hp.keep 2 (by kernel_rfl))
            have p0_ := below_cell hI p0
            have p1_ := below_cell hI p1
            have p2_ := below_cell hI p2
            have p3_ := below_cell hI p3
            have p4_ := below_cell hI p4
            go_simp
            exact hK _ _ rfl (Below.refl _ _) hI
          · intro a kq_ wa K Q _ _ hp hK0
            have hI : Below w2.heap.size w2 wa := hp.pre (fun c hc => by cases hc; kernel_rfl)
            have hK := fun v w' h1 h2 (_ : Below w2.heap.size w2 w') => hK0 v w' h1 (.inr h2) trivial (fun e => by cases e)
            have e3 := tmp_of (show a.eval (.tmp 3) = .pointer (some ⟨g + 1, 0, none⟩) from hp.keep 3 (by kernel_rfl))
            go_simp
            exact hK _ _ rfl (Below.refl _ _) hI
          · intro a kq_ wa K Q _ _ hp hK0
            have hI : Below w2.heap.size w2 wa := hp.pre (fun c hc => by cases hc; kernel_rfl)
            have hK := fun v w' h1 h2 (_ : Below w2.heap.size w2 w') => hK0 v w' h1 (.inr h2) trivial (fun e => by cases e)
            have e163 := tmp_of (show a.eval (.tmp 163) = .pointer (some ⟨g + 1, 3, Option.none⟩) from hp.dep 1 163 (by kernel_rfl))
            have q3_ := below_cell hI q3
            go_simp
            exact hK _ _ rfl (Below.refl _ _) hI
          · intro a kq_ wa K Q _ _ hp hK0
            have hI : Below w2.heap.size w2 wa := hp.pre (fun c hc => by cases hc; kernel_rfl)
            have hK := fun v w' h1 h2 (_ : Below w2.heap.size w2 w') => hK0 v w' h1 (.inr h2) trivial (fun e => by cases e)
            have e164 := tmp_of (show a.eval (.tmp 164) = .slice (some ⟨b, off, none⟩) t.ps.length ct from hp.dep 2 164 (by kernel_rfl))
            go_simp
            exact hK _ _ rfl (Below.refl _ _) hI
          · intro a kq_ wa K Q _ _ hp hK0
            have hI : Below w2.heap.size w2 wa := hp.pre (fun c hc => by cases hc; kernel_rfl)
            have hK := fun v w' h1 h2 (_ : Below w2.heap.size w2 w') => hK0 v w' h1 (.inr h2) trivial (fun e => by cases e)
            have e165 := tmp_of (show a.eval (.tmp 165) = .pointer (some ⟨b, off + 4, Option.none⟩) from hp.dep 3 165 (by kernel_rfl))
            have b0_ := below_cell hI b0
            have b1_ := below_cell hI b1
            have b2_ := below_cell hI b2
            have b3_ := below_cell hI b3
            go_simp
            exact hK _ _ rfl (Below.refl _ _) hI
          · intro a kq_ wa K Q _ _ hp hK0
            have hI : Below w2.heap.size w2 wa := hp.pre (fun c hc => by cases hc; kernel_rfl)
            have hK := fun v w' h1 h2 (_ : Below w2.heap.size w2 w') => hK0 v w' h1 (.inr h2) trivial (fun e => by cases e)
            have e162 := tmp_of (show a.eval (.tmp 162) = .agg #[.slice A W.length c, .int .i64 r.who, .int .i64 r.act, .int .i64 r.what, .slice B r.fs.length c2] from hp.dep 0 162 (by kernel_rfl))
            have e166 := tmp_of (show a.eval (.tmp 166) = .agg #[.int .i64 (exAt t.ps 1).k, .int .i64 (exAt t.ps 1).n, .string (exAt t.ps 1).s, .slice A4 (exAt t.ps 1).ps.length c4] from hp.dep 4 166 (by kernel_rfl))
            go_simp
            refine (HC.out _ _ _ (ext_trans HI2.out hI) (HFE.out.below hI)).mono ?_
            rintro e wb ⟨rfl, hb⟩
            exact hK _ _ (show _ = (.tuple #[.agg #[.int .i64 xb, .int .i64 yb], .int .i64 fb] : Value) from rfl) hb (ext_trans hI hb)
          · intro a kq_ wa K Q _ _ hp hK0
            have hI : Below w2.heap.size w2 wa := hp.pre (fun c hc => by cases hc; kernel_rfl)
            have hK := fun v w' h1 h2 (_ : Below w2.heap.size w2 w') => hK0 v w' h1 (.inr h2) trivial (fun e => by cases e)
            have e167 := tmp_of (show a.eval (.tmp 167) = .tuple #[.agg #[.int .i64 xb, .int .i64 yb], .int .i64 fb] from hp.dep 5 167 (by kernel_rfl))
            go_simp
            exact hK _ _ rfl (Below.refl _ _) hI
          · intro a kq_ wa K Q _ _ hp hK0
            have hI : Below w2.heap.size w2 wa := hp.pre (fun c hc => by cases hc; kernel_rfl)
            have hK := fun v w' h1 h2 (_ : Below w2.heap.size w2 w') => hK0 v w' h1 (.inr h2) trivial (fun e => by cases e)
            have e167 := tmp_of (show a.eval (.tmp 167) = .tuple #[.agg #[.int .i64 xb, .int .i64 yb], .int .i64 fb] from hp.dep 5 167 (by kernel_rfl))
            go_simp
            exact hK _ _ rfl (Below.refl _ _) hI
          · intro a kq_ wa K Q _ _ hp hK0
            have hI : Below w2.heap.size w2 wa := hp.pre (fun c hc => by cases hc; kernel_rfl)
            have hS := fun v w' h => hK0 v w' trivial (.inl rfl) trivial (fun _ => h)
            have e4 := tmp_of (show a.eval (.tmp 4) = .pointer (some ⟨g + 1 + 1, 0, none⟩) from hp.keep 4 (by kernel_rfl))
            have e168 := tmp_of (show a.eval (.tmp 168) = .agg #[.int .i64 xb, .int .i64 yb] from hp.dep 6 168 (by kernel_rfl))
            have e168 := tmp_of (show a.eval (.tmp 168) = .agg #[.int .i64 xb, .int .i64 yb] from hp.dep 6 168 (by kernel_rfl))
            have e4 := tmp_of (show a.eval (.tmp 4) = .pointer (some ⟨g + 1 + 1, 0, none⟩) from hp.keep 4 (by kernel_rfl))
            have hbx := block_in HQ3.out hI
            obtain ⟨cz0, cz1⟩ := cells2 hbx
            obtain ⟨cf0, cf1⟩ := froz2 hbx
            go_simp
            exact hS (.tuple #[]) _ (RsB.put hbx rfl HGB.out.1 (ext_trans HB2.out hI))
          · intro a kq_ wa K Q _ _ hp hK0
            have hK := fun v w' h1 (h2 : Below wa.heap.size wa w') => hK0 v w' h1 (.inr h2) trivial (fun e => by cases e)
            exact op_move _ (.inr rfl) (hK _ _ (hp.dep 7 169 (by kernel_rfl)) (Below.refl _ _))
        case fin42 =>
          intro f w3 hT _ hH
          have hH := hH 8 rfl (by decide)
          have hr : (f 9) = .int .i64 fb := hT 9 (by decide) rfl rfl
          clear hT
          simp only [putAll, hr]
          obtain ⟨r0, r1⟩ := cells2 hH.1
          have HBF := Lib.hid hH.2.1
          clear hr hH
          go_simp
          go_wp2
          exact bodyPost_ret (v := .tuple #[.agg #[.int .i64 xb, .int .i64 yb], .int .i64 fb]) (by simp [results, go_sem, r0, r1]) rfl ⟨by rw [HE.out]; rfl, HBF.out⟩
    · have gb : (fa != 0) = true := by simpa using e1
      have HE := Lib.hid (HF0.out e1)
      clear e1
      go_wp2
      obtain ⟨r0, r1⟩ := cells2 (box_put (.int .i64 (x)) (.int .i64 (y)) HQ3.out rfl)
      exact bodyPost_ret (v := .tuple #[.agg #[.int .i64 (x), .int .i64 (y)], .int .i64 (fa)]) (by simp [results, go_sem, r0, r1]) rfl ⟨by rw [HE.out]; rfl, box_put_below _ _ HGB.out.1 HB2.out⟩
set_option maxRecDepth 100000 in
set_option maxHeartbeats 8000000 in
theorem va_15 {m : Nat} (hQ : EvQ m) {W : WL} {r : Rq} {A B C : Option Addr} {c c2 ct : Nat} {t : Ex} {w : World} (hW : wlR w A W) (hR : fdR w B r.fs) (hU : exW (m + 1) w C t.ps) (hO : OkW W r) (hg : gdR (m + 1 + 1) t = true) (k : t.k = 15) :
    Calls Tryz.prog 76 #[.agg #[.slice A W.length c, .int .i64 r.who, .int .i64 r.act, .int .i64 r.what, .slice B r.fs.length c2], .agg #[.int .i64 t.k, .int .i64 t.n, .string t.s, .slice C t.ps.length ct]] w fun e w' => e = .returned (evVal (ev (m + 1 + 1) W r t)) ∧ Below w.heap.size w w' := by
  obtain ⟨X, hX⟩ : ∃ X, X = ((w.alloc (.cells #[.slice A W.length c, .int .i64 r.who, .int .i64 r.act, .int .i64 r.what, .slice B r.fs.length c2] 110)).alloc (.cells #[.int .i64 t.k, .int .i64 t.n, .string t.s, .slice C t.ps.length ct] 36)).alloc (.cells #[.int .i64 0, .int .i64 0] 87) := ⟨_, rfl⟩
  obtain ⟨g, hgg⟩ : ∃ g, g = w.heap.size := ⟨_, rfl⟩
  have hB : Below w.heap.size w X := by rw [hX]; (repeat (first | exact Below.refl _ _ | refine ext_alloc ?_ _ | refine Below.setCell ?_ (by simp) _))
  have hq1 : X.heap[g]? = some (.cells #[.slice A W.length c, .int .i64 r.who, .int .i64 r.act, .int .i64 r.what, .slice B r.fs.length c2] 110 (0, 0)) := by rw [hX, hgg]; exact block_in (block_in (heap_alloc_new _ _) (below_alloc _ _)) (below_alloc _ _)
  have hq2 : X.heap[g + 1]? = some (.cells #[.int .i64 t.k, .int .i64 t.n, .string t.s, .slice C t.ps.length ct] 36 (0, 0)) := by rw [hX, hgg]; exact block_in (heap_alloc_at (by simp)) (below_alloc _ _)
  have hq3 : X.heap[g + 1 + 1]? = some (.cells #[.int .i64 0, .int .i64 0] 87 (0, 0)) := by rw [hX, hgg]; exact heap_alloc_at (by simp)
  replace hW := hW.below hB
  replace hR := hR.below hB
  replace hU := hU.below hB
  have hlW := hW.len
  have hlR := hR.len
  have hGB : w.heap.size ≤ g + 1 + 1 ∧ g + 1 + 1 < X.heap.size := ⟨by omega, by rw [hX, hgg]; simp⟩
  have har := gd_len hg
  have HX := Lib.hid hX
  have HG := Lib.hid hgg
  have HQ1 := Lib.hid hq1
  have HQ2 := Lib.hid hq2
  have HQ3 := Lib.hid hq3
  have HGB := Lib.hid hGB
  have HB := Lib.hid hB
  have HGD := Lib.hid hg
  obtain ⟨p0, p1, p2, p3, p4⟩ := cells5 hq1
  obtain ⟨q0, q1, q2, q3⟩ := cells4 hq2
  obtain ⟨z0, z1⟩ := cells2 hq3
  obtain ⟨f0, f1⟩ := froz2 hq3
  clear hX hgg hq1 hq2 hq3 hB hGB hg
  rw [k] at har
  have hn2 : t.ps.length = 2 := har
  obtain ⟨b, off, A3, c3, A4, c4, rfl, hfd, hfe, ⟨a0, a1, a2, a3⟩, ⟨b0, b1, b2, b3⟩⟩ := ex_two hU hn2
  have hg0 := gd_part HGD.out (k := 0) (by omega)
  have hg1 := gd_part HGD.out (k := 1) (by omega)
  have hi1 : (1 : Int) < t.ps.length := by omega
  have hlt1 : 1 < t.ps.length := by omega
  have hlt0 : 0 < t.ps.length := by omega
  have hlm : t.ps.length ≤ 9223372036854775807 := by omega
  obtain ⟨va, hva⟩ : ∃ v, evK (ev (m + 1) W r (exAt t.ps 0)) 1 = v := ⟨_, rfl⟩
  obtain ⟨vb, hvb⟩ : ∃ v, evK (ev (m + 1) W r (exAt t.ps 1)) 1 = v := ⟨_, rfl⟩
  have HA : Hid (∀ (Y : World) (C' : Option Addr) (c' : Nat), Below X.heap.size X Y → exW m Y C' (exAt t.ps 0).ps → Calls Tryz.prog 91 #[.agg #[.slice A W.length c, .int .i64 r.who, .int .i64 r.act, .int .i64 r.what, .slice B r.fs.length c2], .agg #[.int .i64 (exAt t.ps 0).k, .int .i64 (exAt t.ps 0).n, .string (exAt t.ps 0).s, .slice C' (exAt t.ps 0).ps.length c'], .int .i64 1] Y fun e w' => e = .returned (evVal va) ∧ Below Y.heap.size Y w') := Lib.hid (fun Y C' c' hb h => by have := kinded_any (c := c) (c2 := c2) (ct := c') (kd := 1) hQ (hW.below hb) (hR.below hb) h hO hg0; rw [hva] at this; exact this)
  have HC : Hid (∀ (Y : World) (C' : Option Addr) (c' : Nat), Below X.heap.size X Y → exW m Y C' (exAt t.ps 1).ps → Calls Tryz.prog 91 #[.agg #[.slice A W.length c, .int .i64 r.who, .int .i64 r.act, .int .i64 r.what, .slice B r.fs.length c2], .agg #[.int .i64 (exAt t.ps 1).k, .int .i64 (exAt t.ps 1).n, .string (exAt t.ps 1).s, .slice C' (exAt t.ps 1).ps.length c'], .int .i64 1] Y fun e w' => e = .returned (evVal vb) ∧ Below Y.heap.size Y w') := Lib.hid (fun Y C' c' hb h => by have := kinded_any (c := c) (c2 := c2) (ct := c') (kd := 1) hQ (hW.below hb) (hR.below hb) h hO hg1; rw [hvb] at this; exact this)
  obtain ⟨x, y, fa⟩ := va
  obtain ⟨xb, yb, fb⟩ := vb
  unfold evVal at HA HC
  have HF0 : Hid (fa ≠ 0 → ev (m + 1 + 1) W r t = (x, y, fa)) := Lib.hid (fun h => by
    have hz := evZ_K (ev_zero (m + 1) W r (exAt t.ps 0)) 1
    rw [hva] at hz
    obtain ⟨z1, z2⟩ := hz h
    have z1' : x = 0 := z1
    have z2' : y = 0 := z2
    rw [ev_k15 k, evEither, hva, if_pos h, z1', z2']; rfl)
  have HF1 : Hid (fa = 0 → y = 0 ∨ y = 1) := Lib.hid (fun h => by
    obtain ⟨e, e3⟩ := evk_zero hva h
    have hv := ev_val hO (m + 1) _ hg0 (by rw [e])
    rw [e, e3] at hv
    exact vl_1 hv)
  have HF2 : Hid (fa = 0 → y = 1 → ev (m + 1 + 1) W r t = (x, y, 0)) := Lib.hid (fun h h2 => by
    have e := (evk_zero hva h).1
    rw [ev_k15 k, evEither, hva, if_neg (by simpa using h), e, if_pos h2])
  have HF3 : Hid (fa = 0 → y ≠ 1 → ev (m + 1 + 1) W r t = (xb, yb, fb)) := Lib.hid (fun h h2 => by
    have e := (evk_zero hva h).1
    rw [ev_k15 k, evEither, hva, if_neg (by simpa using h), e, if_neg h2, hvb])
  have HFD := Lib.hid hfd
  have HFE := Lib.hid hfe
  have kb1 : (t.k == 1) = false := by rw [k]; rfl
  have kb2 : (t.k == 2) = false := by rw [k]; rfl
  have kb3 : (t.k == 3) = false := by rw [k]; rfl
  have kb4 : (t.k == 4) = false := by rw [k]; rfl
  have kb5 : (t.k == 5) = false := by rw [k]; rfl
  have kb6 : (t.k == 6) = false := by rw [k]; rfl
  have kb7 : (t.k == 7) = false := by rw [k]; rfl
  have kb8 : (t.k == 8) = false := by rw [k]; rfl
  have kb9 : (t.k == 9) = false := by rw [k]; rfl
  have kb10 : (t.k == 10) = false := by rw [k]; rfl
  have kb11 : (t.k == 11) = false := by rw [k]; rfl
  have kb12 : (t.k == 12) = false := by rw [k]; rfl
  have kb13 : (t.k == 13) = false := by rw [k]; rfl
  have kb14 : (t.k == 14) = false := by rw [k]; rfl
  have kb15 : (t.k == 15) = true := by rw [k]; rfl
  clear hU hW hR hO k har hva hvb hQ hn2 hfd hfe hg0 hg1
  go_enter Tryz.func76, Tryz.ntmps76
  go_wp2_with fail
  rw [← HX.out, ← HG.out]
  refine wp_region_nbox X 87 2 9 10 14 #[.int .i64 x, .int .i64 y] (fun i wz vz => match i with | 9 => BoxV X 87 2 wz vz | 0 => vz = .agg #[.slice A W.length c, .int .i64 r.who, .int .i64 r.act, .int .i64 r.what, .slice B r.fs.length c2] | 1 => vz = .pointer (some ⟨g + 1, 3, Option.none⟩) | 2 => vz = .slice (some ⟨b, off, none⟩) t.ps.length ct | 3 => vz = .pointer (some ⟨b, off, Option.none⟩) | 4 => vz = .agg #[.int .i64 (exAt t.ps 0).k, .int .i64 (exAt t.ps 0).n, .string (exAt t.ps 0).s, .slice A3 (exAt t.ps 0).ps.length c3] | 5 => vz = .tuple #[.agg #[.int .i64 x, .int .i64 y], .int .i64 fa] | 6 => vz = .tuple #[.agg #[.int .i64 x, .int .i64 y], .int .i64 fa] | 7 => vz = .agg #[.int .i64 x, .int .i64 y] | 8 => vz = .int .i64 fa | 11 => vz = .int .i64 fa | _ => True) (by kernel_rfl) (by kernel_rfl) (by kernel_rfl) rfl (by kernel_rfl) (fun _ _ h => h) (fun _ _ h => h) ?stab39 ?all39 (by decide) ?fin39
  case stab39 =>
    intro i wa wb v hne hT
    match i, hne, hT with
    | 0, _, hT => exact hT
    | 1, _, hT => exact hT
    | 2, _, hT => exact hT
    | 3, _, hT => exact hT
    | 4, _, hT => exact hT
    | 5, _, hT => exact hT
    | 6, _, hT => exact hT
    | 7, _, hT => exact hT
    | 8, _, hT => exact hT
    | 11, _, hT => exact hT
    | 9, hne, _ => exact absurd rfl hne
    | 10, _, _ => trivial
    | n + 12, _, _ => trivial
  case all39 =>
    refine RAllL.cons rfl ?_ (RAllL.cons rfl ?_ (RAllL.cons rfl ?_ (RAllL.cons rfl ?_ (RAllL.cons rfl ?_ (RAllL.cons rfl ?_ (RAllL.cons rfl ?_ (RAllL.cons rfl ?_ (RAllL.cons rfl ?_ (RAllL.cons rfl ?_ (RAllL.cons rfl ?_ (RAllL.cons rfl ?_ (RAllL.none_))))))))))))
    · intro a kq_ wa K Q _ hI0 hp hK0
      have hI : Below X.heap.size X wa := hI0
      have hK := fun v w' h1 (h2 : Below wa.heap.size wa w') (h3 : Below X.heap.size X w') => hK0 v w' h1 (RelB.of_below h2) h3 (fun e => absurd e (by decide))
      have e2 := tmp_of (show a.eval (.tmp 2) = .pointer (some ⟨g, 0, none⟩) from hp.keep 2 (by kernel_rfl))
      have p0_ := below_cell hI p0
      have p1_ := below_cell hI p1
      have p2_ := below_cell hI p2
      have p3_ := below_cell hI p3
      have p4_ := below_cell hI p4
      go_simp
      exact hK _ _ rfl (Below.refl _ _) hI
    · intro a kq_ wa K Q _ hI0 hp hK0
      have hI : Below X.heap.size X wa := hI0
      have hK := fun v w' h1 (h2 : Below wa.heap.size wa w') (h3 : Below X.heap.size X w') => hK0 v w' h1 (RelB.of_below h2) h3 (fun e => absurd e (by decide))
      have e3 := tmp_of (show a.eval (.tmp 3) = .pointer (some ⟨g + 1, 0, none⟩) from hp.keep 3 (by kernel_rfl))
      go_simp
      exact hK _ _ rfl (Below.refl _ _) hI
    · intro a kq_ wa K Q _ hI0 hp hK0
      have hI : Below X.heap.size X wa := hI0
      have hK := fun v w' h1 (h2 : Below wa.heap.size wa w') (h3 : Below X.heap.size X w') => hK0 v w' h1 (RelB.of_below h2) h3 (fun e => absurd e (by decide))
      have e142 := tmp_of (show a.eval (.tmp 142) = .pointer (some ⟨g + 1, 3, Option.none⟩) from hp.dep 1 142 (by kernel_rfl))
      have q3_ := below_cell hI q3
      go_simp
      exact hK _ _ rfl (Below.refl _ _) hI
    · intro a kq_ wa K Q _ hI0 hp hK0
      have hI : Below X.heap.size X wa := hI0
      have hK := fun v w' h1 (h2 : Below wa.heap.size wa w') (h3 : Below X.heap.size X w') => hK0 v w' h1 (RelB.of_below h2) h3 (fun e => absurd e (by decide))
      have e143 := tmp_of (show a.eval (.tmp 143) = .slice (some ⟨b, off, none⟩) t.ps.length ct from hp.dep 2 143 (by kernel_rfl))
      go_simp
      exact hK _ _ rfl (Below.refl _ _) hI
    · intro a kq_ wa K Q _ hI0 hp hK0
      have hI : Below X.heap.size X wa := hI0
      have hK := fun v w' h1 (h2 : Below wa.heap.size wa w') (h3 : Below X.heap.size X w') => hK0 v w' h1 (RelB.of_below h2) h3 (fun e => absurd e (by decide))
      have e144 := tmp_of (show a.eval (.tmp 144) = .pointer (some ⟨b, off, Option.none⟩) from hp.dep 3 144 (by kernel_rfl))
      have a0_ := below_cell hI a0
      have a1_ := below_cell hI a1
      have a2_ := below_cell hI a2
      have a3_ := below_cell hI a3
      go_simp
      exact hK _ _ rfl (Below.refl _ _) hI
    · intro a kq_ wa K Q _ hI0 hp hK0
      have hI : Below X.heap.size X wa := hI0
      have hK := fun v w' h1 (h2 : Below wa.heap.size wa w') (h3 : Below X.heap.size X w') => hK0 v w' h1 (RelB.of_below h2) h3 (fun e => absurd e (by decide))
      have e141 := tmp_of (show a.eval (.tmp 141) = .agg #[.slice A W.length c, .int .i64 r.who, .int .i64 r.act, .int .i64 r.what, .slice B r.fs.length c2] from hp.dep 0 141 (by kernel_rfl))
      have e145 := tmp_of (show a.eval (.tmp 145) = .agg #[.int .i64 (exAt t.ps 0).k, .int .i64 (exAt t.ps 0).n, .string (exAt t.ps 0).s, .slice A3 (exAt t.ps 0).ps.length c3] from hp.dep 4 145 (by kernel_rfl))
      go_simp
      refine (HA.out _ _ _ hI (HFD.out.below hI)).mono ?_
      rintro e wb ⟨rfl, hb⟩
      exact hK _ _ (show _ = (.tuple #[.agg #[.int .i64 x, .int .i64 y], .int .i64 fa] : Value) from rfl) hb (ext_trans hI hb)
    · intro a kq_ wa K Q _ hI0 hp hK0
      have hI : Below X.heap.size X wa := hI0
      have hK := fun v w' h1 (h2 : Below wa.heap.size wa w') (h3 : Below X.heap.size X w') => hK0 v w' h1 (RelB.of_below h2) h3 (fun e => absurd e (by decide))
      exact op_move _ (.inl rfl) (hK _ _ (hp.dep 5 146 (by kernel_rfl)) (Below.refl _ _) hI)
    · intro a kq_ wa K Q _ hI0 hp hK0
      have hI : Below X.heap.size X wa := hI0
      have hK := fun v w' h1 (h2 : Below wa.heap.size wa w') (h3 : Below X.heap.size X w') => hK0 v w' h1 (RelB.of_below h2) h3 (fun e => absurd e (by decide))
      have e140 := tmp_of (show a.eval (.tmp 140) = .tuple #[.agg #[.int .i64 x, .int .i64 y], .int .i64 fa] from hp.dep 6 140 (by kernel_rfl))
      go_simp
      exact hK _ _ rfl (Below.refl _ _) hI
    · intro a kq_ wa K Q _ hI0 hp hK0
      have hI : Below X.heap.size X wa := hI0
      have hK := fun v w' h1 (h2 : Below wa.heap.size wa w') (h3 : Below X.heap.size X w') => hK0 v w' h1 (RelB.of_below h2) h3 (fun e => absurd e (by decide))
      have e140 := tmp_of (show a.eval (.tmp 140) = .tuple #[.agg #[.int .i64 x, .int .i64 y], .int .i64 fa] from hp.dep 6 140 (by kernel_rfl))
      go_simp
      exact hK _ _ rfl (Below.refl _ _) hI
    · intro a kq_ wa K Q _ hI0 hp hK0
      have hI : Below X.heap.size X wa := hI0
      have hK := fun v w' h1 (h2 : Below wa.heap.size wa w') (h3 : Below X.heap.size X w') => hK0 v w' h1 (RelB.of_below h2) h3 (fun e => absurd e (by decide))
      go_simp
      exact hK _ _ ⟨_, rfl, hI.size, _, heap_alloc_new _ _, rfl⟩ (below_alloc _ _) (ext_alloc hI _)
    · intro a kq_ wa K Q _ hI0 hp hK0
      have hI : Below X.heap.size X wa := hI0
      obtain ⟨g8, eB, hgB, cs8, hg8, hcs8⟩ := (show BoxV X 87 2 wa (a.eval (.tmp 14)) from hp.base (by kernel_rfl))
      have eB2 := tmp_of eB
      have e147 := tmp_of (show a.eval (.tmp 147) = .agg #[.int .i64 x, .int .i64 y] from hp.dep 7 147 (by kernel_rfl))
      obtain ⟨hr8, hb8, hg9⟩ := nbox_put (N := 10) (.int .i64 x) (.int .i64 y) hgB hg8 hcs8 hI
      obtain ⟨c80, c81, d80, d81, f80, f81⟩ := nbox_cells hg8 hcs8
      go_simp
      exact hK0 (.tuple #[]) _ trivial hr8 hb8 (fun _ => ⟨g8, eB, hgB, hg9⟩)
    · intro a kq_ wa K Q _ hI0 hp hK0
      have hI : Below X.heap.size X wa := hI0
      have hK := fun v w' h1 (h2 : Below wa.heap.size wa w') (h3 : Below X.heap.size X w') => hK0 v w' h1 (RelB.of_below h2) h3 (fun e => absurd e (by decide))
      exact op_move _ (.inr rfl) (hK _ _ (hp.dep 8 148 (by kernel_rfl)) (Below.refl _ _) hI)
  case fin39 =>
    intro f w2 hT hBx hI0
    have hI : Below X.heap.size X w2 := hI0
    have hr : (f 11) = .int .i64 fa := hT 11 (by decide) rfl
    clear hT hI0
    obtain ⟨ga, eA, hgA, hqA⟩ := hBx
    simp only [putAll, eA, hr]
    have HB2 := Lib.hid (ext_trans HB.out hI)
    have HI2 := Lib.hid hI
    have HQ3 := Lib.hid (block_in HQ3.out hI)
    have HQ2b := Lib.hid (block_in HQ2.out hI)
    have HQ1b := Lib.hid (block_in HQ1.out hI)
    obtain ⟨u0, u1⟩ := cells2 hqA
    have HQA := Lib.hid hqA
    have hga : ga ≠ g + 1 + 1 := by have := HGB.out.2; omega
    have hga2 := Ne.symm hga
    clear hr eA hqA a0 a1 a2 a3 p0 p1 p2 p3 p4 q0 q1 q2 q3 z0 z1 f0 f1
    obtain ⟨p0, p1, p2, p3, p4⟩ := cells5 HQ1b.out
    obtain ⟨q0, q1, q2, q3⟩ := cells4 HQ2b.out
    obtain ⟨z0, z1⟩ := cells2 HQ3.out
    obtain ⟨f0, f1⟩ := froz2 HQ3.out
    clear hI
    go_simp
    replace b0 := below_cell HI2.out b0
    replace b1 := below_cell HI2.out b1
    replace b2 := below_cell HI2.out b2
    replace b3 := below_cell HI2.out b3
    have HFE := Lib.hid (HFE.out.below HI2.out)
    by_cases e1 : fa = 0
    · have gb : (fa != 0) = false := by simpa using e1
      by_cases e2 : y = 1
      · have gy : (y == 1) = true := by rw [e2]; rfl
        have HE := Lib.hid (HF2.out e1 e2)
        subst e1
        clear e2
        go_wp2
        obtain ⟨r0, r1⟩ := cells2 (box_put (.int .i64 (x)) (.int .i64 (y)) HQ3.out rfl)
        exact bodyPost_ret (v := .tuple #[.agg #[.int .i64 (x), .int .i64 (y)], .int .i64 (0)]) (by simp [results, go_sem, r0, r1]) rfl ⟨by rw [HE.out]; rfl, box_put_below _ _ HGB.out.1 HB2.out⟩
      · have gy : (y == 1) = false := by rcases HF1.out e1 with h | h <;> first | exact absurd h e2 | (rw [h]; rfl)
        have HE := Lib.hid (HF3.out e1 e2)
        clear e1 e2
        go_wp2
        refine wp_region_draws2H (some 8) (fun wz => Below w2.heap.size w2 wz) (fun wz => RsB (g + 1 + 1) w.heap.size xb yb w wz) (fun i wz vz => match i with | 0 => vz = .agg #[.slice A W.length c, .int .i64 r.who, .int .i64 r.act, .int .i64 r.what, .slice B r.fs.length c2] | 1 => vz = .pointer (some ⟨g + 1, 3, Option.none⟩) | 2 => vz = .slice (some ⟨b, off, none⟩) t.ps.length ct | 3 => vz = .pointer (some ⟨b, off + 4, Option.none⟩) | 4 => vz = .agg #[.int .i64 (exAt t.ps 1).k, .int .i64 (exAt t.ps 1).n, .string (exAt t.ps 1).s, .slice A4 (exAt t.ps 1).ps.length c4] | 5 => vz = .tuple #[.agg #[.int .i64 xb, .int .i64 yb], .int .i64 fb] | 6 => vz = .agg #[.int .i64 xb, .int .i64 yb] | 7 => vz = .int .i64 fb | 9 => vz = .int .i64 fb | _ => True) (fun _ _ => True) (fun i w w' => i = 8 ∨ Below w.heap.size w w') (fun j => match j with  | _ => Option.none) (by kernel_rfl) (by kernel_rfl) (by kernel_rfl) ?stab42 ?stabG42 ?stabH42 trivial (ext_drew (Below.refl _ _)) ?all42 ?fin42
        case stab42 =>
          intro i j wa wb v hR hk hne hd _ h2 hT
          match j, hk, hne, hd, h2, hT with
          | 0, hk, hne, hd, h2, hT => exact (hT)
          | 1, hk, hne, hd, h2, hT => exact (hT)
          | 2, hk, hne, hd, h2, hT => exact (hT)
          | 3, hk, hne, hd, h2, hT => exact (hT)
          | 4, hk, hne, hd, h2, hT => exact (hT)
          | 5, hk, hne, hd, h2, hT => exact (hT)
          | 6, hk, hne, hd, h2, hT => exact (hT)
          | 7, hk, hne, hd, h2, hT => exact (hT)
          | 9, hk, hne, hd, h2, hT => exact (hT)
          | 8, _, _, _, _, _ => trivial
          | n + 10, _, _, _, _, _ => trivial
        case stabG42 => exact fun i wa wb hR hne hG => ext_trans hG (hR.resolve_left (fun e => hne (by rw [e])))
        case stabH42 => exact fun i wa wb hR hne _ h => (by have hb := hR.resolve_left (fun e => hne (by rw [e])); exact RsB.below h hb)
        case all42 =>
          refine RAllH.cons rfl ?_ (RAllH.cons rfl ?_ (RAllH.cons rfl ?_ (RAllH.cons rfl ?_ (RAllH.cons rfl ?_ (RAllH.cons rfl ?_ (RAllH.cons rfl ?_ (RAllH.cons rfl ?_ (RAllH.cons rfl ?_ (RAllH.cons rfl ?_ (RAllH.none_))))))))))
          · intro a kq_ wa K Q _ _ hp hK0
            have hI : Below w2.heap.size w2 wa := hp.pre (fun c hc => by cases hc; kernel_rfl)
            have hK := fun v w' h1 h2 (_ : Below w2.heap.size w2 w') => hK0 v w' h1 (.inr h2) trivial (fun e => by cases e)
            have e2 := tmp_of (show a.eval (.tmp 2) = .pointer (some ⟨g, 0, none⟩) from hp.keep 2 (by kernel_rfl))
            have p0_ := below_cell hI p0
            have p1_ := below_cell hI p1
            have p2_ := below_cell hI p2
            have p3_ := below_cell hI p3
            have p4_ := below_cell hI p4
            go_simp
            exact hK _ _ rfl (Below.refl _ _) hI
          · intro a kq_ wa K Q _ _ hp hK0
            have hI : Below w2.heap.size w2 wa := hp.pre (fun c hc => by cases hc; kernel_rfl)
            have hK := fun v w' h1 h2 (_ : Below w2.heap.size w2 w') => hK0 v w' h1 (.inr h2) trivial (fun e => by cases e)
            have e3 := tmp_of (show a.eval (.tmp 3) = .pointer (some ⟨g + 1, 0, none⟩) from hp.keep 3 (by kernel_rfl))
            go_simp
            exact hK _ _ rfl (Below.refl _ _) hI
          · intro a kq_ wa K Q _ _ hp hK0
            have hI : Below w2.heap.size w2 wa := hp.pre (fun c hc => by cases hc; kernel_rfl)
            have hK := fun v w' h1 h2 (_ : Below w2.heap.size w2 w') => hK0 v w' h1 (.inr h2) trivial (fun e => by cases e)
            have e163 := tmp_of (show a.eval (.tmp 163) = .pointer (some ⟨g + 1, 3, Option.none⟩) from hp.dep 1 163 (by kernel_rfl))
            have q3_ := below_cell hI q3
            go_simp
            exact hK _ _ rfl (Below.refl _ _) hI
          · intro a kq_ wa K Q _ _ hp hK0
            have hI : Below w2.heap.size w2 wa := hp.pre (fun c hc => by cases hc; kernel_rfl)
            have hK := fun v w' h1 h2 (_ : Below w2.heap.size w2 w') => hK0 v w' h1 (.inr h2) trivial (fun e => by cases e)
            have e164 := tmp_of (show a.eval (.tmp 164) = .slice (some ⟨b, off, none⟩) t.ps.length ct from hp.dep 2 164 (by kernel_rfl))
            go_simp
            exact hK _ _ rfl (Below.refl _ _) hI
          · intro a kq_ wa K Q _ _ hp hK0
            have hI : Below w2.heap.size w2 wa := hp.pre (fun c hc => by cases hc; kernel_rfl)
            have hK := fun v w' h1 h2 (_ : Below w2.heap.size w2 w') => hK0 v w' h1 (.inr h2) trivial (fun e => by cases e)
            have e165 := tmp_of (show a.eval (.tmp 165) = .pointer (some ⟨b, off + 4, Option.none⟩) from hp.dep 3 165 (by kernel_rfl))
            have b0_ := below_cell hI b0
            have b1_ := below_cell hI b1
            have b2_ := below_cell hI b2
            have b3_ := below_cell hI b3
            go_simp
            exact hK _ _ rfl (Below.refl _ _) hI
          · intro a kq_ wa K Q _ _ hp hK0
            have hI : Below w2.heap.size w2 wa := hp.pre (fun c hc => by cases hc; kernel_rfl)
            have hK := fun v w' h1 h2 (_ : Below w2.heap.size w2 w') => hK0 v w' h1 (.inr h2) trivial (fun e => by cases e)
            have e162 := tmp_of (show a.eval (.tmp 162) = .agg #[.slice A W.length c, .int .i64 r.who, .int .i64 r.act, .int .i64 r.what, .slice B r.fs.length c2] from hp.dep 0 162 (by kernel_rfl))
            have e166 := tmp_of (show a.eval (.tmp 166) = .agg #[.int .i64 (exAt t.ps 1).k, .int .i64 (exAt t.ps 1).n, .string (exAt t.ps 1).s, .slice A4 (exAt t.ps 1).ps.length c4] from hp.dep 4 166 (by kernel_rfl))
            go_simp
            refine (HC.out _ _ _ (ext_trans HI2.out hI) (HFE.out.below hI)).mono ?_
            rintro e wb ⟨rfl, hb⟩
            exact hK _ _ (show _ = (.tuple #[.agg #[.int .i64 xb, .int .i64 yb], .int .i64 fb] : Value) from rfl) hb (ext_trans hI hb)
          · intro a kq_ wa K Q _ _ hp hK0
            have hI : Below w2.heap.size w2 wa := hp.pre (fun c hc => by cases hc; kernel_rfl)
            have hK := fun v w' h1 h2 (_ : Below w2.heap.size w2 w') => hK0 v w' h1 (.inr h2) trivial (fun e => by cases e)
            have e167 := tmp_of (show a.eval (.tmp 167) = .tuple #[.agg #[.int .i64 xb, .int .i64 yb], .int .i64 fb] from hp.dep 5 167 (by kernel_rfl))
            go_simp
            exact hK _ _ rfl (Below.refl _ _) hI
          · intro a kq_ wa K Q _ _ hp hK0
            have hI : Below w2.heap.size w2 wa := hp.pre (fun c hc => by cases hc; kernel_rfl)
            have hK := fun v w' h1 h2 (_ : Below w2.heap.size w2 w') => hK0 v w' h1 (.inr h2) trivial (fun e => by cases e)
            have e167 := tmp_of (show a.eval (.tmp 167) = .tuple #[.agg #[.int .i64 xb, .int .i64 yb], .int .i64 fb] from hp.dep 5 167 (by kernel_rfl))
            go_simp
            exact hK _ _ rfl (Below.refl _ _) hI
          · intro a kq_ wa K Q _ _ hp hK0
            have hI : Below w2.heap.size w2 wa := hp.pre (fun c hc => by cases hc; kernel_rfl)
            have hS := fun v w' h => hK0 v w' trivial (.inl rfl) trivial (fun _ => h)
            have e4 := tmp_of (show a.eval (.tmp 4) = .pointer (some ⟨g + 1 + 1, 0, none⟩) from hp.keep 4 (by kernel_rfl))
            have e168 := tmp_of (show a.eval (.tmp 168) = .agg #[.int .i64 xb, .int .i64 yb] from hp.dep 6 168 (by kernel_rfl))
            have e168 := tmp_of (show a.eval (.tmp 168) = .agg #[.int .i64 xb, .int .i64 yb] from hp.dep 6 168 (by kernel_rfl))
            have e4 := tmp_of (show a.eval (.tmp 4) = .pointer (some ⟨g + 1 + 1, 0, none⟩) from hp.keep 4 (by kernel_rfl))
            have hbx := block_in HQ3.out hI
            obtain ⟨cz0, cz1⟩ := cells2 hbx
            obtain ⟨cf0, cf1⟩ := froz2 hbx
            go_simp
            exact hS (.tuple #[]) _ (RsB.put hbx rfl HGB.out.1 (ext_trans HB2.out hI))
          · intro a kq_ wa K Q _ _ hp hK0
            have hK := fun v w' h1 (h2 : Below wa.heap.size wa w') => hK0 v w' h1 (.inr h2) trivial (fun e => by cases e)
            exact op_move _ (.inr rfl) (hK _ _ (hp.dep 7 169 (by kernel_rfl)) (Below.refl _ _))
        case fin42 =>
          intro f w3 hT _ hH
          have hH := hH 8 rfl (by decide)
          have hr : (f 9) = .int .i64 fb := hT 9 (by decide) rfl rfl
          clear hT
          simp only [putAll, hr]
          obtain ⟨r0, r1⟩ := cells2 hH.1
          have HBF := Lib.hid hH.2.1
          clear hr hH
          go_simp
          go_wp2
          exact bodyPost_ret (v := .tuple #[.agg #[.int .i64 xb, .int .i64 yb], .int .i64 fb]) (by simp [results, go_sem, r0, r1]) rfl ⟨by rw [HE.out]; rfl, HBF.out⟩
    · have gb : (fa != 0) = true := by simpa using e1
      have HE := Lib.hid (HF0.out e1)
      clear e1
      go_wp2
      obtain ⟨r0, r1⟩ := cells2 (box_put (.int .i64 (x)) (.int .i64 (y)) HQ3.out rfl)
      exact bodyPost_ret (v := .tuple #[.agg #[.int .i64 (x), .int .i64 (y)], .int .i64 (fa)]) (by simp [results, go_sem, r0, r1]) rfl ⟨by rw [HE.out]; rfl, box_put_below _ _ HGB.out.1 HB2.out⟩
end Go.Proofs.YtodjokdaofefdaaGreat

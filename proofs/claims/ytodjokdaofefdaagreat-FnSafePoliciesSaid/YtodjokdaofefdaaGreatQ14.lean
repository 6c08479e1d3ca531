/- Values of expressions with one part, by the program. -/
import Derived.Test.YtodjokdaofefdaaGreatQ13
namespace Go.Proofs.YtodjokdaofefdaaGreat
set_option linter.unusedSimpArgs false
set_option linter.unusedVariables false
open Go.RowKit

theorem evk_zero {v : Ev} {k x y f : Int} (h : evK v k = (x, y, f)) (hf : f = 0) : v = (x, y, 0) ∧ x = k := by
  subst hf
  obtain ⟨e1, e2, e3⟩ := evK_ok (v := v) (k := k) (by rw [h])
  rw [e1] at h
  exact ⟨h, by rw [← e3, h]⟩
theorem ok_pos {W : WL} {r : Rq} (h : OkW W r) : 0 < W.length := by have := inB_true.1 h.who; omega
set_option maxRecDepth 100000 in
set_option maxHeartbeats 8000000 in
theorem va_13 {m : Nat} (hQ : EvQ m) {W : WL} {r : Rq} {A B C : Option Addr} {c c2 ct : Nat} {t : Ex} {w : World} (hW : wlR w A W) (hR : fdR w B r.fs) (hU : exW (m + 1) w C t.ps) (hO : OkW W r) (hg : gdR (m + 1 + 1) t = true) (k : t.k = 13) :
    Calls Tryz.prog 76 #[.agg #[.slice A W.length c, .int .i64 r.who, .int .i64 r.act, .int .i64 r.what, .slice B r.fs.length c2], .agg #[.int .i64 t.k, .int .i64 t.n, .string t.s, .slice C t.ps.length ct]] w fun e w' => e = .returned (evVal (ev (m + 1 + 1) W r t)) ∧ Below w.heap.size w w' := by
  obtain ⟨X, hX⟩ : ∃ X, X = ((w.alloc (.cells #[.slice A W.length c, .int .i64 r.who, .int .i64 r.act, .int .i64 r.what, .slice B r.fs.length c2] 110)).alloc (.cells #[.int .i64 t.k, .int .i64 t.n, .string t.s, .slice C t.ps.length ct] 36)).alloc (.cells #[.int .i64 0, .int .i64 0] 87) := ⟨_, rfl⟩
  obtain ⟨g, hgg⟩ : ∃ g, g = w.heap.size := ⟨_, rfl⟩
  have hB : Below w.heap.size w X := by rw [hX]; (repeat (first | exact Below.refl _ _ | refine ext_alloc ?_ _ | refine Below.setCell ?_ (by simp) _))
  have hq1 : X.heap[g]? = some (.cells #[.slice A W.length c, .int .i64 r.who, .int .i64 r.act, .int .i64 r.what, .slice B r.fs.length c2] 110 (0, 0)) := by rw [hX, hgg]; exact block_in (block_in (heap_alloc_new _ _) (below_alloc _ _)) (below_alloc _ _)
  have hq2 : X.heap[g + 1]? = some (.cells #[.int .i64 t.k, .int .i64 t.n, .string t.s, .slice C t.ps.length ct] 36 (0, 0)) := by rw [hX, hgg]; exact block_in (heap_alloc_at (by simp)) (below_alloc _ _)
  have hq3 : X.heap[g + 1 + 1]? = some (.cells #[.int .i64 0, .int .i64 0] 87 (0, 0)) := by rw [hX, hgg]; exact heap_alloc_at (by simp)
  replace hW := hW.below hB
  replace hR := hR.below hB
  replace hU := hU.below hB
  have hlW := hW.len
  have hlR := hR.len
  have hGB : w.heap.size ≤ g + 1 + 1 ∧ g + 1 + 1 < X.heap.size := ⟨by omega, by rw [hX, hgg]; simp⟩
  have har := gd_len hg
  have HX := Lib.hid hX
  have HG := Lib.hid hgg
  have HQ1 := Lib.hid hq1
  have HQ2 := Lib.hid hq2
  have HQ3 := Lib.hid hq3
  have HGB := Lib.hid hGB
  have HB := Lib.hid hB
  have HGD := Lib.hid hg
  obtain ⟨p0, p1, p2, p3, p4⟩ := cells5 hq1
  obtain ⟨q0, q1, q2, q3⟩ := cells4 hq2
  obtain ⟨z0, z1⟩ := cells2 hq3
  obtain ⟨f0, f1⟩ := froz2 hq3
  clear hX hgg hq1 hq2 hq3 hB hGB hg
  rw [k] at har
  have hn1 : t.ps.length = 1 := har
  obtain ⟨b, off, A3, c3, rfl, hfd, a0, a1, a2, a3⟩ := ex_one hU hn1
  have hg0 := gd_part HGD.out (k := 0) (by omega)
  have hlt0 : 0 < t.ps.length := by omega
  have hlm : t.ps.length ≤ 9223372036854775807 := by omega
  obtain ⟨va, hva⟩ : ∃ v, evK (ev (m + 1) W r (exAt t.ps 0)) 1 = v := ⟨_, rfl⟩
  have HA : Hid (∀ (Y : World) (C' : Option Addr) (c' : Nat), Below X.heap.size X Y → exW m Y C' (exAt t.ps 0).ps → Calls Tryz.prog 91 #[.agg #[.slice A W.length c, .int .i64 r.who, .int .i64 r.act, .int .i64 r.what, .slice B r.fs.length c2], .agg #[.int .i64 (exAt t.ps 0).k, .int .i64 (exAt t.ps 0).n, .string (exAt t.ps 0).s, .slice C' (exAt t.ps 0).ps.length c'], .int .i64 1] Y fun e w' => e = .returned (evVal va) ∧ Below Y.heap.size Y w') := Lib.hid (fun Y C' c' hb h => by have := kinded_any (c := c) (c2 := c2) (ct := c') (kd := 1) hQ (hW.below hb) (hR.below hb) h hO hg0; rw [hva] at this; exact this)
  obtain ⟨x, y, fa⟩ := va
  unfold evVal at HA
  have HF0 : Hid (fa ≠ 0 → ev (m + 1 + 1) W r t = (0, 0, fa)) := Lib.hid (fun h => by rw [ev_k13 k, hva, if_pos h]; rfl)
  have HF1 : Hid (fa = 0 → ev (m + 1 + 1) W r t = (1, b01 (y == 0), 0)) := Lib.hid (fun h => by
    have e := (evk_zero hva h).1
    rw [ev_k13 k, hva, if_neg (by simpa using h), e]; rfl)
  have HFD := Lib.hid hfd
  have kb1 : (t.k == 1) = false := by rw [k]; rfl
  have kb2 : (t.k == 2) = false := by rw [k]; rfl
  have kb3 : (t.k == 3) = false := by rw [k]; rfl
  have kb4 : (t.k == 4) = false := by rw [k]; rfl
  have kb5 : (t.k == 5) = false := by rw [k]; rfl
  have kb6 : (t.k == 6) = false := by rw [k]; rfl
  have kb7 : (t.k == 7) = false := by rw [k]; rfl
  have kb8 : (t.k == 8) = false := by rw [k]; rfl
  have kb9 : (t.k == 9) = false := by rw [k]; rfl
  have kb10 : (t.k == 10) = false := by rw [k]; rfl
  have kb11 : (t.k == 11) = false := by rw [k]; rfl
  have kb12 : (t.k == 12) = false := by rw [k]; rfl
  have kb13 : (t.k == 13) = true := by rw [k]; rfl
  have kb14 : (t.k == 14) = false := by rw [k]; rfl
  have kb15 : (t.k == 15) = false := by rw [k]; rfl
  clear hU hW hR hO k har hva hQ hn1 hfd hg0
  go_enter Tryz.func76, Tryz.ntmps76
  go_wp2_with fail
  rw [← HX.out, ← HG.out]
  refine wp_region_nbox X 87 2 9 10 12 #[.int .i64 x, .int .i64 y] (fun i wz vz => match i with | 9 => BoxV X 87 2 wz vz | 0 => vz = .agg #[.slice A W.length c, .int .i64 r.who, .int .i64 r.act, .int .i64 r.what, .slice B r.fs.length c2] | 1 => vz = .pointer (some ⟨g + 1, 3, Option.none⟩) | 2 => vz = .slice (some ⟨b, off, none⟩) t.ps.length ct | 3 => vz = .pointer (some ⟨b, off, Option.none⟩) | 4 => vz = .agg #[.int .i64 (exAt t.ps 0).k, .int .i64 (exAt t.ps 0).n, .string (exAt t.ps 0).s, .slice A3 (exAt t.ps 0).ps.length c3] | 5 => vz = .tuple #[.agg #[.int .i64 x, .int .i64 y], .int .i64 fa] | 6 => vz = .tuple #[.agg #[.int .i64 x, .int .i64 y], .int .i64 fa] | 7 => vz = .agg #[.int .i64 x, .int .i64 y] | 8 => vz = .int .i64 fa | 11 => vz = .int .i64 fa | _ => True) (by kernel_rfl) (by kernel_rfl) (by kernel_rfl) rfl (by kernel_rfl) (fun _ _ h => h) (fun _ _ h => h) ?stab33 ?all33 (by decide) ?fin33
  case stab33 =>
    intro i wa wb v hne hT
    match i, hne, hT with
    | 0, _, hT => exact hT
    | 1, _, hT => exact hT
    | 2, _, hT => exact hT
    | 3, _, hT => exact hT
    | 4, _, hT => exact hT
    | 5, _, hT => exact hT
    | 6, _, hT => exact hT
    | 7, _, hT => exact hT
    | 8, _, hT => exact hT
    | 11, _, hT => exact hT
    | 9, hne, _ => exact absurd rfl hne
    | 10, _, _ => trivial
    | n + 12, _, _ => trivial
  case all33 =>
    refine RAllL.cons rfl ?_ (RAllL.cons rfl ?_ (RAllL.cons rfl ?_ (RAllL.cons rfl ?_ (RAllL.cons rfl ?_ (RAllL.cons rfl ?_ (RAllL.cons rfl ?_ (RAllL.cons rfl ?_ (RAllL.cons rfl ?_ (RAllL.cons rfl ?_ (RAllL.cons rfl ?_ (RAllL.cons rfl ?_ (RAllL.none_))))))))))))
    · intro a kq_ wa K Q _ hI0 hp hK0
      have hI : Below X.heap.size X wa := hI0
      have hK := fun v w' h1 (h2 : Below wa.heap.size wa w') (h3 : Below X.heap.size X w') => hK0 v w' h1 (RelB.of_below h2) h3 (fun e => absurd e (by decide))
      have e2 := tmp_of (show a.eval (.tmp 2) = .pointer (some ⟨g, 0, none⟩) from hp.keep 2 (by kernel_rfl))
      have p0_ := below_cell hI p0
      have p1_ := below_cell hI p1
      have p2_ := below_cell hI p2
      have p3_ := below_cell hI p3
      have p4_ := below_cell hI p4
      go_simp
      exact hK _ _ rfl (Below.refl _ _) hI
    · intro a kq_ wa K Q _ hI0 hp hK0
      have hI : Below X.heap.size X wa := hI0
      have hK := fun v w' h1 (h2 : Below wa.heap.size wa w') (h3 : Below X.heap.size X w') => hK0 v w' h1 (RelB.of_below h2) h3 (fun e => absurd e (by decide))
      have e3 := tmp_of (show a.eval (.tmp 3) = .pointer (some ⟨g + 1, 0, none⟩) from hp.keep 3 (by kernel_rfl))
      go_simp
      exact hK _ _ rfl (Below.refl _ _) hI
    · intro a kq_ wa K Q _ hI0 hp hK0
      have hI : Below X.heap.size X wa := hI0
      have hK := fun v w' h1 (h2 : Below wa.heap.size wa w') (h3 : Below X.heap.size X w') => hK0 v w' h1 (RelB.of_below h2) h3 (fun e => absurd e (by decide))
      have e120 := tmp_of (show a.eval (.tmp 120) = .pointer (some ⟨g + 1, 3, Option.none⟩) from hp.dep 1 120 (by kernel_rfl))
      have q3_ := below_cell hI q3
      go_simp
      exact hK _ _ rfl (Below.refl _ _) hI
    · intro a kq_ wa K Q _ hI0 hp hK0
      have hI : Below X.heap.size X wa := hI0
      have hK := fun v w' h1 (h2 : Below wa.heap.size wa w') (h3 : Below X.heap.size X w') => hK0 v w' h1 (RelB.of_below h2) h3 (fun e => absurd e (by decide))
      have e121 := tmp_of (show a.eval (.tmp 121) = .slice (some ⟨b, off, none⟩) t.ps.length ct from hp.dep 2 121 (by kernel_rfl))
      go_simp
      exact hK _ _ rfl (Below.refl _ _) hI
    · intro a kq_ wa K Q _ hI0 hp hK0
      have hI : Below X.heap.size X wa := hI0
      have hK := fun v w' h1 (h2 : Below wa.heap.size wa w') (h3 : Below X.heap.size X w') => hK0 v w' h1 (RelB.of_below h2) h3 (fun e => absurd e (by decide))
      have e122 := tmp_of (show a.eval (.tmp 122) = .pointer (some ⟨b, off, Option.none⟩) from hp.dep 3 122 (by kernel_rfl))
      have a0_ := below_cell hI a0
      have a1_ := below_cell hI a1
      have a2_ := below_cell hI a2
      have a3_ := below_cell hI a3
      go_simp
      exact hK _ _ rfl (Below.refl _ _) hI
    · intro a kq_ wa K Q _ hI0 hp hK0
      have hI : Below X.heap.size X wa := hI0
      have hK := fun v w' h1 (h2 : Below wa.heap.size wa w') (h3 : Below X.heap.size X w') => hK0 v w' h1 (RelB.of_below h2) h3 (fun e => absurd e (by decide))
      have e119 := tmp_of (show a.eval (.tmp 119) = .agg #[.slice A W.length c, .int .i64 r.who, .int .i64 r.act, .int .i64 r.what, .slice B r.fs.length c2] from hp.dep 0 119 (by kernel_rfl))
      have e123 := tmp_of (show a.eval (.tmp 123) = .agg #[.int .i64 (exAt t.ps 0).k, .int .i64 (exAt t.ps 0).n, .string (exAt t.ps 0).s, .slice A3 (exAt t.ps 0).ps.length c3] from hp.dep 4 123 (by kernel_rfl))
      go_simp
      refine (HA.out _ _ _ hI (HFD.out.below hI)).mono ?_
      rintro e wb ⟨rfl, hb⟩
      exact hK _ _ (show _ = (.tuple #[.agg #[.int .i64 x, .int .i64 y], .int .i64 fa] : Value) from rfl) hb (ext_trans hI hb)
    · intro a kq_ wa K Q _ hI0 hp hK0
      have hI : Below X.heap.size X wa := hI0
      have hK := fun v w' h1 (h2 : Below wa.heap.size wa w') (h3 : Below X.heap.size X w') => hK0 v w' h1 (RelB.of_below h2) h3 (fun e => absurd e (by decide))
      exact op_move _ (.inl rfl) (hK _ _ (hp.dep 5 124 (by kernel_rfl)) (Below.refl _ _) hI)
    · intro a kq_ wa K Q _ hI0 hp hK0
      have hI : Below X.heap.size X wa := hI0
      have hK := fun v w' h1 (h2 : Below wa.heap.size wa w') (h3 : Below X.heap.size X w') => hK0 v w' h1 (RelB.of_below h2) h3 (fun e => absurd e (by decide))
      have e118 := tmp_of (show a.eval (.tmp 118) = .tuple #[.agg #[.int .i64 x, .int .i64 y], .int .i64 fa] from hp.dep 6 118 (by kernel_rfl))
      go_simp
      exact hK _ _ rfl (Below.refl _ _) hI
    · intro a kq_ wa K Q _ hI0 hp hK0
      have hI : Below X.heap.size X wa := hI0
      have hK := fun v w' h1 (h2 : Below wa.heap.size wa w') (h3 : Below X.heap.size X w') => hK0 v w' h1 (RelB.of_below h2) h3 (fun e => absurd e (by decide))
      have e118 := tmp_of (show a.eval (.tmp 118) = .tuple #[.agg #[.int .i64 x, .int .i64 y], .int .i64 fa] from hp.dep 6 118 (by kernel_rfl))
      go_simp
      exact hK _ _ rfl (Below.refl _ _) hI
    · intro a kq_ wa K Q _ hI0 hp hK0
      have hI : Below X.heap.size X wa := hI0
      have hK := fun v w' h1 (h2 : Below wa.heap.size wa w') (h3 : Below X.heap.size X w') => hK0 v w' h1 (RelB.of_below h2) h3 (fun e => absurd e (by decide))
      go_simp
      exact hK _ _ ⟨_, rfl, hI.size, _, heap_alloc_new _ _, rfl⟩ (below_alloc _ _) (ext_alloc hI _)
    · intro a kq_ wa K Q _ hI0 hp hK0
      have hI : Below X.heap.size X wa := hI0
      obtain ⟨g8, eB, hgB, cs8, hg8, hcs8⟩ := (show BoxV X 87 2 wa (a.eval (.tmp 12)) from hp.base (by kernel_rfl))
      have eB2 := tmp_of eB
      have e125 := tmp_of (show a.eval (.tmp 125) = .agg #[.int .i64 x, .int .i64 y] from hp.dep 7 125 (by kernel_rfl))
      obtain ⟨hr8, hb8, hg9⟩ := nbox_put (N := 10) (.int .i64 x) (.int .i64 y) hgB hg8 hcs8 hI
      obtain ⟨c80, c81, d80, d81, f80, f81⟩ := nbox_cells hg8 hcs8
      go_simp
      exact hK0 (.tuple #[]) _ trivial hr8 hb8 (fun _ => ⟨g8, eB, hgB, hg9⟩)
    · intro a kq_ wa K Q _ hI0 hp hK0
      have hI : Below X.heap.size X wa := hI0
      have hK := fun v w' h1 (h2 : Below wa.heap.size wa w') (h3 : Below X.heap.size X w') => hK0 v w' h1 (RelB.of_below h2) h3 (fun e => absurd e (by decide))
      exact op_move _ (.inr rfl) (hK _ _ (hp.dep 8 126 (by kernel_rfl)) (Below.refl _ _) hI)
  case fin33 =>
    intro f w2 hT hBx hI0
    have hI : Below X.heap.size X w2 := hI0
    have hr : (f 11) = .int .i64 fa := hT 11 (by decide) rfl
    clear hT hI0
    obtain ⟨ga, eA, hgA, hqA⟩ := hBx
    simp only [putAll, eA, hr]
    have HB2 := Lib.hid (ext_trans HB.out hI)
    have HI2 := Lib.hid hI
    have HQ3 := Lib.hid (block_in HQ3.out hI)
    have HQ2b := Lib.hid (block_in HQ2.out hI)
    have HQ1b := Lib.hid (block_in HQ1.out hI)
    obtain ⟨u0, u1⟩ := cells2 hqA
    have HQA := Lib.hid hqA
    have hga : ga ≠ g + 1 + 1 := by have := HGB.out.2; omega
    have hga2 := Ne.symm hga
    clear hr eA hqA a0 a1 a2 a3 p0 p1 p2 p3 p4 q0 q1 q2 q3 z0 z1 f0 f1
    obtain ⟨p0, p1, p2, p3, p4⟩ := cells5 HQ1b.out
    obtain ⟨q0, q1, q2, q3⟩ := cells4 HQ2b.out
    obtain ⟨z0, z1⟩ := cells2 HQ3.out
    obtain ⟨f0, f1⟩ := froz2 HQ3.out
    clear hI
    go_simp
    by_cases e1 : fa = 0
    · have gb : (fa != 0) = false := by simpa using e1
      have HE := Lib.hid (HF1.out e1)
      clear e1
      go_wp2_with fail
      refine (truthValue_any _ _).mono ?_
      rintro e w3 ⟨rfl, hb⟩
      have HB3 := Lib.hid (ext_trans HB2.out hb)
      have HQ3 := Lib.hid (block_in HQ3.out hb)
      obtain ⟨z0, z1⟩ := cells2 HQ3.out
      obtain ⟨f0, f1⟩ := froz2 HQ3.out
      clear hb u0 u1 p0 p1 p2 p3 p4 q0 q1 q2 q3
      go_wp2
      obtain ⟨r0, r1⟩ := cells2 (box_put (.int .i64 (1)) (.int .i64 (b01 (y == 0))) HQ3.out rfl)
      exact bodyPost_ret (v := .tuple #[.agg #[.int .i64 (1), .int .i64 (b01 (y == 0))], .int .i64 (0)]) (by simp [results, go_sem, r0, r1]) rfl ⟨by rw [HE.out]; rfl, box_put_below _ _ HGB.out.1 HB3.out⟩
    · have gb : (fa != 0) = true := by simpa using e1
      have HE := Lib.hid (HF0.out e1)
      clear e1
      go_wp2
      obtain ⟨r0, r1⟩ := cells2 (box_put (.int .i64 (0)) (.int .i64 (0)) HQ3.out rfl)
      exact bodyPost_ret (v := .tuple #[.agg #[.int .i64 (0), .int .i64 (0)], .int .i64 (fa)]) (by simp [results, go_sem, r0, r1]) rfl ⟨by rw [HE.out]; rfl, box_put_below _ _ HGB.out.1 HB2.out⟩
set_option maxRecDepth 100000 in
set_option maxHeartbeats 8000000 in
theorem va_8 {m : Nat} (hQ : EvQ m) {W : WL} {r : Rq} {A B C : Option Addr} {c c2 ct : Nat} {t : Ex} {w : World} (hW : wlR w A W) (hR : fdR w B r.fs) (hU : exW (m + 1) w C t.ps) (hO : OkW W r) (hg : gdR (m + 1 + 1) t = true) (k : t.k = 8) :
    Calls Tryz.prog 76 #[.agg #[.slice A W.length c, .int .i64 r.who, .int .i64 r.act, .int .i64 r.what, .slice B r.fs.length c2], .agg #[.int .i64 t.k, .int .i64 t.n, .string t.s, .slice C t.ps.length ct]] w fun e w' => e = .returned (evVal (ev (m + 1 + 1) W r t)) ∧ Below w.heap.size w w' := by
  obtain ⟨X, hX⟩ : ∃ X, X = ((w.alloc (.cells #[.slice A W.length c, .int .i64 r.who, .int .i64 r.act, .int .i64 r.what, .slice B r.fs.length c2] 110)).alloc (.cells #[.int .i64 t.k, .int .i64 t.n, .string t.s, .slice C t.ps.length ct] 36)).alloc (.cells #[.int .i64 0, .int .i64 0] 87) := ⟨_, rfl⟩
  obtain ⟨g, hgg⟩ : ∃ g, g = w.heap.size := ⟨_, rfl⟩
  have hB : Below w.heap.size w X := by rw [hX]; (repeat (first | exact Below.refl _ _ | refine ext_alloc ?_ _ | refine Below.setCell ?_ (by simp) _))
  have hq1 : X.heap[g]? = some (.cells #[.slice A W.length c, .int .i64 r.who, .int .i64 r.act, .int .i64 r.what, .slice B r.fs.length c2] 110 (0, 0)) := by rw [hX, hgg]; exact block_in (block_in (heap_alloc_new _ _) (below_alloc _ _)) (below_alloc _ _)
  have hq2 : X.heap[g + 1]? = some (.cells #[.int .i64 t.k, .int .i64 t.n, .string t.s, .slice C t.ps.length ct] 36 (0, 0)) := by rw [hX, hgg]; exact block_in (heap_alloc_at (by simp)) (below_alloc _ _)
  have hq3 : X.heap[g + 1 + 1]? = some (.cells #[.int .i64 0, .int .i64 0] 87 (0, 0)) := by rw [hX, hgg]; exact heap_alloc_at (by simp)
  replace hW := hW.below hB
  replace hR := hR.below hB
  replace hU := hU.below hB
  have hlW := hW.len
  have hlR := hR.len
  have hGB : w.heap.size ≤ g + 1 + 1 ∧ g + 1 + 1 < X.heap.size := ⟨by omega, by rw [hX, hgg]; simp⟩
  have har := gd_len hg
  have HX := Lib.hid hX
  have HG := Lib.hid hgg
  have HQ1 := Lib.hid hq1
  have HQ2 := Lib.hid hq2
  have HQ3 := Lib.hid hq3
  have HGB := Lib.hid hGB
  have HB := Lib.hid hB
  have HGD := Lib.hid hg
  obtain ⟨p0, p1, p2, p3, p4⟩ := cells5 hq1
  obtain ⟨q0, q1, q2, q3⟩ := cells4 hq2
  obtain ⟨z0, z1⟩ := cells2 hq3
  obtain ⟨f0, f1⟩ := froz2 hq3
  clear hX hgg hq1 hq2 hq3 hB hGB hg
  rw [k] at har
  have hn1 : t.ps.length = 1 := har
  obtain ⟨b, off, A3, c3, rfl, hfd, a0, a1, a2, a3⟩ := ex_one hU hn1
  have hg0 := gd_part HGD.out (k := 0) (by omega)
  have hlt0 : 0 < t.ps.length := by omega
  have hlm : t.ps.length ≤ 9223372036854775807 := by omega
  obtain ⟨va, hva⟩ : ∃ v, evK (ev (m + 1) W r (exAt t.ps 0)) 3 = v := ⟨_, rfl⟩
  have HA : Hid (∀ (Y : World) (C' : Option Addr) (c' : Nat), Below X.heap.size X Y → exW m Y C' (exAt t.ps 0).ps → Calls Tryz.prog 91 #[.agg #[.slice A W.length c, .int .i64 r.who, .int .i64 r.act, .int .i64 r.what, .slice B r.fs.length c2], .agg #[.int .i64 (exAt t.ps 0).k, .int .i64 (exAt t.ps 0).n, .string (exAt t.ps 0).s, .slice C' (exAt t.ps 0).ps.length c'], .int .i64 3] Y fun e w' => e = .returned (evVal va) ∧ Below Y.heap.size Y w') := Lib.hid (fun Y C' c' hb h => by have := kinded_any (c := c) (c2 := c2) (ct := c') (kd := 3) hQ (hW.below hb) (hR.below hb) h hO hg0; rw [hva] at this; exact this)
  obtain ⟨x, y, fa⟩ := va
  unfold evVal at HA
  have HF0 : Hid (fa ≠ 0 → ev (m + 1 + 1) W r t = (0, 0, fa)) := Lib.hid (fun h => by rw [ev_k8 k, hva, if_pos h]; rfl)
  have HF1 : Hid (fa = 0 → ∃ ny : Nat, ny < W.length ∧ y = (ny : Int) ∧ ev (m + 1 + 1) W r t = evOf (fdOf (thAt W ny).fs t.s)) := Lib.hid (fun h => by
    obtain ⟨e, e3⟩ := evk_zero hva h
    have hv := ev_val hO (m + 1) _ hg0 (by rw [e])
    rw [e] at hv
    subst e3
    have hb : 0 ≤ y ∧ y < W.length := vl_3 hv
    refine ⟨y.toNat, by omega, by omega, ?_⟩
    rw [ev_k8 k, hva, if_neg (by simpa using h), e])
  have HFD := Lib.hid hfd
  obtain ⟨bw, ow, rfl, hcw⟩ := hW.cells (ok_pos hO)
  have HCW := Lib.hid hcw
  have kb1 : (t.k == 1) = false := by rw [k]; rfl
  have kb2 : (t.k == 2) = false := by rw [k]; rfl
  have kb3 : (t.k == 3) = false := by rw [k]; rfl
  have kb4 : (t.k == 4) = false := by rw [k]; rfl
  have kb5 : (t.k == 5) = false := by rw [k]; rfl
  have kb6 : (t.k == 6) = false := by rw [k]; rfl
  have kb7 : (t.k == 7) = false := by rw [k]; rfl
  have kb8 : (t.k == 8) = true := by rw [k]; rfl
  have kb9 : (t.k == 9) = false := by rw [k]; rfl
  have kb10 : (t.k == 10) = false := by rw [k]; rfl
  have kb11 : (t.k == 11) = false := by rw [k]; rfl
  have kb12 : (t.k == 12) = false := by rw [k]; rfl
  have kb13 : (t.k == 13) = false := by rw [k]; rfl
  have kb14 : (t.k == 14) = false := by rw [k]; rfl
  have kb15 : (t.k == 15) = false := by rw [k]; rfl
  clear hU hW hR hO k har hva hQ hn1 hfd hg0 hcw
  go_enter Tryz.func76, Tryz.ntmps76
  go_wp2_with fail
  rw [← HX.out, ← HG.out]
  refine wp_region_nbox X 87 2 9 10 8 #[.int .i64 x, .int .i64 y] (fun i wz vz => match i with | 9 => BoxV X 87 2 wz vz | 0 => vz = .agg #[.slice (some ⟨bw, ow, none⟩) W.length c, .int .i64 r.who, .int .i64 r.act, .int .i64 r.what, .slice B r.fs.length c2] | 1 => vz = .pointer (some ⟨g + 1, 3, Option.none⟩) | 2 => vz = .slice (some ⟨b, off, none⟩) t.ps.length ct | 3 => vz = .pointer (some ⟨b, off, Option.none⟩) | 4 => vz = .agg #[.int .i64 (exAt t.ps 0).k, .int .i64 (exAt t.ps 0).n, .string (exAt t.ps 0).s, .slice A3 (exAt t.ps 0).ps.length c3] | 5 => vz = .tuple #[.agg #[.int .i64 x, .int .i64 y], .int .i64 fa] | 6 => vz = .tuple #[.agg #[.int .i64 x, .int .i64 y], .int .i64 fa] | 7 => vz = .agg #[.int .i64 x, .int .i64 y] | 8 => vz = .int .i64 fa | 11 => vz = .int .i64 fa | _ => True) (by kernel_rfl) (by kernel_rfl) (by kernel_rfl) rfl (by kernel_rfl) (fun _ _ h => h) (fun _ _ h => h) ?stab23 ?all23 (by decide) ?fin23
  case stab23 =>
    intro i wa wb v hne hT
    match i, hne, hT with
    | 0, _, hT => exact hT
    | 1, _, hT => exact hT
    | 2, _, hT => exact hT
    | 3, _, hT => exact hT
    | 4, _, hT => exact hT
    | 5, _, hT => exact hT
    | 6, _, hT => exact hT
    | 7, _, hT => exact hT
    | 8, _, hT => exact hT
    | 11, _, hT => exact hT
    | 9, hne, _ => exact absurd rfl hne
    | 10, _, _ => trivial
    | n + 12, _, _ => trivial
  case all23 =>
    refine RAllL.cons rfl ?_ (RAllL.cons rfl ?_ (RAllL.cons rfl ?_ (RAllL.cons rfl ?_ (RAllL.cons rfl ?_ (RAllL.cons rfl ?_ (RAllL.cons rfl ?_ (RAllL.cons rfl ?_ (RAllL.cons rfl ?_ (RAllL.cons rfl ?_ (RAllL.cons rfl ?_ (RAllL.cons rfl ?_ (RAllL.none_))))))))))))
    · intro a kq_ wa K Q _ hI0 hp hK0
      have hI : Below X.heap.size X wa := hI0
      have hK := fun v w' h1 (h2 : Below wa.heap.size wa w') (h3 : Below X.heap.size X w') => hK0 v w' h1 (RelB.of_below h2) h3 (fun e => absurd e (by decide))
      have e2 := tmp_of (show a.eval (.tmp 2) = .pointer (some ⟨g, 0, none⟩) from hp.keep 2 (by kernel_rfl))
      have p0_ := below_cell hI p0
      have p1_ := below_cell hI p1
      have p2_ := below_cell hI p2
      have p3_ := below_cell hI p3
      have p4_ := below_cell hI p4
      go_simp
      exact hK _ _ rfl (Below.refl _ _) hI
    · intro a kq_ wa K Q _ hI0 hp hK0
      have hI : Below X.heap.size X wa := hI0
      have hK := fun v w' h1 (h2 : Below wa.heap.size wa w') (h3 : Below X.heap.size X w') => hK0 v w' h1 (RelB.of_below h2) h3 (fun e => absurd e (by decide))
      have e3 := tmp_of (show a.eval (.tmp 3) = .pointer (some ⟨g + 1, 0, none⟩) from hp.keep 3 (by kernel_rfl))
      go_simp
      exact hK _ _ rfl (Below.refl _ _) hI
    · intro a kq_ wa K Q _ hI0 hp hK0
      have hI : Below X.heap.size X wa := hI0
      have hK := fun v w' h1 (h2 : Below wa.heap.size wa w') (h3 : Below X.heap.size X w') => hK0 v w' h1 (RelB.of_below h2) h3 (fun e => absurd e (by decide))
      have e81 := tmp_of (show a.eval (.tmp 81) = .pointer (some ⟨g + 1, 3, Option.none⟩) from hp.dep 1 81 (by kernel_rfl))
      have q3_ := below_cell hI q3
      go_simp
      exact hK _ _ rfl (Below.refl _ _) hI
    · intro a kq_ wa K Q _ hI0 hp hK0
      have hI : Below X.heap.size X wa := hI0
      have hK := fun v w' h1 (h2 : Below wa.heap.size wa w') (h3 : Below X.heap.size X w') => hK0 v w' h1 (RelB.of_below h2) h3 (fun e => absurd e (by decide))
      have e82 := tmp_of (show a.eval (.tmp 82) = .slice (some ⟨b, off, none⟩) t.ps.length ct from hp.dep 2 82 (by kernel_rfl))
      go_simp
      exact hK _ _ rfl (Below.refl _ _) hI
    · intro a kq_ wa K Q _ hI0 hp hK0
      have hI : Below X.heap.size X wa := hI0
      have hK := fun v w' h1 (h2 : Below wa.heap.size wa w') (h3 : Below X.heap.size X w') => hK0 v w' h1 (RelB.of_below h2) h3 (fun e => absurd e (by decide))
      have e83 := tmp_of (show a.eval (.tmp 83) = .pointer (some ⟨b, off, Option.none⟩) from hp.dep 3 83 (by kernel_rfl))
      have a0_ := below_cell hI a0
      have a1_ := below_cell hI a1
      have a2_ := below_cell hI a2
      have a3_ := below_cell hI a3
      go_simp
      exact hK _ _ rfl (Below.refl _ _) hI
    · intro a kq_ wa K Q _ hI0 hp hK0
      have hI : Below X.heap.size X wa := hI0
      have hK := fun v w' h1 (h2 : Below wa.heap.size wa w') (h3 : Below X.heap.size X w') => hK0 v w' h1 (RelB.of_below h2) h3 (fun e => absurd e (by decide))
      have e80 := tmp_of (show a.eval (.tmp 80) = .agg #[.slice (some ⟨bw, ow, none⟩) W.length c, .int .i64 r.who, .int .i64 r.act, .int .i64 r.what, .slice B r.fs.length c2] from hp.dep 0 80 (by kernel_rfl))
      have e84 := tmp_of (show a.eval (.tmp 84) = .agg #[.int .i64 (exAt t.ps 0).k, .int .i64 (exAt t.ps 0).n, .string (exAt t.ps 0).s, .slice A3 (exAt t.ps 0).ps.length c3] from hp.dep 4 84 (by kernel_rfl))
      go_simp
      refine (HA.out _ _ _ hI (HFD.out.below hI)).mono ?_
      rintro e wb ⟨rfl, hb⟩
      exact hK _ _ (show _ = (.tuple #[.agg #[.int .i64 x, .int .i64 y], .int .i64 fa] : Value) from rfl) hb (ext_trans hI hb)
    · intro a kq_ wa K Q _ hI0 hp hK0
      have hI : Below X.heap.size X wa := hI0
      have hK := fun v w' h1 (h2 : Below wa.heap.size wa w') (h3 : Below X.heap.size X w') => hK0 v w' h1 (RelB.of_below h2) h3 (fun e => absurd e (by decide))
      exact op_move _ (.inl rfl) (hK _ _ (hp.dep 5 85 (by kernel_rfl)) (Below.refl _ _) hI)
    · intro a kq_ wa K Q _ hI0 hp hK0
      have hI : Below X.heap.size X wa := hI0
      have hK := fun v w' h1 (h2 : Below wa.heap.size wa w') (h3 : Below X.heap.size X w') => hK0 v w' h1 (RelB.of_below h2) h3 (fun e => absurd e (by decide))
      have e79 := tmp_of (show a.eval (.tmp 79) = .tuple #[.agg #[.int .i64 x, .int .i64 y], .int .i64 fa] from hp.dep 6 79 (by kernel_rfl))
      go_simp
      exact hK _ _ rfl (Below.refl _ _) hI
    · intro a kq_ wa K Q _ hI0 hp hK0
      have hI : Below X.heap.size X wa := hI0
      have hK := fun v w' h1 (h2 : Below wa.heap.size wa w') (h3 : Below X.heap.size X w') => hK0 v w' h1 (RelB.of_below h2) h3 (fun e => absurd e (by decide))
      have e79 := tmp_of (show a.eval (.tmp 79) = .tuple #[.agg #[.int .i64 x, .int .i64 y], .int .i64 fa] from hp.dep 6 79 (by kernel_rfl))
      go_simp
      exact hK _ _ rfl (Below.refl _ _) hI
    · intro a kq_ wa K Q _ hI0 hp hK0
      have hI : Below X.heap.size X wa := hI0
      have hK := fun v w' h1 (h2 : Below wa.heap.size wa w') (h3 : Below X.heap.size X w') => hK0 v w' h1 (RelB.of_below h2) h3 (fun e => absurd e (by decide))
      go_simp
      exact hK _ _ ⟨_, rfl, hI.size, _, heap_alloc_new _ _, rfl⟩ (below_alloc _ _) (ext_alloc hI _)
    · intro a kq_ wa K Q _ hI0 hp hK0
      have hI : Below X.heap.size X wa := hI0
      obtain ⟨g8, eB, hgB, cs8, hg8, hcs8⟩ := (show BoxV X 87 2 wa (a.eval (.tmp 8)) from hp.base (by kernel_rfl))
      have eB2 := tmp_of eB
      have e86 := tmp_of (show a.eval (.tmp 86) = .agg #[.int .i64 x, .int .i64 y] from hp.dep 7 86 (by kernel_rfl))
      obtain ⟨hr8, hb8, hg9⟩ := nbox_put (N := 10) (.int .i64 x) (.int .i64 y) hgB hg8 hcs8 hI
      obtain ⟨c80, c81, d80, d81, f80, f81⟩ := nbox_cells hg8 hcs8
      go_simp
      exact hK0 (.tuple #[]) _ trivial hr8 hb8 (fun _ => ⟨g8, eB, hgB, hg9⟩)
    · intro a kq_ wa K Q _ hI0 hp hK0
      have hI : Below X.heap.size X wa := hI0
      have hK := fun v w' h1 (h2 : Below wa.heap.size wa w') (h3 : Below X.heap.size X w') => hK0 v w' h1 (RelB.of_below h2) h3 (fun e => absurd e (by decide))
      exact op_move _ (.inr rfl) (hK _ _ (hp.dep 8 87 (by kernel_rfl)) (Below.refl _ _) hI)
  case fin23 =>
    intro f w2 hT hBx hI0
    have hI : Below X.heap.size X w2 := hI0
    have hr : (f 11) = .int .i64 fa := hT 11 (by decide) rfl
    clear hT hI0
    obtain ⟨ga, eA, hgA, hqA⟩ := hBx
    simp only [putAll, eA, hr]
    have HB2 := Lib.hid (ext_trans HB.out hI)
    have HI2 := Lib.hid hI
    have HQ3 := Lib.hid (block_in HQ3.out hI)
    have HQ2b := Lib.hid (block_in HQ2.out hI)
    have HQ1b := Lib.hid (block_in HQ1.out hI)
    obtain ⟨u0, u1⟩ := cells2 hqA
    have HQA := Lib.hid hqA
    have hga : ga ≠ g + 1 + 1 := by have := HGB.out.2; omega
    have hga2 := Ne.symm hga
    clear hr eA hqA a0 a1 a2 a3 p0 p1 p2 p3 p4 q0 q1 q2 q3 z0 z1 f0 f1
    obtain ⟨p0, p1, p2, p3, p4⟩ := cells5 HQ1b.out
    obtain ⟨q0, q1, q2, q3⟩ := cells4 HQ2b.out
    obtain ⟨z0, z1⟩ := cells2 HQ3.out
    obtain ⟨f0, f1⟩ := froz2 HQ3.out
    clear hI
    go_simp
    by_cases e1 : fa = 0
    · have gb : (fa != 0) = false := by simpa using e1
      obtain ⟨ny, hny, rfl, hE⟩ := HF1.out e1
      obtain ⟨A5, c5, A6, c6, _, hf6, _, d1⟩ := HCW.out ny hny
      replace d1 := below_cell HI2.out d1
      have HF6 := Lib.hid (hf6.below HI2.out)
      obtain ⟨o, ho⟩ : ∃ o, fdOf (thAt W ny).fs t.s = o := ⟨_, rfl⟩
      rw [ho] at hE
      have HO := Lib.hid ho
      have HEE := Lib.hid hE
      obtain ⟨⟨xv, yv⟩, hxy⟩ : ∃ v, fdV o = v := ⟨_, rfl⟩
      obtain ⟨bo, hbo⟩ : ∃ b, o.isSome = b := ⟨_, rfl⟩
      have HFV : Hid (fdVal o = .tuple #[.agg #[.int .i64 xv, .int .i64 yv], .bool bo]) := Lib.hid (by rw [fdVal, hxy, hbo])
      have HXY := Lib.hid hxy
      have HBO := Lib.hid hbo
      clear e1 hf6 ho hE hxy hbo hlW
      have hnyi : (ny : Int) < W.length := by omega
      go_wp2
      refine wp_region_nbox w2 87 2 13 14 10 #[.int .i64 xv, .int .i64 yv] (fun i wz vz => match i with | 13 => BoxV w2 87 2 wz vz | 0 => vz = .pointer (some ⟨g, 0, Option.none⟩) | 1 => vz = .slice (some ⟨bw, ow, none⟩) W.length c | 2 => vz = .pointer (some ⟨ga, 1, Option.none⟩) | 3 => vz = .int .i64 ny | 4 => vz = .pointer (some ⟨bw, ow + ny * 2, Option.none⟩) | 5 => vz = .pointer (some ⟨bw, ow + ny * 2 + 1, Option.none⟩) | 6 => vz = .slice A6 (thAt W ny).fs.length c6 | 7 => vz = .pointer (some ⟨g + 1, 2, Option.none⟩) | 8 => vz = .string t.s | 9 => vz = .tuple #[.agg #[.int .i64 xv, .int .i64 yv], .bool bo] | 10 => vz = .tuple #[.agg #[.int .i64 xv, .int .i64 yv], .bool bo] | 11 => vz = .agg #[.int .i64 xv, .int .i64 yv] | 12 => vz = .bool bo | 15 => vz = .bool bo | _ => True) (by kernel_rfl) (by kernel_rfl) (by kernel_rfl) rfl (by kernel_rfl) (fun _ _ h => h) (fun _ _ h => h) ?stab26 ?all26 (by decide) ?fin26
      case stab26 =>
        intro i wa wb v hne hT
        match i, hne, hT with
        | 0, _, hT => exact hT
        | 1, _, hT => exact hT
        | 2, _, hT => exact hT
        | 3, _, hT => exact hT
        | 4, _, hT => exact hT
        | 5, _, hT => exact hT
        | 6, _, hT => exact hT
        | 7, _, hT => exact hT
        | 8, _, hT => exact hT
        | 9, _, hT => exact hT
        | 10, _, hT => exact hT
        | 11, _, hT => exact hT
        | 12, _, hT => exact hT
        | 15, _, hT => exact hT
        | 13, hne, _ => exact absurd rfl hne
        | 14, _, _ => trivial
        | n + 16, _, _ => trivial
      case all26 =>
        refine RAllL.cons rfl ?_ (RAllL.cons rfl ?_ (RAllL.cons rfl ?_ (RAllL.cons rfl ?_ (RAllL.cons rfl ?_ (RAllL.cons rfl ?_ (RAllL.cons rfl ?_ (RAllL.cons rfl ?_ (RAllL.cons rfl ?_ (RAllL.cons rfl ?_ (RAllL.cons rfl ?_ (RAllL.cons rfl ?_ (RAllL.cons rfl ?_ (RAllL.cons rfl ?_ (RAllL.cons rfl ?_ (RAllL.cons rfl ?_ (RAllL.none_))))))))))))))))
        · intro a kq_ wa K Q _ hI0 hp hK0
          have hI : Below w2.heap.size w2 wa := hI0
          have hK := fun v w' h1 (h2 : Below wa.heap.size wa w') (h3 : Below w2.heap.size w2 w') => hK0 v w' h1 (RelB.of_below h2) h3 (fun e => absurd e (by decide))
          have e2 := tmp_of (show a.eval (.tmp 2) = .pointer (some ⟨g, 0, none⟩) from hp.keep 2 (by kernel_rfl))
          go_simp
          exact hK _ _ rfl (Below.refl _ _) hI
        · intro a kq_ wa K Q _ hI0 hp hK0
          have hI : Below w2.heap.size w2 wa := hI0
          have hK := fun v w' h1 (h2 : Below wa.heap.size wa w') (h3 : Below w2.heap.size w2 w') => hK0 v w' h1 (RelB.of_below h2) h3 (fun e => absurd e (by decide))
          have e93 := tmp_of (show a.eval (.tmp 93) = .pointer (some ⟨g, 0, Option.none⟩) from hp.dep 0 93 (by kernel_rfl))
          have p0_ := below_cell hI p0
          go_simp
          exact hK _ _ rfl (Below.refl _ _) hI
        · intro a kq_ wa K Q _ hI0 hp hK0
          have hI : Below w2.heap.size w2 wa := hI0
          have hK := fun v w' h1 (h2 : Below wa.heap.size wa w') (h3 : Below w2.heap.size w2 w') => hK0 v w' h1 (RelB.of_below h2) h3 (fun e => absurd e (by decide))
          have e8 := tmp_of (show a.eval (.tmp 8) = .pointer (some ⟨ga, 0, none⟩) from hp.keep 8 (by kernel_rfl))
          go_simp
          exact hK _ _ rfl (Below.refl _ _) hI
        · intro a kq_ wa K Q _ hI0 hp hK0
          have hI : Below w2.heap.size w2 wa := hI0
          have hK := fun v w' h1 (h2 : Below wa.heap.size wa w') (h3 : Below w2.heap.size w2 w') => hK0 v w' h1 (RelB.of_below h2) h3 (fun e => absurd e (by decide))
          have e95 := tmp_of (show a.eval (.tmp 95) = .pointer (some ⟨ga, 1, Option.none⟩) from hp.dep 2 95 (by kernel_rfl))
          have u1_ := below_cell hI u1
          go_simp
          exact hK _ _ rfl (Below.refl _ _) hI
        · intro a kq_ wa K Q _ hI0 hp hK0
          have hI : Below w2.heap.size w2 wa := hI0
          have hK := fun v w' h1 (h2 : Below wa.heap.size wa w') (h3 : Below w2.heap.size w2 w') => hK0 v w' h1 (RelB.of_below h2) h3 (fun e => absurd e (by decide))
          have e94 := tmp_of (show a.eval (.tmp 94) = .slice (some ⟨bw, ow, none⟩) W.length c from hp.dep 1 94 (by kernel_rfl))
          have e96 := tmp_of (show a.eval (.tmp 96) = .int .i64 ny from hp.dep 3 96 (by kernel_rfl))
          go_simp
          exact hK _ _ rfl (Below.refl _ _) hI
        · intro a kq_ wa K Q _ hI0 hp hK0
          have hI : Below w2.heap.size w2 wa := hI0
          have hK := fun v w' h1 (h2 : Below wa.heap.size wa w') (h3 : Below w2.heap.size w2 w') => hK0 v w' h1 (RelB.of_below h2) h3 (fun e => absurd e (by decide))
          have e97 := tmp_of (show a.eval (.tmp 97) = .pointer (some ⟨bw, ow + ny * 2, Option.none⟩) from hp.dep 4 97 (by kernel_rfl))
          go_simp
          exact hK _ _ rfl (Below.refl _ _) hI
        · intro a kq_ wa K Q _ hI0 hp hK0
          have hI : Below w2.heap.size w2 wa := hI0
          have hK := fun v w' h1 (h2 : Below wa.heap.size wa w') (h3 : Below w2.heap.size w2 w') => hK0 v w' h1 (RelB.of_below h2) h3 (fun e => absurd e (by decide))
          have e98 := tmp_of (show a.eval (.tmp 98) = .pointer (some ⟨bw, ow + ny * 2 + 1, Option.none⟩) from hp.dep 5 98 (by kernel_rfl))
          have d1_ := below_cell hI d1
          go_simp
          exact hK _ _ rfl (Below.refl _ _) hI
        · intro a kq_ wa K Q _ hI0 hp hK0
          have hI : Below w2.heap.size w2 wa := hI0
          have hK := fun v w' h1 (h2 : Below wa.heap.size wa w') (h3 : Below w2.heap.size w2 w') => hK0 v w' h1 (RelB.of_below h2) h3 (fun e => absurd e (by decide))
          have e3 := tmp_of (show a.eval (.tmp 3) = .pointer (some ⟨g + 1, 0, none⟩) from hp.keep 3 (by kernel_rfl))
          go_simp
          exact hK _ _ rfl (Below.refl _ _) hI
        · intro a kq_ wa K Q _ hI0 hp hK0
          have hI : Below w2.heap.size w2 wa := hI0
          have hK := fun v w' h1 (h2 : Below wa.heap.size wa w') (h3 : Below w2.heap.size w2 w') => hK0 v w' h1 (RelB.of_below h2) h3 (fun e => absurd e (by decide))
          have e100 := tmp_of (show a.eval (.tmp 100) = .pointer (some ⟨g + 1, 2, Option.none⟩) from hp.dep 7 100 (by kernel_rfl))
          have q2_ := below_cell hI q2
          go_simp
          exact hK _ _ rfl (Below.refl _ _) hI
        · intro a kq_ wa K Q _ hI0 hp hK0
          have hI : Below w2.heap.size w2 wa := hI0
          have hK := fun v w' h1 (h2 : Below wa.heap.size wa w') (h3 : Below w2.heap.size w2 w') => hK0 v w' h1 (RelB.of_below h2) h3 (fun e => absurd e (by decide))
          have e99 := tmp_of (show a.eval (.tmp 99) = .slice A6 (thAt W ny).fs.length c6 from hp.dep 6 99 (by kernel_rfl))
          have e101 := tmp_of (show a.eval (.tmp 101) = .string t.s from hp.dep 8 101 (by kernel_rfl))
          go_simp
          refine (implFieldOf (HF6.out.below hI)).mono ?_
          rintro e wb ⟨rfl, hb⟩
          exact hK _ _ (show _ = (.tuple #[.agg #[.int .i64 xv, .int .i64 yv], .bool bo] : Value) from by rw [HO.out, HFV.out]) hb (ext_trans hI hb)
        · intro a kq_ wa K Q _ hI0 hp hK0
          have hI : Below w2.heap.size w2 wa := hI0
          have hK := fun v w' h1 (h2 : Below wa.heap.size wa w') (h3 : Below w2.heap.size w2 w') => hK0 v w' h1 (RelB.of_below h2) h3 (fun e => absurd e (by decide))
          exact op_move _ (.inl rfl) (hK _ _ (hp.dep 9 102 (by kernel_rfl)) (Below.refl _ _) hI)
        · intro a kq_ wa K Q _ hI0 hp hK0
          have hI : Below w2.heap.size w2 wa := hI0
          have hK := fun v w' h1 (h2 : Below wa.heap.size wa w') (h3 : Below w2.heap.size w2 w') => hK0 v w' h1 (RelB.of_below h2) h3 (fun e => absurd e (by decide))
          have e92 := tmp_of (show a.eval (.tmp 92) = .tuple #[.agg #[.int .i64 xv, .int .i64 yv], .bool bo] from hp.dep 10 92 (by kernel_rfl))
          go_simp
          exact hK _ _ rfl (Below.refl _ _) hI
        · intro a kq_ wa K Q _ hI0 hp hK0
          have hI : Below w2.heap.size w2 wa := hI0
          have hK := fun v w' h1 (h2 : Below wa.heap.size wa w') (h3 : Below w2.heap.size w2 w') => hK0 v w' h1 (RelB.of_below h2) h3 (fun e => absurd e (by decide))
          have e92 := tmp_of (show a.eval (.tmp 92) = .tuple #[.agg #[.int .i64 xv, .int .i64 yv], .bool bo] from hp.dep 10 92 (by kernel_rfl))
          go_simp
          exact hK _ _ rfl (Below.refl _ _) hI
        · intro a kq_ wa K Q _ hI0 hp hK0
          have hI : Below w2.heap.size w2 wa := hI0
          have hK := fun v w' h1 (h2 : Below wa.heap.size wa w') (h3 : Below w2.heap.size w2 w') => hK0 v w' h1 (RelB.of_below h2) h3 (fun e => absurd e (by decide))
          go_simp
          exact hK _ _ ⟨_, rfl, hI.size, _, heap_alloc_new _ _, rfl⟩ (below_alloc _ _) (ext_alloc hI _)
        · intro a kq_ wa K Q _ hI0 hp hK0
          have hI : Below w2.heap.size w2 wa := hI0
          obtain ⟨g8, eB, hgB, cs8, hg8, hcs8⟩ := (show BoxV w2 87 2 wa (a.eval (.tmp 10)) from hp.base (by kernel_rfl))
          have eB2 := tmp_of eB
          have e103 := tmp_of (show a.eval (.tmp 103) = .agg #[.int .i64 xv, .int .i64 yv] from hp.dep 11 103 (by kernel_rfl))
          obtain ⟨hr8, hb8, hg9⟩ := nbox_put (N := 14) (.int .i64 xv) (.int .i64 yv) hgB hg8 hcs8 hI
          obtain ⟨c80, c81, d80, d81, f80, f81⟩ := nbox_cells hg8 hcs8
          go_simp
          exact hK0 (.tuple #[]) _ trivial hr8 hb8 (fun _ => ⟨g8, eB, hgB, hg9⟩)
        · intro a kq_ wa K Q _ hI0 hp hK0
          have hI : Below w2.heap.size w2 wa := hI0
          have hK := fun v w' h1 (h2 : Below wa.heap.size wa w') (h3 : Below w2.heap.size w2 w') => hK0 v w' h1 (RelB.of_below h2) h3 (fun e => absurd e (by decide))
          exact op_move _ (.inr rfl) (hK _ _ (hp.dep 12 104 (by kernel_rfl)) (Below.refl _ _) hI)
      case fin26 =>
        intro f w3 hT hBx hI0
        have hI : Below w2.heap.size w2 w3 := hI0
        have hr : (f 15) = .bool bo := hT 15 (by decide) rfl
        clear hT hI0
        obtain ⟨gv, eV, hgV, hqV⟩ := hBx
        simp only [putAll, eV, hr]
        have HB3 := Lib.hid (ext_trans HB2.out hI)
        have HQ3 := Lib.hid (block_in HQ3.out hI)
        have HQ2c := Lib.hid (block_in HQ2b.out hI)
        have hgv : gv ≠ g + 1 + 1 := by have := HGB.out.2; have := HI2.out.size; omega
        have hgv2 := Ne.symm hgv
        clear hr eV p0 p1 p2 p3 p4 q0 q1 q2 q3 z0 z1 f0 f1 u0 u1 d1 hI
        obtain ⟨v0, v1⟩ := cells2 hqV
        obtain ⟨q0, q1, q2, q3⟩ := cells4 HQ2c.out
        obtain ⟨z0, z1⟩ := cells2 HQ3.out
        obtain ⟨f0, f1⟩ := froz2 HQ3.out
        clear hqV
        go_simp
        cases bo
        · have HE : Hid (ev (m + 1 + 1) W r t = (0, 0, 2)) := Lib.hid (by
            rw [HEE.out]
            have := HBO.out
            cases o with
            | none => rfl
            | some v => cases this)
          go_wp2
          obtain ⟨r0, r1⟩ := cells2 (box_put (.int .i64 (0)) (.int .i64 (0)) HQ3.out rfl)
          exact bodyPost_ret (v := .tuple #[.agg #[.int .i64 (0), .int .i64 (0)], .int .i64 (2)]) (by simp [results, go_sem, r0, r1]) rfl ⟨by rw [HE.out]; rfl, box_put_below _ _ HGB.out.1 HB3.out⟩
        · have HE : Hid (ev (m + 1 + 1) W r t = (xv, yv, 0)) := Lib.hid (by
            rw [HEE.out]
            have h1 := HBO.out
            have h2 := HXY.out
            cases o with
            | none => cases h1
            | some v =>
              have e : v = (xv, yv) := h2
              rw [e]; rfl)
          go_wp2
          obtain ⟨r0, r1⟩ := cells2 (box_put (.int .i64 (xv)) (.int .i64 (yv)) HQ3.out rfl)
          exact bodyPost_ret (v := .tuple #[.agg #[.int .i64 (xv), .int .i64 (yv)], .int .i64 (0)]) (by simp [results, go_sem, r0, r1]) rfl ⟨by rw [HE.out]; rfl, box_put_below _ _ HGB.out.1 HB3.out⟩
    · have gb : (fa != 0) = true := by simpa using e1
      have HE := Lib.hid (HF0.out e1)
      clear e1
      go_wp2
      obtain ⟨r0, r1⟩ := cells2 (box_put (.int .i64 (0)) (.int .i64 (0)) HQ3.out rfl)
      exact bodyPost_ret (v := .tuple #[.agg #[.int .i64 (0), .int .i64 (0)], .int .i64 (fa)]) (by simp [results, go_sem, r0, r1]) rfl ⟨by rw [HE.out]; rfl, box_put_below _ _ HGB.out.1 HB2.out⟩
set_option maxRecDepth 100000 in
set_option maxHeartbeats 8000000 in
theorem va_9 {m : Nat} (hQ : EvQ m) {W : WL} {r : Rq} {A B C : Option Addr} {c c2 ct : Nat} {t : Ex} {w : World} (hW : wlR w A W) (hR : fdR w B r.fs) (hU : exW (m + 1) w C t.ps) (hO : OkW W r) (hg : gdR (m + 1 + 1) t = true) (k : t.k = 9) :
    Calls Tryz.prog 76 #[.agg #[.slice A W.length c, .int .i64 r.who, .int .i64 r.act, .int .i64 r.what, .slice B r.fs.length c2], .agg #[.int .i64 t.k, .int .i64 t.n, .string t.s, .slice C t.ps.length ct]] w fun e w' => e = .returned (evVal (ev (m + 1 + 1) W r t)) ∧ Below w.heap.size w w' := by
  obtain ⟨X, hX⟩ : ∃ X, X = ((w.alloc (.cells #[.slice A W.length c, .int .i64 r.who, .int .i64 r.act, .int .i64 r.what, .slice B r.fs.length c2] 110)).alloc (.cells #[.int .i64 t.k, .int .i64 t.n, .string t.s, .slice C t.ps.length ct] 36)).alloc (.cells #[.int .i64 0, .int .i64 0] 87) := ⟨_, rfl⟩
  obtain ⟨g, hgg⟩ : ∃ g, g = w.heap.size := ⟨_, rfl⟩
  have hB : Below w.heap.size w X := by rw [hX]; (repeat (first | exact Below.refl _ _ | refine ext_alloc ?_ _ | refine Below.setCell ?_ (by simp) _))
  have hq1 : X.heap[g]? = some (.cells #[.slice A W.length c, .int .i64 r.who, .int .i64 r.act, .int .i64 r.what, .slice B r.fs.length c2] 110 (0, 0)) := by rw [hX, hgg]; exact block_in (block_in (heap_alloc_new _ _) (below_alloc _ _)) (below_alloc _ _)
  have hq2 : X.heap[g + 1]? = some (.cells #[.int .i64 t.k, .int .i64 t.n, .string t.s, .slice C t.ps.length ct] 36 (0, 0)) := by rw [hX, hgg]; exact block_in (heap_alloc_at (by simp)) (below_alloc _ _)
  have hq3 : X.heap[g + 1 + 1]? = some (.cells #[.int .i64 0, .int .i64 0] 87 (0, 0)) := by rw [hX, hgg]; exact heap_alloc_at (by simp)
  replace hW := hW.below hB
  replace hR := hR.below hB
  replace hU := hU.below hB
  have hlW := hW.len
  have hlR := hR.len
  have hGB : w.heap.size ≤ g + 1 + 1 ∧ g + 1 + 1 < X.heap.size := ⟨by omega, by rw [hX, hgg]; simp⟩
  have har := gd_len hg
  have HX := Lib.hid hX
  have HG := Lib.hid hgg
  have HQ1 := Lib.hid hq1
  have HQ2 := Lib.hid hq2
  have HQ3 := Lib.hid hq3
  have HGB := Lib.hid hGB
  have HB := Lib.hid hB
  have HGD := Lib.hid hg
  obtain ⟨p0, p1, p2, p3, p4⟩ := cells5 hq1
  obtain ⟨q0, q1, q2, q3⟩ := cells4 hq2
  obtain ⟨z0, z1⟩ := cells2 hq3
  obtain ⟨f0, f1⟩ := froz2 hq3
  clear hX hgg hq1 hq2 hq3 hB hGB hg
  rw [k] at har
  have hn1 : t.ps.length = 1 := har
  obtain ⟨b, off, A3, c3, rfl, hfd, a0, a1, a2, a3⟩ := ex_one hU hn1
  have hg0 := gd_part HGD.out (k := 0) (by omega)
  have hlt0 : 0 < t.ps.length := by omega
  have hlm : t.ps.length ≤ 9223372036854775807 := by omega
  obtain ⟨va, hva⟩ : ∃ v, evK (ev (m + 1) W r (exAt t.ps 0)) 3 = v := ⟨_, rfl⟩
  have HA : Hid (∀ (Y : World) (C' : Option Addr) (c' : Nat), Below X.heap.size X Y → exW m Y C' (exAt t.ps 0).ps → Calls Tryz.prog 91 #[.agg #[.slice A W.length c, .int .i64 r.who, .int .i64 r.act, .int .i64 r.what, .slice B r.fs.length c2], .agg #[.int .i64 (exAt t.ps 0).k, .int .i64 (exAt t.ps 0).n, .string (exAt t.ps 0).s, .slice C' (exAt t.ps 0).ps.length c'], .int .i64 3] Y fun e w' => e = .returned (evVal va) ∧ Below Y.heap.size Y w') := Lib.hid (fun Y C' c' hb h => by have := kinded_any (c := c) (c2 := c2) (ct := c') (kd := 3) hQ (hW.below hb) (hR.below hb) h hO hg0; rw [hva] at this; exact this)
  obtain ⟨x, y, fa⟩ := va
  unfold evVal at HA
  have HF0 : Hid (fa ≠ 0 → ev (m + 1 + 1) W r t = (0, 0, fa)) := Lib.hid (fun h => by rw [ev_k9 k, hva, if_pos h]; rfl)
  have HF1 : Hid (fa = 0 → ∃ ny : Nat, ny < W.length ∧ y = (ny : Int) ∧ ev (m + 1 + 1) W r t = evB (fdOf (thAt W ny).fs t.s).isSome) := Lib.hid (fun h => by
    obtain ⟨e, e3⟩ := evk_zero hva h
    have hv := ev_val hO (m + 1) _ hg0 (by rw [e])
    rw [e] at hv
    subst e3
    have hb : 0 ≤ y ∧ y < W.length := vl_3 hv
    refine ⟨y.toNat, by omega, by omega, ?_⟩
    rw [ev_k9 k, hva, if_neg (by simpa using h), e])
  have HFD := Lib.hid hfd
  obtain ⟨bw, ow, rfl, hcw⟩ := hW.cells (ok_pos hO)
  have HCW := Lib.hid hcw
  have kb1 : (t.k == 1) = false := by rw [k]; rfl
  have kb2 : (t.k == 2) = false := by rw [k]; rfl
  have kb3 : (t.k == 3) = false := by rw [k]; rfl
  have kb4 : (t.k == 4) = false := by rw [k]; rfl
  have kb5 : (t.k == 5) = false := by rw [k]; rfl
  have kb6 : (t.k == 6) = false := by rw [k]; rfl
  have kb7 : (t.k == 7) = false := by rw [k]; rfl
  have kb8 : (t.k == 8) = false := by rw [k]; rfl
  have kb9 : (t.k == 9) = true := by rw [k]; rfl
  have kb10 : (t.k == 10) = false := by rw [k]; rfl
  have kb11 : (t.k == 11) = false := by rw [k]; rfl
  have kb12 : (t.k == 12) = false := by rw [k]; rfl
  have kb13 : (t.k == 13) = false := by rw [k]; rfl
  have kb14 : (t.k == 14) = false := by rw [k]; rfl
  have kb15 : (t.k == 15) = false := by rw [k]; rfl
  clear hU hW hR hO k har hva hQ hn1 hfd hg0 hcw
  go_enter Tryz.func76, Tryz.ntmps76
  go_wp2_with fail
  rw [← HX.out, ← HG.out]
  refine wp_region_nbox X 87 2 9 10 8 #[.int .i64 x, .int .i64 y] (fun i wz vz => match i with | 9 => BoxV X 87 2 wz vz | 0 => vz = .agg #[.slice (some ⟨bw, ow, none⟩) W.length c, .int .i64 r.who, .int .i64 r.act, .int .i64 r.what, .slice B r.fs.length c2] | 1 => vz = .pointer (some ⟨g + 1, 3, Option.none⟩) | 2 => vz = .slice (some ⟨b, off, none⟩) t.ps.length ct | 3 => vz = .pointer (some ⟨b, off, Option.none⟩) | 4 => vz = .agg #[.int .i64 (exAt t.ps 0).k, .int .i64 (exAt t.ps 0).n, .string (exAt t.ps 0).s, .slice A3 (exAt t.ps 0).ps.length c3] | 5 => vz = .tuple #[.agg #[.int .i64 x, .int .i64 y], .int .i64 fa] | 6 => vz = .tuple #[.agg #[.int .i64 x, .int .i64 y], .int .i64 fa] | 7 => vz = .agg #[.int .i64 x, .int .i64 y] | 8 => vz = .int .i64 fa | 11 => vz = .int .i64 fa | _ => True) (by kernel_rfl) (by kernel_rfl) (by kernel_rfl) rfl (by kernel_rfl) (fun _ _ h => h) (fun _ _ h => h) ?stab23 ?all23 (by decide) ?fin23
  case stab23 =>
    intro i wa wb v hne hT
    match i, hne, hT with
    | 0, _, hT => exact hT
    | 1, _, hT => exact hT
    | 2, _, hT => exact hT
    | 3, _, hT => exact hT
    | 4, _, hT => exact hT
    | 5, _, hT => exact hT
    | 6, _, hT => exact hT
    | 7, _, hT => exact hT
    | 8, _, hT => exact hT
    | 11, _, hT => exact hT
    | 9, hne, _ => exact absurd rfl hne
    | 10, _, _ => trivial
    | n + 12, _, _ => trivial
  case all23 =>
    refine RAllL.cons rfl ?_ (RAllL.cons rfl ?_ (RAllL.cons rfl ?_ (RAllL.cons rfl ?_ (RAllL.cons rfl ?_ (RAllL.cons rfl ?_ (RAllL.cons rfl ?_ (RAllL.cons rfl ?_ (RAllL.cons rfl ?_ (RAllL.cons rfl ?_ (RAllL.cons rfl ?_ (RAllL.cons rfl ?_ (RAllL.none_))))))))))))
    · intro a kq_ wa K Q _ hI0 hp hK0
      have hI : Below X.heap.size X wa := hI0
      have hK := fun v w' h1 (h2 : Below wa.heap.size wa w') (h3 : Below X.heap.size X w') => hK0 v w' h1 (RelB.of_below h2) h3 (fun e => absurd e (by decide))
      have e2 := tmp_of (show a.eval (.tmp 2) = .pointer (some ⟨g, 0, none⟩) from hp.keep 2 (by kernel_rfl))
      have p0_ := below_cell hI p0
      have p1_ := below_cell hI p1
      have p2_ := below_cell hI p2
      have p3_ := below_cell hI p3
      have p4_ := below_cell hI p4
      go_simp
      exact hK _ _ rfl (Below.refl _ _) hI
    · intro a kq_ wa K Q _ hI0 hp hK0
      have hI : Below X.heap.size X wa := hI0
      have hK := fun v w' h1 (h2 : Below wa.heap.size wa w') (h3 : Below X.heap.size X w') => hK0 v w' h1 (RelB.of_below h2) h3 (fun e => absurd e (by decide))
      have e3 := tmp_of (show a.eval (.tmp 3) = .pointer (some ⟨g + 1, 0, none⟩) from hp.keep 3 (by kernel_rfl))
      go_simp
      exact hK _ _ rfl (Below.refl _ _) hI
    · intro a kq_ wa K Q _ hI0 hp hK0
      have hI : Below X.heap.size X wa := hI0
      have hK := fun v w' h1 (h2 : Below wa.heap.size wa w') (h3 : Below X.heap.size X w') => hK0 v w' h1 (RelB.of_below h2) h3 (fun e => absurd e (by decide))
      have e81 := tmp_of (show a.eval (.tmp 81) = .pointer (some ⟨g + 1, 3, Option.none⟩) from hp.dep 1 81 (by kernel_rfl))
      have q3_ := below_cell hI q3
      go_simp
      exact hK _ _ rfl (Below.refl _ _) hI
    · intro a kq_ wa K Q _ hI0 hp hK0
      have hI : Below X.heap.size X wa := hI0
      have hK := fun v w' h1 (h2 : Below wa.heap.size wa w') (h3 : Below X.heap.size X w') => hK0 v w' h1 (RelB.of_below h2) h3 (fun e => absurd e (by decide))
      have e82 := tmp_of (show a.eval (.tmp 82) = .slice (some ⟨b, off, none⟩) t.ps.length ct from hp.dep 2 82 (by kernel_rfl))
      go_simp
      exact hK _ _ rfl (Below.refl _ _) hI
    · intro a kq_ wa K Q _ hI0 hp hK0
      have hI : Below X.heap.size X wa := hI0
      have hK := fun v w' h1 (h2 : Below wa.heap.size wa w') (h3 : Below X.heap.size X w') => hK0 v w' h1 (RelB.of_below h2) h3 (fun e => absurd e (by decide))
      have e83 := tmp_of (show a.eval (.tmp 83) = .pointer (some ⟨b, off, Option.none⟩) from hp.dep 3 83 (by kernel_rfl))
      have a0_ := below_cell hI a0
      have a1_ := below_cell hI a1
      have a2_ := below_cell hI a2
      have a3_ := below_cell hI a3
      go_simp
      exact hK _ _ rfl (Below.refl _ _) hI
    · intro a kq_ wa K Q _ hI0 hp hK0
      have hI : Below X.heap.size X wa := hI0
      have hK := fun v w' h1 (h2 : Below wa.heap.size wa w') (h3 : Below X.heap.size X w') => hK0 v w' h1 (RelB.of_below h2) h3 (fun e => absurd e (by decide))
      have e80 := tmp_of (show a.eval (.tmp 80) = .agg #[.slice (some ⟨bw, ow, none⟩) W.length c, .int .i64 r.who, .int .i64 r.act, .int .i64 r.what, .slice B r.fs.length c2] from hp.dep 0 80 (by kernel_rfl))
      have e84 := tmp_of (show a.eval (.tmp 84) = .agg #[.int .i64 (exAt t.ps 0).k, .int .i64 (exAt t.ps 0).n, .string (exAt t.ps 0).s, .slice A3 (exAt t.ps 0).ps.length c3] from hp.dep 4 84 (by kernel_rfl))
      go_simp
      refine (HA.out _ _ _ hI (HFD.out.below hI)).mono ?_
      rintro e wb ⟨rfl, hb⟩
      exact hK _ _ (show _ = (.tuple #[.agg #[.int .i64 x, .int .i64 y], .int .i64 fa] : Value) from rfl) hb (ext_trans hI hb)
    · intro a kq_ wa K Q _ hI0 hp hK0
      have hI : Below X.heap.size X wa := hI0
      have hK := fun v w' h1 (h2 : Below wa.heap.size wa w') (h3 : Below X.heap.size X w') => hK0 v w' h1 (RelB.of_below h2) h3 (fun e => absurd e (by decide))
      exact op_move _ (.inl rfl) (hK _ _ (hp.dep 5 85 (by kernel_rfl)) (Below.refl _ _) hI)
    · intro a kq_ wa K Q _ hI0 hp hK0
      have hI : Below X.heap.size X wa := hI0
      have hK := fun v w' h1 (h2 : Below wa.heap.size wa w') (h3 : Below X.heap.size X w') => hK0 v w' h1 (RelB.of_below h2) h3 (fun e => absurd e (by decide))
      have e79 := tmp_of (show a.eval (.tmp 79) = .tuple #[.agg #[.int .i64 x, .int .i64 y], .int .i64 fa] from hp.dep 6 79 (by kernel_rfl))
      go_simp
      exact hK _ _ rfl (Below.refl _ _) hI
    · intro a kq_ wa K Q _ hI0 hp hK0
      have hI : Below X.heap.size X wa := hI0
      have hK := fun v w' h1 (h2 : Below wa.heap.size wa w') (h3 : Below X.heap.size X w') => hK0 v w' h1 (RelB.of_below h2) h3 (fun e => absurd e (by decide))
      have e79 := tmp_of (show a.eval (.tmp 79) = .tuple #[.agg #[.int .i64 x, .int .i64 y], .int .i64 fa] from hp.dep 6 79 (by kernel_rfl))
      go_simp
      exact hK _ _ rfl (Below.refl _ _) hI
    · intro a kq_ wa K Q _ hI0 hp hK0
      have hI : Below X.heap.size X wa := hI0
      have hK := fun v w' h1 (h2 : Below wa.heap.size wa w') (h3 : Below X.heap.size X w') => hK0 v w' h1 (RelB.of_below h2) h3 (fun e => absurd e (by decide))
      go_simp
      exact hK _ _ ⟨_, rfl, hI.size, _, heap_alloc_new _ _, rfl⟩ (below_alloc _ _) (ext_alloc hI _)
    · intro a kq_ wa K Q _ hI0 hp hK0
      have hI : Below X.heap.size X wa := hI0
      obtain ⟨g8, eB, hgB, cs8, hg8, hcs8⟩ := (show BoxV X 87 2 wa (a.eval (.tmp 8)) from hp.base (by kernel_rfl))
      have eB2 := tmp_of eB
      have e86 := tmp_of (show a.eval (.tmp 86) = .agg #[.int .i64 x, .int .i64 y] from hp.dep 7 86 (by kernel_rfl))
      obtain ⟨hr8, hb8, hg9⟩ := nbox_put (N := 10) (.int .i64 x) (.int .i64 y) hgB hg8 hcs8 hI
      obtain ⟨c80, c81, d80, d81, f80, f81⟩ := nbox_cells hg8 hcs8
      go_simp
      exact hK0 (.tuple #[]) _ trivial hr8 hb8 (fun _ => ⟨g8, eB, hgB, hg9⟩)
    · intro a kq_ wa K Q _ hI0 hp hK0
      have hI : Below X.heap.size X wa := hI0
      have hK := fun v w' h1 (h2 : Below wa.heap.size wa w') (h3 : Below X.heap.size X w') => hK0 v w' h1 (RelB.of_below h2) h3 (fun e => absurd e (by decide))
      exact op_move _ (.inr rfl) (hK _ _ (hp.dep 8 87 (by kernel_rfl)) (Below.refl _ _) hI)
  case fin23 =>
    intro f w2 hT hBx hI0
    have hI : Below X.heap.size X w2 := hI0
    have hr : (f 11) = .int .i64 fa := hT 11 (by decide) rfl
    clear hT hI0
    obtain ⟨ga, eA, hgA, hqA⟩ := hBx
    simp only [putAll, eA, hr]
    have HB2 := Lib.hid (ext_trans HB.out hI)
    have HI2 := Lib.hid hI
    have HQ3 := Lib.hid (block_in HQ3.out hI)
    have HQ2b := Lib.hid (block_in HQ2.out hI)
    have HQ1b := Lib.hid (block_in HQ1.out hI)
    obtain ⟨u0, u1⟩ := cells2 hqA
    have HQA := Lib.hid hqA
    have hga : ga ≠ g + 1 + 1 := by have := HGB.out.2; omega
    have hga2 := Ne.symm hga
    clear hr eA hqA a0 a1 a2 a3 p0 p1 p2 p3 p4 q0 q1 q2 q3 z0 z1 f0 f1
    obtain ⟨p0, p1, p2, p3, p4⟩ := cells5 HQ1b.out
    obtain ⟨q0, q1, q2, q3⟩ := cells4 HQ2b.out
    obtain ⟨z0, z1⟩ := cells2 HQ3.out
    obtain ⟨f0, f1⟩ := froz2 HQ3.out
    clear hI
    go_simp
    by_cases e1 : fa = 0
    · have gb : (fa != 0) = false := by simpa using e1
      obtain ⟨ny, hny, rfl, hE⟩ := HF1.out e1
      obtain ⟨A5, c5, A6, c6, _, hf6, _, d1⟩ := HCW.out ny hny
      replace d1 := below_cell HI2.out d1
      have HF6 := Lib.hid (hf6.below HI2.out)
      obtain ⟨o, ho⟩ : ∃ o, fdOf (thAt W ny).fs t.s = o := ⟨_, rfl⟩
      rw [ho] at hE
      have HO := Lib.hid ho
      have HEE := Lib.hid hE
      obtain ⟨⟨xv, yv⟩, hxy⟩ : ∃ v, fdV o = v := ⟨_, rfl⟩
      obtain ⟨bo, hbo⟩ : ∃ b, o.isSome = b := ⟨_, rfl⟩
      have HFV : Hid (fdVal o = .tuple #[.agg #[.int .i64 xv, .int .i64 yv], .bool bo]) := Lib.hid (by rw [fdVal, hxy, hbo])
      have HXY := Lib.hid hxy
      have HBO := Lib.hid hbo
      clear e1 hf6 ho hE hxy hbo hlW
      have hnyi : (ny : Int) < W.length := by omega
      go_wp2
      refine wp_region_nbox w2 87 2 13 14 10 #[.int .i64 xv, .int .i64 yv] (fun i wz vz => match i with | 13 => BoxV w2 87 2 wz vz | 0 => vz = .pointer (some ⟨g, 0, Option.none⟩) | 1 => vz = .slice (some ⟨bw, ow, none⟩) W.length c | 2 => vz = .pointer (some ⟨ga, 1, Option.none⟩) | 3 => vz = .int .i64 ny | 4 => vz = .pointer (some ⟨bw, ow + ny * 2, Option.none⟩) | 5 => vz = .pointer (some ⟨bw, ow + ny * 2 + 1, Option.none⟩) | 6 => vz = .slice A6 (thAt W ny).fs.length c6 | 7 => vz = .pointer (some ⟨g + 1, 2, Option.none⟩) | 8 => vz = .string t.s | 9 => vz = .tuple #[.agg #[.int .i64 xv, .int .i64 yv], .bool bo] | 10 => vz = .tuple #[.agg #[.int .i64 xv, .int .i64 yv], .bool bo] | 11 => vz = .agg #[.int .i64 xv, .int .i64 yv] | 12 => vz = .bool bo | 15 => vz = .bool bo | _ => True) (by kernel_rfl) (by kernel_rfl) (by kernel_rfl) rfl (by kernel_rfl) (fun _ _ h => h) (fun _ _ h => h) ?stab26 ?all26 (by decide) ?fin26
      case stab26 =>
        intro i wa wb v hne hT
        match i, hne, hT with
        | 0, _, hT => exact hT
        | 1, _, hT => exact hT
        | 2, _, hT => exact hT
        | 3, _, hT => exact hT
        | 4, _, hT => exact hT
        | 5, _, hT => exact hT
        | 6, _, hT => exact hT
        | 7, _, hT => exact hT
        | 8, _, hT => exact hT
        | 9, _, hT => exact hT
        | 10, _, hT => exact hT
        | 11, _, hT => exact hT
        | 12, _, hT => exact hT
        | 15, _, hT => exact hT
        | 13, hne, _ => exact absurd rfl hne
        | 14, _, _ => trivial
        | n + 16, _, _ => trivial
      case all26 =>
        refine RAllL.cons rfl ?_ (RAllL.cons rfl ?_ (RAllL.cons rfl ?_ (RAllL.cons rfl ?_ (RAllL.cons rfl ?_ (RAllL.cons rfl ?_ (RAllL.cons rfl ?_ (RAllL.cons rfl ?_ (RAllL.cons rfl ?_ (RAllL.cons rfl ?_ (RAllL.cons rfl ?_ (RAllL.cons rfl ?_ (RAllL.cons rfl ?_ (RAllL.cons rfl ?_ (RAllL.cons rfl ?_ (RAllL.cons rfl ?_ (RAllL.none_))))))))))))))))
        · intro a kq_ wa K Q _ hI0 hp hK0
          have hI : Below w2.heap.size w2 wa := hI0
          have hK := fun v w' h1 (h2 : Below wa.heap.size wa w') (h3 : Below w2.heap.size w2 w') => hK0 v w' h1 (RelB.of_below h2) h3 (fun e => absurd e (by decide))
          have e2 := tmp_of (show a.eval (.tmp 2) = .pointer (some ⟨g, 0, none⟩) from hp.keep 2 (by kernel_rfl))
          go_simp
          exact hK _ _ rfl (Below.refl _ _) hI
        · intro a kq_ wa K Q _ hI0 hp hK0
          have hI : Below w2.heap.size w2 wa := hI0
          have hK := fun v w' h1 (h2 : Below wa.heap.size wa w') (h3 : Below w2.heap.size w2 w') => hK0 v w' h1 (RelB.of_below h2) h3 (fun e => absurd e (by decide))
          have e93 := tmp_of (show a.eval (.tmp 93) = .pointer (some ⟨g, 0, Option.none⟩) from hp.dep 0 93 (by kernel_rfl))
          have p0_ := below_cell hI p0
          go_simp
          exact hK _ _ rfl (Below.refl _ _) hI
        · intro a kq_ wa K Q _ hI0 hp hK0
          have hI : Below w2.heap.size w2 wa := hI0
          have hK := fun v w' h1 (h2 : Below wa.heap.size wa w') (h3 : Below w2.heap.size w2 w') => hK0 v w' h1 (RelB.of_below h2) h3 (fun e => absurd e (by decide))
          have e8 := tmp_of (show a.eval (.tmp 8) = .pointer (some ⟨ga, 0, none⟩) from hp.keep 8 (by kernel_rfl))
          go_simp
          exact hK _ _ rfl (Below.refl _ _) hI
        · intro a kq_ wa K Q _ hI0 hp hK0
          have hI : Below w2.heap.size w2 wa := hI0
          have hK := fun v w' h1 (h2 : Below wa.heap.size wa w') (h3 : Below w2.heap.size w2 w') => hK0 v w' h1 (RelB.of_below h2) h3 (fun e => absurd e (by decide))
          have e95 := tmp_of (show a.eval (.tmp 95) = .pointer (some ⟨ga, 1, Option.none⟩) from hp.dep 2 95 (by kernel_rfl))
          have u1_ := below_cell hI u1
          go_simp
          exact hK _ _ rfl (Below.refl _ _) hI
        · intro a kq_ wa K Q _ hI0 hp hK0
          have hI : Below w2.heap.size w2 wa := hI0
          have hK := fun v w' h1 (h2 : Below wa.heap.size wa w') (h3 : Below w2.heap.size w2 w') => hK0 v w' h1 (RelB.of_below h2) h3 (fun e => absurd e (by decide))
          have e94 := tmp_of (show a.eval (.tmp 94) = .slice (some ⟨bw, ow, none⟩) W.length c from hp.dep 1 94 (by kernel_rfl))
          have e96 := tmp_of (show a.eval (.tmp 96) = .int .i64 ny from hp.dep 3 96 (by kernel_rfl))
          go_simp
          exact hK _ _ rfl (Below.refl _ _) hI
        · intro a kq_ wa K Q _ hI0 hp hK0
          have hI : Below w2.heap.size w2 wa := hI0
          have hK := fun v w' h1 (h2 : Below wa.heap.size wa w') (h3 : Below w2.heap.size w2 w') => hK0 v w' h1 (RelB.of_below h2) h3 (fun e => absurd e (by decide))
          have e97 := tmp_of (show a.eval (.tmp 97) = .pointer (some ⟨bw, ow + ny * 2, Option.none⟩) from hp.dep 4 97 (by kernel_rfl))
          go_simp
          exact hK _ _ rfl (Below.refl _ _) hI
        · intro a kq_ wa K Q _ hI0 hp hK0
          have hI : Below w2.heap.size w2 wa := hI0
          have hK := fun v w' h1 (h2 : Below wa.heap.size wa w') (h3 : Below w2.heap.size w2 w') => hK0 v w' h1 (RelB.of_below h2) h3 (fun e => absurd e (by decide))
          have e98 := tmp_of (show a.eval (.tmp 98) = .pointer (some ⟨bw, ow + ny * 2 + 1, Option.none⟩) from hp.dep 5 98 (by kernel_rfl))
          have d1_ := below_cell hI d1
          go_simp
          exact hK _ _ rfl (Below.refl _ _) hI
        · intro a kq_ wa K Q _ hI0 hp hK0
          have hI : Below w2.heap.size w2 wa := hI0
          have hK := fun v w' h1 (h2 : Below wa.heap.size wa w') (h3 : Below w2.heap.size w2 w') => hK0 v w' h1 (RelB.of_below h2) h3 (fun e => absurd e (by decide))
          have e3 := tmp_of (show a.eval (.tmp 3) = .pointer (some ⟨g + 1, 0, none⟩) from hp.keep 3 (by kernel_rfl))
          go_simp
          exact hK _ _ rfl (Below.refl _ _) hI
        · intro a kq_ wa K Q _ hI0 hp hK0
          have hI : Below w2.heap.size w2 wa := hI0
          have hK := fun v w' h1 (h2 : Below wa.heap.size wa w') (h3 : Below w2.heap.size w2 w') => hK0 v w' h1 (RelB.of_below h2) h3 (fun e => absurd e (by decide))
          have e100 := tmp_of (show a.eval (.tmp 100) = .pointer (some ⟨g + 1, 2, Option.none⟩) from hp.dep 7 100 (by kernel_rfl))
          have q2_ := below_cell hI q2
          go_simp
          exact hK _ _ rfl (Below.refl _ _) hI
        · intro a kq_ wa K Q _ hI0 hp hK0
          have hI : Below w2.heap.size w2 wa := hI0
          have hK := fun v w' h1 (h2 : Below wa.heap.size wa w') (h3 : Below w2.heap.size w2 w') => hK0 v w' h1 (RelB.of_below h2) h3 (fun e => absurd e (by decide))
          have e99 := tmp_of (show a.eval (.tmp 99) = .slice A6 (thAt W ny).fs.length c6 from hp.dep 6 99 (by kernel_rfl))
          have e101 := tmp_of (show a.eval (.tmp 101) = .string t.s from hp.dep 8 101 (by kernel_rfl))
          go_simp
          refine (implFieldOf (HF6.out.below hI)).mono ?_
          rintro e wb ⟨rfl, hb⟩
          exact hK _ _ (show _ = (.tuple #[.agg #[.int .i64 xv, .int .i64 yv], .bool bo] : Value) from by rw [HO.out, HFV.out]) hb (ext_trans hI hb)
        · intro a kq_ wa K Q _ hI0 hp hK0
          have hI : Below w2.heap.size w2 wa := hI0
          have hK := fun v w' h1 (h2 : Below wa.heap.size wa w') (h3 : Below w2.heap.size w2 w') => hK0 v w' h1 (RelB.of_below h2) h3 (fun e => absurd e (by decide))
          exact op_move _ (.inl rfl) (hK _ _ (hp.dep 9 102 (by kernel_rfl)) (Below.refl _ _) hI)
        · intro a kq_ wa K Q _ hI0 hp hK0
          have hI : Below w2.heap.size w2 wa := hI0
          have hK := fun v w' h1 (h2 : Below wa.heap.size wa w') (h3 : Below w2.heap.size w2 w') => hK0 v w' h1 (RelB.of_below h2) h3 (fun e => absurd e (by decide))
          have e92 := tmp_of (show a.eval (.tmp 92) = .tuple #[.agg #[.int .i64 xv, .int .i64 yv], .bool bo] from hp.dep 10 92 (by kernel_rfl))
          go_simp
          exact hK _ _ rfl (Below.refl _ _) hI
        · intro a kq_ wa K Q _ hI0 hp hK0
          have hI : Below w2.heap.size w2 wa := hI0
          have hK := fun v w' h1 (h2 : Below wa.heap.size wa w') (h3 : Below w2.heap.size w2 w') => hK0 v w' h1 (RelB.of_below h2) h3 (fun e => absurd e (by decide))
          have e92 := tmp_of (show a.eval (.tmp 92) = .tuple #[.agg #[.int .i64 xv, .int .i64 yv], .bool bo] from hp.dep 10 92 (by kernel_rfl))
          go_simp
          exact hK _ _ rfl (Below.refl _ _) hI
        · intro a kq_ wa K Q _ hI0 hp hK0
          have hI : Below w2.heap.size w2 wa := hI0
          have hK := fun v w' h1 (h2 : Below wa.heap.size wa w') (h3 : Below w2.heap.size w2 w') => hK0 v w' h1 (RelB.of_below h2) h3 (fun e => absurd e (by decide))
          go_simp
          exact hK _ _ ⟨_, rfl, hI.size, _, heap_alloc_new _ _, rfl⟩ (below_alloc _ _) (ext_alloc hI _)
        · intro a kq_ wa K Q _ hI0 hp hK0
          have hI : Below w2.heap.size w2 wa := hI0
          obtain ⟨g8, eB, hgB, cs8, hg8, hcs8⟩ := (show BoxV w2 87 2 wa (a.eval (.tmp 10)) from hp.base (by kernel_rfl))
          have eB2 := tmp_of eB
          have e103 := tmp_of (show a.eval (.tmp 103) = .agg #[.int .i64 xv, .int .i64 yv] from hp.dep 11 103 (by kernel_rfl))
          obtain ⟨hr8, hb8, hg9⟩ := nbox_put (N := 14) (.int .i64 xv) (.int .i64 yv) hgB hg8 hcs8 hI
          obtain ⟨c80, c81, d80, d81, f80, f81⟩ := nbox_cells hg8 hcs8
          go_simp
          exact hK0 (.tuple #[]) _ trivial hr8 hb8 (fun _ => ⟨g8, eB, hgB, hg9⟩)
        · intro a kq_ wa K Q _ hI0 hp hK0
          have hI : Below w2.heap.size w2 wa := hI0
          have hK := fun v w' h1 (h2 : Below wa.heap.size wa w') (h3 : Below w2.heap.size w2 w') => hK0 v w' h1 (RelB.of_below h2) h3 (fun e => absurd e (by decide))
          exact op_move _ (.inr rfl) (hK _ _ (hp.dep 12 104 (by kernel_rfl)) (Below.refl _ _) hI)
      case fin26 =>
        intro f w3 hT hBx hI0
        have hI : Below w2.heap.size w2 w3 := hI0
        have hr : (f 15) = .bool bo := hT 15 (by decide) rfl
        clear hT hI0
        obtain ⟨gv, eV, hgV, hqV⟩ := hBx
        simp only [putAll, eV, hr]
        have HB3 := Lib.hid (ext_trans HB2.out hI)
        have HQ3 := Lib.hid (block_in HQ3.out hI)
        have HQ2c := Lib.hid (block_in HQ2b.out hI)
        have hgv : gv ≠ g + 1 + 1 := by have := HGB.out.2; have := HI2.out.size; omega
        have hgv2 := Ne.symm hgv
        clear hr eV p0 p1 p2 p3 p4 q0 q1 q2 q3 z0 z1 f0 f1 u0 u1 d1 hI
        obtain ⟨v0, v1⟩ := cells2 hqV
        obtain ⟨q0, q1, q2, q3⟩ := cells4 HQ2c.out
        obtain ⟨z0, z1⟩ := cells2 HQ3.out
        obtain ⟨f0, f1⟩ := froz2 HQ3.out
        clear hqV
        go_simp
        have HE : Hid (ev (m + 1 + 1) W r t = (1, b01 bo, 0)) := Lib.hid (by rw [HEE.out, HBO.out]; rfl)
        go_wp2_with fail
        refine (truthValue_any _ _).mono ?_
        rintro e w4 ⟨rfl, hb⟩
        have HB4 := Lib.hid (ext_trans HB3.out hb)
        have HQ3 := Lib.hid (block_in HQ3.out hb)
        clear z0 z1 f0 f1 v0 v1 q0 q1 q2 q3
        obtain ⟨z0, z1⟩ := cells2 HQ3.out
        obtain ⟨f0, f1⟩ := froz2 HQ3.out
        clear hb
        go_wp2
        obtain ⟨r0, r1⟩ := cells2 (box_put (.int .i64 (1)) (.int .i64 (b01 bo)) HQ3.out rfl)
        exact bodyPost_ret (v := .tuple #[.agg #[.int .i64 (1), .int .i64 (b01 bo)], .int .i64 (0)]) (by simp [results, go_sem, r0, r1]) rfl ⟨by rw [HE.out]; rfl, box_put_below _ _ HGB.out.1 HB4.out⟩
    · have gb : (fa != 0) = true := by simpa using e1
      have HE := Lib.hid (HF0.out e1)
      clear e1
      go_wp2
      obtain ⟨r0, r1⟩ := cells2 (box_put (.int .i64 (0)) (.int .i64 (0)) HQ3.out rfl)
      exact bodyPost_ret (v := .tuple #[.agg #[.int .i64 (0), .int .i64 (0)], .int .i64 (fa)]) (by simp [results, go_sem, r0, r1]) rfl ⟨by rw [HE.out]; rfl, box_put_below _ _ HGB.out.1 HB2.out⟩
end Go.Proofs.YtodjokdaofefdaaGreat

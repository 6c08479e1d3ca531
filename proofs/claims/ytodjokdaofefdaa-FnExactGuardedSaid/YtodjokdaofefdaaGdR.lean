/- Guards, by the program: whether an expression is guarded. -/
import Derived.Test.YtodjokdaofefdaaGdP
import Derived.Test.YtodjokdaofefdaaGdQ
namespace Go.Proofs.Ytodjokdaofefdaa
set_option linter.unusedSimpArgs false
set_option linter.unusedVariables false
open Go.RowKit

def GiQ (d D : Nat) : Prop := ∀ (A Ak : Option Addr) (r : Ex) (kl : ExL) (c ck : Nat) (w : World), exW d w A r.ps → r.s.size ≤ 9223372036854775807 → exW D w Ak kl → d + 1 ≤ D → gdR (d + 1) r = true → kl.length + 1 + cntR (d + 1) r ≤ 1048576 →
  Calls Try.prog 68 #[.agg #[.int .i64 r.k, .int .i64 r.n, .string r.s, .slice A r.ps.length c], .slice Ak kl.length ck] w fun e w' => e = .returned (.bool (guI (d + 1) r kl)) ∧ Below w.heap.size w w'
theorem enters_gu1 : ∀ args w, (callFunc 115 args).run Try.prog w = .ok (.enter 115 args) w := enters_of Try.func115 (by kernel_rfl) rfl
set_option maxHeartbeats 2000000 in
theorem gu1_any {m D b : Nat} (hQ : GiQ m D) {A Ak : Option Addr} {r : Ex} {kl : ExL} {c ck : Nat} {w : World} {q : Bool} (hU : exW m w A r.ps) (hs : r.s.size ≤ 9223372036854775807) (hK : exW D w Ak kl) (hD : m + 1 ≤ D) (hg : gdR (m + 1) r = true) (hn : kl.length + 1 + cntR (m + 1) r ≤ 1048576)
    (b0 : w.cell? ⟨b, 0, none⟩ = some (.slice Ak kl.length ck)) (hq : (!guI (m + 1) r kl) = q) :
    Calls Try.prog 115 #[.agg #[.int .i64 r.k, .int .i64 r.n, .string r.s, .slice A r.ps.length c], .pointer (some ⟨b, 0, none⟩)] w fun e w' => e = .returned (.bool q) ∧ Below w.heap.size w w' := by
  have hbw := block_lt_of_cell b0
  have HQ := Lib.hid hQ
  have HG := Lib.hid hg
  have HN := Lib.hid hn
  obtain ⟨y, hy⟩ : ∃ y, guI (m + 1) r kl = y := ⟨_, rfl⟩
  rw [hy] at hq
  have HY := Lib.hid hy
  clear hQ hg hn hy
  subst hq
  go_enter Try.func115, Try.ntmps115
  go_wp2_with fail
  refine (HQ.out _ _ _ kl c ck _ (hU.below (by (repeat (first | exact Below.refl _ _ | refine ext_alloc ?_ _ | refine Below.setCell ?_ (by simp) _)))) hs (hK.below (by (repeat (first | exact Below.refl _ _ | refine ext_alloc ?_ _ | refine Below.setCell ?_ (by simp) _)))) hD HG.out HN.out).mono ?_
  rintro e w1 ⟨rfl, hB⟩
  rw [HY.out]
  replace hB := ext_trans (show Below w.heap.size w _ by (repeat (first | exact Below.refl _ _ | refine ext_alloc ?_ _ | refine Below.setCell ?_ (by simp) _))) hB
  go_wp2
  go_ret
  exact ⟨rfl, hB⟩
theorem all_range (l : ExL) (p : Ex → Bool) : (!(List.range l.length).any (fun k => !p (exAt l k))) = l.all p := by
  rw [Bool.eq_iff_iff, all_at, Bool.not_eq_true', List.any_eq_false]
  constructor
  · intro h k hk
    have := h k (List.mem_range.2 hk)
    simpa using this
  · intro h k hk
    simp [h k (List.mem_range.1 hk)]
/-- What the program asks of the parts. -/
theorem guParts {d D : Nat} (hQ : ∀ m, d = m + 1 → GiQ m D) {A Ak : Option Addr} {r : Ex} {kl : ExL} {c ck b : Nat} {w : World} {q : Bool} (hU : exW d w A r.ps) (hK : exW D w Ak kl) (hD : d + 1 ≤ D) (hg : gdR (d + 1) r = true) (hn : kl.length + 1 + cntR (d + 1) r ≤ 1048576)
    (b0 : w.cell? ⟨b, 0, none⟩ = some (.slice Ak kl.length ck)) (hq : r.ps.all (fun p => guI d p kl) = q) :
    Calls Try.prog 114 #[.slice A r.ps.length c, .func (.func 115) #[] #[.pointer (some ⟨b, 0, none⟩)]] w fun e w' => e = .returned (.bool (!q)) ∧ Below w.heap.size w w' := by
  have hq2 : (List.range r.ps.length).any (fun k => !guI d (exAt r.ps k) kl) = !q := by rw [← hq, ← all_range]; simp
  cases d with
  | zero =>
    have h0 := exS.zero hU
    refine containsFunc_any (d := 0) (p := fun k => !guI 0 (exAt r.ps k) kl) enters_gu1 (exS.deeper hU (by omega)) ?_ hq2
    intro k hk
    rw [h0] at hk; simp at hk
  | succ m =>
    refine containsFunc_any (d := m) (p := fun k => !guI (m + 1) (exAt r.ps k) kl) enters_gu1 hU ?_ hq2
    intro k hk X A1 c1 hX h1 hs1
    have hcp := cnt_part (d := m + 1) (t := r) hk
    exact gu1_any (hQ m rfl) h1 hs1 (hK.below hX) (by omega) (gd_part hg hk) (by omega) (below_cell hX b0) rfl
theorem guI_rest {d : Nat} {r : Ex} {kl : ExL} (h7 : ¬ r.k = 7) (h8 : ¬ (r.k = 8 ∧ hasB kl (asHas r) = false)) (h14 : ¬ r.k = 14) : guI (d + 1) r kl = r.ps.all (fun p => guI d p kl) := by
  rw [guI, if_neg h7, if_neg h8, if_neg h14]
set_option maxRecDepth 100000 in
set_option maxHeartbeats 8000000 in
theorem giQ_of {d D : Nat} (hQ : ∀ m, d = m + 1 → GiQ m D) : GiQ d D := by
  intro A Ak r kl c ck w hU hs hK0 hD hg hn
  have hlen := exS.len hU
  have hlenk := exS.len hK0
  have HG := Lib.hid hg
  have HQ := Lib.hid hQ
  have HN := Lib.hid hn
  clear hg hQ hn
  obtain ⟨W, hW⟩ : ∃ W, W = (w.alloc (.cells #[.int .i64 r.k, .int .i64 r.n, .string r.s, .slice A r.ps.length c] 28)).alloc (.cells #[.slice Ak kl.length ck] 26) := ⟨_, rfl⟩
  have hBW : Below w.heap.size w W := by rw [hW]; (repeat (first | exact Below.refl _ _ | refine ext_alloc ?_ _ | refine Below.setCell ?_ (by simp) _))
  have b0 : W.cell? ⟨w.heap.size, 0, none⟩ = some (.int .i64 r.k) := by rw [hW]; exact below_cell (below_alloc _ _) (box_cell w _ _ 0 _ rfl)
  have b1 : W.cell? ⟨w.heap.size, 1, none⟩ = some (.int .i64 r.n) := by rw [hW]; exact below_cell (below_alloc _ _) (box_cell w _ _ 1 _ rfl)
  have b2 : W.cell? ⟨w.heap.size, 2, none⟩ = some (.string r.s) := by rw [hW]; exact below_cell (below_alloc _ _) (box_cell w _ _ 2 _ rfl)
  have b3 : W.cell? ⟨w.heap.size, 3, none⟩ = some (.slice A r.ps.length c) := by rw [hW]; exact below_cell (below_alloc _ _) (box_cell w _ _ 3 _ rfl)
  have b4 : W.cell? ⟨w.heap.size + 1, 0, none⟩ = some (.slice Ak kl.length ck) := by rw [hW]; exact box_cell_at (by simp) rfl
  have hUW := hU.below hBW
  have hKW := hK0.below hBW
  have HW := Lib.hid hW
  have HBW := Lib.hid hBW
  clear hW hBW hU hK0
  by_cases h7 : r.k = 7
  · have e7 : (r.k == 7) = true := by simp [h7]
    have HR : Hid (guI (d + 1) r kl = false) := Lib.hid (by rw [guI, if_pos h7])
    clear h7 b1 b2 b3 b4
    go_enter Try.func68, Try.ntmps68
    go_wp2
    rw [← HW.out]
    go_ret
    exact ⟨by rw [HR.out]; rfl, HBW.out⟩
  have e7 : (r.k == 7) = false := by simp [h7]
  have HB0 := Lib.hid b0
  have HB3 := Lib.hid b3
  have HB4 := Lib.hid b4
  have a0 := cell_regrown b0
  have a1 := cell_regrown b1
  have a2 := cell_regrown b2
  have a3 := cell_regrown b3
  have a4 := cell_regrown b4
  by_cases h14 : r.k = 14
  · have e8 : (r.k == 8) = false := by simp [h14]
    have e14 : (r.k == 14) = true := by simp [h14]
    have hl := head_14 (gd_head HG.out) h14
    have HW2 := Lib.hid (show W = (w.alloc (.cells #[.int .i64 r.k, .int .i64 r.n, .string r.s, .slice A 2 c] 28)).alloc (.cells #[.slice Ak kl.length ck] 26) by rw [HW.out, hl])
    have hd : ∃ m, d = m + 1 := by
      cases d with
      | zero => have := exS.zero hUW; rw [this] at hl; simp at hl
      | succ m => exact ⟨m, rfl⟩
    obtain ⟨m, hm⟩ := hd
    subst hm
    have HQ1 := Lib.hid (HQ.out m rfl)
    have HR : Hid (guI (m + 1 + 1) r kl = (guI (m + 1) (exAt r.ps 0) kl && guI (m + 1) (exAt r.ps 1) (kl ++ cjI (m + 1) (exAt r.ps 0)))) := Lib.hid (by rw [guI, if_neg h7, if_neg (fun h => by have := h.1; omega), if_pos h14])
    have hg0 := gd_part HG.out (k := 0) (by omega)
    have hg1 := gd_part HG.out (k := 1) (by omega)
    have hct := cnt_two (d := m + 1) hl
    have hcl := cj_len (m + 1) (exAt r.ps 0) hg0
    have hn := HN.out
    obtain ⟨K1, hK1⟩ : ∃ K1, K1 = cjI (m + 1) (exAt r.ps 0) := ⟨_, rfl⟩
    rw [← hK1] at hcl
    have HC0 := Lib.hid (show 1 + cntR (m + 1) (exAt r.ps 0) ≤ 1048576 by omega)
    have HC1 := Lib.hid (show kl.length + 1 + cntR (m + 1) (exAt r.ps 0) ≤ 1048576 by omega)
    have HC2 := Lib.hid (show (kl ++ K1).length + 1 + cntR (m + 1) (exAt r.ps 1) ≤ 1048576 by rw [List.length_append]; omega)
    have HG0 := Lib.hid hg0
    have HG1 := Lib.hid hg1
    have HK1 := Lib.hid hK1
    obtain ⟨b, off, A0, A1, c0, c1, rfl, ⟨u0, s0, p0, p1, p2, p3⟩, ⟨u1, s1, q0, q1, q2, q3⟩⟩ := exW.two hUW hl
    have HLEN := Lib.hid (show kl.length + K1.length ≤ 1048576 by omega)
    rw [hl] at a3
    rw [hl] at b3
    rw [hl]
    have HB3' := Lib.hid b3
    have HL := Lib.hid hl
    obtain ⟨x, hx⟩ : ∃ x, guI (m + 1) (exAt r.ps 0) kl = x := ⟨_, rfl⟩
    obtain ⟨y, hy⟩ : ∃ y, guI (m + 1) (exAt r.ps 1) (kl ++ K1) = y := ⟨_, rfl⟩
    have HX := Lib.hid hx
    have HY := Lib.hid hy
    have HP : Hid (W.cell? ⟨b, off, none⟩ = some (.int .i64 (exAt r.ps 0).k) ∧ W.cell? ⟨b, off + 1, none⟩ = some (.int .i64 (exAt r.ps 0).n) ∧ W.cell? ⟨b, off + 2, none⟩ = some (.string (exAt r.ps 0).s) ∧ W.cell? ⟨b, off + 3, none⟩ = some (.slice A0 (exAt r.ps 0).ps.length c0)) := Lib.hid ⟨p0, p1, p2, p3⟩
    have HP2 : Hid (W.cell? ⟨b, off + 4, none⟩ = some (.int .i64 (exAt r.ps 1).k) ∧ W.cell? ⟨b, off + 4 + 1, none⟩ = some (.int .i64 (exAt r.ps 1).n) ∧ W.cell? ⟨b, off + 4 + 2, none⟩ = some (.string (exAt r.ps 1).s) ∧ W.cell? ⟨b, off + 4 + 3, none⟩ = some (.slice A1 (exAt r.ps 1).ps.length c1)) := Lib.hid ⟨q0, q1, q2, q3⟩
    clear hlen hl h7 h14 hn hct hcl hg0 hg1 hK1 hx hy p0 p1 p2 p3 q0 q1 q2 q3 b1 b2
    cases x
    · go_enter Try.func68, Try.ntmps68
      go_wp2_with fail
      rw [← HW2.out]
      clear b0 b3 b4
      refine wp_region_quiet_below (by kernel_rfl) (by kernel_rfl) ?_
      repeat (go_big_quiet_step (fail))
      refine wpQuiet_nil ?_
      intro w2 hw'regrown
      obtain ⟨V, hV⟩ : ∃ V, V = w2 := ⟨_, rfl⟩
      subst hV
      have hB := below_of_regrown hw'regrown (Nat.le_refl _)
      clear hw'regrown a0 a1 a2 a3 a4
      have b0 := below_cell hB HB0.out
      have b3 := below_cell hB HB3'.out
      have b4 := below_cell hB HB4.out
      have p0 := below_cell hB HP.out.1
      have p1 := below_cell hB HP.out.2.1
      have p2 := below_cell hB HP.out.2.2.1
      have p3 := below_cell hB HP.out.2.2.2
      have u0' := u0.below hB
      have hK' := hKW.below hB
      go_wp2_with fail
      refine wp_region_kinds2 (fun i wz vz => match i with | 0 => vz = .pointer (some ⟨w.heap.size, 3, Option.none⟩) | 1 => vz = .slice (some ⟨b, off, none⟩) 2 c | 2 => vz = .pointer (some ⟨b, off, Option.none⟩) | 3 => vz = .agg #[.int .i64 (exAt r.ps 0).k, .int .i64 (exAt r.ps 0).n, .string (exAt r.ps 0).s, .slice A0 (exAt r.ps 0).ps.length c0] | 4 => vz = .slice Ak kl.length ck | 5 => vz = .bool false | 6 => vz = .bool false | 20 => vz = .bool false | 21 => vz = .bool false | _ => True) (fun _ wz => Below V.heap.size V wz) (fun i w w' => Below w.heap.size w w') (fun _ => Option.none) (by kernel_rfl) (by kernel_rfl) (by kernel_rfl) ?stab5 (ext_drew (Below.refl _ _)) ?all5 ?fin5
      case stab5 =>
        intro i j wa wb v hR hk hne hd _ h2 hT
        match j, hk, hne, hd, h2, hT with
        | 0, hk, hne, hd, h2, hT => exact hT
        | 1, hk, hne, hd, h2, hT => exact hT
        | 2, hk, hne, hd, h2, hT => exact hT
        | 3, hk, hne, hd, h2, hT => exact hT
        | 4, hk, hne, hd, h2, hT => exact hT
        | 5, hk, hne, hd, h2, hT => exact hT
        | 6, hk, hne, hd, h2, hT => exact hT
        | 20, hk, hne, hd, h2, hT => exact hT
        | 21, hk, hne, hd, h2, hT => exact hT
        | 7, _, _, _, _, _ => trivial
        | 8, _, _, _, _, _ => trivial
        | 9, _, _, _, _, _ => trivial
        | 10, _, _, _, _, _ => trivial
        | 11, _, _, _, _, _ => trivial
        | 12, _, _, _, _, _ => trivial
        | 13, _, _, _, _, _ => trivial
        | 14, _, _, _, _, _ => trivial
        | 15, _, _, _, _, _ => trivial
        | 16, _, _, _, _, _ => trivial
        | 17, _, _, _, _, _ => trivial
        | 18, _, _, _, _, _ => trivial
        | 19, _, _, _, _, _ => trivial
        | n + 22, _, _, _, _, _ => trivial
      case all5 =>
        refine RAll.cons rfl ?_ (RAll.cons rfl ?_ (RAll.cons rfl ?_ (RAll.cons rfl ?_ (RAll.cons rfl ?_ (RAll.cons rfl ?_ (RAll.cons rfl ?_ (RAll.skipped 6 29 true rfl (by kernel_rfl) (fun _ _ h => h) ?_ (RAll.skipped 6 29 true rfl (by kernel_rfl) (fun _ _ h => h) ?_ (RAll.skipped 6 29 true rfl (by kernel_rfl) (fun _ _ h => h) ?_ (RAll.skipped 6 29 true rfl (by kernel_rfl) (fun _ _ h => h) ?_ (RAll.skipped 6 29 true rfl (by kernel_rfl) (fun _ _ h => h) ?_ (RAll.skipped 6 29 true rfl (by kernel_rfl) (fun _ _ h => h) ?_ (RAll.skipped 6 29 true rfl (by kernel_rfl) (fun _ _ h => h) ?_ (RAll.skipped 6 29 true rfl (by kernel_rfl) (fun _ _ h => h) ?_ (RAll.skipped 6 29 true rfl (by kernel_rfl) (fun _ _ h => h) ?_ (RAll.skipped 6 29 true rfl (by kernel_rfl) (fun _ _ h => h) ?_ (RAll.skipped 6 29 true rfl (by kernel_rfl) (fun _ _ h => h) ?_ (RAll.skipped 6 29 true rfl (by kernel_rfl) (fun _ _ h => h) ?_ (RAll.skipped 6 29 true rfl (by kernel_rfl) (fun _ _ h => h) ?_ (RAll.cons rfl ?_ (RAll.cons rfl ?_ (RAll.none_))))))))))))))))))))))
        · intro a k wa K Q _ hI hp hK
          have e2 := tmp_of (show a.eval (.tmp 2) = .pointer (some ⟨w.heap.size, 0, none⟩) from hp.keep 2 (by kernel_rfl))
          go_simp
          exact hK _ _ rfl (Below.refl _ _) hI
        · intro a k wa K Q _ hI hp hK
          have e23 := tmp_of (show a.eval (.tmp 23) = .pointer (some ⟨w.heap.size, 3, Option.none⟩) from hp.dep 0 23 (by kernel_rfl))
          have b3_ := below_cell hI b3
          go_simp
          exact hK _ _ rfl (Below.refl _ _) hI
        · intro a k wa K Q _ hI hp hK
          have e24 := tmp_of (show a.eval (.tmp 24) = .slice (some ⟨b, off, none⟩) 2 c from hp.dep 1 24 (by kernel_rfl))
          go_simp
          exact hK _ _ (rfl) (Below.refl _ _) hI
        · intro a k wa K Q _ hI hp hK
          have e25 := tmp_of (show a.eval (.tmp 25) = .pointer (some ⟨b, off, Option.none⟩) from hp.dep 2 25 (by kernel_rfl))
          have p0_ := below_cell hI p0
          have p1_ := below_cell hI p1
          have p2_ := below_cell hI p2
          have p3_ := below_cell hI p3
          go_simp
          exact hK _ _ rfl (Below.refl _ _) hI
        · intro a k wa K Q _ hI hp hK
          have e3 := tmp_of (show a.eval (.tmp 3) = .pointer (some ⟨w.heap.size + 1, 0, none⟩) from hp.keep 3 (by kernel_rfl))
          have b4_ := below_cell hI b4
          go_simp
          exact hK _ _ rfl (Below.refl _ _) hI
        · intro a k wa K Q _ hI hp hK
          have e26 := tmp_of (show a.eval (.tmp 26) = .agg #[.int .i64 (exAt r.ps 0).k, .int .i64 (exAt r.ps 0).n, .string (exAt r.ps 0).s, .slice A0 (exAt r.ps 0).ps.length c0] from hp.dep 3 26 (by kernel_rfl))
          have e27 := tmp_of (show a.eval (.tmp 27) = .slice Ak kl.length ck from hp.dep 4 27 (by kernel_rfl))
          go_simp
          refine (HQ1.out _ _ _ kl c0 ck _ (u0'.below hI) s0 (hK'.below hI) (by omega) HG0.out HC1.out).mono ?_
          rw [HX.out]
          rintro e wb ⟨rfl, hb⟩
          exact hK _ _ rfl hb (ext_trans hI hb)
        · intro a k wa K Q _ hI hp hK
          exact op_move _ (.inl rfl) (hK _ _ (hp.dep 5 28 (by kernel_rfl)) (Below.refl _ _) hI)
        · exact fun k wa hI => ⟨trivial, Below.refl _ _, hI⟩
        · exact fun k wa hI => ⟨trivial, Below.refl _ _, hI⟩
        · exact fun k wa hI => ⟨trivial, Below.refl _ _, hI⟩
        · exact fun k wa hI => ⟨trivial, Below.refl _ _, hI⟩
        · exact fun k wa hI => ⟨trivial, Below.refl _ _, hI⟩
        · exact fun k wa hI => ⟨trivial, Below.refl _ _, hI⟩
        · exact fun k wa hI => ⟨trivial, Below.refl _ _, hI⟩
        · exact fun k wa hI => ⟨trivial, Below.refl _ _, hI⟩
        · exact fun k wa hI => ⟨trivial, Below.refl _ _, hI⟩
        · exact fun k wa hI => ⟨trivial, Below.refl _ _, hI⟩
        · exact fun k wa hI => ⟨trivial, Below.refl _ _, hI⟩
        · exact fun k wa hI => ⟨trivial, Below.refl _ _, hI⟩
        · exact fun k wa hI => ⟨trivial, Below.refl _ _, hI⟩
        · intro a k wa K Q _ hI hp hK
          exact op_pick_f _ _ _ rfl (hp.dep 6 29 (by kernel_rfl)) (hK _ _ (rfl) (Below.refl _ _) hI)
        · intro a k wa K Q _ hI hp hK
          exact op_move _ (.inr rfl) (hK _ _ (hp.dep 20 43 (by kernel_rfl)) (Below.refl _ _) hI)
      case fin5 =>
        intro f w9 hT hI0
        have hI : Below V.heap.size V w9 := hI0
        have hr6 : (f 21) = .bool false := hT 21 (by decide) rfl rfl
        clear hT hI0
        simp only [putAll, hr6]
        go_simp
        go_wp2
        go_ret
        exact ⟨by rw [HR.out, HX.out]; rfl, ext_trans HBW.out (ext_trans hB hI)⟩
    · go_enter Try.func68, Try.ntmps68
      go_wp2_with fail
      rw [← HW2.out]
      clear b0 b3 b4
      refine wp_region_quiet_below (by kernel_rfl) (by kernel_rfl) ?_
      repeat (go_big_quiet_step (fail))
      refine wpQuiet_nil ?_
      intro w2 hw'regrown
      obtain ⟨V, hV⟩ : ∃ V, V = w2 := ⟨_, rfl⟩
      subst hV
      have hB := below_of_regrown hw'regrown (Nat.le_refl _)
      clear hw'regrown a0 a1 a2 a3 a4
      have b0 := below_cell hB HB0.out
      have b3 := below_cell hB HB3'.out
      have b4 := below_cell hB HB4.out
      have p0 := below_cell hB HP.out.1
      have p1 := below_cell hB HP.out.2.1
      have p2 := below_cell hB HP.out.2.2.1
      have p3 := below_cell hB HP.out.2.2.2
      have q0 := below_cell hB HP2.out.1
      have q1 := below_cell hB HP2.out.2.1
      have q2 := below_cell hB HP2.out.2.2.1
      have q3 := below_cell hB HP2.out.2.2.2
      have u0' := u0.below hB
      have u1' := u1.below hB
      have hK' := hKW.below hB
      go_wp2_with fail
      refine wp_region_kinds2 (fun i wz vz => match i with | 0 => vz = .pointer (some ⟨w.heap.size, 3, Option.none⟩) | 1 => vz = .slice (some ⟨b, off, none⟩) 2 c | 2 => vz = .pointer (some ⟨b, off, Option.none⟩) | 3 => vz = .agg #[.int .i64 (exAt r.ps 0).k, .int .i64 (exAt r.ps 0).n, .string (exAt r.ps 0).s, .slice A0 (exAt r.ps 0).ps.length c0] | 4 => vz = .slice Ak kl.length ck | 5 => vz = .bool true | 6 => vz = .bool true | 7 => vz = .pointer (some ⟨w.heap.size, 3, Option.none⟩) | 8 => vz = .slice (some ⟨b, off, none⟩) 2 c | 9 => vz = .pointer (some ⟨b, off + 4, Option.none⟩) | 10 => vz = .agg #[.int .i64 (exAt r.ps 1).k, .int .i64 (exAt r.ps 1).n, .string (exAt r.ps 1).s, .slice A1 (exAt r.ps 1).ps.length c1] | 11 => vz = .slice Ak kl.length ck | 12 => OwnE D V.heap.size V.heap.size kl wz vz | 13 => vz = .pointer (some ⟨w.heap.size, 3, Option.none⟩) | 14 => vz = .slice (some ⟨b, off, none⟩) 2 c | 15 => vz = .pointer (some ⟨b, off, Option.none⟩) | 16 => vz = .agg #[.int .i64 (exAt r.ps 0).k, .int .i64 (exAt r.ps 0).n, .string (exAt r.ps 0).s, .slice A0 (exAt r.ps 0).ps.length c0] | 17 => OwnE D V.heap.size V.heap.size K1 wz vz | 18 => OwnE D V.heap.size V.heap.size (kl ++ K1) wz vz | 19 => vz = .bool y | 20 => vz = .bool y | 21 => vz = .bool y | _ => True) (fun _ wz => Below V.heap.size V wz) (fun i w w' => Below (if i = 18 then V.heap.size else w.heap.size) w w') (fun j => match j with | 12 => some 18 | 17 => some 18 | _ => Option.none) (by kernel_rfl) (by kernel_rfl) (by kernel_rfl) ?stab5 (ext_drew (Below.refl _ _)) ?all5 ?fin5
      case stab5 =>
        intro i j wa wb v hR hk hne hd _ h2 hT
        match j, hk, hne, hd, h2, hT with
        | 0, hk, hne, hd, h2, hT => exact hT
        | 1, hk, hne, hd, h2, hT => exact hT
        | 2, hk, hne, hd, h2, hT => exact hT
        | 3, hk, hne, hd, h2, hT => exact hT
        | 4, hk, hne, hd, h2, hT => exact hT
        | 5, hk, hne, hd, h2, hT => exact hT
        | 6, hk, hne, hd, h2, hT => exact hT
        | 7, hk, hne, hd, h2, hT => exact hT
        | 8, hk, hne, hd, h2, hT => exact hT
        | 9, hk, hne, hd, h2, hT => exact hT
        | 10, hk, hne, hd, h2, hT => exact hT
        | 11, hk, hne, hd, h2, hT => exact hT
        | 12, hk, hne, hd, h2, hT => exact OwnE.below hT (rel_un (fun e => hk (by subst e; rfl)) hR)
        | 13, hk, hne, hd, h2, hT => exact hT
        | 14, hk, hne, hd, h2, hT => exact hT
        | 15, hk, hne, hd, h2, hT => exact hT
        | 16, hk, hne, hd, h2, hT => exact hT
        | 17, hk, hne, hd, h2, hT => exact OwnE.below hT (rel_un (fun e => hk (by subst e; rfl)) hR)
        | 18, hk, hne, hd, h2, hT => exact OwnE.below hT (rel_un (fun e => hne e.symm) hR)
        | 19, hk, hne, hd, h2, hT => exact hT
        | 20, hk, hne, hd, h2, hT => exact hT
        | 21, hk, hne, hd, h2, hT => exact hT
        | n + 22, _, _, _, _, _ => trivial
      case all5 =>
        refine RAll.cons rfl ?_ (RAll.cons rfl ?_ (RAll.cons rfl ?_ (RAll.cons rfl ?_ (RAll.cons rfl ?_ (RAll.cons rfl ?_ (RAll.cons rfl ?_ (RAll.guarded 6 29 true rfl (by kernel_rfl) (fun _ _ h => h) ?_ (RAll.guarded 6 29 true rfl (by kernel_rfl) (fun _ _ h => h) ?_ (RAll.guarded 6 29 true rfl (by kernel_rfl) (fun _ _ h => h) ?_ (RAll.guarded 6 29 true rfl (by kernel_rfl) (fun _ _ h => h) ?_ (RAll.guarded 6 29 true rfl (by kernel_rfl) (fun _ _ h => h) ?_ (RAll.guarded 6 29 true rfl (by kernel_rfl) (fun _ _ h => h) ?_ (RAll.guarded 6 29 true rfl (by kernel_rfl) (fun _ _ h => h) ?_ (RAll.guarded 6 29 true rfl (by kernel_rfl) (fun _ _ h => h) ?_ (RAll.guarded 6 29 true rfl (by kernel_rfl) (fun _ _ h => h) ?_ (RAll.guarded 6 29 true rfl (by kernel_rfl) (fun _ _ h => h) ?_ (RAll.guarded 6 29 true rfl (by kernel_rfl) (fun _ _ h => h) ?_ (RAll.guarded 6 29 true rfl (by kernel_rfl) (fun _ _ h => h) ?_ (RAll.guarded 6 29 true rfl (by kernel_rfl) (fun _ _ h => h) ?_ (RAll.cons rfl ?_ (RAll.cons rfl ?_ (RAll.none_))))))))))))))))))))))
        · intro a k wa K Q _ hI hp hK
          have e2 := tmp_of (show a.eval (.tmp 2) = .pointer (some ⟨w.heap.size, 0, none⟩) from hp.keep 2 (by kernel_rfl))
          go_simp
          exact hK _ _ rfl (Below.refl _ _) hI
        · intro a k wa K Q _ hI hp hK
          have e23 := tmp_of (show a.eval (.tmp 23) = .pointer (some ⟨w.heap.size, 3, Option.none⟩) from hp.dep 0 23 (by kernel_rfl))
          have b3_ := below_cell hI b3
          go_simp
          exact hK _ _ rfl (Below.refl _ _) hI
        · intro a k wa K Q _ hI hp hK
          have e24 := tmp_of (show a.eval (.tmp 24) = .slice (some ⟨b, off, none⟩) 2 c from hp.dep 1 24 (by kernel_rfl))
          go_simp
          exact hK _ _ (rfl) (Below.refl _ _) hI
        · intro a k wa K Q _ hI hp hK
          have e25 := tmp_of (show a.eval (.tmp 25) = .pointer (some ⟨b, off, Option.none⟩) from hp.dep 2 25 (by kernel_rfl))
          have p0_ := below_cell hI p0
          have p1_ := below_cell hI p1
          have p2_ := below_cell hI p2
          have p3_ := below_cell hI p3
          go_simp
          exact hK _ _ rfl (Below.refl _ _) hI
        · intro a k wa K Q _ hI hp hK
          have e3 := tmp_of (show a.eval (.tmp 3) = .pointer (some ⟨w.heap.size + 1, 0, none⟩) from hp.keep 3 (by kernel_rfl))
          have b4_ := below_cell hI b4
          go_simp
          exact hK _ _ rfl (Below.refl _ _) hI
        · intro a k wa K Q _ hI hp hK
          have e26 := tmp_of (show a.eval (.tmp 26) = .agg #[.int .i64 (exAt r.ps 0).k, .int .i64 (exAt r.ps 0).n, .string (exAt r.ps 0).s, .slice A0 (exAt r.ps 0).ps.length c0] from hp.dep 3 26 (by kernel_rfl))
          have e27 := tmp_of (show a.eval (.tmp 27) = .slice Ak kl.length ck from hp.dep 4 27 (by kernel_rfl))
          go_simp
          refine (HQ1.out _ _ _ kl c0 ck _ (u0'.below hI) s0 (hK'.below hI) (by omega) HG0.out HC1.out).mono ?_
          rw [HX.out]
          rintro e wb ⟨rfl, hb⟩
          exact hK _ _ rfl (rel_ne (by decide) hb) (ext_trans hI hb)
        · intro a k wa K Q _ hI hp hK
          exact op_move _ (.inl rfl) (hK _ _ (hp.dep 5 28 (by kernel_rfl)) (Below.refl _ _) hI)
        · intro a k wa K Q _ hI hp hK
          have e2 := tmp_of (show a.eval (.tmp 2) = .pointer (some ⟨w.heap.size, 0, none⟩) from hp.keep 2 (by kernel_rfl))
          go_simp
          exact hK _ _ rfl (Below.refl _ _) hI
        · intro a k wa K Q _ hI hp hK
          have e30 := tmp_of (show a.eval (.tmp 30) = .pointer (some ⟨w.heap.size, 3, Option.none⟩) from hp.dep 7 30 (by kernel_rfl))
          have b3_ := below_cell hI b3
          go_simp
          exact hK _ _ rfl (Below.refl _ _) hI
        · intro a k wa K Q _ hI hp hK
          have e31 := tmp_of (show a.eval (.tmp 31) = .slice (some ⟨b, off, none⟩) 2 c from hp.dep 8 31 (by kernel_rfl))
          go_simp
          exact hK _ _ (rfl) (Below.refl _ _) hI
        · intro a k wa K Q _ hI hp hK
          have e32 := tmp_of (show a.eval (.tmp 32) = .pointer (some ⟨b, off + 4, Option.none⟩) from hp.dep 9 32 (by kernel_rfl))
          have q0_ := below_cell hI q0
          have q1_ := below_cell hI q1
          have q2_ := below_cell hI q2
          have q3_ := below_cell hI q3
          go_simp
          exact hK _ _ rfl (Below.refl _ _) hI
        · intro a k wa K Q _ hI hp hK
          have e3 := tmp_of (show a.eval (.tmp 3) = .pointer (some ⟨w.heap.size + 1, 0, none⟩) from hp.keep 3 (by kernel_rfl))
          have b4_ := below_cell hI b4
          go_simp
          exact hK _ _ rfl (Below.refl _ _) hI
        · intro a k wa K Q _ hI hp hK
          have e34 := tmp_of (show a.eval (.tmp 34) = .slice Ak kl.length ck from hp.dep 11 34 (by kernel_rfl))
          go_simp
          refine (clone_any (N := V.heap.size) (exS.below hK' (Nat.le_refl _) hI) hI.size (by have := HLEN.out; omega)).mono ?_
          rintro e wb ⟨v5, rfl, h5, hb⟩
          exact hK _ _ (h5.wide (Nat.le_refl _) h5.1.1 (Nat.le_refl _) hI.size) (rel_ne (by decide) hb) (ext_trans hI hb)
        · intro a k wa K Q _ hI hp hK
          have e2 := tmp_of (show a.eval (.tmp 2) = .pointer (some ⟨w.heap.size, 0, none⟩) from hp.keep 2 (by kernel_rfl))
          go_simp
          exact hK _ _ rfl (Below.refl _ _) hI
        · intro a k wa K Q _ hI hp hK
          have e36 := tmp_of (show a.eval (.tmp 36) = .pointer (some ⟨w.heap.size, 3, Option.none⟩) from hp.dep 13 36 (by kernel_rfl))
          have b3_ := below_cell hI b3
          go_simp
          exact hK _ _ rfl (Below.refl _ _) hI
        · intro a k wa K Q _ hI hp hK
          have e37 := tmp_of (show a.eval (.tmp 37) = .slice (some ⟨b, off, none⟩) 2 c from hp.dep 14 37 (by kernel_rfl))
          go_simp
          exact hK _ _ (rfl) (Below.refl _ _) hI
        · intro a k wa K Q _ hI hp hK
          have e38 := tmp_of (show a.eval (.tmp 38) = .pointer (some ⟨b, off, Option.none⟩) from hp.dep 15 38 (by kernel_rfl))
          have p0_ := below_cell hI p0
          have p1_ := below_cell hI p1
          have p2_ := below_cell hI p2
          have p3_ := below_cell hI p3
          go_simp
          exact hK _ _ rfl (Below.refl _ _) hI
        · intro a k wa K Q _ hI hp hK
          have e39 := tmp_of (show a.eval (.tmp 39) = .agg #[.int .i64 (exAt r.ps 0).k, .int .i64 (exAt r.ps 0).n, .string (exAt r.ps 0).s, .slice A0 (exAt r.ps 0).ps.length c0] from hp.dep 16 39 (by kernel_rfl))
          go_simp
          refine (cjQ_all m _ _ c0 V.heap.size _ (exS.below u0' (Nat.le_refl _) hI) hI.size s0 HG0.out HC0.out).mono ?_
          rw [← HK1.out]
          rintro e wb ⟨v5, rfl, h5, hb⟩
          exact hK _ _ ((h5.wide (Nat.le_refl _) h5.1.1 (Nat.le_refl _) hI.size).deeper (by omega)) (rel_ne (by decide) hb) (ext_trans hI hb)
        · intro a k wa K Q _ hI hp hK
          have t35 : OwnE D V.heap.size V.heap.size kl wa (a.eval (.tmp 35)) := hp.dep 12 35 (by kernel_rfl)
          have t40 : OwnE D V.heap.size V.heap.size K1 wa (a.eval (.tmp 40)) := hp.dep 17 40 (by kernel_rfl)
          have hM := t35.2
          obtain ⟨A9, c9, e40, hr9⟩ := t40.2.rd (by have := HLEN.out; omega)
          refine op_appendG (R := exR D 0 V.heap.size) (l := kl) (l2 := K1) (.tmp 35) (.tmp 40) 26 28 _ 4 56 rfl Try.underlying26 Try.infoExpr rfl (by decide) (fun a cs h => exR.one h) rfl hM e40 hr9 (fun w' hg a cs h => exR.row hI.size hg (fun k hk => (hM.ge k hk).1) h) (by have := HLEN.out; omega) (by have := HLEN.out; omega) hI.size ?_
          intro v' wb ho' hb' hgr _
          exact hK _ _ ⟨⟨Nat.le_trans hI.size hb'.size, Nat.le_refl _⟩, ho'⟩ (rel_eq rfl hb') (hI.trans hb')
        · intro a k wa K Q _ hI hp hK
          have e33 := tmp_of (show a.eval (.tmp 33) = .agg #[.int .i64 (exAt r.ps 1).k, .int .i64 (exAt r.ps 1).n, .string (exAt r.ps 1).s, .slice A1 (exAt r.ps 1).ps.length c1] from hp.dep 10 33 (by kernel_rfl))
          have t41 : OwnE D V.heap.size V.heap.size (kl ++ K1) wa (a.eval (.tmp 41)) := hp.dep 18 41 (by kernel_rfl)
          obtain ⟨A5, c5, e41, hk5⟩ := t41.rd (by have := HLEN.out; rw [List.length_append]; omega)
          replace e41 := tmp_of e41
          go_simp
          rw [← List.length_append]
          refine (HQ1.out _ _ _ (kl ++ K1) c1 c5 _ (u1'.below hI) s1 hk5 (by omega) HG1.out HC2.out).mono ?_
          rw [HY.out]
          rintro e wb ⟨rfl, hb⟩
          exact hK _ _ rfl (rel_ne (by decide) hb) (ext_trans hI hb)
        · intro a k wa K Q _ hI hp hK
          exact op_pick_t _ _ _ rfl (hp.dep 6 29 (by kernel_rfl)) (hK _ _ (hp.dep 19 42 (by kernel_rfl)) (Below.refl _ _) hI)
        · intro a k wa K Q _ hI hp hK
          exact op_move _ (.inr rfl) (hK _ _ (hp.dep 20 43 (by kernel_rfl)) (Below.refl _ _) hI)
      case fin5 =>
        intro f w9 hT hI0
        have hI : Below V.heap.size V w9 := hI0
        have hr6 : (f 21) = .bool y := hT 21 (by decide) rfl rfl
        clear hT hI0
        simp only [putAll, hr6]
        go_simp
        go_wp2
        go_ret
        exact ⟨by rw [HR.out, HX.out, ← HK1.out, HY.out]; rfl, ext_trans HBW.out (ext_trans hB hI)⟩
  have e14 : (r.k == 14) = false := by simp [h14]
  obtain ⟨q, hq⟩ : ∃ q, r.ps.all (fun p => guI d p kl) = q := ⟨_, rfl⟩
  have HP := Lib.hid (fun (X : World) (hX : Below W.heap.size W X) => guParts HQ.out (c := c) (hUW.below hX) (hKW.below hX) hD HG.out HN.out (below_cell hX b4) hq)
  have HQV := Lib.hid hq
  clear hq
  by_cases h8 : r.k = 8
  · have e8 : (r.k == 8) = true := by simp [h8]
    obtain ⟨D', hD'⟩ : ∃ D', D = D' + 1 := ⟨D - 1, by omega⟩
    subst hD'
    obtain ⟨y, hy⟩ : ∃ y, hasB kl (asHas r) = y := ⟨_, rfl⟩
    have hUD := exS.deeper hUW (show d ≤ D' by omega)
    have hcon : ∀ (n : Nat) (os : Array Obj), Calls Try.prog 81 #[.slice Ak kl.length ck, .agg #[.int .i64 9, .int .i64 r.n, .string r.s, .slice A r.ps.length c]] (Sort.grow (redrawn W n) os) fun e w' => e = .returned (.bool y) ∧ Below (Sort.grow (redrawn W n) os).heap.size (Sort.grow (redrawn W n) os) w' := by
      intro n os
      have h := hasSame_any (d := D') (l := kl) (r := asHas r) (A := Ak) (A' := A) (c := ck) (c' := c) (w := Sort.grow (redrawn W n) os) (hKW.regrown n os) (exW.regrown hUD n os)
      rw [hy] at h
      exact h
    have HCON := Lib.hid hcon
    have HH := Lib.hid (fun (n : Nat) (os : Array Obj) => has_any (A := A) (r := r) (c := c) (w := Sort.grow (redrawn W n) os))
    clear hcon hUD
    cases y
    · have HR : Hid (guI (d + 1) r kl = false) := Lib.hid (by rw [guI, if_neg h7, if_pos ⟨h8, hy⟩])
      clear h7 h8 h14 hy b1 b2 b3 b4
      go_enter Try.func68, Try.ntmps68
      go_wp2_with fail
      rw [← HW.out]
      clear b0
      refine wp_region_quiet_below (by kernel_rfl) (by kernel_rfl) ?_
      repeat (go_big_quiet_step (first | (go_at_call 82; (with_reducible exact Calls.regrown_of (HH.out _ _))) | (go_at_call 81; (with_reducible exact Calls.regrown_of (HCON.out _ _)))))
      refine wpQuiet_nil ?_
      intro w2 hw'regrown
      have hB := below_of_regrown hw'regrown (Nat.le_refl _)
      clear hw'regrown a0 a1 a2 a3 a4
      go_wp2
      go_ret
      exact ⟨by rw [HR.out]; rfl, ext_trans HBW.out hB⟩
    · have HR : Hid (guI (d + 1) r kl = q) := Lib.hid (by rw [guI_rest h7 (fun h => by rw [hy] at h; cases h.2) h14]; exact HQV.out)
      clear h7 h8 h14 hy b1 b2 b3 b4
      go_enter Try.func68, Try.ntmps68
      go_wp2_with fail
      rw [← HW.out]
      clear b0
      refine wp_region_quiet_below (by kernel_rfl) (by kernel_rfl) ?_
      repeat (go_big_quiet_step (first | (go_at_call 82; (with_reducible exact Calls.regrown_of (HH.out _ _))) | (go_at_call 81; (with_reducible exact Calls.regrown_of (HCON.out _ _)))))
      refine wpQuiet_nil ?_
      intro w2 hw'regrown
      have hB := below_of_regrown hw'regrown (Nat.le_refl _)
      clear hw'regrown a0 a1 a2 a3 a4
      have b0 := below_cell hB HB0.out
      have b3 := below_cell hB HB3.out
      have b4 := below_cell hB HB4.out
      go_wp2_with fail
      refine (HP.out _ hB).mono ?_
      rintro e w3 ⟨rfl, hb⟩
      replace hB := ext_trans hB hb
      clear hb b0 b3 b4
      go_wp2
      go_ret
      exact ⟨by rw [HR.out]; cases q <;> rfl, ext_trans HBW.out hB⟩
  · have e8 : (r.k == 8) = false := by simp [h8]
    have HR : Hid (guI (d + 1) r kl = q) := Lib.hid (by rw [guI_rest h7 (fun h => h8 h.1) h14]; exact HQV.out)
    clear h7 h8 h14 b1 b2 b3 b4
    go_enter Try.func68, Try.ntmps68
    go_wp2_with fail
    rw [← HW.out]
    clear b0
    refine wp_region_quiet_below (by kernel_rfl) (by kernel_rfl) ?_
    repeat (go_big_quiet_step (fail))
    refine wpQuiet_nil ?_
    intro w2 hw'regrown
    have hB := below_of_regrown hw'regrown (Nat.le_refl _)
    clear hw'regrown a0 a1 a2 a3 a4
    have b0 := below_cell hB HB0.out
    have b3 := below_cell hB HB3.out
    have b4 := below_cell hB HB4.out
    go_wp2_with fail
    refine (HP.out _ hB).mono ?_
    rintro e w3 ⟨rfl, hb⟩
    replace hB := ext_trans hB hb
    clear hb b0 b3 b4
    go_wp2
    go_ret
    exact ⟨by rw [HR.out]; cases q <;> rfl, ext_trans HBW.out hB⟩
theorem giQ_all (D : Nat) : ∀ d, GiQ d D
  | 0 => giQ_of (fun m h => by cases h)
  | d + 1 => giQ_of (fun m h => by cases h; exact giQ_all D d)
end Go.Proofs.Ytodjokdaofefdaa

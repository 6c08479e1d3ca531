/- The law of SafePolicies, walked. -/
import Derived.Test.YtodjokdaofefdaaGreatQ21
import Derived.Test.YtodjokdaofefdaaGreatQ31
namespace Go.Proofs.YtodjokdaofefdaaGreat
set_option linter.unusedSimpArgs false
set_option linter.unusedVariables false
open Go.RowKit

/-- An operation under a guard that was itself left out. -/
theorem RAll.skippedU {P : Program} {ops : Array Oper} {a0 : Act} {T : Nat → World → Value → Prop} {Inv : Nat → World → Prop} {Rel : Nat → World → World → Prop} {gc : Option Nat} {G : World → Prop} {o : Oper} {l : List Oper} {i : Nat} (j : Nat) (d : Tmp) (want : Bool) (hg : o.guard = some (j, want)) (hdep : depSlot ops i d j = true) (hT : ∀ w v, T j w v → v = undef)
    (h : ∀ (k : Nat) (w : World), Inv k w → T i w undef ∧ Rel i w w ∧ Inv (k + 1) w) (hl : RAll P ops a0 T Inv Rel gc G l (i + 1)) : RAll P ops a0 T Inv Rel gc G (o :: l) i :=
  ⟨fun a k w K Q h1 h2 h3 h4 => by
    have : Region.wanted o (yielded ops a.tmps) = false := by
      have e := yields_not (depSlot_dst hdep) (hT w _ (h3.dep j d hdep))
      cases want <;> simp [Region.wanted, hg, e]
    rw [if_neg (by rw [this]; simp)]
    obtain ⟨t1, t2, t3⟩ := h k w h2
    exact h4 _ _ t1 t2 t3, hl⟩
set_option maxRecDepth 100000 in
set_option maxHeartbeats 8000000 in
theorem lawSafePolicies {A A' : Option Addr} {l l' : List Int} {q q' : Nat} {w : World} (hC : CodeR w w.heap.size A l) (hq : l.length ≤ q) (hC2 : CodeR w w.heap.size A' l') (hq2 : l'.length ≤ q') :
    Calls Tryz.prog 3 #[.slice A l.length q, .slice A' l'.length q'] w fun e w' => e = .returned (.bool true) ∧ Below w.heap.size w w' := by
  have hl := hC.1
  have hl2 := hC2.1
  by_cases hlong : 1048576 < l.length
  · go_enter Tryz.func3, Tryz.ntmps3
    go_wp2
    go_ret
    exact ⟨rfl, Below.refl _ _⟩
  by_cases hlong2 : 1048576 < l'.length
  · go_enter Tryz.func3, Tryz.ntmps3
    go_wp2
    go_ret
    exact ⟨rfl, Below.refl _ _⟩
  go_enter Tryz.func3, Tryz.ntmps3
  go_wp2_with fail
  refine (drawSafePolicies_d hC hq).mono ?_
  rintro e w1 ⟨s, many, ps, A0, A1, C, c0, c1, ct, rfl, hS, hz, h0, h1, hU, hcn, hl8, hct, hctm, hform, hB⟩
  unfold scV
  obtain ⟨n, hn⟩ : ∃ n, safOk 6 s many ps = n := ⟨_, rfl⟩
  have HCI : Hid (∀ (m : Int) (v : World), scR v A0 A1 s → poW 6 v C ps → Calls Tryz.prog 5 #[.agg #[.slice A0 s.1.length c0, .slice A1 s.2.length c1], .int .i64 m, .slice C ps.length ct] v fun e w' => e = .returned (.bool (safOk 6 s m ps)) ∧ Below v.heap.size v w') := Lib.hid (fun m v g1 g2 => implSafePolicies rfl g1 hz h0 h1 g2)
  have HCD : Hid (∀ (m : Nat) (D : Option Addr) (cd : Nat) (v : World), scR v A0 A1 s → poW 6 v D (ps.drop m) → n = true → Calls Tryz.prog 5 #[.agg #[.slice A0 s.1.length c0, .slice A1 s.2.length c1], .int .i64 many, .slice D (ps.length - m) cd] v fun e w' => e = .returned (.bool true) ∧ Below v.heap.size v w') := Lib.hid (fun m D cd v g1 g2 g3 => by
    have := implSafePolicies (c := cd) (many := many) (n := ps.length - m) (by simp) g1 hz h0 h1 g2
    rwa [saf_drop (hn.trans g3) m] at this)
  have HCS : Hid (∀ (v : World), scR v A0 A1 s → poW 6 v C ps → Calls Tryz.prog 6 #[.agg #[.slice A0 s.1.length c0, .slice A1 s.2.length c1], .int .i64 many, .slice C ps.length ct] v fun e w' => e = .returned (.bool n) ∧ Below v.heap.size v w') := Lib.hid (fun v g1 g2 => hn ▸ specSafePolicies g1 hz g2 hcn)
  have HPV : Hid (∀ (v : World), poW 6 v C ps → n = true → Calls Tryz.prog 10 #[.slice C ps.length ct] v fun e w' => e = .returned (.bool true) ∧ Below v.heap.size v w') := Lib.hid (fun v g1 g2 => saf_pos (hn.trans g2) ▸ implPoliciesValid rfl g1)
  have HCF : Hid (∀ (W : WL) (r : Rq) (A B : Option Addr) (c c2 : Nat) (v : World), scR v A0 A1 s → wlR v A W → WfW W → fdR v B r.fs → WfFd r.fs → Calls Tryz.prog 8 #[.agg #[.slice A0 s.1.length c0, .slice A1 s.2.length c1], .slice A W.length c, .agg #[.int .i64 r.who, .int .i64 r.act, .int .i64 r.what, .slice B r.fs.length c2]] v fun e w' => e = .returned (.bool (cfB s W r)) ∧ Below v.heap.size v w') := Lib.hid (fun W r A B c c2 v g1 g2 g3 g4 g5 => implConforms g1 hz h0 h1 g2 g3 g4 g5)
  have HDC : Hid (∀ (W : WL) (r : Rq) (A B : Option Addr) (c c2 : Nat) (v : World), wlR v A W → WfW W → fdR v B r.fs → WfFd r.fs → poW 6 v C ps → cfB s W r = true → safOk 6 s W.length ps = true → Calls Tryz.prog 9 #[.slice A W.length c, .agg #[.int .i64 r.who, .int .i64 r.act, .int .i64 r.what, .slice B r.fs.length c2], .slice C ps.length ct] v fun e w' => ∃ (b : Bool) (A1 : Option Addr) (n1 q1 : Nat), e = .returned (.agg #[.bool b, .slice A1 n1 q1, .slice none 0 0]) ∧ Below v.heap.size v w') := Lib.hid (fun W r A B c c2 v g1 g2 g3 g4 g5 g6 g7 => implDecide g1 g2 g3 g4 g5 g7 g6)
  have HN := Lib.hid hn
  have HFO := Lib.hid hform
  have HL8 := Lib.hid hl8
  have HCT := Lib.hid hct
  have HCM := Lib.hid hctm
  have HC2 : Hid (CodeR w1 w1.heap.size A' l') := Lib.hid ((hC2.below hB).mono_ hB.size)
  obtain ⟨X, hX⟩ : ∃ X, X = w1.alloc (.cells #[.slice A0 s.1.length c0, .slice A1 s.2.length c1] 25) := ⟨_, rfl⟩
  obtain ⟨g, hg⟩ : ∃ g, g = w1.heap.size := ⟨_, rfl⟩
  have hbX : Below w1.heap.size w1 X := by rw [hX]; exact below_alloc _ _
  have hq1 : X.heap[g]? = some (.cells #[.slice A0 s.1.length c0, .slice A1 s.2.length c1] 25 (0, 0)) := by rw [hX, hg]; exact heap_alloc_new _ _
  have HB := Lib.hid (ext_trans hB hbX)
  have HS := Lib.hid (hS.below hbX)
  have HU := Lib.hid (poW.below hU hbX)
  have HC2 := Lib.hid ((HC2.out.below hbX).mono_ hbX.size)
  have HX := Lib.hid hX
  have HG := Lib.hid hg
  have HQ1 := Lib.hid hq1
  obtain ⟨z0, z1⟩ := cells2 hq1
  rw [hX, hg] at z0 z1
  clear hX hg hq1 hbX hB hS hU hC hC2 hn hz h0 h1 hcn hform hl8 hct hctm
  go_wp2_with fail
  rw [← HX.out, ← HG.out]
  refine (HCI.out many _ HS.out HU.out).mono ?_
  rintro e w2 ⟨rfl, hb⟩
  have HB := Lib.hid (ext_trans HB.out hb)
  have HS := Lib.hid (HS.out.below hb)
  have HU := Lib.hid (poW.below HU.out hb)
  have HQ1 := Lib.hid (block_in HQ1.out hb)
  have HC2 := Lib.hid ((HC2.out.below hb).mono_ hb.size)
  clear hb z0 z1
  obtain ⟨z0, z1⟩ := cells2 HQ1.out
  rw [HN.out]
  go_wp2_with fail
  refine (HCS.out _ HS.out HU.out).mono ?_
  rintro e w2 ⟨rfl, hb⟩
  have HB := Lib.hid (ext_trans HB.out hb)
  have HS := Lib.hid (HS.out.below hb)
  have HU := Lib.hid (poW.below HU.out hb)
  have HQ1 := Lib.hid (block_in HQ1.out hb)
  have HC2 := Lib.hid ((HC2.out.below hb).mono_ hb.size)
  clear hb z0 z1
  obtain ⟨z0, z1⟩ := cells2 HQ1.out
  have hnn : (n != n) = false := by simp
  go_wp2_with fail
  refine (drawEvaluate_d HC2.out hq2).mono ?_
  rintro e w3 ⟨W, r, t, A3, B3, C4, cw, c3, c4, rfl, hW, hwf, hF, hff, hE, _, _, hb⟩
  unfold rqV
  obtain ⟨X3, hX3⟩ : ∃ X, X = (w3.alloc (.cells #[.int .i64 r.who, .int .i64 r.act, .int .i64 r.what, .slice B3 r.fs.length c3] 33)).alloc (.cells #[.int .i64 t.k, .int .i64 t.n, .string t.s, .slice C4 t.ps.length c4] 36) := ⟨_, rfl⟩
  obtain ⟨g3, hg3⟩ : ∃ g, g = w3.heap.size := ⟨_, rfl⟩
  have hbX : Below w3.heap.size w3 X3 := by rw [hX3]; (repeat (first | exact Below.refl _ _ | refine ext_alloc ?_ _ | refine Below.setCell ?_ (by simp) _))
  have hq3 : X3.heap[g3]? = some (.cells #[.int .i64 r.who, .int .i64 r.act, .int .i64 r.what, .slice B3 r.fs.length c3] 33 (0, 0)) := by rw [hX3, hg3]; exact block_in (heap_alloc_new _ _) (below_alloc _ _)
  have hbb := ext_trans hb hbX
  have hlen := hW.len
  have HB := Lib.hid (ext_trans HB.out hbb)
  have HS := Lib.hid (HS.out.below hbb)
  have HU := Lib.hid (poW.below HU.out hbb)
  have HQ1 := Lib.hid (block_in HQ1.out hbb)
  have HQ3 := Lib.hid hq3
  have HW := Lib.hid (hW.below hbX)
  have HF := Lib.hid (hF.below hbX)
  have HWF := Lib.hid hwf
  have HFF := Lib.hid hff
  have HX3 := Lib.hid hX3
  have HG3 := Lib.hid hg3
  clear hb hbX hbb hX3 hg3 hq3 hW hF hE hwf hff z0 z1 HC2 hq2 hq hl hl2 hlong hlong2
  obtain ⟨z0, z1⟩ := cells2 HQ1.out
  obtain ⟨y0, y1, y2, y3⟩ := cells4 HQ3.out
  rw [HX3.out] at z0 z1 y0 y1 y2 y3
  rw [HG3.out] at y0 y1 y2 y3
  obtain ⟨z, hz⟩ : ∃ z, safOk 6 s W.length ps = z := ⟨_, rfl⟩
  have HZZ := Lib.hid hz
  clear hz
  go_wp2_with fail
  rw [← HX3.out, ← HG3.out]
  refine (HCI.out _ _ HS.out HU.out).mono ?_
  rintro e w2 ⟨rfl, hb⟩
  have HB := Lib.hid (ext_trans HB.out hb)
  have HS := Lib.hid (HS.out.below hb)
  have HU := Lib.hid (poW.below HU.out hb)
  have HQ1 := Lib.hid (block_in HQ1.out hb)
  have HQ3 := Lib.hid (block_in HQ3.out hb)
  have HW := Lib.hid (HW.out.below hb)
  have HF := Lib.hid (HF.out.below hb)
  clear hb z0 z1 y0 y1 y2 y3
  obtain ⟨z0, z1⟩ := cells2 HQ1.out
  obtain ⟨y0, y1, y2, y3⟩ := cells4 HQ3.out
  rw [HZZ.out]
  have fin : ∀ (P : Prop), P → P := fun _ h => h
  cases z
  case' true =>
    obtain ⟨b, hb0⟩ : ∃ b, cfB s W r = b := ⟨_, rfl⟩
    have HBB := Lib.hid hb0
    clear hb0
    go_wp2_with fail
    refine (HCF.out W r _ _ _ _ _ HS.out HW.out HWF.out HF.out HFF.out).mono ?_
    rintro e w2 ⟨rfl, hb⟩
    have HB := Lib.hid (ext_trans HB.out hb)
    have HS := Lib.hid (HS.out.below hb)
    have HU := Lib.hid (poW.below HU.out hb)
    have HQ1 := Lib.hid (block_in HQ1.out hb)
    have HQ3 := Lib.hid (block_in HQ3.out hb)
    have HW := Lib.hid (HW.out.below hb)
    have HF := Lib.hid (HF.out.below hb)
    clear hb z0 z1 y0 y1 y2 y3
    obtain ⟨z0, z1⟩ := cells2 HQ1.out
    obtain ⟨y0, y1, y2, y3⟩ := cells4 HQ3.out
    rw [HBB.out]
    cases b
    case' true =>
      go_wp2_with fail
      refine (HDC.out W r _ _ _ _ _ HW.out HWF.out HF.out HFF.out HU.out HBB.out HZZ.out).mono ?_
      rintro e w2 ⟨bz, Az, nz, qz, rfl, hb⟩
      have HB := Lib.hid (ext_trans HB.out hb)
      have HS := Lib.hid (HS.out.below hb)
      have HU := Lib.hid (poW.below HU.out hb)
      have HQ1 := Lib.hid (block_in HQ1.out hb)
      have HQ3 := Lib.hid (block_in HQ3.out hb)
      have HW := Lib.hid (HW.out.below hb)
      have HF := Lib.hid (HF.out.below hb)
      clear hb z0 z1 y0 y1 y2 y3
      obtain ⟨z0, z1⟩ := cells2 HQ1.out
      obtain ⟨y0, y1, y2, y3⟩ := cells4 HQ3.out
      have hfd : ∀ w : World, (Instr.field 42 (.agg #[.bool bz, .slice Az nz qz, .slice none 0 0]) 2).run Tryz.prog w = .ok (.slice none 0 0) w := fun _ => by kernel_rfl
  all_goals
    clear y0 y1 y2 y3 HQ3 HW HF HX3 HG3 HWF HFF
    cases n
    · go_wp2_with fail
      refine wp_region_kinds2 (fun i wz vz => match i with | 0 => vz = .bool false | 1 => vz = .bool true | 2 => vz = .bool true | 5 => vz = undef | 15 => vz = .bool true | 16 => vz = .bool true | 17 => vz = .bool true | 18 => vz = .bool true | 19 => vz = .bool true | _ => True) (fun _ wz => Below w2.heap.size w2 wz) (fun i w w' => Below w.heap.size w w') (fun _ => Option.none) (by kernel_rfl) (by kernel_rfl) (by kernel_rfl) ?stab10 (ext_drew (Below.refl _ _)) ?all10 ?fin10
      case stab10 =>
        intro i j wa wb v hR hk hne hd _ h2 hT
        match j, hk, hne, hd, h2, hT with
        | 0, hk, hne, hd, h2, hT => exact hT
        | 1, hk, hne, hd, h2, hT => exact hT
        | 2, hk, hne, hd, h2, hT => exact hT
        | 5, hk, hne, hd, h2, hT => exact hT
        | 15, hk, hne, hd, h2, hT => exact hT
        | 16, hk, hne, hd, h2, hT => exact hT
        | 17, hk, hne, hd, h2, hT => exact hT
        | 18, hk, hne, hd, h2, hT => exact hT
        | 19, hk, hne, hd, h2, hT => exact hT
        | 3, _, _, _, _, _ => trivial
        | 4, _, _, _, _, _ => trivial
        | 6, _, _, _, _, _ => trivial
        | 7, _, _, _, _, _ => trivial
        | 8, _, _, _, _, _ => trivial
        | 9, _, _, _, _, _ => trivial
        | 10, _, _, _, _, _ => trivial
        | 11, _, _, _, _, _ => trivial
        | 12, _, _, _, _, _ => trivial
        | 13, _, _, _, _, _ => trivial
        | 14, _, _, _, _, _ => trivial
        | n + 20, _, _, _, _, _ => trivial
      case all10 =>
        refine RAll.cons rfl ?_ (RAll.cons rfl ?_ (RAll.cons rfl ?_ (RAll.skipped 2 64 false rfl (by kernel_rfl) (fun _ _ h => h) ?_ (RAll.skipped 2 64 false rfl (by kernel_rfl) (fun _ _ h => h) ?_ (RAll.skipped 2 64 false rfl (by kernel_rfl) (fun _ _ h => h) ?_ (RAll.skippedU 5 67 true rfl (by kernel_rfl) (fun _ _ h => h) ?_ (RAll.skippedU 5 67 true rfl (by kernel_rfl) (fun _ _ h => h) ?_ (RAll.skippedU 5 67 true rfl (by kernel_rfl) (fun _ _ h => h) ?_ (RAll.skippedU 5 67 true rfl (by kernel_rfl) (fun _ _ h => h) ?_ (RAll.skippedU 5 67 true rfl (by kernel_rfl) (fun _ _ h => h) ?_ (RAll.skippedU 5 67 true rfl (by kernel_rfl) (fun _ _ h => h) ?_ (RAll.skippedU 5 67 true rfl (by kernel_rfl) (fun _ _ h => h) ?_ (RAll.skippedU 5 67 true rfl (by kernel_rfl) (fun _ _ h => h) ?_ (RAll.skipped 2 64 false rfl (by kernel_rfl) (fun _ _ h => h) ?_ (RAll.cons rfl ?_ (RAll.cons rfl ?_ (RAll.guarded 16 78 true rfl (by kernel_rfl) (fun _ _ h => h) ?_ (RAll.cons rfl ?_ (RAll.cons rfl ?_ (RAll.none_))))))))))))))))))))
        · intro a k wa K Q _ hI hp hK
          exact op_move _ (.inl rfl) (hK _ _ (hp.keep 8 (by kernel_rfl)) (Below.refl _ _) hI)
        · intro a k wa K Q _ hI hp hK
          have e62 := tmp_of (show a.eval (.tmp 62) = .bool false from hp.dep 0 62 (by kernel_rfl))
          go_simp
          exact hK _ _ (rfl) (Below.refl _ _) hI
        · intro a k wa K Q _ hI hp hK
          exact op_move _ (.inl rfl) (hK _ _ (hp.dep 1 63 (by kernel_rfl)) (Below.refl _ _) hI)
        · exact fun k wa hI => ⟨trivial, Below.refl _ _, hI⟩
        · exact fun k wa hI => ⟨trivial, Below.refl _ _, hI⟩
        · exact fun k wa hI => ⟨rfl, Below.refl _ _, hI⟩
        · exact fun k wa hI => ⟨trivial, Below.refl _ _, hI⟩
        · exact fun k wa hI => ⟨trivial, Below.refl _ _, hI⟩
        · exact fun k wa hI => ⟨trivial, Below.refl _ _, hI⟩
        · exact fun k wa hI => ⟨trivial, Below.refl _ _, hI⟩
        · exact fun k wa hI => ⟨trivial, Below.refl _ _, hI⟩
        · exact fun k wa hI => ⟨trivial, Below.refl _ _, hI⟩
        · exact fun k wa hI => ⟨trivial, Below.refl _ _, hI⟩
        · exact fun k wa hI => ⟨trivial, Below.refl _ _, hI⟩
        · exact fun k wa hI => ⟨trivial, Below.refl _ _, hI⟩
        · intro a k wa K Q _ hI hp hK
          exact op_pick_t _ _ _ rfl (hp.dep 2 64 (by kernel_rfl)) (hK _ _ (rfl) (Below.refl _ _) hI)
        · intro a k wa K Q _ hI hp hK
          exact op_move _ (.inl rfl) (hK _ _ (hp.dep 15 77 (by kernel_rfl)) (Below.refl _ _) hI)
        · intro a k wa K Q _ hI hp hK
          go_simp
          refine (alive_any _).mono ?_
          rintro e wb ⟨rfl, hb⟩
          exact hK _ _ (rfl) hb (ext_trans hI hb)
        · intro a k wa K Q _ hI hp hK
          exact op_pick_t _ _ _ rfl (hp.dep 16 78 (by kernel_rfl)) (hK _ _ (hp.dep 17 79 (by kernel_rfl)) (Below.refl _ _) hI)
        · intro a k wa K Q _ hI hp hK
          exact op_move _ (.inr rfl) (hK _ _ (hp.dep 18 80 (by kernel_rfl)) (Below.refl _ _) hI)
      case fin10 =>
        intro f w9 hT hI0
        have hI : Below w2.heap.size w2 w9 := hI0
        have hr9 : (f 19) = .bool true := hT 19 (by decide) rfl rfl
        clear hT hI0
        simp only [putAll, hr9]
        go_simp
        go_wp2
        go_ret
        exact ⟨rfl, ext_trans HB.out hI⟩
    · rcases HFO.out with ⟨rfl, rfl, rfl⟩ | ⟨b, off, rfl⟩
      · go_wp2_with fail
        refine wp_region_kinds2 (fun i wz vz => match i with | 0 => vz = .bool true | 1 => vz = .bool false | 2 => vz = .bool false | 3 => vz = .slice none 0 0 | 4 => vz = .bool true | 5 => vz = .bool true | 6 => vz = .agg #[.slice A0 s.1.length c0, .slice A1 s.2.length c1] | 7 => vz = .int .i64 many | 8 => vz = .slice none 0 0 | 9 => vz = .slice none 0 0 | 10 => vz = .int .i64 0 | 11 => vz = .int .i64 0 | 12 => vz = .slice none 0 0 | 13 => vz = .bool true | 14 => vz = .bool true | 15 => vz = .bool true | 16 => vz = .bool true | 17 => vz = .bool true | 18 => vz = .bool true | 19 => vz = .bool true | _ => True) (fun _ wz => Below w2.heap.size w2 wz) (fun i w w' => Below w.heap.size w w') (fun _ => Option.none) (by kernel_rfl) (by kernel_rfl) (by kernel_rfl) ?stab10 (ext_drew (Below.refl _ _)) ?all10 ?fin10
        case stab10 =>
          intro i j wa wb v hR hk hne hd _ h2 hT
          match j, hk, hne, hd, h2, hT with
          | 0, hk, hne, hd, h2, hT => exact hT
          | 1, hk, hne, hd, h2, hT => exact hT
          | 2, hk, hne, hd, h2, hT => exact hT
          | 3, hk, hne, hd, h2, hT => exact hT
          | 4, hk, hne, hd, h2, hT => exact hT
          | 5, hk, hne, hd, h2, hT => exact hT
          | 6, hk, hne, hd, h2, hT => exact hT
          | 7, hk, hne, hd, h2, hT => exact hT
          | 8, hk, hne, hd, h2, hT => exact hT
          | 9, hk, hne, hd, h2, hT => exact hT
          | 10, hk, hne, hd, h2, hT => exact hT
          | 11, hk, hne, hd, h2, hT => exact hT
          | 12, hk, hne, hd, h2, hT => exact hT
          | 13, hk, hne, hd, h2, hT => exact hT
          | 14, hk, hne, hd, h2, hT => exact hT
          | 15, hk, hne, hd, h2, hT => exact hT
          | 16, hk, hne, hd, h2, hT => exact hT
          | 17, hk, hne, hd, h2, hT => exact hT
          | 18, hk, hne, hd, h2, hT => exact hT
          | 19, hk, hne, hd, h2, hT => exact hT
          | n + 20, _, _, _, _, _ => trivial
        case all10 =>
          refine RAll.cons rfl ?_ (RAll.cons rfl ?_ (RAll.cons rfl ?_ (RAll.guarded 2 64 false rfl (by kernel_rfl) (fun _ _ h => h) ?_ (RAll.guarded 2 64 false rfl (by kernel_rfl) (fun _ _ h => h) ?_ (RAll.guarded 2 64 false rfl (by kernel_rfl) (fun _ _ h => h) ?_ (RAll.guarded 5 67 true rfl (by kernel_rfl) (fun _ _ h => h) ?_ (RAll.guarded 5 67 true rfl (by kernel_rfl) (fun _ _ h => h) ?_ (RAll.guarded 5 67 true rfl (by kernel_rfl) (fun _ _ h => h) ?_ (RAll.guarded 5 67 true rfl (by kernel_rfl) (fun _ _ h => h) ?_ (RAll.guarded 5 67 true rfl (by kernel_rfl) (fun _ _ h => h) ?_ (RAll.guarded 5 67 true rfl (by kernel_rfl) (fun _ _ h => h) ?_ (RAll.guarded 5 67 true rfl (by kernel_rfl) (fun _ _ h => h) ?_ (RAll.guarded 5 67 true rfl (by kernel_rfl) (fun _ _ h => h) ?_ (RAll.guarded 2 64 false rfl (by kernel_rfl) (fun _ _ h => h) ?_ (RAll.cons rfl ?_ (RAll.cons rfl ?_ (RAll.guarded 16 78 true rfl (by kernel_rfl) (fun _ _ h => h) ?_ (RAll.cons rfl ?_ (RAll.cons rfl ?_ (RAll.none_))))))))))))))))))))
          · intro a k wa K Q _ hI hp hK
            exact op_move _ (.inl rfl) (hK _ _ (hp.keep 8 (by kernel_rfl)) (Below.refl _ _) hI)
          · intro a k wa K Q _ hI hp hK
            have e62 := tmp_of (show a.eval (.tmp 62) = .bool true from hp.dep 0 62 (by kernel_rfl))
            go_simp
            exact hK _ _ (rfl) (Below.refl _ _) hI
          · intro a k wa K Q _ hI hp hK
            exact op_move _ (.inl rfl) (hK _ _ (hp.dep 1 63 (by kernel_rfl)) (Below.refl _ _) hI)
          · intro a k wa K Q _ hI hp hK
            exact op_move _ (.inl rfl) (hK _ _ (hp.keep 7 (by kernel_rfl)) (Below.refl _ _) hI)
          · intro a k wa K Q _ hI hp hK
            have e65 := tmp_of (show a.eval (.tmp 65) = .slice none 0 0 from hp.dep 3 65 (by kernel_rfl))
            go_simp
            refine (HPV.out _ (poW.below HU.out hI) (by first | trivial | rfl)).mono ?_
            rintro e wb ⟨rfl, hb⟩
            exact hK _ _ (rfl) hb (ext_trans hI hb)
          · intro a k wa K Q _ hI hp hK
            exact op_move _ (.inl rfl) (hK _ _ (hp.dep 4 66 (by kernel_rfl)) (Below.refl _ _) hI)
          · intro a k wa K Q _ hI hp hK
            have e5 := tmp_of (show a.eval (.tmp 5) = .pointer (some ⟨g, 0, none⟩) from hp.keep 5 (by kernel_rfl))
            have z0_ := below_cell hI z0
            have z1_ := below_cell hI z1
            go_simp
            exact hK _ _ rfl (Below.refl _ _) hI
          · intro a k wa K Q _ hI hp hK
            exact op_move _ (.inl rfl) (hK _ _ (hp.keep 6 (by kernel_rfl)) (Below.refl _ _) hI)
          · intro a k wa K Q _ hI hp hK
            exact op_move _ (.inl rfl) (hK _ _ (hp.keep 7 (by kernel_rfl)) (Below.refl _ _) hI)
          · intro a k wa K Q _ hI hp hK
            exact op_move _ (.inl rfl) (hK _ _ (hp.keep 7 (by kernel_rfl)) (Below.refl _ _) hI)
          · intro a k wa K Q _ hI hp hK
            have e71 := tmp_of (show a.eval (.tmp 71) = .slice none 0 0 from hp.dep 9 71 (by kernel_rfl))
            go_simp
            exact hK _ _ (rfl) (Below.refl _ _) hI
          · intro a k wa K Q _ hI hp hK
            have e72 := tmp_of (show a.eval (.tmp 72) = .int .i64 0 from hp.dep 10 72 (by kernel_rfl))
            go_simp
            exact hK _ _ (rfl) (Below.refl _ _) hI
          · intro a k wa K Q _ hI hp hK
            have e70 := tmp_of (show a.eval (.tmp 70) = .slice none 0 0 from hp.dep 8 70 (by kernel_rfl))
            have e73 := tmp_of (show a.eval (.tmp 73) = .int .i64 0 from hp.dep 11 73 (by kernel_rfl))
            go_simp
            exact hK _ _ (rfl) (Below.refl _ _) hI
          · intro a k wa K Q _ hI hp hK
            have e68 := tmp_of (show a.eval (.tmp 68) = .agg #[.slice A0 s.1.length c0, .slice A1 s.2.length c1] from hp.dep 6 68 (by kernel_rfl))
            have e69 := tmp_of (show a.eval (.tmp 69) = .int .i64 many from hp.dep 7 69 (by kernel_rfl))
            have e74 := tmp_of (show a.eval (.tmp 74) = .slice none 0 0 from hp.dep 12 74 (by kernel_rfl))
            go_simp
            refine (HCD.out 0 none 0 _ (HS.out.below hI) (poW.below HU.out hI) (by first | trivial | rfl)).mono ?_
            rintro e wb ⟨rfl, hb⟩
            exact hK _ _ (rfl) hb (ext_trans hI hb)
          · intro a k wa K Q _ hI hp hK
            exact op_pick_t _ _ _ rfl (hp.dep 5 67 (by kernel_rfl)) (hK _ _ (hp.dep 13 75 (by kernel_rfl)) (Below.refl _ _) hI)
          · intro a k wa K Q _ hI hp hK
            exact op_pick_f _ _ _ rfl (hp.dep 2 64 (by kernel_rfl)) (hK _ _ (hp.dep 14 76 (by kernel_rfl)) (Below.refl _ _) hI)
          · intro a k wa K Q _ hI hp hK
            exact op_move _ (.inl rfl) (hK _ _ (hp.dep 15 77 (by kernel_rfl)) (Below.refl _ _) hI)
          · intro a k wa K Q _ hI hp hK
            go_simp
            refine (alive_any _).mono ?_
            rintro e wb ⟨rfl, hb⟩
            exact hK _ _ (rfl) hb (ext_trans hI hb)
          · intro a k wa K Q _ hI hp hK
            exact op_pick_t _ _ _ rfl (hp.dep 16 78 (by kernel_rfl)) (hK _ _ (hp.dep 17 79 (by kernel_rfl)) (Below.refl _ _) hI)
          · intro a k wa K Q _ hI hp hK
            exact op_move _ (.inr rfl) (hK _ _ (hp.dep 18 80 (by kernel_rfl)) (Below.refl _ _) hI)
        case fin10 =>
          intro f w9 hT hI0
          have hI : Below w2.heap.size w2 w9 := hI0
          have hr9 : (f 19) = .bool true := hT 19 (by decide) rfl rfl
          clear hT hI0
          simp only [putAll, hr9]
          go_simp
          go_wp2
          go_ret
          exact ⟨rfl, ext_trans HB.out hI⟩
      · rcases Nat.eq_zero_or_pos ps.length with h0 | h0
        · obtain rfl := List.eq_nil_of_length_eq_zero h0
          clear h0
          go_wp2_with fail
          refine wp_region_kinds2 (fun i wz vz => match i with | 0 => vz = .bool true | 1 => vz = .bool false | 2 => vz = .bool false | 3 => vz = .slice (some ⟨b, off, none⟩) 0 ct | 4 => vz = .bool true | 5 => vz = .bool true | 6 => vz = .agg #[.slice A0 s.1.length c0, .slice A1 s.2.length c1] | 7 => vz = .int .i64 many | 8 => vz = .slice (some ⟨b, off, none⟩) 0 ct | 9 => vz = .slice (some ⟨b, off, none⟩) 0 ct | 10 => vz = .int .i64 0 | 11 => vz = .int .i64 0 | 12 => vz = .slice (some ⟨b, off, none⟩) 0 ct | 13 => vz = .bool true | 14 => vz = .bool true | 15 => vz = .bool true | 16 => vz = .bool true | 17 => vz = .bool true | 18 => vz = .bool true | 19 => vz = .bool true | _ => True) (fun _ wz => Below w2.heap.size w2 wz) (fun i w w' => Below w.heap.size w w') (fun _ => Option.none) (by kernel_rfl) (by kernel_rfl) (by kernel_rfl) ?stab10 (ext_drew (Below.refl _ _)) ?all10 ?fin10
          case stab10 =>
            intro i j wa wb v hR hk hne hd _ h2 hT
            match j, hk, hne, hd, h2, hT with
            | 0, hk, hne, hd, h2, hT => exact hT
            | 1, hk, hne, hd, h2, hT => exact hT
            | 2, hk, hne, hd, h2, hT => exact hT
            | 3, hk, hne, hd, h2, hT => exact hT
            | 4, hk, hne, hd, h2, hT => exact hT
            | 5, hk, hne, hd, h2, hT => exact hT
            | 6, hk, hne, hd, h2, hT => exact hT
            | 7, hk, hne, hd, h2, hT => exact hT
            | 8, hk, hne, hd, h2, hT => exact hT
            | 9, hk, hne, hd, h2, hT => exact hT
            | 10, hk, hne, hd, h2, hT => exact hT
            | 11, hk, hne, hd, h2, hT => exact hT
            | 12, hk, hne, hd, h2, hT => exact hT
            | 13, hk, hne, hd, h2, hT => exact hT
            | 14, hk, hne, hd, h2, hT => exact hT
            | 15, hk, hne, hd, h2, hT => exact hT
            | 16, hk, hne, hd, h2, hT => exact hT
            | 17, hk, hne, hd, h2, hT => exact hT
            | 18, hk, hne, hd, h2, hT => exact hT
            | 19, hk, hne, hd, h2, hT => exact hT
            | n + 20, _, _, _, _, _ => trivial
          case all10 =>
            refine RAll.cons rfl ?_ (RAll.cons rfl ?_ (RAll.cons rfl ?_ (RAll.guarded 2 64 false rfl (by kernel_rfl) (fun _ _ h => h) ?_ (RAll.guarded 2 64 false rfl (by kernel_rfl) (fun _ _ h => h) ?_ (RAll.guarded 2 64 false rfl (by kernel_rfl) (fun _ _ h => h) ?_ (RAll.guarded 5 67 true rfl (by kernel_rfl) (fun _ _ h => h) ?_ (RAll.guarded 5 67 true rfl (by kernel_rfl) (fun _ _ h => h) ?_ (RAll.guarded 5 67 true rfl (by kernel_rfl) (fun _ _ h => h) ?_ (RAll.guarded 5 67 true rfl (by kernel_rfl) (fun _ _ h => h) ?_ (RAll.guarded 5 67 true rfl (by kernel_rfl) (fun _ _ h => h) ?_ (RAll.guarded 5 67 true rfl (by kernel_rfl) (fun _ _ h => h) ?_ (RAll.guarded 5 67 true rfl (by kernel_rfl) (fun _ _ h => h) ?_ (RAll.guarded 5 67 true rfl (by kernel_rfl) (fun _ _ h => h) ?_ (RAll.guarded 2 64 false rfl (by kernel_rfl) (fun _ _ h => h) ?_ (RAll.cons rfl ?_ (RAll.cons rfl ?_ (RAll.guarded 16 78 true rfl (by kernel_rfl) (fun _ _ h => h) ?_ (RAll.cons rfl ?_ (RAll.cons rfl ?_ (RAll.none_))))))))))))))))))))
            · intro a k wa K Q _ hI hp hK
              exact op_move _ (.inl rfl) (hK _ _ (hp.keep 8 (by kernel_rfl)) (Below.refl _ _) hI)
            · intro a k wa K Q _ hI hp hK
              have e62 := tmp_of (show a.eval (.tmp 62) = .bool true from hp.dep 0 62 (by kernel_rfl))
              go_simp
              exact hK _ _ (rfl) (Below.refl _ _) hI
            · intro a k wa K Q _ hI hp hK
              exact op_move _ (.inl rfl) (hK _ _ (hp.dep 1 63 (by kernel_rfl)) (Below.refl _ _) hI)
            · intro a k wa K Q _ hI hp hK
              exact op_move _ (.inl rfl) (hK _ _ (hp.keep 7 (by kernel_rfl)) (Below.refl _ _) hI)
            · intro a k wa K Q _ hI hp hK
              have e65 := tmp_of (show a.eval (.tmp 65) = .slice (some ⟨b, off, none⟩) 0 ct from hp.dep 3 65 (by kernel_rfl))
              go_simp
              refine (HPV.out _ (poW.below HU.out hI) (by first | trivial | rfl)).mono ?_
              rintro e wb ⟨rfl, hb⟩
              exact hK _ _ (rfl) hb (ext_trans hI hb)
            · intro a k wa K Q _ hI hp hK
              exact op_move _ (.inl rfl) (hK _ _ (hp.dep 4 66 (by kernel_rfl)) (Below.refl _ _) hI)
            · intro a k wa K Q _ hI hp hK
              have e5 := tmp_of (show a.eval (.tmp 5) = .pointer (some ⟨g, 0, none⟩) from hp.keep 5 (by kernel_rfl))
              have z0_ := below_cell hI z0
              have z1_ := below_cell hI z1
              go_simp
              exact hK _ _ rfl (Below.refl _ _) hI
            · intro a k wa K Q _ hI hp hK
              exact op_move _ (.inl rfl) (hK _ _ (hp.keep 6 (by kernel_rfl)) (Below.refl _ _) hI)
            · intro a k wa K Q _ hI hp hK
              exact op_move _ (.inl rfl) (hK _ _ (hp.keep 7 (by kernel_rfl)) (Below.refl _ _) hI)
            · intro a k wa K Q _ hI hp hK
              exact op_move _ (.inl rfl) (hK _ _ (hp.keep 7 (by kernel_rfl)) (Below.refl _ _) hI)
            · intro a k wa K Q _ hI hp hK
              have e71 := tmp_of (show a.eval (.tmp 71) = .slice (some ⟨b, off, none⟩) 0 ct from hp.dep 9 71 (by kernel_rfl))
              go_simp
              exact hK _ _ (rfl) (Below.refl _ _) hI
            · intro a k wa K Q _ hI hp hK
              have e72 := tmp_of (show a.eval (.tmp 72) = .int .i64 0 from hp.dep 10 72 (by kernel_rfl))
              go_simp
              exact hK _ _ (rfl) (Below.refl _ _) hI
            · intro a k wa K Q _ hI hp hK
              have e70 := tmp_of (show a.eval (.tmp 70) = .slice (some ⟨b, off, none⟩) 0 ct from hp.dep 8 70 (by kernel_rfl))
              have e73 := tmp_of (show a.eval (.tmp 73) = .int .i64 0 from hp.dep 11 73 (by kernel_rfl))
              go_simp
              exact hK _ _ (rfl) (Below.refl _ _) hI
            · intro a k wa K Q _ hI hp hK
              have e68 := tmp_of (show a.eval (.tmp 68) = .agg #[.slice A0 s.1.length c0, .slice A1 s.2.length c1] from hp.dep 6 68 (by kernel_rfl))
              have e69 := tmp_of (show a.eval (.tmp 69) = .int .i64 many from hp.dep 7 69 (by kernel_rfl))
              have e74 := tmp_of (show a.eval (.tmp 74) = .slice (some ⟨b, off, none⟩) 0 ct from hp.dep 12 74 (by kernel_rfl))
              go_simp
              refine (HCD.out 0 (some ⟨b, off, none⟩) ct _ (HS.out.below hI) (poW.below HU.out hI) (by first | trivial | rfl)).mono ?_
              rintro e wb ⟨rfl, hb⟩
              exact hK _ _ (rfl) hb (ext_trans hI hb)
            · intro a k wa K Q _ hI hp hK
              exact op_pick_t _ _ _ rfl (hp.dep 5 67 (by kernel_rfl)) (hK _ _ (hp.dep 13 75 (by kernel_rfl)) (Below.refl _ _) hI)
            · intro a k wa K Q _ hI hp hK
              exact op_pick_f _ _ _ rfl (hp.dep 2 64 (by kernel_rfl)) (hK _ _ (hp.dep 14 76 (by kernel_rfl)) (Below.refl _ _) hI)
            · intro a k wa K Q _ hI hp hK
              exact op_move _ (.inl rfl) (hK _ _ (hp.dep 15 77 (by kernel_rfl)) (Below.refl _ _) hI)
            · intro a k wa K Q _ hI hp hK
              go_simp
              refine (alive_any _).mono ?_
              rintro e wb ⟨rfl, hb⟩
              exact hK _ _ (rfl) hb (ext_trans hI hb)
            · intro a k wa K Q _ hI hp hK
              exact op_pick_t _ _ _ rfl (hp.dep 16 78 (by kernel_rfl)) (hK _ _ (hp.dep 17 79 (by kernel_rfl)) (Below.refl _ _) hI)
            · intro a k wa K Q _ hI hp hK
              exact op_move _ (.inr rfl) (hK _ _ (hp.dep 18 80 (by kernel_rfl)) (Below.refl _ _) hI)
          case fin10 =>
            intro f w9 hT hI0
            have hI : Below w2.heap.size w2 w9 := hI0
            have hr9 : (f 19) = .bool true := hT 19 (by decide) rfl rfl
            clear hT hI0
            simp only [putAll, hr9]
            go_simp
            go_wp2
            go_ret
            exact ⟨rfl, ext_trans HB.out hI⟩
        · have hlt : ps.length / 2 < ct := by have := HCT.out; omega
          have hle : ps.length / 2 ≤ ps.length := by omega
          have hn12 : ((ps.length : Int) / 2).toNat = ps.length / 2 := by omega
          have hne12 : ¬ ct = ps.length / 2 := by omega
          have hwr : IntKind.i64.wrap ((ps.length : Int) / 2) = (ps.length : Int) / 2 := IntWalk.i64_in _ (by have := HL8.out; omega)
          go_wp2_with fail
          refine wp_region_kinds2 (fun i wz vz => match i with | 0 => vz = .bool true | 1 => vz = .bool false | 2 => vz = .bool false | 3 => vz = .slice (some ⟨b, off, none⟩) ps.length ct | 4 => vz = .bool true | 5 => vz = .bool true | 6 => vz = .agg #[.slice A0 s.1.length c0, .slice A1 s.2.length c1] | 7 => vz = .int .i64 many | 8 => vz = .slice (some ⟨b, off, none⟩) ps.length ct | 9 => vz = .slice (some ⟨b, off, none⟩) ps.length ct | 10 => vz = .int .i64 ps.length | 11 => vz = .int .i64 (ps.length / 2 : Nat) | 12 => vz = .slice (some ⟨b, off + ps.length / 2 * 9, none⟩) (ps.length - ps.length / 2) (ct - ps.length / 2) | 13 => vz = .bool true | 14 => vz = .bool true | 15 => vz = .bool true | 16 => vz = .bool true | 17 => vz = .bool true | 18 => vz = .bool true | 19 => vz = .bool true | _ => True) (fun _ wz => Below w2.heap.size w2 wz) (fun i w w' => Below w.heap.size w w') (fun _ => Option.none) (by kernel_rfl) (by kernel_rfl) (by kernel_rfl) ?stab10 (ext_drew (Below.refl _ _)) ?all10 ?fin10
          case stab10 =>
            intro i j wa wb v hR hk hne hd _ h2 hT
            match j, hk, hne, hd, h2, hT with
            | 0, hk, hne, hd, h2, hT => exact hT
            | 1, hk, hne, hd, h2, hT => exact hT
            | 2, hk, hne, hd, h2, hT => exact hT
            | 3, hk, hne, hd, h2, hT => exact hT
            | 4, hk, hne, hd, h2, hT => exact hT
            | 5, hk, hne, hd, h2, hT => exact hT
            | 6, hk, hne, hd, h2, hT => exact hT
            | 7, hk, hne, hd, h2, hT => exact hT
            | 8, hk, hne, hd, h2, hT => exact hT
            | 9, hk, hne, hd, h2, hT => exact hT
            | 10, hk, hne, hd, h2, hT => exact hT
            | 11, hk, hne, hd, h2, hT => exact hT
            | 12, hk, hne, hd, h2, hT => exact hT
            | 13, hk, hne, hd, h2, hT => exact hT
            | 14, hk, hne, hd, h2, hT => exact hT
            | 15, hk, hne, hd, h2, hT => exact hT
            | 16, hk, hne, hd, h2, hT => exact hT
            | 17, hk, hne, hd, h2, hT => exact hT
            | 18, hk, hne, hd, h2, hT => exact hT
            | 19, hk, hne, hd, h2, hT => exact hT
            | n + 20, _, _, _, _, _ => trivial
          case all10 =>
            refine RAll.cons rfl ?_ (RAll.cons rfl ?_ (RAll.cons rfl ?_ (RAll.guarded 2 64 false rfl (by kernel_rfl) (fun _ _ h => h) ?_ (RAll.guarded 2 64 false rfl (by kernel_rfl) (fun _ _ h => h) ?_ (RAll.guarded 2 64 false rfl (by kernel_rfl) (fun _ _ h => h) ?_ (RAll.guarded 5 67 true rfl (by kernel_rfl) (fun _ _ h => h) ?_ (RAll.guarded 5 67 true rfl (by kernel_rfl) (fun _ _ h => h) ?_ (RAll.guarded 5 67 true rfl (by kernel_rfl) (fun _ _ h => h) ?_ (RAll.guarded 5 67 true rfl (by kernel_rfl) (fun _ _ h => h) ?_ (RAll.guarded 5 67 true rfl (by kernel_rfl) (fun _ _ h => h) ?_ (RAll.guarded 5 67 true rfl (by kernel_rfl) (fun _ _ h => h) ?_ (RAll.guarded 5 67 true rfl (by kernel_rfl) (fun _ _ h => h) ?_ (RAll.guarded 5 67 true rfl (by kernel_rfl) (fun _ _ h => h) ?_ (RAll.guarded 2 64 false rfl (by kernel_rfl) (fun _ _ h => h) ?_ (RAll.cons rfl ?_ (RAll.cons rfl ?_ (RAll.guarded 16 78 true rfl (by kernel_rfl) (fun _ _ h => h) ?_ (RAll.cons rfl ?_ (RAll.cons rfl ?_ (RAll.none_))))))))))))))))))))
            · intro a k wa K Q _ hI hp hK
              exact op_move _ (.inl rfl) (hK _ _ (hp.keep 8 (by kernel_rfl)) (Below.refl _ _) hI)
            · intro a k wa K Q _ hI hp hK
              have e62 := tmp_of (show a.eval (.tmp 62) = .bool true from hp.dep 0 62 (by kernel_rfl))
              go_simp
              exact hK _ _ (rfl) (Below.refl _ _) hI
            · intro a k wa K Q _ hI hp hK
              exact op_move _ (.inl rfl) (hK _ _ (hp.dep 1 63 (by kernel_rfl)) (Below.refl _ _) hI)
            · intro a k wa K Q _ hI hp hK
              exact op_move _ (.inl rfl) (hK _ _ (hp.keep 7 (by kernel_rfl)) (Below.refl _ _) hI)
            · intro a k wa K Q _ hI hp hK
              have e65 := tmp_of (show a.eval (.tmp 65) = .slice (some ⟨b, off, none⟩) ps.length ct from hp.dep 3 65 (by kernel_rfl))
              go_simp
              refine (HPV.out _ (poW.below HU.out hI) (by first | trivial | rfl)).mono ?_
              rintro e wb ⟨rfl, hb⟩
              exact hK _ _ (rfl) hb (ext_trans hI hb)
            · intro a k wa K Q _ hI hp hK
              exact op_move _ (.inl rfl) (hK _ _ (hp.dep 4 66 (by kernel_rfl)) (Below.refl _ _) hI)
            · intro a k wa K Q _ hI hp hK
              have e5 := tmp_of (show a.eval (.tmp 5) = .pointer (some ⟨g, 0, none⟩) from hp.keep 5 (by kernel_rfl))
              have z0_ := below_cell hI z0
              have z1_ := below_cell hI z1
              go_simp
              exact hK _ _ rfl (Below.refl _ _) hI
            · intro a k wa K Q _ hI hp hK
              exact op_move _ (.inl rfl) (hK _ _ (hp.keep 6 (by kernel_rfl)) (Below.refl _ _) hI)
            · intro a k wa K Q _ hI hp hK
              exact op_move _ (.inl rfl) (hK _ _ (hp.keep 7 (by kernel_rfl)) (Below.refl _ _) hI)
            · intro a k wa K Q _ hI hp hK
              exact op_move _ (.inl rfl) (hK _ _ (hp.keep 7 (by kernel_rfl)) (Below.refl _ _) hI)
            · intro a k wa K Q _ hI hp hK
              have e71 := tmp_of (show a.eval (.tmp 71) = .slice (some ⟨b, off, none⟩) ps.length ct from hp.dep 9 71 (by kernel_rfl))
              go_simp
              exact hK _ _ (rfl) (Below.refl _ _) hI
            · intro a k wa K Q _ hI hp hK
              have e72 := tmp_of (show a.eval (.tmp 72) = .int .i64 ps.length from hp.dep 10 72 (by kernel_rfl))
              go_simp
              exact hK _ _ (by simp [hwr]) (Below.refl _ _) hI
            · intro a k wa K Q _ hI hp hK
              have e70 := tmp_of (show a.eval (.tmp 70) = .slice (some ⟨b, off, none⟩) ps.length ct from hp.dep 8 70 (by kernel_rfl))
              have e73 := tmp_of (show a.eval (.tmp 73) = .int .i64 (ps.length / 2 : Nat) from hp.dep 11 73 (by kernel_rfl))
              go_simp
              rw [if_pos ⟨by omega, by omega⟩]
              exact hK _ _ rfl (Below.refl _ _) hI
            · intro a k wa K Q _ hI hp hK
              have e68 := tmp_of (show a.eval (.tmp 68) = .agg #[.slice A0 s.1.length c0, .slice A1 s.2.length c1] from hp.dep 6 68 (by kernel_rfl))
              have e69 := tmp_of (show a.eval (.tmp 69) = .int .i64 many from hp.dep 7 69 (by kernel_rfl))
              have e74 := tmp_of (show a.eval (.tmp 74) = .slice (some ⟨b, off + ps.length / 2 * 9, none⟩) (ps.length - ps.length / 2) (ct - ps.length / 2) from hp.dep 12 74 (by kernel_rfl))
              go_simp
              refine (HCD.out (ps.length / 2) _ _ _ (HS.out.below hI) (poW_drop (poW.below HU.out hI) _) (by first | trivial | rfl)).mono ?_
              rintro e wb ⟨rfl, hb⟩
              exact hK _ _ (rfl) hb (ext_trans hI hb)
            · intro a k wa K Q _ hI hp hK
              exact op_pick_t _ _ _ rfl (hp.dep 5 67 (by kernel_rfl)) (hK _ _ (hp.dep 13 75 (by kernel_rfl)) (Below.refl _ _) hI)
            · intro a k wa K Q _ hI hp hK
              exact op_pick_f _ _ _ rfl (hp.dep 2 64 (by kernel_rfl)) (hK _ _ (hp.dep 14 76 (by kernel_rfl)) (Below.refl _ _) hI)
            · intro a k wa K Q _ hI hp hK
              exact op_move _ (.inl rfl) (hK _ _ (hp.dep 15 77 (by kernel_rfl)) (Below.refl _ _) hI)
            · intro a k wa K Q _ hI hp hK
              go_simp
              refine (alive_any _).mono ?_
              rintro e wb ⟨rfl, hb⟩
              exact hK _ _ (rfl) hb (ext_trans hI hb)
            · intro a k wa K Q _ hI hp hK
              exact op_pick_t _ _ _ rfl (hp.dep 16 78 (by kernel_rfl)) (hK _ _ (hp.dep 17 79 (by kernel_rfl)) (Below.refl _ _) hI)
            · intro a k wa K Q _ hI hp hK
              exact op_move _ (.inr rfl) (hK _ _ (hp.dep 18 80 (by kernel_rfl)) (Below.refl _ _) hI)
          case fin10 =>
            intro f w9 hT hI0
            have hI : Below w2.heap.size w2 w9 := hI0
            have hr9 : (f 19) = .bool true := hT 19 (by decide) rfl rfl
            clear hT hI0
            simp only [putAll, hr9]
            go_simp
            go_wp2
            go_ret
            exact ⟨rfl, ext_trans HB.out hI⟩
end Go.Proofs.YtodjokdaofefdaaGreat

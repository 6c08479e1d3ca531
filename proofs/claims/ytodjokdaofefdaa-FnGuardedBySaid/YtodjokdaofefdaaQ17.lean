/- Guards that are added, by the program: what is done with each expression, walked. -/
import Derived.Test.YtodjokdaofefdaaQ16
namespace Go.Proofs.Ytodjokdaofefdaa
set_option linter.unusedSimpArgs false
set_option linter.unusedVariables false
open Go.RowKit

set_option maxRecDepth 100000 in
set_option maxHeartbeats 8000000 in
theorem gi1_any {D n0 b4 b5 : Nat} {pre : ExL} {A : Option Addr} {x : Ex} {c : Nat} {w : World} (hJ : GiJ D n0 b4 b5 pre w) (hU : exS D 0 n0 w A x.ps) (hs : x.s.size ≤ 9223372036854775807) (hn : pre.length + 1 ≤ 1048576) :
    Calls Try.prog 80 #[.agg #[.int .i64 x.k, .int .i64 x.n, .string x.s, .slice A x.ps.length c], .pointer (some ⟨b4, 0, none⟩), .pointer (some ⟨b5, 0, none⟩)] w fun e w' => (∃ v, e = .returned v) ∧ GiJ D n0 b4 b5 (pre ++ [x]) w' ∧ GiF b4 b5 w w' := by
  have hlt5 := hJ.lt
  obtain ⟨gl, hgl⟩ : ∃ gl, gl = adL pre := ⟨_, rfl⟩
  obtain ⟨y, hy⟩ : ∃ y, y = as7 pre := ⟨_, rfl⟩
  rw [GiJ, ← hgl, ← hy] at hJ
  have HJ1 := Lib.hid (show ∀ w', GiP D n0 b4 b5 (y || decide (x.k = 7)) (addI x gl) w' → GiJ D n0 b4 b5 (pre ++ [x]) w' from fun w' h => by rw [GiJ, as7_snoc, adL_snoc, ← hgl, ← hy]; exact h)
  have HGN : Hid (gl.length + 1 ≤ 1048576) := Lib.hid (by have := adL_len pre; rw [← hgl] at this; omega)
  have hp : GiP D n0 b4 b5 y gl w := hJ
  obtain ⟨h0, h4, _, _, h5, hO⟩ := hJ
  have hn0 : n0 ≤ w.heap.size := hO.1.1
  obtain ⟨a4, z4⟩ := cell1 h4
  have hlt4 : b4 < w.heap.size := by omega
  clear hgl hy h4 h5 hO hn
  obtain ⟨gx, hgx⟩ : ∃ g, g = w.heap.size := ⟨_, rfl⟩
  have HGX := Lib.hid hgx
  obtain ⟨y0, hy0⟩ : ∃ y0, y0 = y := ⟨_, rfl⟩
  rw [← hy0] at HJ1
  have HY0 := Lib.hid hy0
  clear hy0
  cases y
  · obtain ⟨V, hV⟩ : ∃ V, V = (w.setCell ⟨b4, 0, none⟩ (.bool (x.k == 7))).alloc (.cells #[.int .i64 x.k, .int .i64 x.n, .string x.s, .slice A x.ps.length c] 28) := ⟨_, rfl⟩
    have HBB : Hid ((x.k == 7) = (y0 || decide (x.k = 7))) := Lib.hid (by rw [HY0.out, Bool.false_or, Bool.eq_iff_iff]; simp)
    obtain ⟨hPV, hFV⟩ := hp.asks (bb := x.k == 7) (o := .cells #[.int .i64 x.k, .int .i64 x.n, .string x.s, .slice A x.ps.length c] 28)
    have hbx : V.heap[gx]? = some (.cells #[.int .i64 x.k, .int .i64 x.n, .string x.s, .slice A x.ps.length c] 28 (0, 0)) := by rw [hV]; exact heap_alloc_at (by rw [hgx]; simp [World.setCell])
    rw [← hV] at hPV hFV
    have HV := Lib.hid hV
    clear hV hgx
    go_enter Try.func80, Try.ntmps80
    go_wp2_with fail
    rw [← HV.out, ← HGX.out]
    have hbV := hPV.below (Below.refl _ _)
    obtain ⟨_, h4V, Ag, cg, h5V, hOV⟩ := hbV
    obtain ⟨a5, z5⟩ := cell1 h5V
    obtain ⟨x0, x1, x2, x3⟩ := cells4 hbx
    have hUV : exS D 0 n0 V A x.ps := hU.keep (fun k _ hk => hFV.keep k (by omega) (fun hm => by have := hp.m k hm; omega)) (Nat.le_refl _) (Nat.le_refl _)
    obtain ⟨Ag', cg', eg, hrg⟩ := hOV.rd (by have := HGN.out; omega)
    cases eg
    have HP := Lib.hid hPV
    have HF := Lib.hid hFV
    have HU := Lib.hid hUV
    have HRG := Lib.hid hrg
    have HO := Lib.hid hOV
    have H5 := Lib.hid h5V
    have hnV : n0 ≤ V.heap.size := hOV.1.1
    have hn5 : n0 ≤ b5 := by omega
    clear hPV hFV hU hUV hrg h4V h5V hOV hp hbx a4 z4 hn0
    by_cases h8 : x.k = 8
    · have e8 : (x.k == 8) = true := by simp [h8]
      obtain ⟨z, hz⟩ : ∃ z, hasB gl (asHas x) = z := ⟨_, rfl⟩
      have HHS : Hid (∀ wa, Below V.heap.size V wa → Calls Try.prog 81 #[.slice Ag gl.length cg, .agg #[.int .i64 9, .int .i64 x.n, .string x.s, .slice A x.ps.length c]] wa (fun e w' => e = .returned (.bool z) ∧ Below wa.heap.size wa w')) := Lib.hid (fun wa hI => by
        have h := hasSame_any (d := D) (l := gl) (r := asHas x) (A := Ag) (A' := A) (c := cg) (c' := c) (w := wa) (HRG.out.below hI) ((exS.below HU.out hnV hI).wide (Nat.le_refl _) (Nat.le_trans hnV hI.size))
        rw [hz] at h
        exact h)
      cases z
      · have HAD : Hid (addI x gl = gl ++ [asHas x]) := Lib.hid (by rw [addI, if_pos ⟨h8, hz⟩])
        clear hz h8
        refine wp_region_kinds2 (fun i wz vz => match i with | 0 => vz = .pointer (some ⟨gx, 0, Option.none⟩) | 1 => vz = .int .i64 x.k | 2 => vz = .bool true | 3 => vz = .bool true | 4 => vz = .slice Ag gl.length cg | 5 => vz = .agg #[.int .i64 x.k, .int .i64 x.n, .string x.s, .slice A x.ps.length c] | 6 => vz = .agg #[.int .i64 9, .int .i64 x.n, .string x.s, .slice A x.ps.length c] | 7 => vz = .bool false | 8 => vz = .bool true | 9 => vz = .bool true | _ => True) (fun _ wz => Below V.heap.size V wz) (fun i w w' => Below w.heap.size w w') (fun _ => Option.none) (by kernel_rfl) (by kernel_rfl) (by kernel_rfl) ?stab2 (ext_drew (Below.refl _ _)) ?all2 ?fin2
        case stab2 =>
          intro i j wa wb v hR hk hne hd _ h2 hT
          match j, hk, hne, hd, h2, hT with
          | 0, hk, hne, hd, h2, hT => exact hT
          | 1, hk, hne, hd, h2, hT => exact hT
          | 2, hk, hne, hd, h2, hT => exact hT
          | 3, hk, hne, hd, h2, hT => exact hT
          | 4, hk, hne, hd, h2, hT => exact hT
          | 5, hk, hne, hd, h2, hT => exact hT
          | 6, hk, hne, hd, h2, hT => exact hT
          | 7, hk, hne, hd, h2, hT => exact hT
          | 8, hk, hne, hd, h2, hT => exact hT
          | 9, hk, hne, hd, h2, hT => exact hT
          | n + 10, _, _, _, _, _ => trivial
        case all2 =>
          refine RAll.cons rfl ?_ (RAll.cons rfl ?_ (RAll.cons rfl ?_ (RAll.cons rfl ?_ (RAll.guarded 3 13 true rfl (by kernel_rfl) (fun _ _ h => h) ?_ (RAll.guarded 3 13 true rfl (by kernel_rfl) (fun _ _ h => h) ?_ (RAll.guarded 3 13 true rfl (by kernel_rfl) (fun _ _ h => h) ?_ (RAll.guarded 3 13 true rfl (by kernel_rfl) (fun _ _ h => h) ?_ (RAll.guarded 3 13 true rfl (by kernel_rfl) (fun _ _ h => h) ?_ (RAll.cons rfl ?_ (RAll.none_))))))))))
          · intro a k wa K Q _ hI hp hK
            have e3 := tmp_of (show a.eval (.tmp 3) = .pointer (some ⟨gx, 0, none⟩) from hp.keep 3 (by kernel_rfl))
            go_simp
            exact hK _ _ rfl (Below.refl _ _) hI
          · intro a k wa K Q _ hI hp hK
            have e10 := tmp_of (show a.eval (.tmp 10) = .pointer (some ⟨gx, 0, Option.none⟩) from hp.dep 0 10 (by kernel_rfl))
            have x0_ := below_cell hI x0
            go_simp
            exact hK _ _ rfl (Below.refl _ _) hI
          · intro a k wa K Q _ hI hp hK
            have e11 := tmp_of (show a.eval (.tmp 11) = .int .i64 x.k from hp.dep 1 11 (by kernel_rfl))
            go_simp
            exact hK _ _ (rfl) (Below.refl _ _) hI
          · intro a k wa K Q _ hI hp hK
            exact op_move _ (.inl rfl) (hK _ _ (hp.dep 2 12 (by kernel_rfl)) (Below.refl _ _) hI)
          · intro a k wa K Q _ hI hp hK
            have e2 := tmp_of (show a.eval (.tmp 2) = .pointer (some ⟨b5, 0, none⟩) from hp.keep 2 (by kernel_rfl))
            have a5_ := below_cell hI a5
            go_simp
            exact hK _ _ rfl (Below.refl _ _) hI
          · intro a k wa K Q _ hI hp hK
            have e3 := tmp_of (show a.eval (.tmp 3) = .pointer (some ⟨gx, 0, none⟩) from hp.keep 3 (by kernel_rfl))
            have x0_ := below_cell hI x0
            have x1_ := below_cell hI x1
            have x2_ := below_cell hI x2
            have x3_ := below_cell hI x3
            go_simp
            exact hK _ _ rfl (Below.refl _ _) hI
          · intro a k wa K Q _ hI hp hK
            have e15 := tmp_of (show a.eval (.tmp 15) = .agg #[.int .i64 x.k, .int .i64 x.n, .string x.s, .slice A x.ps.length c] from hp.dep 5 15 (by kernel_rfl))
            go_simp
            refine has_any.mono ?_
            rintro e wb ⟨rfl, hb⟩
            exact hK _ _ rfl hb (ext_trans hI hb)
          · intro a k wa K Q _ hI hp hK
            have e14 := tmp_of (show a.eval (.tmp 14) = .slice Ag gl.length cg from hp.dep 4 14 (by kernel_rfl))
            have e16 := tmp_of (show a.eval (.tmp 16) = .agg #[.int .i64 9, .int .i64 x.n, .string x.s, .slice A x.ps.length c] from hp.dep 6 16 (by kernel_rfl))
            go_simp
            refine (HHS.out _ hI).mono ?_
            rintro e wb ⟨rfl, hb⟩
            exact hK _ _ rfl hb (ext_trans hI hb)
          · intro a k wa K Q _ hI hp hK
            have e17 := tmp_of (show a.eval (.tmp 17) = .bool false from hp.dep 7 17 (by kernel_rfl))
            go_simp
            exact hK _ _ (rfl) (Below.refl _ _) hI
          · intro a k wa K Q _ hI hp hK
            exact op_pick_t _ _ _ rfl (hp.dep 3 13 (by kernel_rfl)) (hK _ _ (hp.dep 8 18 (by kernel_rfl)) (Below.refl _ _) hI)
        case fin2 =>
          intro f w9 hT hI0
          have hI : Below V.heap.size V w9 := hI0
          have hr9 : (f 9) = .bool true := hT 9 (by decide) rfl rfl
          clear hT hI0
          simp only [putAll, hr9]
          go_simp
          have HP9 := Lib.hid (HP.out.below hI)
          have HF9 := Lib.hid (HF.out.trans (GiF.ofBelow hI HP.out.lt))
          have HO9 := Lib.hid (HO.out.below hI)
          have HU9 := Lib.hid (exS.below HU.out hnV hI)
          have h59 := block_below H5.out hI
          have HB9 := Lib.hid h59
          have hn9 : n0 ≤ w9.heap.size := Nat.le_trans hnV hI.size
          obtain ⟨a5', z5'⟩ := cell1 h59
          obtain ⟨x0', x1', x2', x3'⟩ := (⟨below_cell hI x0, below_cell hI x1, below_cell hI x2, below_cell hI x3⟩ : _ ∧ _ ∧ _ ∧ _)
          have hl5 := HP9.out.lt
          clear x0 x1 x2 x3 a5 z5 hI hr9 HHS h59
          go_wp2_with fail
          have hO9 := HO9.out
          have h49 : ∃ A c, True := ⟨Ag, cg, trivial⟩
          clear h49
          refine wp_region_draws2L (some 5) (fun c => c == 7 || c == 8) 5 25 (fun wz => Below w9.heap.size w9 wz) (fun c u wz => match c with | 7 => GiH D n0 b5 gl (asHas x) u wz | 8 => GiB b5 u wz | _ => True) (fun i u wz vz => match i with | 0 => vz = .slice Ag gl.length cg | 1 => vz = .agg #[.int .i64 x.k, .int .i64 x.n, .string x.s, .slice A x.ps.length c] | 2 => vz = .agg #[.int .i64 9, .int .i64 x.n, .string x.s, .slice A x.ps.length c] | 3 => vz = .int .i64 gl.length | 4 => FrB 0 28 1 #[.int .i64 0, .int .i64 0, .string ⟨#[]⟩, .slice Option.none 0 0] wz vz | 5 => GiT w9 D n0 b5 (.slice Ag gl.length cg) gl wz vz | 6 => ∀ g c, u = .slice (some ⟨g, 0, none⟩) (gl.length + 1) c → vz = .pointer (some ⟨g, gl.length * 4, none⟩) | _ => True) (fun _ _ => True) (fun i w w' => (i = 5 ∨ (i = 7 ∧ Q7 w9 b5 gl.length (.slice Ag gl.length cg) w w') ∨ (i = 8 ∧ Q8 b5 w w')) ∨ Below w.heap.size w w') (fun j => match j with | 4 => some 5 | _ => Option.none) (by kernel_rfl) (by kernel_rfl) (by kernel_rfl) ?stab ?stabG rfl ?hdm rfl ?hTu ?stabH trivial (ext_drew (Below.refl _ _)) ?all ?fin
          case stab =>
            intro i j wa wb v hR hk hne hd h3 h2 u hT
            match j, hk, hne, hd, h3, h2, hT with
            | 0, _, _, _, _, _, hT => exact hT
            | 1, _, _, _, _, _, hT => exact hT
            | 2, _, _, _, _, _, hT => exact hT
            | 3, _, _, _, _, _, hT => exact hT
            | 4, hk, _, _, h3, _, hT =>
              rcases hR with (rfl | ⟨rfl, _⟩ | ⟨rfl, _⟩) | hb
              · exact absurd rfl hk
              · exact Bool.noConfusion ((h3 5 rfl).symm.trans (show depB _ 7 5 = true from by kernel_rfl))
              · exact Bool.noConfusion ((h3 5 rfl).symm.trans (show depB _ 8 5 = true from by kernel_rfl))
              · exact FrB.below hT hb
            | 5, _, hne, _, _, _, hT =>
              rcases hR with (rfl | ⟨rfl, hq⟩ | ⟨rfl, hq⟩) | hb
              · exact absurd rfl hne
              · exact GiT.st7 hn5 hT hq
              · exact GiT.st8 hn5 hT hq
              · exact GiT.below hn5 hT hb
            | 6, _, _, _, _, _, hT => exact hT
            | n + 7, _, _, _, _, _, _ => trivial
          case stabG =>
            intro i wa wb hR hne hd hG
            rcases hR with (rfl | ⟨rfl, _⟩ | ⟨rfl, _⟩) | hb
            · exact absurd rfl hne
            · exact Bool.noConfusion ((hd 5 rfl).symm.trans (show depB _ 7 5 = true from by kernel_rfl))
            · exact Bool.noConfusion ((hd 5 rfl).symm.trans (show depB _ 8 5 = true from by kernel_rfl))
            · exact ext_trans hG hb
          case hdm =>
            intro c hc
            have h : c = 7 ∨ c = 8 := by simpa using hc
            rcases h with rfl | rfl
            · exact (show depB _ 7 5 = true from by kernel_rfl)
            · exact (show depB _ 8 5 = true from by kernel_rfl)
          case hTu =>
            intro i u u' wa v hd hne hT
            match i, hd, hne, hT with
            | 0, _, _, hT => exact hT
            | 1, _, _, hT => exact hT
            | 2, _, _, hT => exact hT
            | 3, _, _, hT => exact hT
            | 4, _, _, hT => exact hT
            | 5, _, hne, _ => exact absurd rfl hne
            | 6, hd, _, _ => exact Bool.noConfusion (hd.symm.trans (show depB _ 6 5 = true from by kernel_rfl))
            | n + 7, _, _, _ => trivial
          case stabH =>
            intro c i wa wb u hc hR hne hd h
            have hc2 : c = 7 ∨ c = 8 := by simpa using hc
            rcases hc2 with rfl | rfl
            · rcases hR with (rfl | ⟨rfl, _⟩ | ⟨rfl, hq⟩) | hb
              · exact Bool.noConfusion (hd.symm.trans (show depB _ 7 5 = true from by kernel_rfl))
              · exact absurd rfl hne
              · exact GiH.st8 hn5 h hq
              · exact GiH.below hn5 h hb
            · rcases hR with (rfl | ⟨rfl, hq⟩ | ⟨rfl, _⟩) | hb
              · exact Bool.noConfusion (hd.symm.trans (show depB _ 8 5 = true from by kernel_rfl))
              · exact GiB.st7 h hq
              · exact absurd rfl hne
              · exact block_below h hb
          case all =>
            refine RAllL.cons rfl ?_ (RAllL.cons rfl ?_ (RAllL.cons rfl ?_ (RAllL.cons rfl ?_ (RAllL.cons rfl ?_ (RAllL.cons rfl ?_ (RAllL.cons rfl ?_ (RAllL.cons rfl ?_ (RAllL.cons rfl ?_ (RAllL.none_)))))))))
            · intro a kq_ wa K Q _ _ hp hK0
              have hI : Below w9.heap.size w9 wa := hp.pre 9 (fun c hc => by cases hc; kernel_rfl)
              have e2 := tmp_of (show a.eval (.tmp 2) = .pointer (some ⟨b5, 0, Option.none⟩) from hp.keep 2 (by kernel_rfl))
              have a5_ := below_cell hI a5'
              go_simp
              exact hK0 _ _ rfl (.inr (Below.refl _ _)) trivial (fun e => absurd e (by decide))
            · intro a kq_ wa K Q _ _ hp hK0
              have hI : Below w9.heap.size w9 wa := hp.pre 9 (fun c hc => by cases hc; kernel_rfl)
              have e3 := tmp_of (show a.eval (.tmp 3) = .pointer (some ⟨gx, 0, Option.none⟩) from hp.keep 3 (by kernel_rfl))
              have x0_ := below_cell hI x0'
              have x1_ := below_cell hI x1'
              have x2_ := below_cell hI x2'
              have x3_ := below_cell hI x3'
              go_simp
              exact hK0 _ _ rfl (.inr (Below.refl _ _)) trivial (fun e => absurd e (by decide))
            · intro a kq_ wa K Q _ _ hp hK0
              have e21 := tmp_of (show a.eval (.tmp 21) = .agg #[.int .i64 x.k, .int .i64 x.n, .string x.s, .slice A x.ps.length c] from hp.dep 1 21 (by kernel_rfl))
              go_simp
              refine has_any.mono ?_
              rintro e wb ⟨rfl, hb⟩
              exact hK0 _ _ rfl (.inr hb) trivial (fun e => absurd e (by decide))
            · intro a kq_ wa K Q _ _ hp hK0
              have e20 := tmp_of (show a.eval (.tmp 20) = .slice Ag gl.length cg from hp.dep 0 20 (by kernel_rfl))
              go_simp
              exact hK0 _ _ rfl (.inr (Below.refl _ _)) trivial (fun e => absurd e (by decide))
            · intro a kq_ wa K Q _ _ hp hK0
              go_simp
              exact hK0 _ _ ⟨_, rfl, Nat.zero_le _, heap_alloc_new _ _⟩ (.inr (below_alloc _ _)) trivial (fun e => absurd e (by decide))
            · intro a kq_ wa K Q _ _ hp hK0
              have hI : Below w9.heap.size w9 wa := hp.pre 9 (fun c hc => by cases hc; kernel_rfl)
              obtain ⟨g8, e24, _, hg8⟩ := (show FrB 0 28 1 #[.int .i64 0, .int .i64 0, .string ⟨#[]⟩, .slice Option.none 0 0] wa (a.eval (.tmp 24)) from hp.dep 4 24 (by kernel_rfl))
              have hO := hO9.below hI
              refine op_appendG (R := exR (D + 1) 0 n0) (B := b5 + 1) (l := gl) (l2 := [exD]) (.tmp 20) (.tmp 24) 26 28 _ 4 56 rfl Try.underlying26 Try.infoExpr rfl (by decide) (fun a cs h => exR.one h) (hp.dep 0 20 (by kernel_rfl)) hO.2 e24 (rd_blockG hg8 rfl exR.zero) (fun w' hg a cs h => exR.row hO.1.1 hg (fun k hk => by have := (hO.2.ge k hk).1; omega) h) (by have := HGN.out; simp; omega) (by have := HGN.out; simp; omega) (by have := hI.size; omega) ?_
              intro v' wb ho' hb' hgr hv
              refine hK0 v' wb ?_ (.inl (.inl rfl)) trivial (fun e => absurd e (by decide))
              show GiT w9 D n0 b5 (.slice Ag gl.length cg) gl wb v'
              obtain ⟨A7, c7, xs, e7, hoo, hcc⟩ := ho'
              have hln : (gl ++ [exD]).length = gl.length + 1 := by simp
              rw [hln] at e7 hoo
              obtain ⟨g, cap, hv7, hBg, hlt⟩ := hoo.form (by omega)
              cases hv7
              subst e7
              obtain ⟨xp, cc, xq, hxs, hxp, _, hcp, _, _⟩ := Chunks.cut (p := gl) (a := exD) (q := []) hcc
              have hfr : GiFr w9 b5 (.slice Ag gl.length cg) w9 := ⟨rfl, rfl, rfl, Nat.le_refl _, fun _ _ _ _ => rfl⟩
              refine ⟨(hfr.grown (grown_of_belowG hI Option.none) (fun k e => by cases e)).grown hgr (fun k e => .inr (.inl e)), ⟨_, (hgr.block b5 (by have := hI.size; omega) (fun e => by have := (hO.2.ge _ e.symm).1; omega)).trans (block_below HB9.out hI)⟩, g, _, xs, rfl, ?_, hoo, ?_⟩
              · rcases hv with e | e
                · exact .inl e.symm
                · cases e; exact .inr hI.size
              · rw [hxs, List.append_assoc, List.take_append_of_le_length (by rw [hxp]; exact Nat.le_refl _), List.take_of_length_le (by rw [hxp]; exact Nat.le_refl _)]
                exact hcp
            · intro a kq_ wa K Q _ _ hp hK0
              obtain ⟨_, _, g, c5, xs, e25, _⟩ := (show GiT w9 D n0 b5 (.slice Ag gl.length cg) gl wa (a.eval (.tmp 25)) from hp.dep 5 25 (by kernel_rfl))
              have f25 := tmp_of e25
              have e23 := tmp_of (show a.eval (.tmp 23) = .int .i64 gl.length from hp.dep 3 23 (by kernel_rfl))
              go_simp
              rw [if_pos (by omega)]
              go_simp
              refine hK0 _ _ ?_ (.inr (Below.refl _ _)) trivial (fun e => absurd e (by decide))
              show ∀ g' c', a.eval (.tmp 25) = .slice (some ⟨g', 0, none⟩) (gl.length + 1) c' → _
              intro g' c' hu
              rw [e25] at hu
              cases hu
              rfl
            · intro a kq_ wa K Q _ _ hp hK0
              obtain ⟨hfr, hbx5, g, c5, xs, e25, ho, hown, hch⟩ := (show GiT w9 D n0 b5 (.slice Ag gl.length cg) gl wa (a.eval (.tmp 25)) from hp.base (by kernel_rfl))
              have f26 := tmp_of ((show ∀ g c, a.eval (.tmp 25) = .slice (some ⟨g, 0, none⟩) (gl.length + 1) c → a.eval (.tmp 26) = .pointer (some ⟨g, gl.length * 4, none⟩) from hp.dep 6 26 (by kernel_rfl)) g c5 e25)
              have e22 := tmp_of (show a.eval (.tmp 22) = .agg #[.int .i64 9, .int .i64 x.n, .string x.s, .slice A x.ps.length c] from hp.dep 2 22 (by kernel_rfl))
              obtain ⟨v0, f0⟩ := own_cell hown (j := gl.length * 4) (by omega)
              obtain ⟨v1, f1⟩ := own_cell hown (j := gl.length * 4 + 1) (by omega)
              obtain ⟨v2, f2⟩ := own_cell hown (j := gl.length * 4 + 2) (by omega)
              obtain ⟨v3, f3⟩ := own_cell hown (j := gl.length * 4 + 3) (by omega)
              have z0 := hown.frozenAt (gl.length * 4)
              have z1 := hown.frozenAt (gl.length * 4 + 1)
              have z2 := hown.frozenAt (gl.length * 4 + 2)
              have z3 := hown.frozenAt (gl.length * 4 + 3)
              have hgl := hown.lt g rfl
              have hst := setCells_grown g [.int .i64 9, .int .i64 x.n, .string x.s, .slice A x.ps.length c] wa (gl.length * 4)
              have hxl := hown.1
              have hUx : exS D 0 n0 (setCells wa g (gl.length * 4) [.int .i64 9, .int .i64 x.n, .string x.s, .slice A x.ps.length c]) A x.ps := HU9.out.keep (fun k _ hk => (hst.block k (by have := hfr.size; omega) (fun e => by cases e; omega)).trans (hfr.keep k (by omega) (by omega) (fun e => by have := (hO9.2.ge k e).1; omega))) (Nat.le_refl _) (Nat.le_refl _)
              have HGH : Hid (GiH D n0 b5 gl (asHas x) (.slice (some ⟨g, 0, none⟩) (gl.length + 1) c5) (setCells wa g (gl.length * 4) [.int .i64 9, .int .i64 x.n, .string x.s, .slice A x.ps.length c])) := Lib.hid ⟨_, own_stores [.int .i64 9, .int .i64 x.n, .string x.s, .slice A x.ps.length c] (gl.length * 4) hown (by simp; omega), by
                rw [List.drop_eq_nil_of_le (by simp; omega), List.append_nil]
                exact (hch.mono (fun _ _ q => exR.row (show n0 ≤ wa.heap.size by have := hfr.size; omega) hst (fun k e => by cases e; omega) q)).append (Chunks.one rfl (exS.head (t := asHas x) (c := c) hUx hs))⟩
              clear hst hxl hUx
              go_simp
              refine hK0 (.tuple #[]) _ trivial (.inl (.inr (.inl ⟨rfl, g, [.int .i64 9, .int .i64 x.n, .string x.s, .slice A x.ps.length c], rfl, rfl, by omega, ho⟩))) trivial (fun _ => ?_)
              show GiH D n0 b5 gl (asHas x) (a.eval (.tmp 25)) _
              rw [e25]
              exact HGH.out
            · intro a kq_ wa K Q _ _ hp hK0
              obtain ⟨hfr, ⟨u5, hb5⟩, g, c5, xs, e25, ho, hown, hch⟩ := (show GiT w9 D n0 b5 (.slice Ag gl.length cg) gl wa (a.eval (.tmp 25)) from hp.base (by kernel_rfl))
              have f25 := tmp_of e25
              have e2 := tmp_of (show a.eval (.tmp 2) = .pointer (some ⟨b5, 0, Option.none⟩) from hp.keep 2 (by kernel_rfl))
              obtain ⟨q5, r5⟩ := cell1 hb5
              go_simp
              refine hK0 (.tuple #[]) _ trivial (.inl (.inr (.inr ⟨rfl, .slice (some ⟨g, 0, none⟩) (gl.length + 1) c5, rfl⟩))) trivial (fun _ => ?_)
              show GiB b5 (a.eval (.tmp 25)) _
              rw [e25]
              exact setCells_atG [.slice (some ⟨g, 0, none⟩) (gl.length + 1) c5] 0 hb5 (by simp)
          case fin =>
            intro f w10 hT _ hH
            have h5 : GiT w9 D n0 b5 (.slice Ag gl.length cg) gl w10 (f 5) := hT 5 (by decide) rfl rfl
            have h7 : GiH D n0 b5 gl (asHas x) (f 5) w10 := hH 7 rfl (by decide)
            have h8 : GiB b5 (f 5) w10 := hH 8 rfl (by decide)
            clear hT hH
            obtain ⟨hfr, _, g, c5, xs, e5, ho, hown, _⟩ := h5
            rw [e5] at h7 h8
            obtain ⟨xs7, ho7, hc7⟩ := h7
            have hln : (gl ++ [asHas x]).length = gl.length + 1 := by simp
            have hP10 : GiP D n0 b4 b5 (y0 || decide (x.k = 7)) (addI x gl) w10 := by
              obtain ⟨_, h49, _, _, _, _⟩ := HP9.out
              rw [HAD.out, ← HBB.out]
              refine ⟨h0, (hfr.keep b4 (by omega) (by omega) (fun e => by have := (hO9.2.ge b4 e).1; omega)).trans h49, some ⟨g, 0, none⟩, c5, by rw [hln]; exact h8, ⟨Nat.le_trans hn9 hfr.size, by omega⟩, some ⟨g, 0, none⟩, c5, xs7, rfl, by rw [hln]; exact ho7, hc7⟩
            have hF10 : GiF b4 b5 w9 w10 := by
              refine ⟨hfr.os, hfr.tape, hfr.output, hfr.size, fun k hk hm => hfr.keep k hk (fun e => hm (.inr (.inl e))) (fun e => hm (.inr (.inr ⟨_, HB9.out, e⟩))), fun k hm => ?_⟩
              rcases hm with hm | hm | ⟨v, hv, hk⟩
              · exact .inl (.inl hm)
              · exact .inl (.inr (.inl hm))
              · rw [show w10.heap[b5]? = _ from h8] at hv
                simp only [Option.some.injEq, Obj.cells.injEq, and_true] at hv
                have e : Value.slice (some ⟨g, 0, none⟩) (gl.length + 1) c5 = v := by simpa using hv
                rw [← e] at hk
                cases hk
                rcases ho with e | e
                · exact .inl (.inr (.inr ⟨_, HB9.out, e⟩))
                · exact .inr e
            have HR := Lib.hid (HJ1.out _ hP10)
            have HR2 := Lib.hid (HF9.out.trans hF10)
            clear hP10 hF10 h8 ho7 hc7 hfr ho hown e5
            simp only [putAll]
            go_simp
            go_wp2
            go_end0
            exact ⟨⟨_, rfl⟩, HR.out, HR2.out⟩
      · have HAD : Hid (addI x gl = gl) := Lib.hid (by rw [addI, if_neg (fun h => by rw [hz] at h; cases h.2)])
        clear hz h8
        refine wp_region_kinds2 (fun i wz vz => match i with | 0 => vz = .pointer (some ⟨gx, 0, Option.none⟩) | 1 => vz = .int .i64 x.k | 2 => vz = .bool true | 3 => vz = .bool true | 4 => vz = .slice Ag gl.length cg | 5 => vz = .agg #[.int .i64 x.k, .int .i64 x.n, .string x.s, .slice A x.ps.length c] | 6 => vz = .agg #[.int .i64 9, .int .i64 x.n, .string x.s, .slice A x.ps.length c] | 7 => vz = .bool true | 8 => vz = .bool false | 9 => vz = .bool false | _ => True) (fun _ wz => Below V.heap.size V wz) (fun i w w' => Below w.heap.size w w') (fun _ => Option.none) (by kernel_rfl) (by kernel_rfl) (by kernel_rfl) ?stab2 (ext_drew (Below.refl _ _)) ?all2 ?fin2
        case stab2 =>
          intro i j wa wb v hR hk hne hd _ h2 hT
          match j, hk, hne, hd, h2, hT with
          | 0, hk, hne, hd, h2, hT => exact hT
          | 1, hk, hne, hd, h2, hT => exact hT
          | 2, hk, hne, hd, h2, hT => exact hT
          | 3, hk, hne, hd, h2, hT => exact hT
          | 4, hk, hne, hd, h2, hT => exact hT
          | 5, hk, hne, hd, h2, hT => exact hT
          | 6, hk, hne, hd, h2, hT => exact hT
          | 7, hk, hne, hd, h2, hT => exact hT
          | 8, hk, hne, hd, h2, hT => exact hT
          | 9, hk, hne, hd, h2, hT => exact hT
          | n + 10, _, _, _, _, _ => trivial
        case all2 =>
          refine RAll.cons rfl ?_ (RAll.cons rfl ?_ (RAll.cons rfl ?_ (RAll.cons rfl ?_ (RAll.guarded 3 13 true rfl (by kernel_rfl) (fun _ _ h => h) ?_ (RAll.guarded 3 13 true rfl (by kernel_rfl) (fun _ _ h => h) ?_ (RAll.guarded 3 13 true rfl (by kernel_rfl) (fun _ _ h => h) ?_ (RAll.guarded 3 13 true rfl (by kernel_rfl) (fun _ _ h => h) ?_ (RAll.guarded 3 13 true rfl (by kernel_rfl) (fun _ _ h => h) ?_ (RAll.cons rfl ?_ (RAll.none_))))))))))
          · intro a k wa K Q _ hI hp hK
            have e3 := tmp_of (show a.eval (.tmp 3) = .pointer (some ⟨gx, 0, none⟩) from hp.keep 3 (by kernel_rfl))
            go_simp
            exact hK _ _ rfl (Below.refl _ _) hI
          · intro a k wa K Q _ hI hp hK
            have e10 := tmp_of (show a.eval (.tmp 10) = .pointer (some ⟨gx, 0, Option.none⟩) from hp.dep 0 10 (by kernel_rfl))
            have x0_ := below_cell hI x0
            go_simp
            exact hK _ _ rfl (Below.refl _ _) hI
          · intro a k wa K Q _ hI hp hK
            have e11 := tmp_of (show a.eval (.tmp 11) = .int .i64 x.k from hp.dep 1 11 (by kernel_rfl))
            go_simp
            exact hK _ _ (rfl) (Below.refl _ _) hI
          · intro a k wa K Q _ hI hp hK
            exact op_move _ (.inl rfl) (hK _ _ (hp.dep 2 12 (by kernel_rfl)) (Below.refl _ _) hI)
          · intro a k wa K Q _ hI hp hK
            have e2 := tmp_of (show a.eval (.tmp 2) = .pointer (some ⟨b5, 0, none⟩) from hp.keep 2 (by kernel_rfl))
            have a5_ := below_cell hI a5
            go_simp
            exact hK _ _ rfl (Below.refl _ _) hI
          · intro a k wa K Q _ hI hp hK
            have e3 := tmp_of (show a.eval (.tmp 3) = .pointer (some ⟨gx, 0, none⟩) from hp.keep 3 (by kernel_rfl))
            have x0_ := below_cell hI x0
            have x1_ := below_cell hI x1
            have x2_ := below_cell hI x2
            have x3_ := below_cell hI x3
            go_simp
            exact hK _ _ rfl (Below.refl _ _) hI
          · intro a k wa K Q _ hI hp hK
            have e15 := tmp_of (show a.eval (.tmp 15) = .agg #[.int .i64 x.k, .int .i64 x.n, .string x.s, .slice A x.ps.length c] from hp.dep 5 15 (by kernel_rfl))
            go_simp
            refine has_any.mono ?_
            rintro e wb ⟨rfl, hb⟩
            exact hK _ _ rfl hb (ext_trans hI hb)
          · intro a k wa K Q _ hI hp hK
            have e14 := tmp_of (show a.eval (.tmp 14) = .slice Ag gl.length cg from hp.dep 4 14 (by kernel_rfl))
            have e16 := tmp_of (show a.eval (.tmp 16) = .agg #[.int .i64 9, .int .i64 x.n, .string x.s, .slice A x.ps.length c] from hp.dep 6 16 (by kernel_rfl))
            go_simp
            refine (HHS.out _ hI).mono ?_
            rintro e wb ⟨rfl, hb⟩
            exact hK _ _ rfl hb (ext_trans hI hb)
          · intro a k wa K Q _ hI hp hK
            have e17 := tmp_of (show a.eval (.tmp 17) = .bool true from hp.dep 7 17 (by kernel_rfl))
            go_simp
            exact hK _ _ (rfl) (Below.refl _ _) hI
          · intro a k wa K Q _ hI hp hK
            exact op_pick_t _ _ _ rfl (hp.dep 3 13 (by kernel_rfl)) (hK _ _ (hp.dep 8 18 (by kernel_rfl)) (Below.refl _ _) hI)
        case fin2 =>
          intro f w9 hT hI0
          have hI : Below V.heap.size V w9 := hI0
          have hr9 : (f 9) = .bool false := hT 9 (by decide) rfl rfl
          clear hT hI0
          simp only [putAll, hr9]
          go_simp
          go_wp2
          go_end0
          exact ⟨⟨_, rfl⟩, HJ1.out _ (by rw [HAD.out, ← HBB.out]; exact HP.out.below hI), HF.out.trans (GiF.ofBelow hI HP.out.lt)⟩
    · have e8 : (x.k == 8) = false := by simp [h8]
      have HAD : Hid (addI x gl = gl) := Lib.hid (by rw [addI, if_neg (fun h => h8 h.1)])
      clear h8
      refine wp_region_kinds2 (fun i wz vz => match i with | 0 => vz = .pointer (some ⟨gx, 0, Option.none⟩) | 1 => vz = .int .i64 x.k | 2 => vz = .bool false | 3 => vz = .bool false | 9 => vz = .bool false | _ => True) (fun _ wz => Below V.heap.size V wz) (fun i w w' => Below w.heap.size w w') (fun _ => Option.none) (by kernel_rfl) (by kernel_rfl) (by kernel_rfl) ?stab2 (ext_drew (Below.refl _ _)) ?all2 ?fin2
      case stab2 =>
        intro i j wa wb v hR hk hne hd _ h2 hT
        match j, hk, hne, hd, h2, hT with
        | 0, hk, hne, hd, h2, hT => exact hT
        | 1, hk, hne, hd, h2, hT => exact hT
        | 2, hk, hne, hd, h2, hT => exact hT
        | 3, hk, hne, hd, h2, hT => exact hT
        | 9, hk, hne, hd, h2, hT => exact hT
        | 4, _, _, _, _, _ => trivial
        | 5, _, _, _, _, _ => trivial
        | 6, _, _, _, _, _ => trivial
        | 7, _, _, _, _, _ => trivial
        | 8, _, _, _, _, _ => trivial
        | n + 10, _, _, _, _, _ => trivial
      case all2 =>
        refine RAll.cons rfl ?_ (RAll.cons rfl ?_ (RAll.cons rfl ?_ (RAll.cons rfl ?_ (RAll.skipped 3 13 true rfl (by kernel_rfl) (fun _ _ h => h) ?_ (RAll.skipped 3 13 true rfl (by kernel_rfl) (fun _ _ h => h) ?_ (RAll.skipped 3 13 true rfl (by kernel_rfl) (fun _ _ h => h) ?_ (RAll.skipped 3 13 true rfl (by kernel_rfl) (fun _ _ h => h) ?_ (RAll.skipped 3 13 true rfl (by kernel_rfl) (fun _ _ h => h) ?_ (RAll.cons rfl ?_ (RAll.none_))))))))))
        · intro a k wa K Q _ hI hp hK
          have e3 := tmp_of (show a.eval (.tmp 3) = .pointer (some ⟨gx, 0, none⟩) from hp.keep 3 (by kernel_rfl))
          go_simp
          exact hK _ _ rfl (Below.refl _ _) hI
        · intro a k wa K Q _ hI hp hK
          have e10 := tmp_of (show a.eval (.tmp 10) = .pointer (some ⟨gx, 0, Option.none⟩) from hp.dep 0 10 (by kernel_rfl))
          have x0_ := below_cell hI x0
          go_simp
          exact hK _ _ rfl (Below.refl _ _) hI
        · intro a k wa K Q _ hI hp hK
          have e11 := tmp_of (show a.eval (.tmp 11) = .int .i64 x.k from hp.dep 1 11 (by kernel_rfl))
          go_simp
          exact hK _ _ (rfl) (Below.refl _ _) hI
        · intro a k wa K Q _ hI hp hK
          exact op_move _ (.inl rfl) (hK _ _ (hp.dep 2 12 (by kernel_rfl)) (Below.refl _ _) hI)
        · exact fun k wa hI => ⟨trivial, Below.refl _ _, hI⟩
        · exact fun k wa hI => ⟨trivial, Below.refl _ _, hI⟩
        · exact fun k wa hI => ⟨trivial, Below.refl _ _, hI⟩
        · exact fun k wa hI => ⟨trivial, Below.refl _ _, hI⟩
        · exact fun k wa hI => ⟨trivial, Below.refl _ _, hI⟩
        · intro a k wa K Q _ hI hp hK
          exact op_pick_f _ _ _ rfl (hp.dep 3 13 (by kernel_rfl)) (hK _ _ (rfl) (Below.refl _ _) hI)
      case fin2 =>
        intro f w9 hT hI0
        have hI : Below V.heap.size V w9 := hI0
        have hr9 : (f 9) = .bool false := hT 9 (by decide) rfl rfl
        clear hT hI0
        simp only [putAll, hr9]
        go_simp
        go_wp2
        go_end0
        exact ⟨⟨_, rfl⟩, HJ1.out _ (by rw [HAD.out, ← HBB.out]; exact HP.out.below hI), HF.out.trans (GiF.ofBelow hI HP.out.lt)⟩
  · obtain ⟨V, hV⟩ : ∃ V, V = (w.setCell ⟨b4, 0, none⟩ (.bool true)).alloc (.cells #[.int .i64 x.k, .int .i64 x.n, .string x.s, .slice A x.ps.length c] 28) := ⟨_, rfl⟩
    have HBB : Hid (true = (y0 || decide (x.k = 7))) := Lib.hid (by rw [HY0.out]; rfl)
    obtain ⟨hPV, hFV⟩ := hp.asks (bb := true) (o := .cells #[.int .i64 x.k, .int .i64 x.n, .string x.s, .slice A x.ps.length c] 28)
    have hbx : V.heap[gx]? = some (.cells #[.int .i64 x.k, .int .i64 x.n, .string x.s, .slice A x.ps.length c] 28 (0, 0)) := by rw [hV]; exact heap_alloc_at (by rw [hgx]; simp [World.setCell])
    rw [← hV] at hPV hFV
    have HV := Lib.hid hV
    clear hV hgx
    go_enter Try.func80, Try.ntmps80
    go_wp2_with fail
    rw [← HV.out, ← HGX.out]
    have hbV := hPV.below (Below.refl _ _)
    obtain ⟨_, h4V, Ag, cg, h5V, hOV⟩ := hbV
    obtain ⟨a5, z5⟩ := cell1 h5V
    obtain ⟨x0, x1, x2, x3⟩ := cells4 hbx
    have hUV : exS D 0 n0 V A x.ps := hU.keep (fun k _ hk => hFV.keep k (by omega) (fun hm => by have := hp.m k hm; omega)) (Nat.le_refl _) (Nat.le_refl _)
    obtain ⟨Ag', cg', eg, hrg⟩ := hOV.rd (by have := HGN.out; omega)
    cases eg
    have HP := Lib.hid hPV
    have HF := Lib.hid hFV
    have HU := Lib.hid hUV
    have HRG := Lib.hid hrg
    have HO := Lib.hid hOV
    have H5 := Lib.hid h5V
    have hnV : n0 ≤ V.heap.size := hOV.1.1
    have hn5 : n0 ≤ b5 := by omega
    clear hPV hFV hU hUV hrg h4V h5V hOV hp hbx a4 z4 hn0
    by_cases h8 : x.k = 8
    · have e8 : (x.k == 8) = true := by simp [h8]
      obtain ⟨z, hz⟩ : ∃ z, hasB gl (asHas x) = z := ⟨_, rfl⟩
      have HHS : Hid (∀ wa, Below V.heap.size V wa → Calls Try.prog 81 #[.slice Ag gl.length cg, .agg #[.int .i64 9, .int .i64 x.n, .string x.s, .slice A x.ps.length c]] wa (fun e w' => e = .returned (.bool z) ∧ Below wa.heap.size wa w')) := Lib.hid (fun wa hI => by
        have h := hasSame_any (d := D) (l := gl) (r := asHas x) (A := Ag) (A' := A) (c := cg) (c' := c) (w := wa) (HRG.out.below hI) ((exS.below HU.out hnV hI).wide (Nat.le_refl _) (Nat.le_trans hnV hI.size))
        rw [hz] at h
        exact h)
      cases z
      · have HAD : Hid (addI x gl = gl ++ [asHas x]) := Lib.hid (by rw [addI, if_pos ⟨h8, hz⟩])
        clear hz h8
        refine wp_region_kinds2 (fun i wz vz => match i with | 0 => vz = .pointer (some ⟨gx, 0, Option.none⟩) | 1 => vz = .int .i64 x.k | 2 => vz = .bool true | 3 => vz = .bool true | 4 => vz = .slice Ag gl.length cg | 5 => vz = .agg #[.int .i64 x.k, .int .i64 x.n, .string x.s, .slice A x.ps.length c] | 6 => vz = .agg #[.int .i64 9, .int .i64 x.n, .string x.s, .slice A x.ps.length c] | 7 => vz = .bool false | 8 => vz = .bool true | 9 => vz = .bool true | _ => True) (fun _ wz => Below V.heap.size V wz) (fun i w w' => Below w.heap.size w w') (fun _ => Option.none) (by kernel_rfl) (by kernel_rfl) (by kernel_rfl) ?stab2 (ext_drew (Below.refl _ _)) ?all2 ?fin2
        case stab2 =>
          intro i j wa wb v hR hk hne hd _ h2 hT
          match j, hk, hne, hd, h2, hT with
          | 0, hk, hne, hd, h2, hT => exact hT
          | 1, hk, hne, hd, h2, hT => exact hT
          | 2, hk, hne, hd, h2, hT => exact hT
          | 3, hk, hne, hd, h2, hT => exact hT
          | 4, hk, hne, hd, h2, hT => exact hT
          | 5, hk, hne, hd, h2, hT => exact hT
          | 6, hk, hne, hd, h2, hT => exact hT
          | 7, hk, hne, hd, h2, hT => exact hT
          | 8, hk, hne, hd, h2, hT => exact hT
          | 9, hk, hne, hd, h2, hT => exact hT
          | n + 10, _, _, _, _, _ => trivial
        case all2 =>
          refine RAll.cons rfl ?_ (RAll.cons rfl ?_ (RAll.cons rfl ?_ (RAll.cons rfl ?_ (RAll.guarded 3 13 true rfl (by kernel_rfl) (fun _ _ h => h) ?_ (RAll.guarded 3 13 true rfl (by kernel_rfl) (fun _ _ h => h) ?_ (RAll.guarded 3 13 true rfl (by kernel_rfl) (fun _ _ h => h) ?_ (RAll.guarded 3 13 true rfl (by kernel_rfl) (fun _ _ h => h) ?_ (RAll.guarded 3 13 true rfl (by kernel_rfl) (fun _ _ h => h) ?_ (RAll.cons rfl ?_ (RAll.none_))))))))))
          · intro a k wa K Q _ hI hp hK
            have e3 := tmp_of (show a.eval (.tmp 3) = .pointer (some ⟨gx, 0, none⟩) from hp.keep 3 (by kernel_rfl))
            go_simp
            exact hK _ _ rfl (Below.refl _ _) hI
          · intro a k wa K Q _ hI hp hK
            have e10 := tmp_of (show a.eval (.tmp 10) = .pointer (some ⟨gx, 0, Option.none⟩) from hp.dep 0 10 (by kernel_rfl))
            have x0_ := below_cell hI x0
            go_simp
            exact hK _ _ rfl (Below.refl _ _) hI
          · intro a k wa K Q _ hI hp hK
            have e11 := tmp_of (show a.eval (.tmp 11) = .int .i64 x.k from hp.dep 1 11 (by kernel_rfl))
            go_simp
            exact hK _ _ (rfl) (Below.refl _ _) hI
          · intro a k wa K Q _ hI hp hK
            exact op_move _ (.inl rfl) (hK _ _ (hp.dep 2 12 (by kernel_rfl)) (Below.refl _ _) hI)
          · intro a k wa K Q _ hI hp hK
            have e2 := tmp_of (show a.eval (.tmp 2) = .pointer (some ⟨b5, 0, none⟩) from hp.keep 2 (by kernel_rfl))
            have a5_ := below_cell hI a5
            go_simp
            exact hK _ _ rfl (Below.refl _ _) hI
          · intro a k wa K Q _ hI hp hK
            have e3 := tmp_of (show a.eval (.tmp 3) = .pointer (some ⟨gx, 0, none⟩) from hp.keep 3 (by kernel_rfl))
            have x0_ := below_cell hI x0
            have x1_ := below_cell hI x1
            have x2_ := below_cell hI x2
            have x3_ := below_cell hI x3
            go_simp
            exact hK _ _ rfl (Below.refl _ _) hI
          · intro a k wa K Q _ hI hp hK
            have e15 := tmp_of (show a.eval (.tmp 15) = .agg #[.int .i64 x.k, .int .i64 x.n, .string x.s, .slice A x.ps.length c] from hp.dep 5 15 (by kernel_rfl))
            go_simp
            refine has_any.mono ?_
            rintro e wb ⟨rfl, hb⟩
            exact hK _ _ rfl hb (ext_trans hI hb)
          · intro a k wa K Q _ hI hp hK
            have e14 := tmp_of (show a.eval (.tmp 14) = .slice Ag gl.length cg from hp.dep 4 14 (by kernel_rfl))
            have e16 := tmp_of (show a.eval (.tmp 16) = .agg #[.int .i64 9, .int .i64 x.n, .string x.s, .slice A x.ps.length c] from hp.dep 6 16 (by kernel_rfl))
            go_simp
            refine (HHS.out _ hI).mono ?_
            rintro e wb ⟨rfl, hb⟩
            exact hK _ _ rfl hb (ext_trans hI hb)
          · intro a k wa K Q _ hI hp hK
            have e17 := tmp_of (show a.eval (.tmp 17) = .bool false from hp.dep 7 17 (by kernel_rfl))
            go_simp
            exact hK _ _ (rfl) (Below.refl _ _) hI
          · intro a k wa K Q _ hI hp hK
            exact op_pick_t _ _ _ rfl (hp.dep 3 13 (by kernel_rfl)) (hK _ _ (hp.dep 8 18 (by kernel_rfl)) (Below.refl _ _) hI)
        case fin2 =>
          intro f w9 hT hI0
          have hI : Below V.heap.size V w9 := hI0
          have hr9 : (f 9) = .bool true := hT 9 (by decide) rfl rfl
          clear hT hI0
          simp only [putAll, hr9]
          go_simp
          have HP9 := Lib.hid (HP.out.below hI)
          have HF9 := Lib.hid (HF.out.trans (GiF.ofBelow hI HP.out.lt))
          have HO9 := Lib.hid (HO.out.below hI)
          have HU9 := Lib.hid (exS.below HU.out hnV hI)
          have h59 := block_below H5.out hI
          have HB9 := Lib.hid h59
          have hn9 : n0 ≤ w9.heap.size := Nat.le_trans hnV hI.size
          obtain ⟨a5', z5'⟩ := cell1 h59
          obtain ⟨x0', x1', x2', x3'⟩ := (⟨below_cell hI x0, below_cell hI x1, below_cell hI x2, below_cell hI x3⟩ : _ ∧ _ ∧ _ ∧ _)
          have hl5 := HP9.out.lt
          clear x0 x1 x2 x3 a5 z5 hI hr9 HHS h59
          go_wp2_with fail
          have hO9 := HO9.out
          have h49 : ∃ A c, True := ⟨Ag, cg, trivial⟩
          clear h49
          refine wp_region_draws2L (some 5) (fun c => c == 7 || c == 8) 5 25 (fun wz => Below w9.heap.size w9 wz) (fun c u wz => match c with | 7 => GiH D n0 b5 gl (asHas x) u wz | 8 => GiB b5 u wz | _ => True) (fun i u wz vz => match i with | 0 => vz = .slice Ag gl.length cg | 1 => vz = .agg #[.int .i64 x.k, .int .i64 x.n, .string x.s, .slice A x.ps.length c] | 2 => vz = .agg #[.int .i64 9, .int .i64 x.n, .string x.s, .slice A x.ps.length c] | 3 => vz = .int .i64 gl.length | 4 => FrB 0 28 1 #[.int .i64 0, .int .i64 0, .string ⟨#[]⟩, .slice Option.none 0 0] wz vz | 5 => GiT w9 D n0 b5 (.slice Ag gl.length cg) gl wz vz | 6 => ∀ g c, u = .slice (some ⟨g, 0, none⟩) (gl.length + 1) c → vz = .pointer (some ⟨g, gl.length * 4, none⟩) | _ => True) (fun _ _ => True) (fun i w w' => (i = 5 ∨ (i = 7 ∧ Q7 w9 b5 gl.length (.slice Ag gl.length cg) w w') ∨ (i = 8 ∧ Q8 b5 w w')) ∨ Below w.heap.size w w') (fun j => match j with | 4 => some 5 | _ => Option.none) (by kernel_rfl) (by kernel_rfl) (by kernel_rfl) ?stab ?stabG rfl ?hdm rfl ?hTu ?stabH trivial (ext_drew (Below.refl _ _)) ?all ?fin
          case stab =>
            intro i j wa wb v hR hk hne hd h3 h2 u hT
            match j, hk, hne, hd, h3, h2, hT with
            | 0, _, _, _, _, _, hT => exact hT
            | 1, _, _, _, _, _, hT => exact hT
            | 2, _, _, _, _, _, hT => exact hT
            | 3, _, _, _, _, _, hT => exact hT
            | 4, hk, _, _, h3, _, hT =>
              rcases hR with (rfl | ⟨rfl, _⟩ | ⟨rfl, _⟩) | hb
              · exact absurd rfl hk
              · exact Bool.noConfusion ((h3 5 rfl).symm.trans (show depB _ 7 5 = true from by kernel_rfl))
              · exact Bool.noConfusion ((h3 5 rfl).symm.trans (show depB _ 8 5 = true from by kernel_rfl))
              · exact FrB.below hT hb
            | 5, _, hne, _, _, _, hT =>
              rcases hR with (rfl | ⟨rfl, hq⟩ | ⟨rfl, hq⟩) | hb
              · exact absurd rfl hne
              · exact GiT.st7 hn5 hT hq
              · exact GiT.st8 hn5 hT hq
              · exact GiT.below hn5 hT hb
            | 6, _, _, _, _, _, hT => exact hT
            | n + 7, _, _, _, _, _, _ => trivial
          case stabG =>
            intro i wa wb hR hne hd hG
            rcases hR with (rfl | ⟨rfl, _⟩ | ⟨rfl, _⟩) | hb
            · exact absurd rfl hne
            · exact Bool.noConfusion ((hd 5 rfl).symm.trans (show depB _ 7 5 = true from by kernel_rfl))
            · exact Bool.noConfusion ((hd 5 rfl).symm.trans (show depB _ 8 5 = true from by kernel_rfl))
            · exact ext_trans hG hb
          case hdm =>
            intro c hc
            have h : c = 7 ∨ c = 8 := by simpa using hc
            rcases h with rfl | rfl
            · exact (show depB _ 7 5 = true from by kernel_rfl)
            · exact (show depB _ 8 5 = true from by kernel_rfl)
          case hTu =>
            intro i u u' wa v hd hne hT
            match i, hd, hne, hT with
            | 0, _, _, hT => exact hT
            | 1, _, _, hT => exact hT
            | 2, _, _, hT => exact hT
            | 3, _, _, hT => exact hT
            | 4, _, _, hT => exact hT
            | 5, _, hne, _ => exact absurd rfl hne
            | 6, hd, _, _ => exact Bool.noConfusion (hd.symm.trans (show depB _ 6 5 = true from by kernel_rfl))
            | n + 7, _, _, _ => trivial
          case stabH =>
            intro c i wa wb u hc hR hne hd h
            have hc2 : c = 7 ∨ c = 8 := by simpa using hc
            rcases hc2 with rfl | rfl
            · rcases hR with (rfl | ⟨rfl, _⟩ | ⟨rfl, hq⟩) | hb
              · exact Bool.noConfusion (hd.symm.trans (show depB _ 7 5 = true from by kernel_rfl))
              · exact absurd rfl hne
              · exact GiH.st8 hn5 h hq
              · exact GiH.below hn5 h hb
            · rcases hR with (rfl | ⟨rfl, hq⟩ | ⟨rfl, _⟩) | hb
              · exact Bool.noConfusion (hd.symm.trans (show depB _ 8 5 = true from by kernel_rfl))
              · exact GiB.st7 h hq
              · exact absurd rfl hne
              · exact block_below h hb
          case all =>
            refine RAllL.cons rfl ?_ (RAllL.cons rfl ?_ (RAllL.cons rfl ?_ (RAllL.cons rfl ?_ (RAllL.cons rfl ?_ (RAllL.cons rfl ?_ (RAllL.cons rfl ?_ (RAllL.cons rfl ?_ (RAllL.cons rfl ?_ (RAllL.none_)))))))))
            · intro a kq_ wa K Q _ _ hp hK0
              have hI : Below w9.heap.size w9 wa := hp.pre 9 (fun c hc => by cases hc; kernel_rfl)
              have e2 := tmp_of (show a.eval (.tmp 2) = .pointer (some ⟨b5, 0, Option.none⟩) from hp.keep 2 (by kernel_rfl))
              have a5_ := below_cell hI a5'
              go_simp
              exact hK0 _ _ rfl (.inr (Below.refl _ _)) trivial (fun e => absurd e (by decide))
            · intro a kq_ wa K Q _ _ hp hK0
              have hI : Below w9.heap.size w9 wa := hp.pre 9 (fun c hc => by cases hc; kernel_rfl)
              have e3 := tmp_of (show a.eval (.tmp 3) = .pointer (some ⟨gx, 0, Option.none⟩) from hp.keep 3 (by kernel_rfl))
              have x0_ := below_cell hI x0'
              have x1_ := below_cell hI x1'
              have x2_ := below_cell hI x2'
              have x3_ := below_cell hI x3'
              go_simp
              exact hK0 _ _ rfl (.inr (Below.refl _ _)) trivial (fun e => absurd e (by decide))
            · intro a kq_ wa K Q _ _ hp hK0
              have e21 := tmp_of (show a.eval (.tmp 21) = .agg #[.int .i64 x.k, .int .i64 x.n, .string x.s, .slice A x.ps.length c] from hp.dep 1 21 (by kernel_rfl))
              go_simp
              refine has_any.mono ?_
              rintro e wb ⟨rfl, hb⟩
              exact hK0 _ _ rfl (.inr hb) trivial (fun e => absurd e (by decide))
            · intro a kq_ wa K Q _ _ hp hK0
              have e20 := tmp_of (show a.eval (.tmp 20) = .slice Ag gl.length cg from hp.dep 0 20 (by kernel_rfl))
              go_simp
              exact hK0 _ _ rfl (.inr (Below.refl _ _)) trivial (fun e => absurd e (by decide))
            · intro a kq_ wa K Q _ _ hp hK0
              go_simp
              exact hK0 _ _ ⟨_, rfl, Nat.zero_le _, heap_alloc_new _ _⟩ (.inr (below_alloc _ _)) trivial (fun e => absurd e (by decide))
            · intro a kq_ wa K Q _ _ hp hK0
              have hI : Below w9.heap.size w9 wa := hp.pre 9 (fun c hc => by cases hc; kernel_rfl)
              obtain ⟨g8, e24, _, hg8⟩ := (show FrB 0 28 1 #[.int .i64 0, .int .i64 0, .string ⟨#[]⟩, .slice Option.none 0 0] wa (a.eval (.tmp 24)) from hp.dep 4 24 (by kernel_rfl))
              have hO := hO9.below hI
              refine op_appendG (R := exR (D + 1) 0 n0) (B := b5 + 1) (l := gl) (l2 := [exD]) (.tmp 20) (.tmp 24) 26 28 _ 4 56 rfl Try.underlying26 Try.infoExpr rfl (by decide) (fun a cs h => exR.one h) (hp.dep 0 20 (by kernel_rfl)) hO.2 e24 (rd_blockG hg8 rfl exR.zero) (fun w' hg a cs h => exR.row hO.1.1 hg (fun k hk => by have := (hO.2.ge k hk).1; omega) h) (by have := HGN.out; simp; omega) (by have := HGN.out; simp; omega) (by have := hI.size; omega) ?_
              intro v' wb ho' hb' hgr hv
              refine hK0 v' wb ?_ (.inl (.inl rfl)) trivial (fun e => absurd e (by decide))
              show GiT w9 D n0 b5 (.slice Ag gl.length cg) gl wb v'
              obtain ⟨A7, c7, xs, e7, hoo, hcc⟩ := ho'
              have hln : (gl ++ [exD]).length = gl.length + 1 := by simp
              rw [hln] at e7 hoo
              obtain ⟨g, cap, hv7, hBg, hlt⟩ := hoo.form (by omega)
              cases hv7
              subst e7
              obtain ⟨xp, cc, xq, hxs, hxp, _, hcp, _, _⟩ := Chunks.cut (p := gl) (a := exD) (q := []) hcc
              have hfr : GiFr w9 b5 (.slice Ag gl.length cg) w9 := ⟨rfl, rfl, rfl, Nat.le_refl _, fun _ _ _ _ => rfl⟩
              refine ⟨(hfr.grown (grown_of_belowG hI Option.none) (fun k e => by cases e)).grown hgr (fun k e => .inr (.inl e)), ⟨_, (hgr.block b5 (by have := hI.size; omega) (fun e => by have := (hO.2.ge _ e.symm).1; omega)).trans (block_below HB9.out hI)⟩, g, _, xs, rfl, ?_, hoo, ?_⟩
              · rcases hv with e | e
                · exact .inl e.symm
                · cases e; exact .inr hI.size
              · rw [hxs, List.append_assoc, List.take_append_of_le_length (by rw [hxp]; exact Nat.le_refl _), List.take_of_length_le (by rw [hxp]; exact Nat.le_refl _)]
                exact hcp
            · intro a kq_ wa K Q _ _ hp hK0
              obtain ⟨_, _, g, c5, xs, e25, _⟩ := (show GiT w9 D n0 b5 (.slice Ag gl.length cg) gl wa (a.eval (.tmp 25)) from hp.dep 5 25 (by kernel_rfl))
              have f25 := tmp_of e25
              have e23 := tmp_of (show a.eval (.tmp 23) = .int .i64 gl.length from hp.dep 3 23 (by kernel_rfl))
              go_simp
              rw [if_pos (by omega)]
              go_simp
              refine hK0 _ _ ?_ (.inr (Below.refl _ _)) trivial (fun e => absurd e (by decide))
              show ∀ g' c', a.eval (.tmp 25) = .slice (some ⟨g', 0, none⟩) (gl.length + 1) c' → _
              intro g' c' hu
              rw [e25] at hu
              cases hu
              rfl
            · intro a kq_ wa K Q _ _ hp hK0
              obtain ⟨hfr, hbx5, g, c5, xs, e25, ho, hown, hch⟩ := (show GiT w9 D n0 b5 (.slice Ag gl.length cg) gl wa (a.eval (.tmp 25)) from hp.base (by kernel_rfl))
              have f26 := tmp_of ((show ∀ g c, a.eval (.tmp 25) = .slice (some ⟨g, 0, none⟩) (gl.length + 1) c → a.eval (.tmp 26) = .pointer (some ⟨g, gl.length * 4, none⟩) from hp.dep 6 26 (by kernel_rfl)) g c5 e25)
              have e22 := tmp_of (show a.eval (.tmp 22) = .agg #[.int .i64 9, .int .i64 x.n, .string x.s, .slice A x.ps.length c] from hp.dep 2 22 (by kernel_rfl))
              obtain ⟨v0, f0⟩ := own_cell hown (j := gl.length * 4) (by omega)
              obtain ⟨v1, f1⟩ := own_cell hown (j := gl.length * 4 + 1) (by omega)
              obtain ⟨v2, f2⟩ := own_cell hown (j := gl.length * 4 + 2) (by omega)
              obtain ⟨v3, f3⟩ := own_cell hown (j := gl.length * 4 + 3) (by omega)
              have z0 := hown.frozenAt (gl.length * 4)
              have z1 := hown.frozenAt (gl.length * 4 + 1)
              have z2 := hown.frozenAt (gl.length * 4 + 2)
              have z3 := hown.frozenAt (gl.length * 4 + 3)
              have hgl := hown.lt g rfl
              have hst := setCells_grown g [.int .i64 9, .int .i64 x.n, .string x.s, .slice A x.ps.length c] wa (gl.length * 4)
              have hxl := hown.1
              have hUx : exS D 0 n0 (setCells wa g (gl.length * 4) [.int .i64 9, .int .i64 x.n, .string x.s, .slice A x.ps.length c]) A x.ps := HU9.out.keep (fun k _ hk => (hst.block k (by have := hfr.size; omega) (fun e => by cases e; omega)).trans (hfr.keep k (by omega) (by omega) (fun e => by have := (hO9.2.ge k e).1; omega))) (Nat.le_refl _) (Nat.le_refl _)
              have HGH : Hid (GiH D n0 b5 gl (asHas x) (.slice (some ⟨g, 0, none⟩) (gl.length + 1) c5) (setCells wa g (gl.length * 4) [.int .i64 9, .int .i64 x.n, .string x.s, .slice A x.ps.length c])) := Lib.hid ⟨_, own_stores [.int .i64 9, .int .i64 x.n, .string x.s, .slice A x.ps.length c] (gl.length * 4) hown (by simp; omega), by
                rw [List.drop_eq_nil_of_le (by simp; omega), List.append_nil]
                exact (hch.mono (fun _ _ q => exR.row (show n0 ≤ wa.heap.size by have := hfr.size; omega) hst (fun k e => by cases e; omega) q)).append (Chunks.one rfl (exS.head (t := asHas x) (c := c) hUx hs))⟩
              clear hst hxl hUx
              go_simp
              refine hK0 (.tuple #[]) _ trivial (.inl (.inr (.inl ⟨rfl, g, [.int .i64 9, .int .i64 x.n, .string x.s, .slice A x.ps.length c], rfl, rfl, by omega, ho⟩))) trivial (fun _ => ?_)
              show GiH D n0 b5 gl (asHas x) (a.eval (.tmp 25)) _
              rw [e25]
              exact HGH.out
            · intro a kq_ wa K Q _ _ hp hK0
              obtain ⟨hfr, ⟨u5, hb5⟩, g, c5, xs, e25, ho, hown, hch⟩ := (show GiT w9 D n0 b5 (.slice Ag gl.length cg) gl wa (a.eval (.tmp 25)) from hp.base (by kernel_rfl))
              have f25 := tmp_of e25
              have e2 := tmp_of (show a.eval (.tmp 2) = .pointer (some ⟨b5, 0, Option.none⟩) from hp.keep 2 (by kernel_rfl))
              obtain ⟨q5, r5⟩ := cell1 hb5
              go_simp
              refine hK0 (.tuple #[]) _ trivial (.inl (.inr (.inr ⟨rfl, .slice (some ⟨g, 0, none⟩) (gl.length + 1) c5, rfl⟩))) trivial (fun _ => ?_)
              show GiB b5 (a.eval (.tmp 25)) _
              rw [e25]
              exact setCells_atG [.slice (some ⟨g, 0, none⟩) (gl.length + 1) c5] 0 hb5 (by simp)
          case fin =>
            intro f w10 hT _ hH
            have h5 : GiT w9 D n0 b5 (.slice Ag gl.length cg) gl w10 (f 5) := hT 5 (by decide) rfl rfl
            have h7 : GiH D n0 b5 gl (asHas x) (f 5) w10 := hH 7 rfl (by decide)
            have h8 : GiB b5 (f 5) w10 := hH 8 rfl (by decide)
            clear hT hH
            obtain ⟨hfr, _, g, c5, xs, e5, ho, hown, _⟩ := h5
            rw [e5] at h7 h8
            obtain ⟨xs7, ho7, hc7⟩ := h7
            have hln : (gl ++ [asHas x]).length = gl.length + 1 := by simp
            have hP10 : GiP D n0 b4 b5 (y0 || decide (x.k = 7)) (addI x gl) w10 := by
              obtain ⟨_, h49, _, _, _, _⟩ := HP9.out
              rw [HAD.out, ← HBB.out]
              refine ⟨h0, (hfr.keep b4 (by omega) (by omega) (fun e => by have := (hO9.2.ge b4 e).1; omega)).trans h49, some ⟨g, 0, none⟩, c5, by rw [hln]; exact h8, ⟨Nat.le_trans hn9 hfr.size, by omega⟩, some ⟨g, 0, none⟩, c5, xs7, rfl, by rw [hln]; exact ho7, hc7⟩
            have hF10 : GiF b4 b5 w9 w10 := by
              refine ⟨hfr.os, hfr.tape, hfr.output, hfr.size, fun k hk hm => hfr.keep k hk (fun e => hm (.inr (.inl e))) (fun e => hm (.inr (.inr ⟨_, HB9.out, e⟩))), fun k hm => ?_⟩
              rcases hm with hm | hm | ⟨v, hv, hk⟩
              · exact .inl (.inl hm)
              · exact .inl (.inr (.inl hm))
              · rw [show w10.heap[b5]? = _ from h8] at hv
                simp only [Option.some.injEq, Obj.cells.injEq, and_true] at hv
                have e : Value.slice (some ⟨g, 0, none⟩) (gl.length + 1) c5 = v := by simpa using hv
                rw [← e] at hk
                cases hk
                rcases ho with e | e
                · exact .inl (.inr (.inr ⟨_, HB9.out, e⟩))
                · exact .inr e
            have HR := Lib.hid (HJ1.out _ hP10)
            have HR2 := Lib.hid (HF9.out.trans hF10)
            clear hP10 hF10 h8 ho7 hc7 hfr ho hown e5
            simp only [putAll]
            go_simp
            go_wp2
            go_end0
            exact ⟨⟨_, rfl⟩, HR.out, HR2.out⟩
      · have HAD : Hid (addI x gl = gl) := Lib.hid (by rw [addI, if_neg (fun h => by rw [hz] at h; cases h.2)])
        clear hz h8
        refine wp_region_kinds2 (fun i wz vz => match i with | 0 => vz = .pointer (some ⟨gx, 0, Option.none⟩) | 1 => vz = .int .i64 x.k | 2 => vz = .bool true | 3 => vz = .bool true | 4 => vz = .slice Ag gl.length cg | 5 => vz = .agg #[.int .i64 x.k, .int .i64 x.n, .string x.s, .slice A x.ps.length c] | 6 => vz = .agg #[.int .i64 9, .int .i64 x.n, .string x.s, .slice A x.ps.length c] | 7 => vz = .bool true | 8 => vz = .bool false | 9 => vz = .bool false | _ => True) (fun _ wz => Below V.heap.size V wz) (fun i w w' => Below w.heap.size w w') (fun _ => Option.none) (by kernel_rfl) (by kernel_rfl) (by kernel_rfl) ?stab2 (ext_drew (Below.refl _ _)) ?all2 ?fin2
        case stab2 =>
          intro i j wa wb v hR hk hne hd _ h2 hT
          match j, hk, hne, hd, h2, hT with
          | 0, hk, hne, hd, h2, hT => exact hT
          | 1, hk, hne, hd, h2, hT => exact hT
          | 2, hk, hne, hd, h2, hT => exact hT
          | 3, hk, hne, hd, h2, hT => exact hT
          | 4, hk, hne, hd, h2, hT => exact hT
          | 5, hk, hne, hd, h2, hT => exact hT
          | 6, hk, hne, hd, h2, hT => exact hT
          | 7, hk, hne, hd, h2, hT => exact hT
          | 8, hk, hne, hd, h2, hT => exact hT
          | 9, hk, hne, hd, h2, hT => exact hT
          | n + 10, _, _, _, _, _ => trivial
        case all2 =>
          refine RAll.cons rfl ?_ (RAll.cons rfl ?_ (RAll.cons rfl ?_ (RAll.cons rfl ?_ (RAll.guarded 3 13 true rfl (by kernel_rfl) (fun _ _ h => h) ?_ (RAll.guarded 3 13 true rfl (by kernel_rfl) (fun _ _ h => h) ?_ (RAll.guarded 3 13 true rfl (by kernel_rfl) (fun _ _ h => h) ?_ (RAll.guarded 3 13 true rfl (by kernel_rfl) (fun _ _ h => h) ?_ (RAll.guarded 3 13 true rfl (by kernel_rfl) (fun _ _ h => h) ?_ (RAll.cons rfl ?_ (RAll.none_))))))))))
          · intro a k wa K Q _ hI hp hK
            have e3 := tmp_of (show a.eval (.tmp 3) = .pointer (some ⟨gx, 0, none⟩) from hp.keep 3 (by kernel_rfl))
            go_simp
            exact hK _ _ rfl (Below.refl _ _) hI
          · intro a k wa K Q _ hI hp hK
            have e10 := tmp_of (show a.eval (.tmp 10) = .pointer (some ⟨gx, 0, Option.none⟩) from hp.dep 0 10 (by kernel_rfl))
            have x0_ := below_cell hI x0
            go_simp
            exact hK _ _ rfl (Below.refl _ _) hI
          · intro a k wa K Q _ hI hp hK
            have e11 := tmp_of (show a.eval (.tmp 11) = .int .i64 x.k from hp.dep 1 11 (by kernel_rfl))
            go_simp
            exact hK _ _ (rfl) (Below.refl _ _) hI
          · intro a k wa K Q _ hI hp hK
            exact op_move _ (.inl rfl) (hK _ _ (hp.dep 2 12 (by kernel_rfl)) (Below.refl _ _) hI)
          · intro a k wa K Q _ hI hp hK
            have e2 := tmp_of (show a.eval (.tmp 2) = .pointer (some ⟨b5, 0, none⟩) from hp.keep 2 (by kernel_rfl))
            have a5_ := below_cell hI a5
            go_simp
            exact hK _ _ rfl (Below.refl _ _) hI
          · intro a k wa K Q _ hI hp hK
            have e3 := tmp_of (show a.eval (.tmp 3) = .pointer (some ⟨gx, 0, none⟩) from hp.keep 3 (by kernel_rfl))
            have x0_ := below_cell hI x0
            have x1_ := below_cell hI x1
            have x2_ := below_cell hI x2
            have x3_ := below_cell hI x3
            go_simp
            exact hK _ _ rfl (Below.refl _ _) hI
          · intro a k wa K Q _ hI hp hK
            have e15 := tmp_of (show a.eval (.tmp 15) = .agg #[.int .i64 x.k, .int .i64 x.n, .string x.s, .slice A x.ps.length c] from hp.dep 5 15 (by kernel_rfl))
            go_simp
            refine has_any.mono ?_
            rintro e wb ⟨rfl, hb⟩
            exact hK _ _ rfl hb (ext_trans hI hb)
          · intro a k wa K Q _ hI hp hK
            have e14 := tmp_of (show a.eval (.tmp 14) = .slice Ag gl.length cg from hp.dep 4 14 (by kernel_rfl))
            have e16 := tmp_of (show a.eval (.tmp 16) = .agg #[.int .i64 9, .int .i64 x.n, .string x.s, .slice A x.ps.length c] from hp.dep 6 16 (by kernel_rfl))
            go_simp
            refine (HHS.out _ hI).mono ?_
            rintro e wb ⟨rfl, hb⟩
            exact hK _ _ rfl hb (ext_trans hI hb)
          · intro a k wa K Q _ hI hp hK
            have e17 := tmp_of (show a.eval (.tmp 17) = .bool true from hp.dep 7 17 (by kernel_rfl))
            go_simp
            exact hK _ _ (rfl) (Below.refl _ _) hI
          · intro a k wa K Q _ hI hp hK
            exact op_pick_t _ _ _ rfl (hp.dep 3 13 (by kernel_rfl)) (hK _ _ (hp.dep 8 18 (by kernel_rfl)) (Below.refl _ _) hI)
        case fin2 =>
          intro f w9 hT hI0
          have hI : Below V.heap.size V w9 := hI0
          have hr9 : (f 9) = .bool false := hT 9 (by decide) rfl rfl
          clear hT hI0
          simp only [putAll, hr9]
          go_simp
          go_wp2
          go_end0
          exact ⟨⟨_, rfl⟩, HJ1.out _ (by rw [HAD.out, ← HBB.out]; exact HP.out.below hI), HF.out.trans (GiF.ofBelow hI HP.out.lt)⟩
    · have e8 : (x.k == 8) = false := by simp [h8]
      have HAD : Hid (addI x gl = gl) := Lib.hid (by rw [addI, if_neg (fun h => h8 h.1)])
      clear h8
      refine wp_region_kinds2 (fun i wz vz => match i with | 0 => vz = .pointer (some ⟨gx, 0, Option.none⟩) | 1 => vz = .int .i64 x.k | 2 => vz = .bool false | 3 => vz = .bool false | 9 => vz = .bool false | _ => True) (fun _ wz => Below V.heap.size V wz) (fun i w w' => Below w.heap.size w w') (fun _ => Option.none) (by kernel_rfl) (by kernel_rfl) (by kernel_rfl) ?stab2 (ext_drew (Below.refl _ _)) ?all2 ?fin2
      case stab2 =>
        intro i j wa wb v hR hk hne hd _ h2 hT
        match j, hk, hne, hd, h2, hT with
        | 0, hk, hne, hd, h2, hT => exact hT
        | 1, hk, hne, hd, h2, hT => exact hT
        | 2, hk, hne, hd, h2, hT => exact hT
        | 3, hk, hne, hd, h2, hT => exact hT
        | 9, hk, hne, hd, h2, hT => exact hT
        | 4, _, _, _, _, _ => trivial
        | 5, _, _, _, _, _ => trivial
        | 6, _, _, _, _, _ => trivial
        | 7, _, _, _, _, _ => trivial
        | 8, _, _, _, _, _ => trivial
        | n + 10, _, _, _, _, _ => trivial
      case all2 =>
        refine RAll.cons rfl ?_ (RAll.cons rfl ?_ (RAll.cons rfl ?_ (RAll.cons rfl ?_ (RAll.skipped 3 13 true rfl (by kernel_rfl) (fun _ _ h => h) ?_ (RAll.skipped 3 13 true rfl (by kernel_rfl) (fun _ _ h => h) ?_ (RAll.skipped 3 13 true rfl (by kernel_rfl) (fun _ _ h => h) ?_ (RAll.skipped 3 13 true rfl (by kernel_rfl) (fun _ _ h => h) ?_ (RAll.skipped 3 13 true rfl (by kernel_rfl) (fun _ _ h => h) ?_ (RAll.cons rfl ?_ (RAll.none_))))))))))
        · intro a k wa K Q _ hI hp hK
          have e3 := tmp_of (show a.eval (.tmp 3) = .pointer (some ⟨gx, 0, none⟩) from hp.keep 3 (by kernel_rfl))
          go_simp
          exact hK _ _ rfl (Below.refl _ _) hI
        · intro a k wa K Q _ hI hp hK
          have e10 := tmp_of (show a.eval (.tmp 10) = .pointer (some ⟨gx, 0, Option.none⟩) from hp.dep 0 10 (by kernel_rfl))
          have x0_ := below_cell hI x0
          go_simp
          exact hK _ _ rfl (Below.refl _ _) hI
        · intro a k wa K Q _ hI hp hK
          have e11 := tmp_of (show a.eval (.tmp 11) = .int .i64 x.k from hp.dep 1 11 (by kernel_rfl))
          go_simp
          exact hK _ _ (rfl) (Below.refl _ _) hI
        · intro a k wa K Q _ hI hp hK
          exact op_move _ (.inl rfl) (hK _ _ (hp.dep 2 12 (by kernel_rfl)) (Below.refl _ _) hI)
        · exact fun k wa hI => ⟨trivial, Below.refl _ _, hI⟩
        · exact fun k wa hI => ⟨trivial, Below.refl _ _, hI⟩
        · exact fun k wa hI => ⟨trivial, Below.refl _ _, hI⟩
        · exact fun k wa hI => ⟨trivial, Below.refl _ _, hI⟩
        · exact fun k wa hI => ⟨trivial, Below.refl _ _, hI⟩
        · intro a k wa K Q _ hI hp hK
          exact op_pick_f _ _ _ rfl (hp.dep 3 13 (by kernel_rfl)) (hK _ _ (rfl) (Below.refl _ _) hI)
      case fin2 =>
        intro f w9 hT hI0
        have hI : Below V.heap.size V w9 := hI0
        have hr9 : (f 9) = .bool false := hT 9 (by decide) rfl rfl
        clear hT hI0
        simp only [putAll, hr9]
        go_simp
        go_wp2
        go_end0
        exact ⟨⟨_, rfl⟩, HJ1.out _ (by rw [HAD.out, ← HBB.out]; exact HP.out.below hI), HF.out.trans (GiF.ofBelow hI HP.out.lt)⟩
end Go.Proofs.Ytodjokdaofefdaa
/- Guards that are added, by the program: all expressions in one. -/
namespace Go.Proofs.Ytodjokdaofefdaa
set_option linter.unusedSimpArgs false
set_option linter.unusedVariables false
open Go.RowKit

theorem GiM.ofBelow {b4 b5 : Nat} {w w' : World} (hb : Below w.heap.size w w') (h5 : b5 < w.heap.size) {k : Nat} (hm : GiM b4 b5 w' k) : GiM b4 b5 w k := by
  rcases hm with hm | hm | ⟨v, hv, hk⟩
  · exact .inl hm
  · exact .inr (.inl hm)
  · rw [hb.block _ h5] at hv; exact .inr (.inr ⟨v, hv, hk⟩)
theorem enters_gb1 : ∀ args w, (callFunc 80 args).run Try.prog w = .ok (.enter 80 args) w := enters_of Try.func80 (by kernel_rfl) rfl
theorem po_step {d : Nat} {t : Ex} {k : Nat} (hk : k < t.ps.length) : (t.ps.take (k + 1)).flatMap (poL d) = (t.ps.take k).flatMap (poL d) ++ poL d (exAt t.ps k) := by
  rw [List.take_succ_eq_append_getElem hk, List.flatMap_append, exAt_eq hk]; simp
theorem po_len {d : Nat} {t : Ex} (k : Nat) : ((t.ps.take k).flatMap (poL d)).length + 1 ≤ (poL (d + 1) t).length := by
  rw [poL, List.length_append, List.length_singleton]
  have : (t.ps.flatMap (poL d)).length = ((t.ps.take k).flatMap (poL d)).length + ((t.ps.drop k).flatMap (poL d)).length := by
    rw [← List.length_append, ← List.flatMap_append, List.take_append_drop]
  omega
def EcQ (d : Nat) : Prop := ∀ (D n0 b4 b5 : Nat) (pre : ExL) (A : Option Addr) (r : Ex) (c : Nat) (w : World), d ≤ D → GiJ D n0 b4 b5 pre w → exS d 0 n0 w A r.ps → r.s.size ≤ 9223372036854775807 → pre.length + (poL (d + 1) r).length ≤ 1048576 →
  Calls Try.prog 79 #[.agg #[.int .i64 r.k, .int .i64 r.n, .string r.s, .slice A r.ps.length c], .func (.func 80) #[] #[.pointer (some ⟨b4, 0, none⟩), .pointer (some ⟨b5, 0, none⟩)]] w fun e w' => (∃ v, e = .returned v) ∧ GiJ D n0 b4 b5 (pre ++ poL (d + 1) r) w' ∧ GiF b4 b5 w w'
set_option maxRecDepth 100000 in
set_option maxHeartbeats 8000000 in
theorem ecQ_of {d : Nat} (hQ : ∀ m, d = m + 1 → EcQ m) : EcQ d := by
  intro D n0 b4 b5 pre A r c w hdD hJ hU hs hn
  have hlen := exS.len hU
  have eg := enters_gb1
  have hlt5 := hJ.lt
  have hn0 : n0 ≤ w.heap.size := by obtain ⟨_, _, _, _, _, hO⟩ := hJ; exact hO.1.1
  obtain ⟨gx, hgx⟩ : ∃ g, g = w.heap.size := ⟨_, rfl⟩
  obtain ⟨W, hW⟩ : ∃ W, W = w.alloc (.cells #[.int .i64 r.k, .int .i64 r.n, .string r.s, .slice A r.ps.length c] 28) := ⟨_, rfl⟩
  have hBW : Below w.heap.size w W := by rw [hW]; exact below_alloc _ _
  have hbx : W.heap[gx]? = some (.cells #[.int .i64 r.k, .int .i64 r.n, .string r.s, .slice A r.ps.length c] 28 (0, 0)) := by rw [hW, hgx]; exact heap_alloc_new _ _
  have hF : GiF b4 b5 w W := GiF.ofBelow hBW hlt5
  have hJW : GiJ D n0 b4 b5 pre W := GiP.below hJ hBW
  have hgm : ¬ GiM b4 b5 W gx := fun hm => by
    have := GiP.m hJ gx (GiM.ofBelow hBW hlt5 hm)
    omega
  have hm0 : ∀ k, k < n0 → ¬ GiM b4 b5 W k := fun k hk hm => by have := GiP.m hJW k hm; omega
  have HU := Lib.hid (exS.below hU hn0 hBW)
  have HQ := Lib.hid hQ
  have HW := Lib.hid hW
  have HGX := Lib.hid hgx
  have HF := Lib.hid hF
  have HJ := Lib.hid hJW
  have HBX := Lib.hid hbx
  have HGM := Lib.hid hgm
  have HM0 := Lib.hid hm0
  have HNN := Lib.hid hn
  have hn0W : n0 ≤ W.heap.size := Nat.le_trans hn0 hBW.size
  obtain ⟨b0, b1, b2, b3⟩ := cells4 hbx
  have hgxW := (Array.getElem?_eq_some_iff.1 hbx).1
  have HGXW := Lib.hid hgxW
  clear hQ hW hgx hF hJW hbx hgm hm0 hn hBW hJ hU hn0 hgxW hlt5
  go_enter Try.func79, Try.ntmps79
  go_wp2_with fail
  rw [← HW.out, ← HGX.out]
  clear b0 b1 b2 b3
  go_loopw [9] (fun iv wr => ∃ k : Nat, k ≤ r.ps.length ∧ iv = .int .i64 k ∧ GiJ D n0 b4 b5 (pre ++ (r.ps.take k).flatMap (poL d)) wr ∧ GiF b4 b5 W wr) (fun iv _ => r.ps.length - (intOf iv).toNat)
  case atStart => exact ⟨0, Nat.zero_le _, rfl, by simpa using HJ.out, GiF.refl _ _ _⟩
  case round =>
    obtain ⟨k, hk, rfl, hJr, hFr⟩ := hrel
    have hUr : exS d 0 n0 wr A r.ps := HU.out.keep (fun q _ hq => hFr.keep q (by omega) (HM0.out q hq)) (Nat.le_refl _) (Nat.le_refl _)
    have hws := hFr.size
    by_cases hlt : k < r.ps.length
    · have hd : ∃ m, d = m + 1 := by
        cases d with
        | zero => have := exS.zero hUr; rw [this] at hlt; simp at hlt
        | succ m => exact ⟨m, rfl⟩
      obtain ⟨m, hm⟩ := hd
      subst hm
      have HQ1 := Lib.hid (HQ.out m rfl)
      obtain ⟨b, off, rfl, _, hc⟩ := exS.cells hUr (by omega)
      obtain ⟨A1, c1, hfd, hs1, p0, p1, p2, p3⟩ := hc k hlt
      have hb0 := below_alloc wr (.cells #[.int .i64 (exAt r.ps k).k, .int .i64 (exAt r.ps k).n, .string (exAt r.ps k).s, .slice A1 (exAt r.ps k).ps.length c1] 28)
      have hlr := GiP.lt hJr
      have HFD := Lib.hid (exS.below hfd (by omega) hb0)
      have HJY := Lib.hid (GiP.below hJr hb0)
      have HFY := Lib.hid (hFr.trans (GiF.ofBelow hb0 hlr))
      have HS1 := Lib.hid hs1
      have HST := Lib.hid (po_step (d := m + 1) hlt)
      have HL : Hid ((pre ++ (r.ps.take k).flatMap (poL (m + 1))).length + (poL (m + 1) (exAt r.ps k)).length ≤ 1048576) := Lib.hid (by
        have h1 := po_len (d := m + 1) (t := r) (k + 1)
        rw [HST.out, List.length_append] at h1
        have := HNN.out
        rw [List.length_append]
        omega)
      clear hc hfd hs1 hb0 hJr hFr hUr hws
      go_wp2_with fail
      refine (HQ1.out D n0 b4 b5 _ A1 (exAt r.ps k) c1 _ (by omega) HJY.out HFD.out HS1.out HL.out).mono ?_
      rintro e w1 ⟨⟨v, rfl⟩, hJ1, hF1⟩
      rw [List.append_assoc, ← HST.out] at hJ1
      have HF2 := Lib.hid (HFY.out.trans hF1)
      clear p0 p1 p2 p3 hF1
      go_wp2
      go_roundw
      case rel => exact ⟨k + 1, by omega, by go_num, hJ1, HF2.out⟩
      case measure => simp [intOf]; omega
    · obtain rfl : k = r.ps.length := by omega
      have hbr := (hFr.keep gx HGXW.out HGM.out).trans HBX.out
      obtain ⟨b0, b1, b2, b3⟩ := cells4 hbr
      rw [List.take_length] at hJr
      have HG := Lib.hid (gi1_any (c := c) hJr (exS.deeper hUr hdD) hs (by have := HNN.out; have h1 := po_len (d := d) (t := r) r.ps.length; rw [List.take_length] at h1; rw [List.length_append]; omega))
      have HFR := Lib.hid (HF.out.trans hFr)
      clear hJr hUr hbr hFr
      go_wp2_with fail
      refine HG.out.mono ?_
      rintro e w1 ⟨⟨v, rfl⟩, hJ1, hF1⟩
      have HJ1 := Lib.hid hJ1
      have HF2 := Lib.hid (HFR.out.trans hF1)
      clear b0 b1 b2 b3 hJ1 hF1
      go_wp2
      go_end0
      refine ⟨⟨_, rfl⟩, ?_, HF2.out⟩
      have h := HJ1.out
      rw [List.append_assoc] at h
      exact h
theorem ecQ_all : ∀ d, EcQ d
  | 0 => ecQ_of (fun m h => by cases h)
  | d + 1 => ecQ_of (fun m h => by cases h; exact ecQ_all d)
end Go.Proofs.Ytodjokdaofefdaa

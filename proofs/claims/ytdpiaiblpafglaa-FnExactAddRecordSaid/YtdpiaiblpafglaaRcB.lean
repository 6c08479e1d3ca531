/- The seal of a record, by the program and by the reference. -/
import Derived.Test.YtdpiaiblpafglaaRcA
namespace Go.Proofs.Ytdpiaiblpafglaa
set_option linter.unusedSimpArgs false
set_option linter.unusedVariables false
open Go.RowKit

theorem l29Mix_any' {s n : Int} {w : World} (hs : 0 ≤ s ∧ s ≤ 1000002) (hn : 0 ≤ n ∧ n ≤ 1000) :
    Calls Try.prog 46 #[.int .i64 s, .int .i64 n] w fun e w' => e = .returned (.int .i64 (mixI s n)) ∧ Below w.heap.size w w' := l29Mix_any hs.1 hs.2 hn.1 hn.2
set_option maxRecDepth 100000 in
set_option maxHeartbeats 2000000 in
theorem implRecordSeal {A : Option Addr} {n c : Nat} {before tm who act what sl : Int} {al : Bool} {w : World} :
    Calls Try.prog 12 #[.int .i64 before, .agg #[.int .i64 tm, .int .i64 who, .int .i64 act, .int .i64 what, .slice A n c, .bool al, .int .i64 sl]] w fun e w' => e = .returned (.int .i64 (rcSeal before tm who act what al)) ∧ Below w.heap.size w w' := by
  obtain ⟨W, hW⟩ : ∃ W, W = w.alloc (.cells #[.int .i64 tm, .int .i64 who, .int .i64 act, .int .i64 what, .slice A n c, .bool al, .int .i64 sl] 27) := ⟨_, rfl⟩
  obtain ⟨g, hg⟩ : ∃ g, g = w.heap.size := ⟨_, rfl⟩
  have hB : Below w.heap.size w W := by rw [hW]; exact below_alloc _ _
  have hs : g < W.heap.size := by rw [hW, hg]; simp
  have q0 : W.cell? ⟨g, 0, none⟩ = some (.int .i64 tm) := by rw [hW, hg]; exact box_cell _ _ _ 0 _ rfl
  have q1 : W.cell? ⟨g, 1, none⟩ = some (.int .i64 who) := by rw [hW, hg]; exact box_cell _ _ _ 1 _ rfl
  have q2 : W.cell? ⟨g, 2, none⟩ = some (.int .i64 act) := by rw [hW, hg]; exact box_cell _ _ _ 2 _ rfl
  have q3 : W.cell? ⟨g, 3, none⟩ = some (.int .i64 what) := by rw [hW, hg]; exact box_cell _ _ _ 3 _ rfl
  have q5 : W.cell? ⟨g, 5, none⟩ = some (.bool al) := by rw [hW, hg]; exact box_cell _ _ _ 5 _ rfl
  have HW := Lib.hid hW
  have HG := Lib.hid hg
  clear hW hg hs
  cases g0 : inB before 0 1000002
  · skip
    go_enter Try.func12, Try.ntmps12
    go_wp2_with fail
    rw [← HW.out, ← HG.out]
    refine (in_any _ _ _ _).mono ?_
    rintro e w1 ⟨rfl, hBc⟩
    replace hB := ext_trans hB hBc
    replace q0 := below_cell hBc q0
    replace q1 := below_cell hBc q1
    replace q2 := below_cell hBc q2
    replace q3 := below_cell hBc q3
    replace q5 := below_cell hBc q5
    clear hBc
    rw [g0]
    go_wp2
    go_ret
    exact ⟨ret_int (by simp [rcSeal, rcOk, g0]), hB⟩
  · skip
    cases g1 : inB tm 0 1000
    · skip
      go_enter Try.func12, Try.ntmps12
      go_wp2_with fail
      rw [← HW.out, ← HG.out]
      refine (in_any _ _ _ _).mono ?_
      rintro e w1 ⟨rfl, hBc⟩
      replace hB := ext_trans hB hBc
      replace q0 := below_cell hBc q0
      replace q1 := below_cell hBc q1
      replace q2 := below_cell hBc q2
      replace q3 := below_cell hBc q3
      replace q5 := below_cell hBc q5
      clear hBc
      rw [g0]
      go_wp2_with fail
      refine (isTime_any _ _).mono ?_
      rintro e w2 ⟨rfl, hBc⟩
      replace hB := ext_trans hB hBc
      replace q0 := below_cell hBc q0
      replace q1 := below_cell hBc q1
      replace q2 := below_cell hBc q2
      replace q3 := below_cell hBc q3
      replace q5 := below_cell hBc q5
      clear hBc
      rw [g1]
      go_wp2
      go_ret
      exact ⟨ret_int (by simp [rcSeal, rcOk, g0, g1]), hB⟩
    · skip
      cases g2 : inB who 0 6
      · skip
        go_enter Try.func12, Try.ntmps12
        go_wp2_with fail
        rw [← HW.out, ← HG.out]
        refine (in_any _ _ _ _).mono ?_
        rintro e w1 ⟨rfl, hBc⟩
        replace hB := ext_trans hB hBc
        replace q0 := below_cell hBc q0
        replace q1 := below_cell hBc q1
        replace q2 := below_cell hBc q2
        replace q3 := below_cell hBc q3
        replace q5 := below_cell hBc q5
        clear hBc
        rw [g0]
        go_wp2_with fail
        refine (isTime_any _ _).mono ?_
        rintro e w2 ⟨rfl, hBc⟩
        replace hB := ext_trans hB hBc
        replace q0 := below_cell hBc q0
        replace q1 := below_cell hBc q1
        replace q2 := below_cell hBc q2
        replace q3 := below_cell hBc q3
        replace q5 := below_cell hBc q5
        clear hBc
        rw [g1]
        go_wp2_with fail
        refine (isPerson_any _ _).mono ?_
        rintro e w3 ⟨rfl, hBc⟩
        replace hB := ext_trans hB hBc
        replace q0 := below_cell hBc q0
        replace q1 := below_cell hBc q1
        replace q2 := below_cell hBc q2
        replace q3 := below_cell hBc q3
        replace q5 := below_cell hBc q5
        clear hBc
        rw [g2]
        go_wp2
        go_ret
        exact ⟨ret_int (by simp [rcSeal, rcOk, g0, g1, g2]), hB⟩
      · skip
        cases g3 : inB act 0 6
        · skip
          go_enter Try.func12, Try.ntmps12
          go_wp2_with fail
          rw [← HW.out, ← HG.out]
          refine (in_any _ _ _ _).mono ?_
          rintro e w1 ⟨rfl, hBc⟩
          replace hB := ext_trans hB hBc
          replace q0 := below_cell hBc q0
          replace q1 := below_cell hBc q1
          replace q2 := below_cell hBc q2
          replace q3 := below_cell hBc q3
          replace q5 := below_cell hBc q5
          clear hBc
          rw [g0]
          go_wp2_with fail
          refine (isTime_any _ _).mono ?_
          rintro e w2 ⟨rfl, hBc⟩
          replace hB := ext_trans hB hBc
          replace q0 := below_cell hBc q0
          replace q1 := below_cell hBc q1
          replace q2 := below_cell hBc q2
          replace q3 := below_cell hBc q3
          replace q5 := below_cell hBc q5
          clear hBc
          rw [g1]
          go_wp2_with fail
          refine (isPerson_any _ _).mono ?_
          rintro e w3 ⟨rfl, hBc⟩
          replace hB := ext_trans hB hBc
          replace q0 := below_cell hBc q0
          replace q1 := below_cell hBc q1
          replace q2 := below_cell hBc q2
          replace q3 := below_cell hBc q3
          replace q5 := below_cell hBc q5
          clear hBc
          rw [g2]
          go_wp2_with fail
          refine (isPerson_any _ _).mono ?_
          rintro e w4 ⟨rfl, hBc⟩
          replace hB := ext_trans hB hBc
          replace q0 := below_cell hBc q0
          replace q1 := below_cell hBc q1
          replace q2 := below_cell hBc q2
          replace q3 := below_cell hBc q3
          replace q5 := below_cell hBc q5
          clear hBc
          rw [g3]
          go_wp2
          go_ret
          exact ⟨ret_int (by simp [rcSeal, rcOk, g0, g1, g2, g3]), hB⟩
        · skip
          cases g4 : inB what 0 6
          · skip
            go_enter Try.func12, Try.ntmps12
            go_wp2_with fail
            rw [← HW.out, ← HG.out]
            refine (in_any _ _ _ _).mono ?_
            rintro e w1 ⟨rfl, hBc⟩
            replace hB := ext_trans hB hBc
            replace q0 := below_cell hBc q0
            replace q1 := below_cell hBc q1
            replace q2 := below_cell hBc q2
            replace q3 := below_cell hBc q3
            replace q5 := below_cell hBc q5
            clear hBc
            rw [g0]
            go_wp2_with fail
            refine (isTime_any _ _).mono ?_
            rintro e w2 ⟨rfl, hBc⟩
            replace hB := ext_trans hB hBc
            replace q0 := below_cell hBc q0
            replace q1 := below_cell hBc q1
            replace q2 := below_cell hBc q2
            replace q3 := below_cell hBc q3
            replace q5 := below_cell hBc q5
            clear hBc
            rw [g1]
            go_wp2_with fail
            refine (isPerson_any _ _).mono ?_
            rintro e w3 ⟨rfl, hBc⟩
            replace hB := ext_trans hB hBc
            replace q0 := below_cell hBc q0
            replace q1 := below_cell hBc q1
            replace q2 := below_cell hBc q2
            replace q3 := below_cell hBc q3
            replace q5 := below_cell hBc q5
            clear hBc
            rw [g2]
            go_wp2_with fail
            refine (isPerson_any _ _).mono ?_
            rintro e w4 ⟨rfl, hBc⟩
            replace hB := ext_trans hB hBc
            replace q0 := below_cell hBc q0
            replace q1 := below_cell hBc q1
            replace q2 := below_cell hBc q2
            replace q3 := below_cell hBc q3
            replace q5 := below_cell hBc q5
            clear hBc
            rw [g3]
            go_wp2_with fail
            refine (isPerson_any _ _).mono ?_
            rintro e w5 ⟨rfl, hBc⟩
            replace hB := ext_trans hB hBc
            replace q0 := below_cell hBc q0
            replace q1 := below_cell hBc q1
            replace q2 := below_cell hBc q2
            replace q3 := below_cell hBc q3
            replace q5 := below_cell hBc q5
            clear hBc
            rw [g4]
            go_wp2
            go_ret
            exact ⟨ret_int (by simp [rcSeal, rcOk, g0, g1, g2, g3, g4]), hB⟩
          · have hok : rcOk before tm who act what = true := by simp [rcOk, g0, g1, g2, g3, g4]
            obtain ⟨⟨b0, b1⟩, ⟨c0, c1⟩, ⟨d0, d1⟩, ⟨e0, e1⟩, ⟨f0, f1⟩⟩ := rcOk_bounds hok
            have HR : Hid (rcSeal before tm who act what al = rcMix before tm who act what al) := Lib.hid (by simp [rcSeal, hok])
            clear hok
            go_enter Try.func12, Try.ntmps12
            go_wp2_with fail
            rw [← HW.out, ← HG.out]
            refine (in_any _ _ _ _).mono ?_
            rintro e w1 ⟨rfl, hBc⟩
            replace hB := ext_trans hB hBc
            replace q0 := below_cell hBc q0
            replace q1 := below_cell hBc q1
            replace q2 := below_cell hBc q2
            replace q3 := below_cell hBc q3
            replace q5 := below_cell hBc q5
            clear hBc
            rw [g0]
            go_wp2_with fail
            refine (isTime_any _ _).mono ?_
            rintro e w2 ⟨rfl, hBc⟩
            replace hB := ext_trans hB hBc
            replace q0 := below_cell hBc q0
            replace q1 := below_cell hBc q1
            replace q2 := below_cell hBc q2
            replace q3 := below_cell hBc q3
            replace q5 := below_cell hBc q5
            clear hBc
            rw [g1]
            go_wp2_with fail
            refine (isPerson_any _ _).mono ?_
            rintro e w3 ⟨rfl, hBc⟩
            replace hB := ext_trans hB hBc
            replace q0 := below_cell hBc q0
            replace q1 := below_cell hBc q1
            replace q2 := below_cell hBc q2
            replace q3 := below_cell hBc q3
            replace q5 := below_cell hBc q5
            clear hBc
            rw [g2]
            go_wp2_with fail
            refine (isPerson_any _ _).mono ?_
            rintro e w4 ⟨rfl, hBc⟩
            replace hB := ext_trans hB hBc
            replace q0 := below_cell hBc q0
            replace q1 := below_cell hBc q1
            replace q2 := below_cell hBc q2
            replace q3 := below_cell hBc q3
            replace q5 := below_cell hBc q5
            clear hBc
            rw [g3]
            go_wp2_with fail
            refine (isPerson_any _ _).mono ?_
            rintro e w5 ⟨rfl, hBc⟩
            replace hB := ext_trans hB hBc
            replace q0 := below_cell hBc q0
            replace q1 := below_cell hBc q1
            replace q2 := below_cell hBc q2
            replace q3 := below_cell hBc q3
            replace q5 := below_cell hBc q5
            clear hBc
            rw [g4]
            go_wp2_with fail
            obtain ⟨bl0, bl1⟩ := b2i_bounds al
            refine wp_region_kinds2 (fun i wz vz => match i with | 0 => vz = .int .i64 before | 1 => vz = .pointer (some ⟨g, 0, Option.none⟩) | 2 => vz = .int .i64 tm | 3 => vz = .pointer (some ⟨g, 1, Option.none⟩) | 4 => vz = .pointer (some ⟨g, 1, Option.none⟩) | 5 => vz = .int .i64 who | 6 => vz = .pointer (some ⟨g, 1, Option.none⟩) | 7 => vz = .pointer (some ⟨g, 2, Option.none⟩) | 8 => vz = .int .i64 act | 9 => vz = .pointer (some ⟨g, 1, Option.none⟩) | 10 => vz = .pointer (some ⟨g, 3, Option.none⟩) | 11 => vz = .int .i64 what | 12 => vz = .pointer (some ⟨g, 5, Option.none⟩) | 13 => vz = .bool al | 14 => vz = .agg #[.int .i64 1, .int .i64 (b2i al)] | 15 => vz = .int .i64 (b2i al) | 16 => FrB w5.heap.size 3 5 #[.int .i64 tm, .int .i64 who, .int .i64 act, .int .i64 what, .int .i64 (b2i al)] wz vz | 17 => vz = .int .i64 (rcMix before tm who act what al) | 18 => vz = .int .i64 (rcMix before tm who act what al) | _ => True) (fun _ wz => Below w5.heap.size w5 wz) (fun i w w' => Below w.heap.size w w') (fun _ => Option.none) (by kernel_rfl) (by kernel_rfl) (by kernel_rfl) ?stab3 (ext_drew (Below.refl _ _)) ?all3 ?fin3
            case stab3 =>
              intro i j wa wb v hR hk hne hd _ h2 hT
              match j, hk, hne, hd, h2, hT with
              | 0, hk, hne, hd, h2, hT => exact hT
              | 1, hk, hne, hd, h2, hT => exact hT
              | 2, hk, hne, hd, h2, hT => exact hT
              | 3, hk, hne, hd, h2, hT => exact hT
              | 4, hk, hne, hd, h2, hT => exact hT
              | 5, hk, hne, hd, h2, hT => exact hT
              | 6, hk, hne, hd, h2, hT => exact hT
              | 7, hk, hne, hd, h2, hT => exact hT
              | 8, hk, hne, hd, h2, hT => exact hT
              | 9, hk, hne, hd, h2, hT => exact hT
              | 10, hk, hne, hd, h2, hT => exact hT
              | 11, hk, hne, hd, h2, hT => exact hT
              | 12, hk, hne, hd, h2, hT => exact hT
              | 13, hk, hne, hd, h2, hT => exact hT
              | 14, hk, hne, hd, h2, hT => exact hT
              | 15, hk, hne, hd, h2, hT => exact hT
              | 16, hk, hne, hd, h2, hT => exact FrB.below hT hR
              | 17, hk, hne, hd, h2, hT => exact hT
              | 18, hk, hne, hd, h2, hT => exact hT
              | n + 19, _, _, _, _, _ => trivial
            case all3 =>
              refine RAll.cons rfl ?_ (RAll.cons rfl ?_ (RAll.cons rfl ?_ (RAll.cons rfl ?_ (RAll.cons rfl ?_ (RAll.cons rfl ?_ (RAll.cons rfl ?_ (RAll.cons rfl ?_ (RAll.cons rfl ?_ (RAll.cons rfl ?_ (RAll.cons rfl ?_ (RAll.cons rfl ?_ (RAll.cons rfl ?_ (RAll.cons rfl ?_ (RAll.cons rfl ?_ (RAll.cons rfl ?_ (RAll.cons rfl ?_ (RAll.cons rfl ?_ (RAll.cons rfl ?_ (RAll.none_)))))))))))))))))))
              · intro a k wa K Q _ hI hp hK
                exact op_move _ (.inl rfl) (hK _ _ (hp.keep 0 (by kernel_rfl)) (Below.refl _ _) hI)
              · intro a k wa K Q _ hI hp hK
                have e3 := tmp_of (show a.eval (.tmp 3) = .pointer (some ⟨g, 0, none⟩) from hp.keep 3 (by kernel_rfl))
                go_simp
                exact hK _ _ rfl (Below.refl _ _) hI
              · intro a k wa K Q _ hI hp hK
                have e36 := tmp_of (show a.eval (.tmp 36) = .pointer (some ⟨g, 0, Option.none⟩) from hp.dep 1 36 (by kernel_rfl))
                have q0_ := below_cell hI q0
                go_simp
                exact hK _ _ rfl (Below.refl _ _) hI
              · intro a k wa K Q _ hI hp hK
                have e3 := tmp_of (show a.eval (.tmp 3) = .pointer (some ⟨g, 0, none⟩) from hp.keep 3 (by kernel_rfl))
                go_simp
                exact hK _ _ rfl (Below.refl _ _) hI
              · intro a k wa K Q _ hI hp hK
                have e38 := tmp_of (show a.eval (.tmp 38) = .pointer (some ⟨g, 1, Option.none⟩) from hp.dep 3 38 (by kernel_rfl))
                go_simp
                exact hK _ _ rfl (Below.refl _ _) hI
              · intro a k wa K Q _ hI hp hK
                have e39 := tmp_of (show a.eval (.tmp 39) = .pointer (some ⟨g, 1, Option.none⟩) from hp.dep 4 39 (by kernel_rfl))
                have q1_ := below_cell hI q1
                go_simp
                exact hK _ _ rfl (Below.refl _ _) hI
              · intro a k wa K Q _ hI hp hK
                have e3 := tmp_of (show a.eval (.tmp 3) = .pointer (some ⟨g, 0, none⟩) from hp.keep 3 (by kernel_rfl))
                go_simp
                exact hK _ _ rfl (Below.refl _ _) hI
              · intro a k wa K Q _ hI hp hK
                have e41 := tmp_of (show a.eval (.tmp 41) = .pointer (some ⟨g, 1, Option.none⟩) from hp.dep 6 41 (by kernel_rfl))
                go_simp
                exact hK _ _ rfl (Below.refl _ _) hI
              · intro a k wa K Q _ hI hp hK
                have e42 := tmp_of (show a.eval (.tmp 42) = .pointer (some ⟨g, 2, Option.none⟩) from hp.dep 7 42 (by kernel_rfl))
                have q2_ := below_cell hI q2
                go_simp
                exact hK _ _ rfl (Below.refl _ _) hI
              · intro a k wa K Q _ hI hp hK
                have e3 := tmp_of (show a.eval (.tmp 3) = .pointer (some ⟨g, 0, none⟩) from hp.keep 3 (by kernel_rfl))
                go_simp
                exact hK _ _ rfl (Below.refl _ _) hI
              · intro a k wa K Q _ hI hp hK
                have e44 := tmp_of (show a.eval (.tmp 44) = .pointer (some ⟨g, 1, Option.none⟩) from hp.dep 9 44 (by kernel_rfl))
                go_simp
                exact hK _ _ rfl (Below.refl _ _) hI
              · intro a k wa K Q _ hI hp hK
                have e45 := tmp_of (show a.eval (.tmp 45) = .pointer (some ⟨g, 3, Option.none⟩) from hp.dep 10 45 (by kernel_rfl))
                have q3_ := below_cell hI q3
                go_simp
                exact hK _ _ rfl (Below.refl _ _) hI
              · intro a k wa K Q _ hI hp hK
                have e3 := tmp_of (show a.eval (.tmp 3) = .pointer (some ⟨g, 0, none⟩) from hp.keep 3 (by kernel_rfl))
                go_simp
                exact hK _ _ rfl (Below.refl _ _) hI
              · intro a k wa K Q _ hI hp hK
                have e47 := tmp_of (show a.eval (.tmp 47) = .pointer (some ⟨g, 5, Option.none⟩) from hp.dep 12 47 (by kernel_rfl))
                have q5_ := below_cell hI q5
                go_simp
                exact hK _ _ rfl (Below.refl _ _) hI
              · intro a k wa K Q _ hI hp hK
                have e48 := tmp_of (show a.eval (.tmp 48) = .bool al from hp.dep 13 48 (by kernel_rfl))
                go_simp
                refine (TruthOf_any _ _).mono ?_
                rintro e wb ⟨rfl, hb⟩
                exact hK _ _ (rfl) hb (ext_trans hI hb)
              · intro a k wa K Q _ hI hp hK
                have e49 := tmp_of (show a.eval (.tmp 49) = .agg #[.int .i64 1, .int .i64 (b2i al)] from hp.dep 14 49 (by kernel_rfl))
                go_simp
                exact hK _ _ (rfl) (Below.refl _ _) hI
              · intro a k wa K Q _ hI hp hK
                have e37 := tmp_of (show a.eval (.tmp 37) = .int .i64 tm from hp.dep 2 37 (by kernel_rfl))
                have e40 := tmp_of (show a.eval (.tmp 40) = .int .i64 who from hp.dep 5 40 (by kernel_rfl))
                have e43 := tmp_of (show a.eval (.tmp 43) = .int .i64 act from hp.dep 8 43 (by kernel_rfl))
                have e46 := tmp_of (show a.eval (.tmp 46) = .int .i64 what from hp.dep 11 46 (by kernel_rfl))
                have e50 := tmp_of (show a.eval (.tmp 50) = .int .i64 (b2i al) from hp.dep 15 50 (by kernel_rfl))
                go_simp
                exact hK _ _ ⟨_, rfl, hI.size, heap_alloc_new _ _⟩ (below_alloc _ _) (ext_alloc hI _)
              · intro a k wa K Q _ hI hp hK
                have e35 := tmp_of (show a.eval (.tmp 35) = .int .i64 before from hp.dep 0 35 (by kernel_rfl))
                have t51 : FrB w5.heap.size 3 5 #[.int .i64 tm, .int .i64 who, .int .i64 act, .int .i64 what, .int .i64 (b2i al)] wa (a.eval (.tmp 51)) := hp.dep 16 51 (by kernel_rfl)
                obtain ⟨g8, e51, hB8, hg8⟩ := t51
                replace e51 := tmp_of e51
                go_simp
                refine (sealNext_any (l := [tm, who, act, what, b2i al]) (rd_block (fun _ => rfl) hg8 rfl) (fun n hn => by simp at hn; omega) b0 b1).mono ?_
                rintro e wb ⟨rfl, hb⟩
                exact hK _ _ rfl hb (ext_trans hI hb)
              · intro a k wa K Q _ hI hp hK
                exact op_move _ (.inr rfl) (hK _ _ (hp.dep 17 52 (by kernel_rfl)) (Below.refl _ _) hI)
            case fin3 =>
              intro f w9 hT hI0
              have hI : Below w5.heap.size w5 w9 := hI0
              have hr : (f 18) = .int .i64 (rcMix before tm who act what al) := hT 18 (by decide) rfl rfl
              clear hT hI0
              simp only [putAll, hr]
              go_simp
              go_wp2
              go_ret
              exact ⟨ret_int HR.out.symm, ext_trans hB hI⟩
set_option maxRecDepth 100000 in
set_option maxHeartbeats 2000000 in
theorem specRecordSeal {A : Option Addr} {n c : Nat} {before tm who act what sl : Int} {al : Bool} {w : World} :
    Calls Try.prog 13 #[.int .i64 before, .agg #[.int .i64 tm, .int .i64 who, .int .i64 act, .int .i64 what, .slice A n c, .bool al, .int .i64 sl]] w fun e w' => e = .returned (.int .i64 (rcSeal before tm who act what al)) ∧ Below w.heap.size w w' := by
  obtain ⟨W, hW⟩ : ∃ W, W = w.alloc (.cells #[.int .i64 tm, .int .i64 who, .int .i64 act, .int .i64 what, .slice A n c, .bool al, .int .i64 sl] 27) := ⟨_, rfl⟩
  obtain ⟨g, hg⟩ : ∃ g, g = w.heap.size := ⟨_, rfl⟩
  have hB : Below w.heap.size w W := by rw [hW]; exact below_alloc _ _
  have hs : g < W.heap.size := by rw [hW, hg]; simp
  have q0 : W.cell? ⟨g, 0, none⟩ = some (.int .i64 tm) := by rw [hW, hg]; exact box_cell _ _ _ 0 _ rfl
  have q1 : W.cell? ⟨g, 1, none⟩ = some (.int .i64 who) := by rw [hW, hg]; exact box_cell _ _ _ 1 _ rfl
  have q2 : W.cell? ⟨g, 2, none⟩ = some (.int .i64 act) := by rw [hW, hg]; exact box_cell _ _ _ 2 _ rfl
  have q3 : W.cell? ⟨g, 3, none⟩ = some (.int .i64 what) := by rw [hW, hg]; exact box_cell _ _ _ 3 _ rfl
  have q5 : W.cell? ⟨g, 5, none⟩ = some (.bool al) := by rw [hW, hg]; exact box_cell _ _ _ 5 _ rfl
  have HW := Lib.hid hW
  have HG := Lib.hid hg
  clear hW hg hs
  cases g0 : inB before 0 1000002
  · skip
    go_enter Try.func13, Try.ntmps13
    go_wp2_with fail
    rw [← HW.out, ← HG.out]
    refine (l1In_any _ _ _ _).mono ?_
    rintro e w1 ⟨rfl, hBc⟩
    replace hB := ext_trans hB hBc
    replace q0 := below_cell hBc q0
    replace q1 := below_cell hBc q1
    replace q2 := below_cell hBc q2
    replace q3 := below_cell hBc q3
    replace q5 := below_cell hBc q5
    clear hBc
    rw [g0]
    go_wp2
    go_ret
    exact ⟨ret_int (by simp [rcSeal, rcOk, g0]), hB⟩
  · skip
    cases g1 : inB tm 0 1000
    · skip
      go_enter Try.func13, Try.ntmps13
      go_wp2_with fail
      rw [← HW.out, ← HG.out]
      refine (l1In_any _ _ _ _).mono ?_
      rintro e w1 ⟨rfl, hBc⟩
      replace hB := ext_trans hB hBc
      replace q0 := below_cell hBc q0
      replace q1 := below_cell hBc q1
      replace q2 := below_cell hBc q2
      replace q3 := below_cell hBc q3
      replace q5 := below_cell hBc q5
      clear hBc
      rw [g0]
      go_wp2_with fail
      refine (l1In_any _ _ _ _).mono ?_
      rintro e w2 ⟨rfl, hBc⟩
      replace hB := ext_trans hB hBc
      replace q0 := below_cell hBc q0
      replace q1 := below_cell hBc q1
      replace q2 := below_cell hBc q2
      replace q3 := below_cell hBc q3
      replace q5 := below_cell hBc q5
      clear hBc
      rw [g1]
      go_wp2
      go_ret
      exact ⟨ret_int (by simp [rcSeal, rcOk, g0, g1]), hB⟩
    · skip
      cases g2 : inB who 0 6
      · skip
        go_enter Try.func13, Try.ntmps13
        go_wp2_with fail
        rw [← HW.out, ← HG.out]
        refine (l1In_any _ _ _ _).mono ?_
        rintro e w1 ⟨rfl, hBc⟩
        replace hB := ext_trans hB hBc
        replace q0 := below_cell hBc q0
        replace q1 := below_cell hBc q1
        replace q2 := below_cell hBc q2
        replace q3 := below_cell hBc q3
        replace q5 := below_cell hBc q5
        clear hBc
        rw [g0]
        go_wp2_with fail
        refine (l1In_any _ _ _ _).mono ?_
        rintro e w2 ⟨rfl, hBc⟩
        replace hB := ext_trans hB hBc
        replace q0 := below_cell hBc q0
        replace q1 := below_cell hBc q1
        replace q2 := below_cell hBc q2
        replace q3 := below_cell hBc q3
        replace q5 := below_cell hBc q5
        clear hBc
        rw [g1]
        go_wp2_with fail
        refine (l1In_any _ _ _ _).mono ?_
        rintro e w3 ⟨rfl, hBc⟩
        replace hB := ext_trans hB hBc
        replace q0 := below_cell hBc q0
        replace q1 := below_cell hBc q1
        replace q2 := below_cell hBc q2
        replace q3 := below_cell hBc q3
        replace q5 := below_cell hBc q5
        clear hBc
        rw [g2]
        go_wp2
        go_ret
        exact ⟨ret_int (by simp [rcSeal, rcOk, g0, g1, g2]), hB⟩
      · skip
        cases g3 : inB act 0 6
        · skip
          go_enter Try.func13, Try.ntmps13
          go_wp2_with fail
          rw [← HW.out, ← HG.out]
          refine (l1In_any _ _ _ _).mono ?_
          rintro e w1 ⟨rfl, hBc⟩
          replace hB := ext_trans hB hBc
          replace q0 := below_cell hBc q0
          replace q1 := below_cell hBc q1
          replace q2 := below_cell hBc q2
          replace q3 := below_cell hBc q3
          replace q5 := below_cell hBc q5
          clear hBc
          rw [g0]
          go_wp2_with fail
          refine (l1In_any _ _ _ _).mono ?_
          rintro e w2 ⟨rfl, hBc⟩
          replace hB := ext_trans hB hBc
          replace q0 := below_cell hBc q0
          replace q1 := below_cell hBc q1
          replace q2 := below_cell hBc q2
          replace q3 := below_cell hBc q3
          replace q5 := below_cell hBc q5
          clear hBc
          rw [g1]
          go_wp2_with fail
          refine (l1In_any _ _ _ _).mono ?_
          rintro e w3 ⟨rfl, hBc⟩
          replace hB := ext_trans hB hBc
          replace q0 := below_cell hBc q0
          replace q1 := below_cell hBc q1
          replace q2 := below_cell hBc q2
          replace q3 := below_cell hBc q3
          replace q5 := below_cell hBc q5
          clear hBc
          rw [g2]
          go_wp2_with fail
          refine (l1In_any _ _ _ _).mono ?_
          rintro e w4 ⟨rfl, hBc⟩
          replace hB := ext_trans hB hBc
          replace q0 := below_cell hBc q0
          replace q1 := below_cell hBc q1
          replace q2 := below_cell hBc q2
          replace q3 := below_cell hBc q3
          replace q5 := below_cell hBc q5
          clear hBc
          rw [g3]
          go_wp2
          go_ret
          exact ⟨ret_int (by simp [rcSeal, rcOk, g0, g1, g2, g3]), hB⟩
        · skip
          cases g4 : inB what 0 6
          · skip
            go_enter Try.func13, Try.ntmps13
            go_wp2_with fail
            rw [← HW.out, ← HG.out]
            refine (l1In_any _ _ _ _).mono ?_
            rintro e w1 ⟨rfl, hBc⟩
            replace hB := ext_trans hB hBc
            replace q0 := below_cell hBc q0
            replace q1 := below_cell hBc q1
            replace q2 := below_cell hBc q2
            replace q3 := below_cell hBc q3
            replace q5 := below_cell hBc q5
            clear hBc
            rw [g0]
            go_wp2_with fail
            refine (l1In_any _ _ _ _).mono ?_
            rintro e w2 ⟨rfl, hBc⟩
            replace hB := ext_trans hB hBc
            replace q0 := below_cell hBc q0
            replace q1 := below_cell hBc q1
            replace q2 := below_cell hBc q2
            replace q3 := below_cell hBc q3
            replace q5 := below_cell hBc q5
            clear hBc
            rw [g1]
            go_wp2_with fail
            refine (l1In_any _ _ _ _).mono ?_
            rintro e w3 ⟨rfl, hBc⟩
            replace hB := ext_trans hB hBc
            replace q0 := below_cell hBc q0
            replace q1 := below_cell hBc q1
            replace q2 := below_cell hBc q2
            replace q3 := below_cell hBc q3
            replace q5 := below_cell hBc q5
            clear hBc
            rw [g2]
            go_wp2_with fail
            refine (l1In_any _ _ _ _).mono ?_
            rintro e w4 ⟨rfl, hBc⟩
            replace hB := ext_trans hB hBc
            replace q0 := below_cell hBc q0
            replace q1 := below_cell hBc q1
            replace q2 := below_cell hBc q2
            replace q3 := below_cell hBc q3
            replace q5 := below_cell hBc q5
            clear hBc
            rw [g3]
            go_wp2_with fail
            refine (l1In_any _ _ _ _).mono ?_
            rintro e w5 ⟨rfl, hBc⟩
            replace hB := ext_trans hB hBc
            replace q0 := below_cell hBc q0
            replace q1 := below_cell hBc q1
            replace q2 := below_cell hBc q2
            replace q3 := below_cell hBc q3
            replace q5 := below_cell hBc q5
            clear hBc
            rw [g4]
            go_wp2
            go_ret
            exact ⟨ret_int (by simp [rcSeal, rcOk, g0, g1, g2, g3, g4]), hB⟩
          · have hok : rcOk before tm who act what = true := by simp [rcOk, g0, g1, g2, g3, g4]
            obtain ⟨⟨b0, b1⟩, ⟨c0, c1⟩, ⟨d0, d1⟩, ⟨e0, e1⟩, ⟨f0, f1⟩⟩ := rcOk_bounds hok
            have HR : Hid (rcSeal before tm who act what al = rcMix before tm who act what al) := Lib.hid (by simp [rcSeal, hok])
            clear hok
            cases al
            · skip
              go_enter Try.func13, Try.ntmps13
              go_wp2_with fail
              rw [← HW.out, ← HG.out]
              refine (l1In_any _ _ _ _).mono ?_
              rintro e w1 ⟨rfl, hBc⟩
              replace hB := ext_trans hB hBc
              replace q0 := below_cell hBc q0
              replace q1 := below_cell hBc q1
              replace q2 := below_cell hBc q2
              replace q3 := below_cell hBc q3
              replace q5 := below_cell hBc q5
              clear hBc
              rw [g0]
              go_wp2_with fail
              refine (l1In_any _ _ _ _).mono ?_
              rintro e w2 ⟨rfl, hBc⟩
              replace hB := ext_trans hB hBc
              replace q0 := below_cell hBc q0
              replace q1 := below_cell hBc q1
              replace q2 := below_cell hBc q2
              replace q3 := below_cell hBc q3
              replace q5 := below_cell hBc q5
              clear hBc
              rw [g1]
              go_wp2_with fail
              refine (l1In_any _ _ _ _).mono ?_
              rintro e w3 ⟨rfl, hBc⟩
              replace hB := ext_trans hB hBc
              replace q0 := below_cell hBc q0
              replace q1 := below_cell hBc q1
              replace q2 := below_cell hBc q2
              replace q3 := below_cell hBc q3
              replace q5 := below_cell hBc q5
              clear hBc
              rw [g2]
              go_wp2_with fail
              refine (l1In_any _ _ _ _).mono ?_
              rintro e w4 ⟨rfl, hBc⟩
              replace hB := ext_trans hB hBc
              replace q0 := below_cell hBc q0
              replace q1 := below_cell hBc q1
              replace q2 := below_cell hBc q2
              replace q3 := below_cell hBc q3
              replace q5 := below_cell hBc q5
              clear hBc
              rw [g3]
              go_wp2_with fail
              refine (l1In_any _ _ _ _).mono ?_
              rintro e w5 ⟨rfl, hBc⟩
              replace hB := ext_trans hB hBc
              replace q0 := below_cell hBc q0
              replace q1 := below_cell hBc q1
              replace q2 := below_cell hBc q2
              replace q3 := below_cell hBc q3
              replace q5 := below_cell hBc q5
              clear hBc
              rw [g4]
              have r0 := cell_regrown q0
              have r1 := cell_regrown q1
              have r2 := cell_regrown q2
              have r3 := cell_regrown q3
              have r5 := cell_regrown q5
              go_wp2
              refine wp_region_quiet_below (by kernel_rfl) (by kernel_rfl) ?_
              repeat (go_big_quiet_step ((go_at_call 46; (with_reducible exact Calls.regrown_of (l29Mix_any' (by first | exact mixI_bounds _ _ | omega) (by omega))))))
              refine wpQuiet_nil ?_
              intro w2 hw'regrown
              replace hB := ext_trans hB (below_of_regrown hw'regrown (Nat.le_refl _))
              clear hw'regrown
              go_wp2
              go_ret
              exact ⟨ret_int HR.out.symm, hB⟩
            · skip
              go_enter Try.func13, Try.ntmps13
              go_wp2_with fail
              rw [← HW.out, ← HG.out]
              refine (l1In_any _ _ _ _).mono ?_
              rintro e w1 ⟨rfl, hBc⟩
              replace hB := ext_trans hB hBc
              replace q0 := below_cell hBc q0
              replace q1 := below_cell hBc q1
              replace q2 := below_cell hBc q2
              replace q3 := below_cell hBc q3
              replace q5 := below_cell hBc q5
              clear hBc
              rw [g0]
              go_wp2_with fail
              refine (l1In_any _ _ _ _).mono ?_
              rintro e w2 ⟨rfl, hBc⟩
              replace hB := ext_trans hB hBc
              replace q0 := below_cell hBc q0
              replace q1 := below_cell hBc q1
              replace q2 := below_cell hBc q2
              replace q3 := below_cell hBc q3
              replace q5 := below_cell hBc q5
              clear hBc
              rw [g1]
              go_wp2_with fail
              refine (l1In_any _ _ _ _).mono ?_
              rintro e w3 ⟨rfl, hBc⟩
              replace hB := ext_trans hB hBc
              replace q0 := below_cell hBc q0
              replace q1 := below_cell hBc q1
              replace q2 := below_cell hBc q2
              replace q3 := below_cell hBc q3
              replace q5 := below_cell hBc q5
              clear hBc
              rw [g2]
              go_wp2_with fail
              refine (l1In_any _ _ _ _).mono ?_
              rintro e w4 ⟨rfl, hBc⟩
              replace hB := ext_trans hB hBc
              replace q0 := below_cell hBc q0
              replace q1 := below_cell hBc q1
              replace q2 := below_cell hBc q2
              replace q3 := below_cell hBc q3
              replace q5 := below_cell hBc q5
              clear hBc
              rw [g3]
              go_wp2_with fail
              refine (l1In_any _ _ _ _).mono ?_
              rintro e w5 ⟨rfl, hBc⟩
              replace hB := ext_trans hB hBc
              replace q0 := below_cell hBc q0
              replace q1 := below_cell hBc q1
              replace q2 := below_cell hBc q2
              replace q3 := below_cell hBc q3
              replace q5 := below_cell hBc q5
              clear hBc
              rw [g4]
              have r0 := cell_regrown q0
              have r1 := cell_regrown q1
              have r2 := cell_regrown q2
              have r3 := cell_regrown q3
              have r5 := cell_regrown q5
              go_wp2
              refine wp_region_quiet_below (by kernel_rfl) (by kernel_rfl) ?_
              repeat (go_big_quiet_step ((go_at_call 46; (with_reducible exact Calls.regrown_of (l29Mix_any' (by first | exact mixI_bounds _ _ | omega) (by omega))))))
              refine wpQuiet_nil ?_
              intro w2 hw'regrown
              replace hB := ext_trans hB (below_of_regrown hw'regrown (Nat.le_refl _))
              clear hw'regrown
              go_wp2
              go_ret
              exact ⟨ret_int HR.out.symm, hB⟩
end Go.Proofs.Ytdpiaiblpafglaa

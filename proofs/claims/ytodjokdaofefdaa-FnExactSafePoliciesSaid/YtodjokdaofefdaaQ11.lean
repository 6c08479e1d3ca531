/- The exact law of CheckPolicy, walked. -/
import Derived.Test.YtodjokdaofefdaaQ9
import Derived.Test.YtodjokdaofefdaaQ10
namespace Go.Proofs.Ytodjokdaofefdaa
set_option linter.unusedSimpArgs false
set_option linter.unusedVariables false
open Go.RowKit

def ScV (s : Sc) (w : World) (v : Value) : Prop := ∃ A0 A1, v = .agg #[.slice A0 s.1.length s.1.length, .slice A1 s.2.length s.2.length] ∧ scR w A0 A1 s
theorem ScV.below {s : Sc} {w w' : World} {v : Value} (h : ScV s w v) (hb : Below w.heap.size w w') : ScV s w' v := let ⟨A, c, e, h⟩ := h; ⟨A, c, e, h.below hb⟩
def PoV (d : Nat) (p : Po) (w : World) (v : Value) : Prop := ∃ A c, v = .agg #[.string p.nm, .bool p.al, .int .i64 p.who, .int .i64 p.what, .int .i64 p.acts, .int .i64 p.wh.k, .int .i64 p.wh.n, .string p.wh.s, .slice A p.wh.ps.length c] ∧ exW d w A p.wh.ps
theorem PoV.below {d : Nat} {p : Po} {w w' : World} {v : Value} (h : PoV d p w v) (hb : Below w.heap.size w w') : PoV d p w' v := let ⟨A, c, e, h⟩ := h; ⟨A, c, e, h.below hb⟩
set_option maxRecDepth 100000 in
set_option maxHeartbeats 16000000 in
theorem lawExactCheckPolicy {d : Nat} {s : Sc} {A0 A1 : Option Addr} {c0 c1 : Nat} {many : Int} {p : Po} {A : Option Addr} {c : Nat} {w : World} (hS : scR w A0 A1 s) (hz : scZ s) (hU : exW d w A p.wh.ps) (hpz : poZ p) :
    Calls Try.prog 8 #[scV s A0 c0 A1 c1, .int .i64 many, poV p A c] w fun e w' => e = .returned (.bool true) ∧ Below w.heap.size w w' := by
  unfold scV poV
  obtain ⟨kv, hkv⟩ : ∃ k, ckX d s many p = k := ⟨_, rfl⟩
  have HK := Lib.hid hkv
  obtain ⟨W, hW⟩ : ∃ W, W = (w.alloc (.cells #[.slice A0 s.1.length c0, .slice A1 s.2.length c1] 61)).alloc (.cells #[.string p.nm, .bool p.al, .int .i64 p.who, .int .i64 p.what, .int .i64 p.acts, .int .i64 p.wh.k, .int .i64 p.wh.n, .string p.wh.s, .slice A p.wh.ps.length c] 63) := ⟨_, rfl⟩
  obtain ⟨g, hg⟩ : ∃ g, g = w.heap.size := ⟨_, rfl⟩
  have hB : Below w.heap.size w W := by rw [hW]; (repeat (first | exact Below.refl _ _ | refine ext_alloc ?_ _ | refine Below.setCell ?_ (by simp) _))
  have hq : W.heap[g]? = some (.cells #[.slice A0 s.1.length c0, .slice A1 s.2.length c1] 61 (0, 0)) := by rw [hW, hg]; exact block_in (heap_alloc_new _ _) (below_alloc _ _)
  have hq2 : W.heap[g + 1]? = some (.cells #[.string p.nm, .bool p.al, .int .i64 p.who, .int .i64 p.what, .int .i64 p.acts, .int .i64 p.wh.k, .int .i64 p.wh.n, .string p.wh.s, .slice A p.wh.ps.length c] 63 (0, 0)) := by rw [hW, hg]; exact heap_alloc_at (by simp)
  replace hU := hU.below hB
  replace hS := hS.below hB
  obtain ⟨z0, z1⟩ := cells2 hq
  obtain ⟨q0, q1, q2, q3, q4, q5, q6, q7, q8⟩ := cells9 hq2
  have HQ := Lib.hid hq
  have HQ2 := Lib.hid hq2
  have HW := Lib.hid hW
  have HG := Lib.hid hg
  clear hW hg hq hq2 hkv
  go_enter Try.func8, Try.ntmps8
  go_wp2_with fail
  rw [← HW.out, ← HG.out]
  refine (szSchema_any hS hz.1 hz.2 (by omega) (by omega)).mono ?_
  rintro e w1 ⟨y, rfl, hy, hb⟩
  replace hB := ext_trans hB hb
  replace hU := hU.below hb
  replace hS := hS.below hb
  have HQ := Lib.hid (block_in HQ.out hb)
  have HQ2 := Lib.hid (block_in HQ2.out hb)
  clear hb z0 z1 q0 q1 q2 q3 q4 q5 q6 q7 q8
  obtain ⟨z0, z1⟩ := cells2 HQ.out
  obtain ⟨q0, q1, q2, q3, q4, q5, q6, q7, q8⟩ := cells9 HQ2.out
  rcases hy with rfl | ⟨y0, y1⟩
  · go_wp2
    go_ret
    exact ⟨rfl, hB⟩
  · have hn0 : s.1.length ≤ 2097152 := by omega
    have hn1 : s.2.length ≤ 2097152 := by omega
    go_wp2_with fail
    refine (szPolicy_any hU hpz y0 (by omega)).mono ?_
    rintro e w2 ⟨x, rfl, hx, hb⟩
    replace hB := ext_trans hB hb
    replace hU := hU.below hb
    replace hS := hS.below hb
    have HQ := Lib.hid (block_in HQ.out hb)
    have HQ2 := Lib.hid (block_in HQ2.out hb)
    clear hb z0 z1 q0 q1 q2 q3 q4 q5 q6 q7 q8
    obtain ⟨z0, z1⟩ := cells2 HQ.out
    obtain ⟨q0, q1, q2, q3, q4, q5, q6, q7, q8⟩ := cells9 HQ2.out
    rcases hx with rfl | ⟨x0, x1, hf⟩
    · go_wp2
      go_ret
      exact ⟨rfl, hB⟩
    · have HF := Lib.hid hf
      have hcn : cntS d p.wh.ps ≤ 2097152 := by omega
      have HCN := Lib.hid hcn
      clear hf hcn x1 y1
      go_wp2_with fail
      refine wp_region_kinds2 (fun i wz vz => match i with | 0 => vz = .agg #[.slice A0 s.1.length c0, .slice A1 s.2.length c1] | 1 => ScV s wz vz | 2 => vz = .int .i64 many | 3 => vz = .agg #[.string p.nm, .bool p.al, .int .i64 p.who, .int .i64 p.what, .int .i64 p.acts, .int .i64 p.wh.k, .int .i64 p.wh.n, .string p.wh.s, .slice A p.wh.ps.length c] | 4 => PoV d p wz vz | 5 => vz = .int .i64 kv | 6 => vz = .int .i64 kv | _ => True) (fun _ wz => Below w2.heap.size w2 wz) (fun i w w' => Below w.heap.size w w') (fun _ => Option.none) (by kernel_rfl) (by kernel_rfl) (by kernel_rfl) ?stab8 (ext_drew (Below.refl _ _)) ?all8 ?fin8
      case stab8 =>
        intro i j wa wb v hR hk hne hd _ h2 hT
        match j, hk, hne, hd, h2, hT with
        | 0, hk, hne, hd, h2, hT => exact hT
        | 1, hk, hne, hd, h2, hT => exact ScV.below hT hR
        | 2, hk, hne, hd, h2, hT => exact hT
        | 3, hk, hne, hd, h2, hT => exact hT
        | 4, hk, hne, hd, h2, hT => exact PoV.below hT hR
        | 5, hk, hne, hd, h2, hT => exact hT
        | 6, hk, hne, hd, h2, hT => exact hT
        | n + 7, _, _, _, _, _ => trivial
      case all8 =>
        refine RAll.cons rfl ?_ (RAll.cons rfl ?_ (RAll.cons rfl ?_ (RAll.cons rfl ?_ (RAll.cons rfl ?_ (RAll.cons rfl ?_ (RAll.cons rfl ?_ (RAll.none_)))))))
        · intro a k wa K Q _ hI hp hK
          have e3 := tmp_of (show a.eval (.tmp 3) = .pointer (some ⟨g, 0, none⟩) from hp.keep 3 (by kernel_rfl))
          have z0_ := below_cell hI z0
          have z1_ := below_cell hI z1
          go_simp
          exact hK _ _ rfl (Below.refl _ _) hI
        · intro a k wa K Q _ hI hp hK
          have e22 := tmp_of (show a.eval (.tmp 22) = .agg #[.slice A0 s.1.length c0, .slice A1 s.2.length c1] from hp.dep 0 22 (by kernel_rfl))
          go_simp
          refine (toSchema_any (hS.below hI) hn0 hn1).mono ?_
          rintro e wb ⟨A8, B8, rfl, h8, hb⟩
          exact hK _ _ ⟨A8, B8, rfl, h8⟩ hb (ext_trans hI hb)
        · intro a k wa K Q _ hI hp hK
          exact op_move _ (.inl rfl) (hK _ _ (hp.keep 1 (by kernel_rfl)) (Below.refl _ _) hI)
        · intro a k wa K Q _ hI hp hK
          have e5 := tmp_of (show a.eval (.tmp 5) = .pointer (some ⟨g + 1, 0, none⟩) from hp.keep 5 (by kernel_rfl))
          have q0_ := below_cell hI q0
          have q1_ := below_cell hI q1
          have q2_ := below_cell hI q2
          have q3_ := below_cell hI q3
          have q4_ := below_cell hI q4
          have q5_ := below_cell hI q5
          have q6_ := below_cell hI q6
          have q7_ := below_cell hI q7
          have q8_ := below_cell hI q8
          go_simp
          exact hK _ _ rfl (Below.refl _ _) hI
        · intro a k wa K Q _ hI hp hK
          have e25 := tmp_of (show a.eval (.tmp 25) = .agg #[.string p.nm, .bool p.al, .int .i64 p.who, .int .i64 p.what, .int .i64 p.acts, .int .i64 p.wh.k, .int .i64 p.wh.n, .string p.wh.s, .slice A p.wh.ps.length c] from hp.dep 3 25 (by kernel_rfl))
          go_simp
          refine (toPolicy_any (hU.below hI) HF.out).mono ?_
          rintro e wb ⟨A8, c8, rfl, h8, hb⟩
          exact hK _ _ ⟨A8, c8, rfl, h8.wide (Nat.zero_le _) (Nat.le_refl _)⟩ hb (ext_trans hI hb)
        · intro a k wa K Q _ hI hp hK
          have t23 : ScV s wa (a.eval (.tmp 23)) := hp.dep 1 23 (by kernel_rfl)
          have e24 := tmp_of (show a.eval (.tmp 24) = .int .i64 many from hp.dep 2 24 (by kernel_rfl))
          have t26 : PoV d p wa (a.eval (.tmp 26)) := hp.dep 4 26 (by kernel_rfl)
          obtain ⟨A8, B8, e23, h8⟩ := t23
          obtain ⟨A9, c9, e26, h9⟩ := t26
          replace e23 := tmp_of e23
          replace e26 := tmp_of e26
          go_simp
          refine (specCheckPolicy h8 hz h9 hpz HCN.out).mono ?_
          rintro e wb ⟨rfl, hb⟩
          rw [HK.out]
          exact hK _ _ rfl hb (ext_trans hI hb)
        · intro a k wa K Q _ hI hp hK
          have e27 := tmp_of (show a.eval (.tmp 27) = .int .i64 kv from hp.dep 5 27 (by kernel_rfl))
          go_simp
          exact hK _ _ (rfl) (Below.refl _ _) hI
      case fin8 =>
        intro f w3 hT hI0
        have hI : Below w2.heap.size w2 w3 := hI0
        have hr4 : (f 6) = .int .i64 kv := hT 6 (by decide) rfl rfl
        clear hT hI0
        simp only [putAll, hr4]
        have hb := hI
        clear hI hr4
        replace hB := ext_trans hB hb
        replace hU := hU.below hb
        replace hS := hS.below hb
        have HQ := Lib.hid (block_in HQ.out hb)
        have HQ2 := Lib.hid (block_in HQ2.out hb)
        clear hb z0 z1 q0 q1 q2 q3 q4 q5 q6 q7 q8
        obtain ⟨z0, z1⟩ := cells2 HQ.out
        obtain ⟨q0, q1, q2, q3, q4, q5, q6, q7, q8⟩ := cells9 HQ2.out
        go_simp
        go_wp2_with fail
        refine (toSchema_any hS hn0 hn1).mono ?_
        rintro e w4 ⟨A2, A3, rfl, hS2, hb⟩
        unfold scV
        replace hB := ext_trans hB hb
        replace hU := hU.below hb
        replace hS := hS.below hb
        have HQ := Lib.hid (block_in HQ.out hb)
        have HQ2 := Lib.hid (block_in HQ2.out hb)
        clear hb z0 z1 q0 q1 q2 q3 q4 q5 q6 q7 q8
        obtain ⟨W4, hW4⟩ : ∃ W, W = w4.alloc (.cells #[.slice A2 s.1.length s.1.length, .slice A3 s.2.length s.2.length] 25) := ⟨_, rfl⟩
        obtain ⟨g9, hg9⟩ : ∃ g, g = w4.heap.size := ⟨_, rfl⟩
        obtain ⟨q0, q1, q2, q3, q4, q5, q6, q7, q8⟩ := cells9 (block_in HQ2.out (below_alloc w4 (.cells #[.slice A2 s.1.length s.1.length, .slice A3 s.2.length s.2.length] 25)))
        have hb4 : Below w4.heap.size w4 W4 := by rw [hW4]; exact below_alloc _ _
        have hq9 : W4.heap[g9]? = some (.cells #[.slice A2 s.1.length s.1.length, .slice A3 s.2.length s.2.length] 25 (0, 0)) := by rw [hW4, hg9]; exact heap_alloc_new _ _
        replace hB := ext_trans hB hb4
        replace hU := hU.below hb4
        replace hS := hS.below hb4
        replace hS2 := hS2.below hb4
        have HQ := Lib.hid (block_in HQ.out hb4)
        have HQ2 := Lib.hid (block_in HQ2.out hb4)
        have HQ9 := Lib.hid hq9
        have HW4 := Lib.hid hW4
        have HG9 := Lib.hid hg9
        clear hW4 hg9 hq9 hb4
        go_wp2_with fail
        rw [← HW4.out, ← HG9.out]
        refine (toPolicy_any hU HF.out).mono ?_
        rintro e w5 ⟨A4, c4, rfl, hU2, hb⟩
        unfold poV
        replace hU2 : exW d w5 A4 p.wh.ps := hU2.wide (Nat.zero_le _) (Nat.le_refl _)
        replace hB := ext_trans hB hb
        replace hU := hU.below hb
        replace hS := hS.below hb
        replace hS2 := hS2.below hb
        have HQ := Lib.hid (block_in HQ.out hb)
        have HQ2 := Lib.hid (block_in HQ2.out hb)
        have HQ9 := Lib.hid (block_in HQ9.out hb)
        clear hb q0 q1 q2 q3 q4 q5 q6 q7 q8
        obtain ⟨W5, hW5⟩ : ∃ W, W = w5.alloc (.cells #[.string p.nm, .bool p.al, .int .i64 p.who, .int .i64 p.what, .int .i64 p.acts, .int .i64 p.wh.k, .int .i64 p.wh.n, .string p.wh.s, .slice A4 p.wh.ps.length c4] 30) := ⟨_, rfl⟩
        obtain ⟨g10, hg10⟩ : ∃ g, g = w5.heap.size := ⟨_, rfl⟩
        obtain ⟨y0, y1⟩ := cells2 (block_in HQ9.out (below_alloc w5 (.cells #[.string p.nm, .bool p.al, .int .i64 p.who, .int .i64 p.what, .int .i64 p.acts, .int .i64 p.wh.k, .int .i64 p.wh.n, .string p.wh.s, .slice A4 p.wh.ps.length c4] 30)))
        obtain ⟨x0, x1, x2, x3, x4, x5, x6, x7, x8⟩ := cells9 (heap_alloc_new w5 (.cells #[.string p.nm, .bool p.al, .int .i64 p.who, .int .i64 p.what, .int .i64 p.acts, .int .i64 p.wh.k, .int .i64 p.wh.n, .string p.wh.s, .slice A4 p.wh.ps.length c4] 30))
        have hb5 : Below w5.heap.size w5 W5 := by rw [hW5]; exact below_alloc _ _
        have hq10 : W5.heap[g10]? = some (.cells #[.string p.nm, .bool p.al, .int .i64 p.who, .int .i64 p.what, .int .i64 p.acts, .int .i64 p.wh.k, .int .i64 p.wh.n, .string p.wh.s, .slice A4 p.wh.ps.length c4] 30 (0, 0)) := by rw [hW5, hg10]; exact heap_alloc_new _ _
        replace hB := ext_trans hB hb5
        replace hU := hU.below hb5
        replace hS := hS.below hb5
        replace hS2 := hS2.below hb5
        replace hU2 := hU2.below hb5
        have HQ := Lib.hid (block_in HQ.out hb5)
        have HQ2 := Lib.hid (block_in HQ2.out hb5)
        have HQ9 := Lib.hid (block_in HQ9.out hb5)
        have HQ10 := Lib.hid hq10
        have HW5 := Lib.hid hW5
        have HG10 := Lib.hid hg10
        clear hW5 hg10 hq10 hb5
        go_wp2_with fail
        rw [← HW5.out, ← HG10.out]
        refine (implCheckPolicy hS2 hz (Nat.le_refl _) (Nat.le_refl _) hU2 hpz).mono ?_
        rintro e w6 ⟨rfl, hb⟩
        rw [HK.out]
        replace hB := ext_trans hB hb
        replace hU := hU.below hb
        replace hS := hS.below hb
        replace hS2 := hS2.below hb
        replace hU2 := hU2.below hb
        have HQ := Lib.hid (block_in HQ.out hb)
        have HQ2 := Lib.hid (block_in HQ2.out hb)
        have HQ9 := Lib.hid (block_in HQ9.out hb)
        have HQ10 := Lib.hid (block_in HQ10.out hb)
        clear hb y0 y1 x0 x1 x2 x3 x4 x5 x6 x7 x8
        obtain ⟨z0, z1⟩ := cells2 HQ.out
        obtain ⟨y0, y1⟩ := cells2 HQ9.out
        go_wp2_with fail
        refine wp_region_kinds2 (fun i wz vz => match i with | 0 => vz = .agg #[.slice A2 s.1.length s.1.length, .slice A3 s.2.length s.2.length] | 1 => vz = .agg #[.slice A0 s.1.length c0, .slice A1 s.2.length c1] | 2 => ScV s wz vz | 3 => vz = .bool true | 4 => vz = .bool false | _ => True) (fun _ wz => Below w6.heap.size w6 wz) (fun i w w' => Below w.heap.size w w') (fun _ => Option.none) (by kernel_rfl) (by kernel_rfl) (by kernel_rfl) ?stab14 (ext_drew (Below.refl _ _)) ?all14 ?fin14
        case stab14 =>
          intro i j wa wb v hR hk hne hd _ h2 hT
          match j, hk, hne, hd, h2, hT with
          | 0, hk, hne, hd, h2, hT => exact hT
          | 1, hk, hne, hd, h2, hT => exact hT
          | 2, hk, hne, hd, h2, hT => exact ScV.below hT hR
          | 3, hk, hne, hd, h2, hT => exact hT
          | 4, hk, hne, hd, h2, hT => exact hT
          | n + 5, _, _, _, _, _ => trivial
        case all14 =>
          refine RAll.cons rfl ?_ (RAll.cons rfl ?_ (RAll.cons rfl ?_ (RAll.cons rfl ?_ (RAll.cons rfl ?_ (RAll.none_)))))
          · intro a k wa K Q _ hI hp hK
            have e9 := tmp_of (show a.eval (.tmp 9) = .pointer (some ⟨g9, 0, none⟩) from hp.keep 9 (by kernel_rfl))
            have y0_ := below_cell hI y0
            have y1_ := below_cell hI y1
            go_simp
            exact hK _ _ rfl (Below.refl _ _) hI
          · intro a k wa K Q _ hI hp hK
            have e3 := tmp_of (show a.eval (.tmp 3) = .pointer (some ⟨g, 0, none⟩) from hp.keep 3 (by kernel_rfl))
            have z0_ := below_cell hI z0
            have z1_ := below_cell hI z1
            go_simp
            exact hK _ _ rfl (Below.refl _ _) hI
          · intro a k wa K Q _ hI hp hK
            have e40 := tmp_of (show a.eval (.tmp 40) = .agg #[.slice A0 s.1.length c0, .slice A1 s.2.length c1] from hp.dep 1 40 (by kernel_rfl))
            go_simp
            refine (toSchema_any (hS.below hI) hn0 hn1).mono ?_
            rintro e wb ⟨A8, B8, rfl, h8, hb⟩
            exact hK _ _ ⟨A8, B8, rfl, h8⟩ hb (ext_trans hI hb)
          · intro a k wa K Q _ hI hp hK
            have e39 := tmp_of (show a.eval (.tmp 39) = .agg #[.slice A2 s.1.length s.1.length, .slice A3 s.2.length s.2.length] from hp.dep 0 39 (by kernel_rfl))
            have t41 : ScV s wa (a.eval (.tmp 41)) := hp.dep 2 41 (by kernel_rfl)
            obtain ⟨A8, B8, e41, h8⟩ := t41
            replace e41 := tmp_of e41
            go_simp
            refine (eqSchema_any (s := s) (t := s) (hS2.below hI) h8).mono ?_
            rintro e wb ⟨rfl, hb⟩
            rw [sameB_true.2 rfl]
            exact hK _ _ rfl hb (ext_trans hI hb)
          · intro a k wa K Q _ hI hp hK
            have e42 := tmp_of (show a.eval (.tmp 42) = .bool true from hp.dep 3 42 (by kernel_rfl))
            go_simp
            exact hK _ _ (rfl) (Below.refl _ _) hI
        case fin14 =>
          intro f w7 hT hI0
          have hI : Below w6.heap.size w6 w7 := hI0
          have hr4 : (f 4) = .bool false := hT 4 (by decide) rfl rfl
          clear hT hI0
          simp only [putAll, hr4]
          have hb := hI
          clear hI hr4
          replace hB := ext_trans hB hb
          replace hU := hU.below hb
          replace hS := hS.below hb
          replace hS2 := hS2.below hb
          replace hU2 := hU2.below hb
          have HQ := Lib.hid (block_in HQ.out hb)
          have HQ2 := Lib.hid (block_in HQ2.out hb)
          have HQ9 := Lib.hid (block_in HQ9.out hb)
          have HQ10 := Lib.hid (block_in HQ10.out hb)
          clear hb z0 z1 y0 y1
          go_simp
          obtain ⟨q0, q1, q2, q3, q4, q5, q6, q7, q8⟩ := cells9 HQ2.out
          obtain ⟨x0, x1, x2, x3, x4, x5, x6, x7, x8⟩ := cells9 HQ10.out
          go_wp2_with fail
          refine wp_region_kinds2 (fun i wz vz => match i with | 0 => vz = .agg #[.string p.nm, .bool p.al, .int .i64 p.who, .int .i64 p.what, .int .i64 p.acts, .int .i64 p.wh.k, .int .i64 p.wh.n, .string p.wh.s, .slice A4 p.wh.ps.length c4] | 1 => vz = .agg #[.string p.nm, .bool p.al, .int .i64 p.who, .int .i64 p.what, .int .i64 p.acts, .int .i64 p.wh.k, .int .i64 p.wh.n, .string p.wh.s, .slice A p.wh.ps.length c] | 2 => PoV d p wz vz | 3 => vz = .bool true | 4 => vz = .bool false | _ => True) (fun _ wz => Below w7.heap.size w7 wz) (fun i w w' => Below w.heap.size w w') (fun _ => Option.none) (by kernel_rfl) (by kernel_rfl) (by kernel_rfl) ?stab16 (ext_drew (Below.refl _ _)) ?all16 ?fin16
          case stab16 =>
            intro i j wa wb v hR hk hne hd _ h2 hT
            match j, hk, hne, hd, h2, hT with
            | 0, hk, hne, hd, h2, hT => exact hT
            | 1, hk, hne, hd, h2, hT => exact hT
            | 2, hk, hne, hd, h2, hT => exact PoV.below hT hR
            | 3, hk, hne, hd, h2, hT => exact hT
            | 4, hk, hne, hd, h2, hT => exact hT
            | n + 5, _, _, _, _, _ => trivial
          case all16 =>
            refine RAll.cons rfl ?_ (RAll.cons rfl ?_ (RAll.cons rfl ?_ (RAll.cons rfl ?_ (RAll.cons rfl ?_ (RAll.none_)))))
            · intro a k wa K Q _ hI hp hK
              have e10 := tmp_of (show a.eval (.tmp 10) = .pointer (some ⟨g10, 0, none⟩) from hp.keep 10 (by kernel_rfl))
              have x0_ := below_cell hI x0
              have x1_ := below_cell hI x1
              have x2_ := below_cell hI x2
              have x3_ := below_cell hI x3
              have x4_ := below_cell hI x4
              have x5_ := below_cell hI x5
              have x6_ := below_cell hI x6
              have x7_ := below_cell hI x7
              have x8_ := below_cell hI x8
              go_simp
              exact hK _ _ rfl (Below.refl _ _) hI
            · intro a k wa K Q _ hI hp hK
              have e5 := tmp_of (show a.eval (.tmp 5) = .pointer (some ⟨g + 1, 0, none⟩) from hp.keep 5 (by kernel_rfl))
              have q0_ := below_cell hI q0
              have q1_ := below_cell hI q1
              have q2_ := below_cell hI q2
              have q3_ := below_cell hI q3
              have q4_ := below_cell hI q4
              have q5_ := below_cell hI q5
              have q6_ := below_cell hI q6
              have q7_ := below_cell hI q7
              have q8_ := below_cell hI q8
              go_simp
              exact hK _ _ rfl (Below.refl _ _) hI
            · intro a k wa K Q _ hI hp hK
              have e45 := tmp_of (show a.eval (.tmp 45) = .agg #[.string p.nm, .bool p.al, .int .i64 p.who, .int .i64 p.what, .int .i64 p.acts, .int .i64 p.wh.k, .int .i64 p.wh.n, .string p.wh.s, .slice A p.wh.ps.length c] from hp.dep 1 45 (by kernel_rfl))
              go_simp
              refine (toPolicy_any (hU.below hI) HF.out).mono ?_
              rintro e wb ⟨A8, c8, rfl, h8, hb⟩
              exact hK _ _ ⟨A8, c8, rfl, h8.wide (Nat.zero_le _) (Nat.le_refl _)⟩ hb (ext_trans hI hb)
            · intro a k wa K Q _ hI hp hK
              have e44 := tmp_of (show a.eval (.tmp 44) = .agg #[.string p.nm, .bool p.al, .int .i64 p.who, .int .i64 p.what, .int .i64 p.acts, .int .i64 p.wh.k, .int .i64 p.wh.n, .string p.wh.s, .slice A4 p.wh.ps.length c4] from hp.dep 0 44 (by kernel_rfl))
              have t46 : PoV d p wa (a.eval (.tmp 46)) := hp.dep 2 46 (by kernel_rfl)
              obtain ⟨A8, B8, e46, h8⟩ := t46
              replace e46 := tmp_of e46
              go_simp
              refine (eqPolicy_any (p := p) (p' := p) (hU2.below hI) h8).mono ?_
              rintro e wb ⟨rfl, hb⟩
              rw [sameX_self]
              exact hK _ _ rfl hb (ext_trans hI hb)
            · intro a k wa K Q _ hI hp hK
              have e47 := tmp_of (show a.eval (.tmp 47) = .bool true from hp.dep 3 47 (by kernel_rfl))
              go_simp
              exact hK _ _ (rfl) (Below.refl _ _) hI
          case fin16 =>
            intro f w8 hT hI0
            have hI : Below w7.heap.size w7 w8 := hI0
            have hr4 : (f 4) = .bool false := hT 4 (by decide) rfl rfl
            clear hT hI0
            simp only [putAll, hr4]
            have hb := hI
            clear hI hr4
            replace hB := ext_trans hB hb
            replace hU := hU.below hb
            replace hS := hS.below hb
            replace hS2 := hS2.below hb
            replace hU2 := hU2.below hb
            have HQ := Lib.hid (block_in HQ.out hb)
            have HQ2 := Lib.hid (block_in HQ2.out hb)
            have HQ9 := Lib.hid (block_in HQ9.out hb)
            have HQ10 := Lib.hid (block_in HQ10.out hb)
            clear hb q0 q1 q2 q3 q4 q5 q6 q7 q8 x0 x1 x2 x3 x4 x5 x6 x7 x8
            go_simp
            go_wp2
            go_ret
            exact ⟨rfl, hB⟩
end Go.Proofs.Ytodjokdaofefdaa
/- Policies: slices of them: sizes, conversions, comparison. -/
namespace Go.Proofs.Ytodjokdaofefdaa
set_option linter.unusedSimpArgs false
set_option linter.unusedVariables false
open Go.RowKit

/-- Few parts in all conditions. -/
def fewP (d : Nat) (p : Po) : Prop := fewS d p.wh.ps ∧ cntS d p.wh.ps ≤ 1048576
def fewPs (d : Nat) (l : PoL) : Prop := l.length ≤ 1048576 ∧ ∀ k, k < l.length → fewP d (poAt l k)
set_option maxRecDepth 100000 in
set_option maxHeartbeats 2000000 in
theorem szPolicyS_any {d : Nat} {l : PoL} {A : Option Addr} {c : Nat} {left : Int} {w : World} (hU : poW d w A l) (h0 : 0 ≤ left) (h1 : left ≤ 1048576) :
    Calls Try.prog 39 #[.slice A l.length c, .int .i64 left] w (SzPst left 0 (fewPs d l) w) := by
  have hlen := poW.len hU
  by_cases h : left < l.length
  · go_enter Try.func39, Try.ntmps39
    go_wp2
    go_ret
    exact ⟨-1, rfl, .inl rfl, Below.refl _ _⟩
  · go_enter Try.func39, Try.ntmps39
    go_wp2
    go_loopw [1, 5] (fun xv iv wr => ∃ (k : Nat) (x : Int), k ≤ l.length ∧ iv = .int .i64 k ∧ xv = .int .i64 x ∧ (0 ≤ x ∧ x + l.length ≤ left) ∧ Hid (∀ j, j < k → fewP d (poAt l j)) ∧ Below w.heap.size w wr) (fun _ iv _ => l.length - (intOf iv).toNat)
    case atStart => exact ⟨0, left - l.length, Nat.zero_le _, rfl, rfl, by omega, Lib.hid (fun j h => by omega), Below.refl _ _⟩
    case round =>
      obtain ⟨k, x, hk, rfl, rfl, ⟨x0, x1⟩, HF, hB⟩ := hrel
      by_cases hlt : k < l.length
      · obtain ⟨b, off, rfl, _, hc⟩ := poS.cells hU (by omega)
        obtain ⟨A', c', hfd, hz, p0, p1, p2, p3, p4, p5, p6, p7, p8⟩ := hc k hlt
        replace p0 := below_cell hB p0
        replace p1 := below_cell hB p1
        replace p2 := below_cell hB p2
        replace p3 := below_cell hB p3
        replace p4 := below_cell hB p4
        replace p5 := below_cell hB p5
        replace p6 := below_cell hB p6
        replace p7 := below_cell hB p7
        replace p8 := below_cell hB p8
        have hfd2 : exW d w A' (poAt l k).wh.ps := hfd
        replace hfd := exW.below hfd2 hB
        clear hc hfd2
        go_wp2_with fail
        refine (szPolicy_any hfd hz x0 (by omega)).mono ?_
        rintro e w1 ⟨y, rfl, hy, hb⟩
        replace hB := ext_trans hB hb
        clear p0 p1 p2 p3 p4 p5 p6 p7 p8 hfd hb
        rcases hy with rfl | ⟨y0, y1, hp⟩
        · go_wp2
          go_ret
          exact ⟨-1, rfl, .inl rfl, hB⟩
        · have HF2 := Lib.hid (all_succ (p := fun j => fewP d (poAt l j)) HF.out ⟨hp, by omega⟩)
          clear hp
          go_wp2
          go_roundw
          case rel => exact ⟨k + 1, y, by omega, by go_num, rfl, ⟨y0, by omega⟩, HF2, hB⟩
          case measure => simp [intOf]; omega
      · obtain rfl : k = l.length := by omega
        go_wp2
        go_ret
        exact ⟨x, rfl, .inr ⟨x0, by omega, by omega, HF.out⟩, hB⟩
set_option maxRecDepth 100000 in
set_option maxHeartbeats 4000000 in
theorem toPolicyS_any {d : Nat} {l : PoL} {A : Option Addr} {c : Nat} {w : World} (hU : poW d w A l) (hf : fewPs d l) :
    Calls Try.prog 41 #[.slice A l.length c] w fun e w' => ∃ A' c', e = .returned (.slice A' l.length c') ∧ poS d w.heap.size w'.heap.size w' A' l ∧ Below w.heap.size w w' := by
  have HF := Lib.hid hf.2
  have hn := hf.1
  clear hf
  obtain ⟨i0, hi, hz0, hz1, hz2⟩ := info_parts Try.infoPolicy
  obtain ⟨wm, hmk, hown, hgr⟩ := run_make_full (P := Try.prog) w w.heap.size 74 30 i0 _ 9 Try.underlying74 hi hz0 hz1 .i64 .i64 l.length (by rw [hz2]; omega) (by simp only [maxLen]; omega) (Nat.le_refl _)
  have hBm : Below w.heap.size w wm := ext_grown (Below.refl _ _) hgr (by simp)
  clear hgr hi hz0 hz1 hz2
  generalize (madeCells _ _).toList = xs0 at hown
  go_enter Try.func41, Try.ntmps41
  go_wp2
  clear hmk
  go_loopw [4] (fun i wr => ∃ k : Nat, k ≤ l.length ∧ i = .int .i64 k ∧ Below w.heap.size w wr ∧ ∃ xs, wr.ownsRow w.heap.size 30 9 (.slice (some ⟨w.heap.size, 0, none⟩) l.length l.length) l.length xs ∧ Chunks (PoR d (w.heap.size + 1) wr.heap.size wr) 9 (l.take k) (xs.take (k * 9))) (fun i _ => l.length - (intOf i).toNat)
  case atStart => exact ⟨0, Nat.zero_le _, rfl, hBm, xs0, hown, by simp [Chunks]⟩
  case round =>
    rename_i wr
    clear hown hBm
    obtain ⟨k, hk, rfl, hB, xs, hown, htake⟩ := hrel
    have HT := Lib.hid htake
    clear htake
    by_cases hlt : k < l.length
    · have hfk := (HF.out k hlt).1
      have HFK := Lib.hid hfk
      clear hfk
      obtain ⟨b, off, rfl, _, hcl⟩ := poS.cells hU (by omega)
      obtain ⟨A', c', hfd, hz, p0, p1, p2, p3, p4, p5, p6, p7, p8⟩ := hcl k hlt
      replace p0 := below_cell hB p0
      replace p1 := below_cell hB p1
      replace p2 := below_cell hB p2
      replace p3 := below_cell hB p3
      replace p4 := below_cell hB p4
      replace p5 := below_cell hB p5
      replace p6 := below_cell hB p6
      replace p7 := below_cell hB p7
      replace p8 := below_cell hB p8
      have hfd2 : exW d w A' (poAt l k).wh.ps := hfd
      replace hfd := exW.below hfd2 hB
      clear hcl hfd2
      have hgr : w.heap.size < _ := (own_lt hown).2
      go_wp2_with fail
      refine (toPolicy_any hfd HFK.out).mono ?_
      rintro e w1 ⟨A1, c1', rfl, ho1, hB1⟩
      have hws := hB.size
      have hw1 := hB1.size
      have HT1 := Lib.hid (HT.out.mono (fun a cs h => PoR.keep (fun j _ hj => hB1.block j hj) (Nat.le_refl _) hw1 h))
      replace hB := ext_trans hB hB1
      replace hown := own_below hown hB1
      obtain ⟨v0, f0⟩ := own_cell hown (j := k * 9) (by omega)
      obtain ⟨v1, f1⟩ := own_cell hown (j := k * 9 + 1) (by omega)
      obtain ⟨v2, f2⟩ := own_cell hown (j := k * 9 + 2) (by omega)
      obtain ⟨v3, f3⟩ := own_cell hown (j := k * 9 + 3) (by omega)
      obtain ⟨v4, f4⟩ := own_cell hown (j := k * 9 + 4) (by omega)
      obtain ⟨v5, f5⟩ := own_cell hown (j := k * 9 + 5) (by omega)
      obtain ⟨v6, f6⟩ := own_cell hown (j := k * 9 + 6) (by omega)
      obtain ⟨v7, f7⟩ := own_cell hown (j := k * 9 + 7) (by omega)
      obtain ⟨v8, f8⟩ := own_cell hown (j := k * 9 + 8) (by omega)
      have z0 := hown.frozenAt (k * 9)
      have z1 := hown.frozenAt (k * 9 + 1)
      have z2 := hown.frozenAt (k * 9 + 2)
      have z3 := hown.frozenAt (k * 9 + 3)
      have z4 := hown.frozenAt (k * 9 + 4)
      have z5 := hown.frozenAt (k * 9 + 5)
      have z6 := hown.frozenAt (k * 9 + 6)
      have z7 := hown.frozenAt (k * 9 + 7)
      have z8 := hown.frozenAt (k * 9 + 8)
      have hsg := setCells_grown w.heap.size (poC (poAt l k) (.slice A1 (poAt l k).wh.ps.length c1')) w1 (k * 9)
      have hkp : ∀ j, w.heap.size + 1 ≤ j → j < w1.heap.size → (setCells w1 w.heap.size (k * 9) (poC (poAt l k) (.slice A1 (poAt l k).wh.ps.length c1'))).heap[j]? = w1.heap[j]? := fun j h1 h2 => hsg.block j h2 (fun e => by cases e; omega)
      have HQ2 : Hid (PoR d (w.heap.size + 1) w1.heap.size (setCells w1 w.heap.size (k * 9) (poC (poAt l k) (.slice A1 (poAt l k).wh.ps.length c1'))) (poAt l k) (poC (poAt l k) (.slice A1 (poAt l k).wh.ps.length c1'))) := by
        have h2 := (ho1.wide (show w.heap.size + 1 ≤ _ by omega) (Nat.le_refl _)).keep hkp (Nat.le_refl _) (Nat.le_refl _)
        exact Lib.hid ⟨A1, c1', rfl, h2, hz⟩
      have HT2 := Lib.hid (HT1.out.mono (fun a cs h => PoR.keep hkp (Nat.le_refl _) (Nat.le_refl _) h))
      have hss := hsg.size
      clear hsg hkp ho1 hB1 hfd p0 p1 p2 p3 p4 p5 p6 p7 p8
      simp only [poC] at HT2 HQ2 hss
      simp only [poV]
      go_wp2
      go_roundw
      case rel =>
        obtain ⟨xs', h1, h2⟩ := chunks_elem (poC (poAt l k) (.slice A1 (poAt l k).wh.ps.length c1')) hown hlt rfl HT2.out HQ2.out
        have hbs := setCells_below (Nat.le_refl _) (poC (poAt l k) (.slice A1 (poAt l k).wh.ps.length c1')) (k * 9) hB
        refine ⟨k + 1, by omega, by go_num, hbs, xs', h1, ?_⟩
        rw [List.take_succ_eq_append_getElem hlt, ← poAt_eq hlt]
        exact h2.mono (fun a cs h => PoR.keep (fun _ _ _ => rfl) (Nat.le_refl _) hss h)
      case measure => simp [intOf]; omega
    · obtain rfl : k = l.length := by omega
      go_wp2
      go_ret
      have hgl := (own_lt hown).2
      have e := HT.out
      rw [List.take_of_length_le (Nat.le_of_eq hown.1), List.take_length] at e
      refine ⟨_, _, rfl, ⟨?_, fun _ a ha => ?_⟩, hB⟩
      · have ho2 : OwnG (PoR d w.heap.size wr.heap.size) w.heap.size 30 9 wr (.slice (some ⟨w.heap.size, 0, none⟩) l.length l.length) l := OwnG.of hown (e.mono (fun a cs h => PoR.keep (fun _ _ _ => rfl) (Nat.le_succ _) (Nat.le_refl _) h))
        obtain ⟨A2, c2, e2, hr⟩ := ho2.rd (by omega)
        simp only [Value.slice.injEq, true_and] at e2
        obtain ⟨rfl, rfl⟩ := e2
        exact hr
      · cases ha
        exact ⟨Nat.le_refl _, hgl⟩
theorem po_same {us vs : PoL} (h : us.length = vs.length) (h2 : ∀ k, k < us.length → poAt us k = poAt vs k) : true = sameX us vs := by
  rw [eq_comm, sameX_true]
  apply List.ext_getElem h
  intro k h3 h4
  rw [← poAt_eq h3, ← poAt_eq h4]
  exact h2 k h3
theorem exW.regrownW {m : Nat} {w : World} {A : Option Addr} {l : ExL} (h : exW m w A l) (d : Nat) (os : Array Obj) : exW m (Sort.grow (redrawn w d) os) A l := h.regrown d os
set_option maxRecDepth 100000 in
set_option maxHeartbeats 4000000 in
theorem eqPolicyS_any {d : Nat} {us vs : PoL} {A A' : Option Addr} {c c' : Nat} {w : World} (hU : poW d w A us) (hV : poW d w A' vs) :
    Calls Try.prog 43 #[.slice A us.length c, .slice A' vs.length c'] w fun e w' => e = .returned (.bool (sameX us vs)) ∧ Below w.heap.size w w' := by
  have hl := poW.len hU
  have hl' := poW.len hV
  by_cases hlen : us.length = vs.length
  · have HL := Lib.hid hlen
    have hlen1 : ((us.length : Int) != vs.length) = false := by simp [hlen]
    clear hlen
    go_enter Try.func43, Try.ntmps43
    go_wp2
    go_loopw [5] (fun i wr => ∃ k : Nat, k ≤ us.length ∧ i = .int .i64 k ∧ Below w.heap.size w wr ∧ (∀ j, j < k → poAt us j = poAt vs j)) (fun i _ => us.length - (intOf i).toNat)
    case atStart => exact ⟨0, Nat.zero_le _, rfl, Below.refl _ _, fun j h => by omega⟩
    case round =>
      obtain ⟨k, hk, rfl, hB, hgood⟩ := hrel
      have HG := Lib.hid hgood
      clear hgood
      by_cases hlt : k < us.length
      · have hlt' : k < vs.length := by rw [← HL.out]; exact hlt
        obtain ⟨b, off, rfl, _, hc⟩ := poS.cells hU (by omega)
        obtain ⟨b', off', rfl, _, hc'⟩ := poS.cells hV (by omega)
        obtain ⟨A1, c1, hfd, _, p0, p1, p2, p3, p4, p5, p6, p7, p8⟩ := hc k hlt
        obtain ⟨A2, c2, hfd2, _, q0, q1, q2, q3, q4, q5, q6, q7, q8⟩ := hc' k hlt'
        replace p0 := cell_regrown (below_cell hB p0)
        replace p1 := cell_regrown (below_cell hB p1)
        replace p2 := cell_regrown (below_cell hB p2)
        replace p3 := cell_regrown (below_cell hB p3)
        replace p4 := cell_regrown (below_cell hB p4)
        replace p5 := cell_regrown (below_cell hB p5)
        replace p6 := cell_regrown (below_cell hB p6)
        replace p7 := cell_regrown (below_cell hB p7)
        replace p8 := cell_regrown (below_cell hB p8)
        replace q0 := cell_regrown (below_cell hB q0)
        replace q1 := cell_regrown (below_cell hB q1)
        replace q2 := cell_regrown (below_cell hB q2)
        replace q3 := cell_regrown (below_cell hB q3)
        replace q4 := cell_regrown (below_cell hB q4)
        replace q5 := cell_regrown (below_cell hB q5)
        replace q6 := cell_regrown (below_cell hB q6)
        replace q7 := cell_regrown (below_cell hB q7)
        replace q8 := cell_regrown (below_cell hB q8)
        have hfd0 : exW d w A1 (poAt us k).wh.ps := hfd
        have hfd3 : exW d w A2 (poAt vs k).wh.ps := hfd2
        replace hfd := exW.below hfd0 hB
        replace hfd2 := exW.below hfd3 hB
        clear hc hc' hfd0 hfd3
        have HE := Lib.hid (fun (m : Nat) (os : Array Obj) => eqPolicy_any (p := poAt us k) (p' := poAt vs k) (c := c1) (c' := c2) (hfd.regrown m os) (hfd2.regrown m os))
        unfold poV at HE
        cases g : sameX (poAt us k) (poAt vs k)
        all_goals
          rw [g] at HE
          go_wp2
          refine wp_region_quiet_below (by kernel_rfl) (by kernel_rfl) ?_
          repeat (go_big_quiet_step ((go_at_call 38; (with_reducible exact Calls.regrown_of (HE.out _ _)))))
          refine wpQuiet_nil ?_
          intro w2 hw'regrown
          replace hB := ext_trans hB (below_of_regrown hw'regrown (Nat.le_refl _))
          clear hw'regrown p0 p1 p2 p3 p4 p5 p6 p7 p8 q0 q1 q2 q3 q4 q5 q6 q7 q8
          go_wp2
        · go_ret
          exact ⟨ret_bool (by rw [eq_comm, sameX_false]; rintro rfl; rw [sameX_self] at g; cases g), hB⟩
        · go_roundw
          case rel => exact ⟨k + 1, by omega, by go_num, hB, all_succ HG.out (sameX_true.1 g)⟩
          case measure => simp [intOf]; omega
      · obtain rfl : k = us.length := by omega
        go_wp2
        go_ret
        exact ⟨ret_bool (po_same HL.out HG.out), hB⟩
  · have hlen1 : ((us.length : Int) != vs.length) = true := by simp; omega
    have HL := Lib.hid hlen
    clear hlen
    go_enter Try.func43, Try.ntmps43
    go_wp2
    go_ret
    exact ⟨ret_bool (by rw [eq_comm, sameX_false]; rintro rfl; exact HL.out rfl), Below.refl _ _⟩
end Go.Proofs.Ytodjokdaofefdaa
/- The exact law of SafePolicies, walked. -/
namespace Go.Proofs.Ytodjokdaofefdaa
set_option linter.unusedSimpArgs false
set_option linter.unusedVariables false
open Go.RowKit

def PsV (d : Nat) (l : PoL) (w : World) (v : Value) : Prop := ∃ A c, v = .slice A l.length c ∧ poW d w A l
theorem PsV.below {d : Nat} {l : PoL} {w w' : World} {v : Value} (h : PsV d l w v) (hb : Below w.heap.size w w') : PsV d l w' v := let ⟨A, c, e, h⟩ := h; ⟨A, c, e, poW.below h hb⟩
set_option maxRecDepth 100000 in
set_option maxHeartbeats 16000000 in
theorem lawExactSafePolicies {d : Nat} {s : Sc} {A0 A1 : Option Addr} {c0 c1 : Nat} {many : Int} {A : Option Addr} {l : PoL} {c : Nat} {w : World} (hS : scR w A0 A1 s) (hz : scZ s) (hU : poW d w A l) :
    Calls Try.prog 9 #[scV s A0 c0 A1 c1, .int .i64 many, .slice A l.length c] w fun e w' => e = .returned (.bool true) ∧ Below w.heap.size w w' := by
  unfold scV
  obtain ⟨kv, hkv⟩ : ∃ k, safOk d s many l = k := ⟨_, rfl⟩
  have HK := Lib.hid hkv
  obtain ⟨W, hW⟩ : ∃ W, W = w.alloc (.cells #[.slice A0 s.1.length c0, .slice A1 s.2.length c1] 61) := ⟨_, rfl⟩
  obtain ⟨g, hg⟩ : ∃ g, g = w.heap.size := ⟨_, rfl⟩
  have hB : Below w.heap.size w W := by rw [hW]; (repeat (first | exact Below.refl _ _ | refine ext_alloc ?_ _ | refine Below.setCell ?_ (by simp) _))
  have hq : W.heap[g]? = some (.cells #[.slice A0 s.1.length c0, .slice A1 s.2.length c1] 61 (0, 0)) := by rw [hW, hg]; exact heap_alloc_new _ _
  replace hU := poW.below hU hB
  replace hS := hS.below hB
  have hlen := poW.len hU
  obtain ⟨z0, z1⟩ := cells2 hq
  have HQ := Lib.hid hq
  have HW := Lib.hid hW
  have HG := Lib.hid hg
  clear hW hg hq hkv
  go_enter Try.func9, Try.ntmps9
  go_wp2_with fail
  rw [← HW.out, ← HG.out]
  refine (szSchema_any hS hz.1 hz.2 (by omega) (by omega)).mono ?_
  rintro e w1 ⟨y, rfl, hy, hb⟩
  replace hB := ext_trans hB hb
  replace hU := poW.below hU hb
  replace hS := hS.below hb
  have HQ := Lib.hid (block_in HQ.out hb)
  clear hb z0 z1
  rcases hy with rfl | ⟨y0, y1⟩
  · go_wp2
    go_ret
    exact ⟨rfl, hB⟩
  · have hn0 : s.1.length ≤ 2097152 := by omega
    have hn1 : s.2.length ≤ 2097152 := by omega
    go_wp2_with fail
    refine (szPolicyS_any hU y0 (by omega)).mono ?_
    rintro e w2 ⟨x, rfl, hx, hb⟩
    replace hB := ext_trans hB hb
    replace hU := poW.below hU hb
    replace hS := hS.below hb
    have HQ := Lib.hid (block_in HQ.out hb)
    clear hb
    obtain ⟨z0, z1⟩ := cells2 HQ.out
    rcases hx with rfl | ⟨x0, x1, hf⟩
    · go_wp2
      go_ret
      exact ⟨rfl, hB⟩
    · have HF := Lib.hid hf
      have HCN : Hid (cntP d l) := Lib.hid (fun k hk => by have := (hf.2 k hk).2; omega)
      clear hf x1 y1
      go_wp2_with fail
      refine (toSchema_any hS hn0 hn1).mono ?_
      rintro e w3 ⟨A2, A3, rfl, hS2, hb⟩
      unfold scV
      replace hB := ext_trans hB hb
      replace hU := poW.below hU hb
      replace hS := hS.below hb
      have HQ := Lib.hid (block_in HQ.out hb)
      clear hb z0 z1
      go_wp2_with fail
      refine (toPolicyS_any hU HF.out).mono ?_
      rintro e w3 ⟨A4, c4, rfl, hU2, hb⟩
      replace hU2 : poW d w3 A4 l := hU2.wide (Nat.zero_le _) (Nat.le_refl _)
      replace hB := ext_trans hB hb
      replace hU := poW.below hU hb
      replace hS := hS.below hb
      replace hS2 := hS2.below hb
      have HQ := Lib.hid (block_in HQ.out hb)
      clear hb
      go_wp2_with fail
      refine (specSafePolicies hS2 hz hU2 HCN.out).mono ?_
      rintro e w3 ⟨rfl, hb⟩
      rw [HK.out]
      replace hB := ext_trans hB hb
      replace hU := poW.below hU hb
      replace hS := hS.below hb
      have HQ := Lib.hid (block_in HQ.out hb)
      clear hb hS2 hU2
      obtain ⟨z0, z1⟩ := cells2 HQ.out
      go_wp2_with fail
      refine (toSchema_any hS hn0 hn1).mono ?_
      rintro e w4 ⟨A2, A3, rfl, hS2, hb⟩
      unfold scV
      replace hB := ext_trans hB hb
      replace hU := poW.below hU hb
      replace hS := hS.below hb
      have HQ := Lib.hid (block_in HQ.out hb)
      clear hb z0 z1
      obtain ⟨W4, hW4⟩ : ∃ W, W = w4.alloc (.cells #[.slice A2 s.1.length s.1.length, .slice A3 s.2.length s.2.length] 25) := ⟨_, rfl⟩
      obtain ⟨g9, hg9⟩ : ∃ g, g = w4.heap.size := ⟨_, rfl⟩
      have hb4 : Below w4.heap.size w4 W4 := by rw [hW4]; exact below_alloc _ _
      have hq9 : W4.heap[g9]? = some (.cells #[.slice A2 s.1.length s.1.length, .slice A3 s.2.length s.2.length] 25 (0, 0)) := by rw [hW4, hg9]; exact heap_alloc_new _ _
      replace hB := ext_trans hB hb4
      replace hU := poW.below hU hb4
      replace hS := hS.below hb4
      replace hS2 := hS2.below hb4
      have HQ := Lib.hid (block_in HQ.out hb4)
      have HQ9 := Lib.hid hq9
      have HW4 := Lib.hid hW4
      have HG9 := Lib.hid hg9
      clear hW4 hg9 hq9 hb4
      go_wp2_with fail
      rw [← HW4.out, ← HG9.out]
      refine (toPolicyS_any hU HF.out).mono ?_
      rintro e w5 ⟨A4, c4, rfl, hU2, hb⟩
      replace hU2 : poW d w5 A4 l := hU2.wide (Nat.zero_le _) (Nat.le_refl _)
      replace hB := ext_trans hB hb
      replace hU := poW.below hU hb
      replace hS := hS.below hb
      replace hS2 := hS2.below hb
      have HQ := Lib.hid (block_in HQ.out hb)
      have HQ9 := Lib.hid (block_in HQ9.out hb)
      clear hb
      obtain ⟨y0, y1⟩ := cells2 HQ9.out
      go_wp2_with fail
      refine (implSafePolicies rfl hS2 hz (Nat.le_refl _) (Nat.le_refl _) hU2).mono ?_
      rintro e w6 ⟨rfl, hb⟩
      rw [HK.out]
      replace hB := ext_trans hB hb
      replace hU := poW.below hU hb
      replace hS := hS.below hb
      replace hS2 := hS2.below hb
      replace hU2 := poW.below hU2 hb
      have HQ := Lib.hid (block_in HQ.out hb)
      have HQ9 := Lib.hid (block_in HQ9.out hb)
      clear hb y0 y1
      obtain ⟨z0, z1⟩ := cells2 HQ.out
      obtain ⟨y0, y1⟩ := cells2 HQ9.out
      have hkb : (kv != kv) = false := by simp
      go_wp2_with fail
      refine wp_region_kinds2 (fun i wz vz => match i with | 0 => vz = .agg #[.slice A2 s.1.length s.1.length, .slice A3 s.2.length s.2.length] | 1 => vz = .agg #[.slice A0 s.1.length c0, .slice A1 s.2.length c1] | 2 => ScV s wz vz | 3 => vz = .bool true | 4 => vz = .bool false | _ => True) (fun _ wz => Below w6.heap.size w6 wz) (fun i w w' => Below w.heap.size w w') (fun _ => Option.none) (by kernel_rfl) (by kernel_rfl) (by kernel_rfl) ?stab14 (ext_drew (Below.refl _ _)) ?all14 ?fin14
      case stab14 =>
        intro i j wa wb v hR hk hne hd _ h2 hT
        match j, hk, hne, hd, h2, hT with
        | 0, hk, hne, hd, h2, hT => exact hT
        | 1, hk, hne, hd, h2, hT => exact hT
        | 2, hk, hne, hd, h2, hT => exact ScV.below hT hR
        | 3, hk, hne, hd, h2, hT => exact hT
        | 4, hk, hne, hd, h2, hT => exact hT
        | n + 5, _, _, _, _, _ => trivial
      case all14 =>
        refine RAll.cons rfl ?_ (RAll.cons rfl ?_ (RAll.cons rfl ?_ (RAll.cons rfl ?_ (RAll.cons rfl ?_ (RAll.none_)))))
        · intro a k wa K Q _ hI hp hK
          have e9 := tmp_of (show a.eval (.tmp 9) = .pointer (some ⟨g9, 0, none⟩) from hp.keep 9 (by kernel_rfl))
          have y0_ := below_cell hI y0
          have y1_ := below_cell hI y1
          go_simp
          exact hK _ _ rfl (Below.refl _ _) hI
        · intro a k wa K Q _ hI hp hK
          have e3 := tmp_of (show a.eval (.tmp 3) = .pointer (some ⟨g, 0, none⟩) from hp.keep 3 (by kernel_rfl))
          have z0_ := below_cell hI z0
          have z1_ := below_cell hI z1
          go_simp
          exact hK _ _ rfl (Below.refl _ _) hI
        · intro a k wa K Q _ hI hp hK
          have e40 := tmp_of (show a.eval (.tmp 40) = .agg #[.slice A0 s.1.length c0, .slice A1 s.2.length c1] from hp.dep 1 40 (by kernel_rfl))
          go_simp
          refine (toSchema_any (hS.below hI) hn0 hn1).mono ?_
          rintro e wb ⟨A8, B8, rfl, h8, hb⟩
          exact hK _ _ ⟨A8, B8, rfl, h8⟩ hb (ext_trans hI hb)
        · intro a k wa K Q _ hI hp hK
          have e39 := tmp_of (show a.eval (.tmp 39) = .agg #[.slice A2 s.1.length s.1.length, .slice A3 s.2.length s.2.length] from hp.dep 0 39 (by kernel_rfl))
          have t41 : ScV s wa (a.eval (.tmp 41)) := hp.dep 2 41 (by kernel_rfl)
          obtain ⟨A8, B8, e41, h8⟩ := t41
          replace e41 := tmp_of e41
          go_simp
          refine (eqSchema_any (s := s) (t := s) (hS2.below hI) h8).mono ?_
          rintro e wb ⟨rfl, hb⟩
          rw [sameB_true.2 rfl]
          exact hK _ _ rfl hb (ext_trans hI hb)
        · intro a k wa K Q _ hI hp hK
          have e42 := tmp_of (show a.eval (.tmp 42) = .bool true from hp.dep 3 42 (by kernel_rfl))
          go_simp
          exact hK _ _ (rfl) (Below.refl _ _) hI
      case fin14 =>
        intro f w7 hT hI0
        have hI : Below w6.heap.size w6 w7 := hI0
        have hr4 : (f 4) = .bool false := hT 4 (by decide) rfl rfl
        clear hT hI0
        simp only [putAll, hr4]
        have hb := hI
        clear hI hr4
        replace hB := ext_trans hB hb
        replace hU := poW.below hU hb
        replace hS := hS.below hb
        replace hS2 := hS2.below hb
        replace hU2 := poW.below hU2 hb
        have HQ := Lib.hid (block_in HQ.out hb)
        have HQ9 := Lib.hid (block_in HQ9.out hb)
        clear hb z0 z1 y0 y1
        go_simp
        go_wp2_with fail
        refine (toPolicyS_any hU HF.out).mono ?_
        rintro e w8 ⟨A8, c8, rfl, h8, hb⟩
        replace hB := ext_trans hB hb
        replace hU2 := poW.below hU2 hb
        replace h8 : poW d w8 A8 l := h8.wide (Nat.zero_le _) (Nat.le_refl _)
        clear hb
        go_wp2_with fail
        refine (eqPolicyS_any (us := l) (vs := l) hU2 h8).mono ?_
        rintro e w9 ⟨rfl, hb⟩
        rw [sameX_self]
        replace hB := ext_trans hB hb
        clear hb
        go_wp2
        go_ret
        exact ⟨rfl, hB⟩
end Go.Proofs.Ytodjokdaofefdaa

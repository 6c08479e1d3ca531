/- FnExactAddRecord, walked. -/
import Derived.Test.YtdpiaiblpafglaaRmD
import Derived.Test.YtdpiaiblpafglaaRmE
namespace Go.Proofs.Ytdpiaiblpafglaa
set_option linter.unusedSimpArgs false
set_option linter.unusedVariables false
open Go.RowKit

theorem implAddRecord_x {A A2 : Option Addr} {l x : RcL} {b : Bool} {fs : FdL} {c c2 : Nat} {tm who act what : Int} {al : Bool} {w : World} (hv : rcAdd l tm (who, act, what, fs) al = (x, b)) (hU : rcR w A l) (hV : fdR w A2 fs) (hn : l.length ≤ 1048576) (hf : FewF 1048576 l) (hn2 : fs.length ≤ 1048576) :
    Calls Try.prog 25 #[.slice A l.length c, .int .i64 tm, .agg #[.int .i64 who, .int .i64 act, .int .i64 what, .slice A2 fs.length c2], .bool al] w (RcPostN w x b) := by
  have h := implAddRecord_n (tm := tm) (who := who) (act := act) (what := what) (al := al) (c := c) (c2 := c2) hU hV hn hf hn2
  rwa [hv] at h
theorem specAddRecord_x {A A2 : Option Addr} {l x : RcL} {b : Bool} {fs : FdL} {c c2 : Nat} {tm who act what : Int} {al : Bool} {w : World} (hv : rcAdd l tm (who, act, what, fs) al = (x, b)) (hU : rcR w A l) (hV : fdR w A2 fs) (hn : l.length ≤ 1048576) (hf : FewF 1048576 l) (hn2 : fs.length ≤ 1048576) :
    Calls Try.prog 26 #[.slice A l.length c, .int .i64 tm, .agg #[.int .i64 who, .int .i64 act, .int .i64 what, .slice A2 fs.length c2], .bool al] w (RcPost w x b) := by
  have h := specAddRecord (tm := tm) (who := who) (act := act) (what := what) (al := al) (c := c) (c2 := c2) hU hV hn hf hn2
  rwa [hv] at h
theorem fewF_snoc {l : RcL} {x : Rc} (h : FewF 1048576 l) (hx : (rfs x).length ≤ 1048576) : FewF 1048576 (l ++ [x]) := by
  intro k hk
  by_cases e : k < l.length
  · have : rcAt (l ++ [x]) k = rcAt l k := by simp [rcAt, List.getD_eq_getElem?_getD, List.getElem?_append_left e]
    rw [rc4, this]; exact h k e
  · have e2 : k = l.length := by simp at hk; omega
    have : rcAt (l ++ [x]) k = x := by subst e2; simp [rcAt, List.getD_eq_getElem?_getD]
    rw [rc4, this]; exact hx
theorem rcAdd_fit {l x : RcL} {b : Bool} {tm : Int} {q : Rq} {al : Bool} (hv : rcAdd l tm q al = (x, b)) (hf : FewF 1048576 l) (hq : q.2.2.2.length ≤ 1048576) : x.length ≤ 20 ∧ FewF 1048576 x := by
  unfold rcAdd at hv
  split at hv
  · rename_i h1
    split at hv
    · rename_i h2
      cases hv
      exact ⟨rcRight_few h2, fewF_snoc hf hq⟩
    · cases hv; exact ⟨rcRight_few h1, hf⟩
  · cases hv; exact ⟨by simp, fun k hk => by simp at hk⟩
/-- Records and a truth. -/
def RcT (B : Nat) (l : RcL) (b : Bool) (w : World) (v : Value) : Prop := ∃ A c, v = .tuple #[.slice A l.length c, .bool b] ∧ OwnG (RcO B) B 27 7 w (.slice A l.length c) l
theorem RcT.below {B : Nat} {l : RcL} {b : Bool} {w w' : World} {v : Value} (h : RcT B l b w v) (hb : Below w.heap.size w w') : RcT B l b w' v := let ⟨A, c, h1, h2⟩ := h; ⟨A, c, h1, h2.below hb (RcO.below hb)⟩
/-- A request of one's own. -/
def RqO (B : Nat) (who act what : Int) (fs : FdL) (w : World) (v : Value) : Prop := ∃ g, v = .agg #[.int .i64 who, .int .i64 act, .int .i64 what, .slice (some ⟨g, 0, none⟩) fs.length fs.length] ∧ w.ownsRow B 85 3 (.slice (some ⟨g, 0, none⟩) fs.length fs.length) fs.length (fs.flatMap fdEnc)
theorem RqO.below {B : Nat} {who act what : Int} {fs : FdL} {w w' : World} {v : Value} (h : RqO B who act what fs w v) (hb : Below w.heap.size w w') : RqO B who act what fs w' v := let ⟨g, h1, h2⟩ := h; ⟨g, h1, own_below h2 hb⟩
theorem rcR.ownAt {B c n : Nat} {A : Option Addr} {w : World} {l : RcL} (hn : l.length = n) (hl : n ≤ 9223372036854775807) (hf : ∀ r ∈ l, (rfs r).length ≤ 9223372036854775807) (h : OwnG (RcO B) B 27 7 w (.slice A n c) l) : rcR w A l := by
  subst hn
  exact rcR.own hl hf h
theorem rcMk_mem {k0 : Int} {l : RcL} (hf : FewF 1048576 l) : ∀ r ∈ rcMk k0 l, (rfs r).length ≤ 9223372036854775807 := fun r hr => by
  obtain ⟨i, hi, rfl⟩ := List.mem_map.1 hr
  have h1 := hf i (List.mem_range.1 hi)
  have e : (rfs (rcMk1 (rcKs k0 l i) (rcAt l i))).length = (rc4 l i).length := fdMk_len _ _
  omega
theorem cell_span {lo hi g i : Nat} {w w' : World} {v : Value} (hs : Span lo hi w w') (h : w.cell? ⟨g, i, none⟩ = some v) (hg : g < lo ∨ hi ≤ g) : w'.cell? ⟨g, i, none⟩ = some v := by
  have hb := block_lt_of_cell h
  rw [← h]
  exact World.cell?_of_block (hs.out g (by simpa using hb) hg)
set_option maxRecDepth 100000 in
set_option maxHeartbeats 16000000 in
theorem lawExactAddRecord {A A2 : Option Addr} {l : RcL} {fs : FdL} {c c2 : Nat} {tm who act what : Int} {al : Bool} {w : World} (hU0 : rcR w A l) (hw : WfRc l) (hV0 : fdR w A2 fs) (hw2 : WfFd fs) :
    Calls Try.prog 10 #[.slice A l.length c, .int .i64 tm, .agg #[.int .i64 who, .int .i64 act, .int .i64 what, .slice A2 fs.length c2], .bool al] w fun e w' => e = .returned (.bool true) ∧ Below w.heap.size w w' := by
  obtain ⟨W, hW⟩ : ∃ W, W = w.alloc (.cells #[.int .i64 who, .int .i64 act, .int .i64 what, .slice A2 fs.length c2] 38) := ⟨_, rfl⟩
  obtain ⟨g, hg⟩ : ∃ g, g = w.heap.size := ⟨_, rfl⟩
  have hB : Below w.heap.size w W := by rw [hW]; exact below_alloc _ _
  have q0 : W.cell? ⟨g, 0, none⟩ = some (.int .i64 who) := by rw [hW, hg]; exact box_cell _ _ _ 0 _ rfl
  have q1 : W.cell? ⟨g, 1, none⟩ = some (.int .i64 act) := by rw [hW, hg]; exact box_cell _ _ _ 1 _ rfl
  have q2 : W.cell? ⟨g, 2, none⟩ = some (.int .i64 what) := by rw [hW, hg]; exact box_cell _ _ _ 2 _ rfl
  have q3 : W.cell? ⟨g, 3, none⟩ = some (.slice A2 fs.length c2) := by rw [hW, hg]; exact box_cell _ _ _ 3 _ rfl
  have hU := hU0.below hB
  have hV := hV0.below hB
  obtain ⟨x, b, hxb⟩ : ∃ x b, rcAdd l tm (who, act, what, fs) al = (x, b) := ⟨_, _, rfl⟩
  have HXB := Lib.hid hxb
  have HW := Lib.hid hW
  have HG := Lib.hid hg
  have HWF := Lib.hid hw
  have HWF2 := Lib.hid hw2
  clear hW hg hU0 hV0 hw hw2 hxb
  go_enter Try.func10, Try.ntmps10
  go_wp2_with fail
  rw [← HW.out, ← HG.out]
  refine (szRecordS_any hU HWF.out (by omega) (by omega)).mono ?_
  rintro e w1 ⟨y, rfl, hy, hBc⟩
  replace hB := ext_trans hB hBc
  replace hU := hU.below hBc
  replace hV := hV.below hBc
  replace q0 := below_cell hBc q0
  replace q1 := below_cell hBc q1
  replace q2 := below_cell hBc q2
  replace q3 := below_cell hBc q3
  clear hBc
  rcases hy with rfl | ⟨y0, y1, hf⟩
  · go_wp2
    go_ret
    exact ⟨rfl, hB⟩
  · have HF := Lib.hid hf
    have HM := Lib.hid (FewF.mem hf)
    clear hf
    go_wp2_with fail
    refine (szRequest_any hV HWF2.out (by omega) (by omega)).mono ?_
    rintro e w2 ⟨y2, rfl, hy2, hBc⟩
    replace hB := ext_trans hB hBc
    replace hU := hU.below hBc
    replace hV := hV.below hBc
    replace q0 := below_cell hBc q0
    replace q1 := below_cell hBc q1
    replace q2 := below_cell hBc q2
    replace q3 := below_cell hBc q3
    clear hBc
    rcases hy2 with rfl | ⟨y20, y21⟩
    · go_wp2
      go_ret
      exact ⟨rfl, hB⟩
    · have hl0 : l.length ≤ 1048576 := by omega
      have hf0 : fs.length ≤ 1048576 := by omega
      have HX := Lib.hid (rcAdd_fit HXB.out HF.out hf0)
      clear y1 y21
      go_wp2_with fail
      refine wp_region_kinds2 (fun i wz vz => match i with | 0 => vz = .slice A l.length c | 1 => OwnRcO w2.heap.size l wz vz | 2 => vz = .int .i64 tm | 3 => vz = .agg #[.int .i64 who, .int .i64 act, .int .i64 what, .slice A2 fs.length c2] | 4 => RqO w2.heap.size who act what fs wz vz | 5 => vz = .bool al | 6 => RcT w2.heap.size x b wz vz | 7 => RcT w2.heap.size x b wz vz | 8 => OwnRcO w2.heap.size x wz vz | 9 => vz = .bool b | 10 => OwnRcO w2.heap.size x wz vz | 11 => vz = .bool b | _ => True) (fun _ wz => Below w2.heap.size w2 wz) (fun i w w' => Below w.heap.size w w') (fun _ => Option.none) (by kernel_rfl) (by kernel_rfl) (by kernel_rfl) ?stab8 (ext_drew (Below.refl _ _)) ?all8 ?fin8
      case stab8 =>
        intro i j wa wb v hR hk hne hd _ h2 hT
        match j, hk, hne, hd, h2, hT with
        | 0, hk, hne, hd, h2, hT => exact hT
        | 1, hk, hne, hd, h2, hT => exact OwnRcO.below hT hR
        | 2, hk, hne, hd, h2, hT => exact hT
        | 3, hk, hne, hd, h2, hT => exact hT
        | 4, hk, hne, hd, h2, hT => exact RqO.below hT hR
        | 5, hk, hne, hd, h2, hT => exact hT
        | 6, hk, hne, hd, h2, hT => exact RcT.below hT hR
        | 7, hk, hne, hd, h2, hT => exact RcT.below hT hR
        | 8, hk, hne, hd, h2, hT => exact OwnRcO.below hT hR
        | 9, hk, hne, hd, h2, hT => exact hT
        | 10, hk, hne, hd, h2, hT => exact OwnRcO.below hT hR
        | 11, hk, hne, hd, h2, hT => exact hT
        | n + 12, _, _, _, _, _ => trivial
      case all8 =>
        refine RAll.cons rfl ?_ (RAll.cons rfl ?_ (RAll.cons rfl ?_ (RAll.cons rfl ?_ (RAll.cons rfl ?_ (RAll.cons rfl ?_ (RAll.cons rfl ?_ (RAll.cons rfl ?_ (RAll.cons rfl ?_ (RAll.cons rfl ?_ (RAll.cons rfl ?_ (RAll.cons rfl ?_ (RAll.none_))))))))))))
        · intro a k wa K Q _ hI hp hK
          exact op_move _ (.inl rfl) (hK _ _ (hp.keep 0 (by kernel_rfl)) (Below.refl _ _) hI)
        · intro a k wa K Q _ hI hp hK
          have e32 := tmp_of (show a.eval (.tmp 32) = .slice A l.length c from hp.dep 0 32 (by kernel_rfl))
          go_simp
          refine (toRecordS_any (hU.below hI) (by omega) HF.out).mono ?_
          rintro e wb ⟨rfl, ho9, hb⟩
          exact hK _ _ (OwnG.lower ho9 hI.size (RcO.lower hI.size)) hb (ext_trans hI hb)
        · intro a k wa K Q _ hI hp hK
          exact op_move _ (.inl rfl) (hK _ _ (hp.keep 1 (by kernel_rfl)) (Below.refl _ _) hI)
        · intro a k wa K Q _ hI hp hK
          have e6 := tmp_of (show a.eval (.tmp 6) = .pointer (some ⟨g, 0, none⟩) from hp.keep 6 (by kernel_rfl))
          have q0_ := below_cell hI q0
          have q1_ := below_cell hI q1
          have q2_ := below_cell hI q2
          have q3_ := below_cell hI q3
          go_simp
          exact hK _ _ rfl (Below.refl _ _) hI
        · intro a k wa K Q _ hI hp hK
          have e35 := tmp_of (show a.eval (.tmp 35) = .agg #[.int .i64 who, .int .i64 act, .int .i64 what, .slice A2 fs.length c2] from hp.dep 3 35 (by kernel_rfl))
          go_simp
          refine (toRequest_any (hV.below hI) (by omega)).mono ?_
          rintro e wb ⟨g8, rfl, ho8, hb⟩
          exact hK _ _ ⟨g8, rfl, own_lower ho8 hI.size⟩ hb (ext_trans hI hb)
        · intro a k wa K Q _ hI hp hK
          exact op_move _ (.inl rfl) (hK _ _ (hp.keep 3 (by kernel_rfl)) (Below.refl _ _) hI)
        · intro a k wa K Q _ hI hp hK
          have t33 : OwnRcO w2.heap.size l wa (a.eval (.tmp 33)) := hp.dep 1 33 (by kernel_rfl)
          have e34 := tmp_of (show a.eval (.tmp 34) = .int .i64 tm from hp.dep 2 34 (by kernel_rfl))
          have t36 : RqO w2.heap.size who act what fs wa (a.eval (.tmp 36)) := hp.dep 4 36 (by kernel_rfl)
          have e37 := tmp_of (show a.eval (.tmp 37) = .bool al from hp.dep 5 37 (by kernel_rfl))
          obtain ⟨A9, c9, xs9, e33, ho9, hc9⟩ := t33
          replace e33 := tmp_of e33
          obtain ⟨g8, e36, ho8⟩ := t36
          replace e36 := tmp_of e36
          go_simp
          refine (specAddRecord_x HXB.out (rcR.own (by omega) HM.out ⟨A9, c9, xs9, rfl, ho9, hc9⟩) (fdR.own rfl (by omega) ho8) hl0 HF.out hf0).mono ?_
          rintro e wb ⟨A7, c7, rfl, h7, hb⟩
          exact hK _ _ ⟨A7, c7, rfl, h7.lower hI.size (RcO.lower hI.size)⟩ hb (ext_trans hI hb)
        · intro a k wa K Q _ hI hp hK
          exact op_move _ (.inl rfl) (hK _ _ (hp.dep 6 38 (by kernel_rfl)) (Below.refl _ _) hI)
        · intro a k wa K Q _ hI hp hK
          have t31 : RcT w2.heap.size x b wa (a.eval (.tmp 31)) := hp.dep 7 31 (by kernel_rfl)
          obtain ⟨A7, c7, e31, h7⟩ := t31
          replace e31 := tmp_of e31
          go_simp
          exact hK _ _ h7 (Below.refl _ _) hI
        · intro a k wa K Q _ hI hp hK
          have t31 : RcT w2.heap.size x b wa (a.eval (.tmp 31)) := hp.dep 7 31 (by kernel_rfl)
          obtain ⟨A7, c7, e31, h7⟩ := t31
          replace e31 := tmp_of e31
          go_simp
          exact hK _ _ rfl (Below.refl _ _) hI
        · intro a k wa K Q _ hI hp hK
          exact op_move _ (.inr rfl) (hK _ _ (hp.dep 8 39 (by kernel_rfl)) (Below.refl _ _) hI)
        · intro a k wa K Q _ hI hp hK
          exact op_move _ (.inr rfl) (hK _ _ (hp.dep 9 40 (by kernel_rfl)) (Below.refl _ _) hI)
      case fin8 =>
        intro f w8 hT hI0
        have hI : Below w2.heap.size w2 w8 := hI0
        have hr10 : OwnRcO w2.heap.size x w8 (f 10) := hT 10 (by decide) rfl rfl
        have hr11 : (f 11) = .bool b := hT 11 (by decide) rfl rfl
        clear hT hI0
        obtain ⟨Aw, cw, xsw, ew, how, hcw⟩ := hr10
        simp only [putAll, ew, hr11]
        go_simp
        have hxm := FewF.mem HX.out.2
        have hx20 := HX.out.1
        have hR8 := rcR.own (by omega) hxm ⟨Aw, cw, xsw, rfl, how, hcw⟩
        have HR8 := Lib.hid hR8
        have HU8 := Lib.hid (hU.below hI)
        have HV8 := Lib.hid (hV.below hI)
        have HXM := Lib.hid hxm
        replace hB := ext_trans hB hI
        replace q0 := below_cell hI q0
        replace q1 := below_cell hI q1
        replace q2 := below_cell hI q2
        replace q3 := below_cell hI q3
        have Q0 := Lib.hid q0
        have Q1 := Lib.hid q1
        have Q2 := Lib.hid q2
        have Q3 := Lib.hid q3
        have HB0 := Lib.hid hB
        replace hB := Below.refl w8.heap.size w8
        clear hI hr11 ew how hcw hR8 hU hV hxm
        go_wp2_with fail
        refine (toRecordS_n (HU8.out.below hB) (by omega) HF.out).mono ?_
        rintro e w9 ⟨rfl, hx0, hBc⟩
        replace hB := ext_trans hB hBc
        replace q0 := below_cell hBc q0
        replace q1 := below_cell hBc q1
        replace q2 := below_cell hBc q2
        replace q3 := below_cell hBc q3
        clear hBc
        have hx0 := hx0.m
        have h89 := hB.size
        have H89 := Lib.hid h89
        clear h89
        go_wp2_with fail
        refine (toRequest_any (HV8.out.below hB) (by omega)).mono ?_
        rintro e w10 ⟨gr, rfl, hor, hBc⟩
        have hgr := (hor.lt gr rfl)
        replace hB := ext_trans hB hBc
        replace hx0 := hx0.below hBc
        replace q0 := below_cell hBc q0
        replace q1 := below_cell hBc q1
        replace q2 := below_cell hBc q2
        replace q3 := below_cell hBc q3
        clear hBc
        obtain ⟨X, hX⟩ : ∃ X, X = w10.alloc (.cells #[.int .i64 who, .int .i64 act, .int .i64 what, .slice (some ⟨gr, 0, none⟩) fs.length fs.length] 25) := ⟨_, rfl⟩
        obtain ⟨gx, hgx⟩ : ∃ g, g = w10.heap.size := ⟨_, rfl⟩
        have x0 : X.cell? ⟨gx, 0, none⟩ = some (.int .i64 who) := by rw [hX, hgx]; exact box_cell _ _ _ 0 _ rfl
        have x1 : X.cell? ⟨gx, 1, none⟩ = some (.int .i64 act) := by rw [hX, hgx]; exact box_cell _ _ _ 1 _ rfl
        have x2 : X.cell? ⟨gx, 2, none⟩ = some (.int .i64 what) := by rw [hX, hgx]; exact box_cell _ _ _ 2 _ rfl
        have x3 : X.cell? ⟨gx, 3, none⟩ = some (.slice (some ⟨gr, 0, none⟩) fs.length fs.length) := by rw [hX, hgx]; exact box_cell _ _ _ 3 _ rfl
        have hbX : Below w10.heap.size w10 X := by rw [hX]; exact below_alloc _ _
        have hXs : X.heap.size = w10.heap.size + 1 := by rw [hX]; simp
        replace hB := ext_trans hB hbX
        replace hx0 := hx0.below hbX
        replace hor := own_below hor hbX
        replace q0 := below_cell hbX q0
        replace q1 := below_cell hbX q1
        replace q2 := below_cell hbX q2
        replace q3 := below_cell hbX q3
        have HSZ : Hid (w8.heap.size ≤ w9.heap.size ∧ w9.heap.size ≤ gr ∧ gr < gx ∧ gx < X.heap.size) := Lib.hid ⟨H89.out, hgr.1, by omega, by omega⟩
        have HXX := Lib.hid hX
        have HGX := Lib.hid hgx
        clear hX hgx hbX hXs hgr H89
        go_wp2_with fail
        rw [← HXX.out, ← HGX.out]
        refine (implAddRecord_x HXB.out (rcR.own (by omega) HM.out hx0.n.o) (fdR.own rfl (by omega) hor) hl0 HF.out hf0).mono ?_
        rintro e w11 ⟨Ag, cg, rfl, hgN, hBc⟩
        have hg0 := hgN.m
        replace hB := ext_trans hB hBc
        replace hx0 := hx0.below hBc
        replace hor := own_below hor hBc
        replace q0 := below_cell hBc q0
        replace q1 := below_cell hBc q1
        replace q2 := below_cell hBc q2
        replace q3 := below_cell hBc q3
        replace x0 := below_cell hBc x0
        replace x1 := below_cell hBc x1
        replace x2 := below_cell hBc x2
        replace x3 := below_cell hBc x3
        clear hBc hgN
        go_wp2_with fail
        refine (eqRecordS_any (rcR.own (by omega) HXM.out hg0.n.o) (HR8.out.below hB)).mono ?_
        rintro e w12 ⟨rfl, hBc⟩
        replace hB := ext_trans hB hBc
        replace q0 := below_cell hBc q0
        replace q1 := below_cell hBc q1
        replace q2 := below_cell hBc q2
        replace q3 := below_cell hBc q3
        replace x0 := below_cell hBc x0
        replace x1 := below_cell hBc x1
        replace x2 := below_cell hBc x2
        replace x3 := below_cell hBc x3
        replace hx0 := OwnM.below hx0 hBc
        replace hg0 := OwnM.below hg0 hBc
        replace hor := own_below hor hBc
        clear hBc
        rw [sameB_self]
        go_wp2_with fail
        refine (toRecordS_any (HU8.out.below hB) (by omega) HF.out).mono ?_
        rintro e w13 ⟨rfl, hoy, hBc⟩
        replace hB := ext_trans hB hBc
        replace q0 := below_cell hBc q0
        replace q1 := below_cell hBc q1
        replace q2 := below_cell hBc q2
        replace q3 := below_cell hBc q3
        replace x0 := below_cell hBc x0
        replace x1 := below_cell hBc x1
        replace x2 := below_cell hBc x2
        replace x3 := below_cell hBc x3
        replace hx0 := OwnM.below hx0 hBc
        replace hg0 := OwnM.below hg0 hBc
        replace hor := own_below hor hBc
        clear hBc
        go_wp2_with fail
        refine (eqRecordS_any (rcR.own (by omega) HM.out hx0.n.o) (rcR.own (by omega) HM.out hoy)).mono ?_
        rintro e w14 ⟨rfl, hBc⟩
        replace hB := ext_trans hB hBc
        replace q0 := below_cell hBc q0
        replace q1 := below_cell hBc q1
        replace q2 := below_cell hBc q2
        replace q3 := below_cell hBc q3
        replace x0 := below_cell hBc x0
        replace x1 := below_cell hBc x1
        replace x2 := below_cell hBc x2
        replace x3 := below_cell hBc x3
        replace hx0 := OwnM.below hx0 hBc
        replace hg0 := OwnM.below hg0 hBc
        replace hor := own_below hor hBc
        clear hBc
        rw [sameB_self]
        clear hoy
        have HV14 := Lib.hid (HV8.out.below hB)
        go_wp2_with fail
        refine wp_region_kinds2 (fun i wz vz => match i with | 0 => vz = .agg #[.int .i64 who, .int .i64 act, .int .i64 what, .slice (some ⟨gr, 0, none⟩) fs.length fs.length] | 1 => vz = .agg #[.int .i64 who, .int .i64 act, .int .i64 what, .slice A2 fs.length c2] | 2 => RqO w14.heap.size who act what fs wz vz | 3 => vz = .bool true | 4 => vz = .bool false | _ => True) (fun _ wz => Below w14.heap.size w14 wz) (fun i w w' => Below w.heap.size w w') (fun _ => Option.none) (by kernel_rfl) (by kernel_rfl) (by kernel_rfl) ?stab16 (ext_drew (Below.refl _ _)) ?all16 ?fin16
        case stab16 =>
          intro i j wa wb v hR hk hne hd _ h2 hT
          match j, hk, hne, hd, h2, hT with
          | 0, hk, hne, hd, h2, hT => exact hT
          | 1, hk, hne, hd, h2, hT => exact hT
          | 2, hk, hne, hd, h2, hT => exact RqO.below hT hR
          | 3, hk, hne, hd, h2, hT => exact hT
          | 4, hk, hne, hd, h2, hT => exact hT
          | n + 5, _, _, _, _, _ => trivial
        case all16 =>
          refine RAll.cons rfl ?_ (RAll.cons rfl ?_ (RAll.cons rfl ?_ (RAll.cons rfl ?_ (RAll.cons rfl ?_ (RAll.none_)))))
          · intro a k wa K Q _ hI hp hK
            have e13 := tmp_of (show a.eval (.tmp 13) = .pointer (some ⟨gx, 0, none⟩) from hp.keep 13 (by kernel_rfl))
            have x0_ := below_cell hI x0
            have x1_ := below_cell hI x1
            have x2_ := below_cell hI x2
            have x3_ := below_cell hI x3
            go_simp
            exact hK _ _ rfl (Below.refl _ _) hI
          · intro a k wa K Q _ hI hp hK
            have e6 := tmp_of (show a.eval (.tmp 6) = .pointer (some ⟨g, 0, none⟩) from hp.keep 6 (by kernel_rfl))
            have q0_ := below_cell hI q0
            have q1_ := below_cell hI q1
            have q2_ := below_cell hI q2
            have q3_ := below_cell hI q3
            go_simp
            exact hK _ _ rfl (Below.refl _ _) hI
          · intro a k wa K Q _ hI hp hK
            have e68 := tmp_of (show a.eval (.tmp 68) = .agg #[.int .i64 who, .int .i64 act, .int .i64 what, .slice A2 fs.length c2] from hp.dep 1 68 (by kernel_rfl))
            go_simp
            refine (toRequest_any (HV14.out.below hI) (by omega)).mono ?_
            rintro e wb ⟨g8, rfl, ho8, hb⟩
            exact hK _ _ ⟨g8, rfl, own_lower ho8 hI.size⟩ hb (ext_trans hI hb)
          · intro a k wa K Q _ hI hp hK
            have e67 := tmp_of (show a.eval (.tmp 67) = .agg #[.int .i64 who, .int .i64 act, .int .i64 what, .slice (some ⟨gr, 0, none⟩) fs.length fs.length] from hp.dep 0 67 (by kernel_rfl))
            have t69 : RqO w14.heap.size who act what fs wa (a.eval (.tmp 69)) := hp.dep 2 69 (by kernel_rfl)
            obtain ⟨g8, e69, ho8⟩ := t69
            replace e69 := tmp_of e69
            go_simp
            refine (eqRequest_any (fdR.own rfl (by omega) (own_below hor hI)) (fdR.own rfl (by omega) ho8)).mono ?_
            rintro e wb ⟨rfl, hb⟩
            rw [sameB_self]
            exact hK _ _ rfl hb (ext_trans hI hb)
          · intro a k wa K Q _ hI hp hK
            have e70 := tmp_of (show a.eval (.tmp 70) = .bool true from hp.dep 3 70 (by kernel_rfl))
            go_simp
            exact hK _ _ (rfl) (Below.refl _ _) hI
        case fin16 =>
          intro f w16 hT hI0
          have hI : Below w14.heap.size w14 w16 := hI0
          have hr4 : (f 4) = .bool false := hT 4 (by decide) rfl rfl
          clear hT hI0
          simp only [putAll, hr4]
          go_simp
          replace hB := ext_trans hB hI
          replace hx0 := hx0.below hI
          replace hg0 := hg0.below hI
          replace hor := own_below hor hI
          replace q0 := below_cell hI q0
          replace q1 := below_cell hI q1
          replace q2 := below_cell hI q2
          replace q3 := below_cell hI q3
          replace x0 := below_cell hI x0
          replace x1 := below_cell hI x1
          replace x2 := below_cell hI x2
          replace x3 := below_cell hI x3
          clear hI hr4 HV14
          go_wp2_with fail
          refine (markRecordS_n hx0 (by omega) HF.out (by omega) (by omega)).mono ?_
          rintro e w19 ⟨rfl, _, hS⟩
          obtain ⟨s1, s2, s3, s4⟩ := HSZ.out
          replace hB := Span.below hB hS hB.size (Nat.le_refl _)
          replace q0 := below_cell hB Q0.out
          replace q1 := below_cell hB Q1.out
          replace q2 := below_cell hB Q2.out
          replace q3 := below_cell hB Q3.out
          replace x0 := cell_span hS x0 (.inr (by omega))
          replace x1 := cell_span hS x1 (.inr (by omega))
          replace x2 := cell_span hS x2 (.inr (by omega))
          replace x3 := cell_span hS x3 (.inr (by omega))
          replace hg0 := hg0.span hS (.inr (by omega))
          replace hor := own_span hor hS (fun k hk => .inr (by cases hk; omega))
          have hk1 := rcKs_bound 1 HF.out l.length (Nat.le_refl _)
          obtain ⟨K1, hK1⟩ : ∃ K, K = rcKs 1 l l.length := ⟨_, rfl⟩
          rw [← hK1] at hk1 ⊢
          have HK1 := Lib.hid hK1
          clear hS hx0 s1 s2 s3 s4 hK1
          go_wp2_with fail
          refine (markRequest_any hor (by omega) (by omega) (by omega)).mono ?_
          rintro e w20 ⟨rfl, wa, hBa, hGa⟩
          obtain ⟨s1, s2, s3, s4⟩ := HSZ.out
          have hS : Span w9.heap.size X.heap.size w19 w20 := (Span.ofBelow hBa).trans (Span.of hGa (fun k hk => by cases hk; dsimp only; omega))
          replace hB := Span.below hB hS hB.size s1
          replace q0 := below_cell hB Q0.out
          replace q1 := below_cell hB Q1.out
          replace q2 := below_cell hB Q2.out
          replace q3 := below_cell hB Q3.out
          replace hg0 := hg0.span hS (.inr (Nat.le_refl _))
          clear hS hBa hGa s1 s2 s3 s4 x0 x1 x2 x3 hor
          go_wp2_with fail
          refine (eqRecordS_any (rcR.own (by omega) HXM.out hg0.n.o) (HR8.out.below hB)).mono ?_
          rintro e w21 ⟨rfl, hBc⟩
          replace hB := ext_trans hB hBc
          replace q0 := below_cell hBc q0
          replace q1 := below_cell hBc q1
          replace q2 := below_cell hBc q2
          replace q3 := below_cell hBc q3
          replace hg0 := OwnM.below hg0 hBc
          clear hBc
          rw [sameB_self]
          go_wp2_with fail
          refine (markRecordS_n hg0 (by omega) HX.out.2 (by omega) (by omega)).mono ?_
          rintro e w24 ⟨rfl, hgm, hS⟩
          obtain ⟨s1, s2, s3, s4⟩ := HSZ.out
          replace hB := Span.below hB hS hB.size (by omega)
          replace q0 := below_cell hB Q0.out
          replace q1 := below_cell hB Q1.out
          replace q2 := below_cell hB Q2.out
          replace q3 := below_cell hB Q3.out
          have hk2 := rcKs_bound 1 HX.out.2 x.length (Nat.le_refl _)
          obtain ⟨K2, hK2⟩ : ∃ K, K = rcKs 1 x x.length := ⟨_, rfl⟩
          rw [← hK2] at hk2 ⊢
          have HK2 := Lib.hid hK2
          clear hS hg0 s1 s2 s3 s4 hK2
          go_wp2_with fail
          refine (heldRecordS_any (rcR.ownAt (rcMk_len _ _) (by omega) (rcMk_mem HX.out.2) hgm.n.o) (by omega) rfl HX.out.2 (by omega) (by omega)).mono ?_
          rintro e w25 ⟨rfl, hBc⟩
          replace hB := ext_trans hB hBc
          replace q0 := below_cell hBc q0
          replace q1 := below_cell hBc q1
          replace q2 := below_cell hBc q2
          replace q3 := below_cell hBc q3
          replace hgm := OwnM.below hgm hBc
          clear hBc
          rw [← HK2.out]
          go_wp2_with fail
          refine wp_region_kinds2 (fun i wz vz => match i with | 0 => vz = .slice A l.length c | 1 => OwnRcO w25.heap.size l wz vz | 2 => vz = .int .i64 tm | 3 => vz = .agg #[.int .i64 who, .int .i64 act, .int .i64 what, .slice A2 fs.length c2] | 4 => RqO w25.heap.size who act what fs wz vz | 5 => vz = .bool al | 6 => RcT w25.heap.size x b wz vz | 7 => RcT w25.heap.size x b wz vz | 8 => OwnRcO w25.heap.size x wz vz | 9 => vz = .bool b | 10 => OwnRcO w25.heap.size x wz vz | 11 => vz = .bool b | _ => True) (fun _ wz => Below w25.heap.size w25 wz) (fun i w w' => Below w.heap.size w w') (fun _ => Option.none) (by kernel_rfl) (by kernel_rfl) (by kernel_rfl) ?stab31 (ext_drew (Below.refl _ _)) ?all31 ?fin31
          case stab31 =>
            intro i j wa wb v hR hk hne hd _ h2 hT
            match j, hk, hne, hd, h2, hT with
            | 0, hk, hne, hd, h2, hT => exact hT
            | 1, hk, hne, hd, h2, hT => exact OwnRcO.below hT hR
            | 2, hk, hne, hd, h2, hT => exact hT
            | 3, hk, hne, hd, h2, hT => exact hT
            | 4, hk, hne, hd, h2, hT => exact RqO.below hT hR
            | 5, hk, hne, hd, h2, hT => exact hT
            | 6, hk, hne, hd, h2, hT => exact RcT.below hT hR
            | 7, hk, hne, hd, h2, hT => exact RcT.below hT hR
            | 8, hk, hne, hd, h2, hT => exact OwnRcO.below hT hR
            | 9, hk, hne, hd, h2, hT => exact hT
            | 10, hk, hne, hd, h2, hT => exact OwnRcO.below hT hR
            | 11, hk, hne, hd, h2, hT => exact hT
            | n + 12, _, _, _, _, _ => trivial
          case all31 =>
            refine RAll.cons rfl ?_ (RAll.cons rfl ?_ (RAll.cons rfl ?_ (RAll.cons rfl ?_ (RAll.cons rfl ?_ (RAll.cons rfl ?_ (RAll.cons rfl ?_ (RAll.cons rfl ?_ (RAll.cons rfl ?_ (RAll.cons rfl ?_ (RAll.cons rfl ?_ (RAll.cons rfl ?_ (RAll.none_))))))))))))
            · intro a k wa K Q _ hI hp hK
              exact op_move _ (.inl rfl) (hK _ _ (hp.keep 0 (by kernel_rfl)) (Below.refl _ _) hI)
            · intro a k wa K Q _ hI hp hK
              have e103 := tmp_of (show a.eval (.tmp 103) = .slice A l.length c from hp.dep 0 103 (by kernel_rfl))
              go_simp
              refine (toRecordS_any ((HU8.out.below hB).below hI) (by omega) HF.out).mono ?_
              rintro e wb ⟨rfl, ho9, hb⟩
              exact hK _ _ (OwnG.lower ho9 hI.size (RcO.lower hI.size)) hb (ext_trans hI hb)
            · intro a k wa K Q _ hI hp hK
              exact op_move _ (.inl rfl) (hK _ _ (hp.keep 1 (by kernel_rfl)) (Below.refl _ _) hI)
            · intro a k wa K Q _ hI hp hK
              have e6 := tmp_of (show a.eval (.tmp 6) = .pointer (some ⟨g, 0, none⟩) from hp.keep 6 (by kernel_rfl))
              have q0_ := below_cell hI q0
              have q1_ := below_cell hI q1
              have q2_ := below_cell hI q2
              have q3_ := below_cell hI q3
              go_simp
              exact hK _ _ rfl (Below.refl _ _) hI
            · intro a k wa K Q _ hI hp hK
              have e106 := tmp_of (show a.eval (.tmp 106) = .agg #[.int .i64 who, .int .i64 act, .int .i64 what, .slice A2 fs.length c2] from hp.dep 3 106 (by kernel_rfl))
              go_simp
              refine (toRequest_any ((HV8.out.below hB).below hI) (by omega)).mono ?_
              rintro e wb ⟨g8, rfl, ho8, hb⟩
              exact hK _ _ ⟨g8, rfl, own_lower ho8 hI.size⟩ hb (ext_trans hI hb)
            · intro a k wa K Q _ hI hp hK
              exact op_move _ (.inl rfl) (hK _ _ (hp.keep 3 (by kernel_rfl)) (Below.refl _ _) hI)
            · intro a k wa K Q _ hI hp hK
              have t104 : OwnRcO w25.heap.size l wa (a.eval (.tmp 104)) := hp.dep 1 104 (by kernel_rfl)
              have e105 := tmp_of (show a.eval (.tmp 105) = .int .i64 tm from hp.dep 2 105 (by kernel_rfl))
              have t107 : RqO w25.heap.size who act what fs wa (a.eval (.tmp 107)) := hp.dep 4 107 (by kernel_rfl)
              have e108 := tmp_of (show a.eval (.tmp 108) = .bool al from hp.dep 5 108 (by kernel_rfl))
              obtain ⟨A9, c9, xs9, e104, ho9, hc9⟩ := t104
              replace e104 := tmp_of e104
              obtain ⟨g8, e107, ho8⟩ := t107
              replace e107 := tmp_of e107
              go_simp
              refine (implAddRecord_x HXB.out (rcR.own (by omega) HM.out ⟨A9, c9, xs9, rfl, ho9, hc9⟩) (fdR.own rfl (by omega) ho8) hl0 HF.out hf0).mono ?_
              rintro e wb ⟨A7, c7, rfl, h7, hb⟩
              exact hK _ _ ⟨A7, c7, rfl, h7.o.lower hI.size (RcO.lower hI.size)⟩ hb (ext_trans hI hb)
            · intro a k wa K Q _ hI hp hK
              exact op_move _ (.inl rfl) (hK _ _ (hp.dep 6 109 (by kernel_rfl)) (Below.refl _ _) hI)
            · intro a k wa K Q _ hI hp hK
              have t102 : RcT w25.heap.size x b wa (a.eval (.tmp 102)) := hp.dep 7 102 (by kernel_rfl)
              obtain ⟨A7, c7, e102, h7⟩ := t102
              replace e102 := tmp_of e102
              go_simp
              exact hK _ _ h7 (Below.refl _ _) hI
            · intro a k wa K Q _ hI hp hK
              have t102 : RcT w25.heap.size x b wa (a.eval (.tmp 102)) := hp.dep 7 102 (by kernel_rfl)
              obtain ⟨A7, c7, e102, h7⟩ := t102
              replace e102 := tmp_of e102
              go_simp
              exact hK _ _ rfl (Below.refl _ _) hI
            · intro a k wa K Q _ hI hp hK
              exact op_move _ (.inr rfl) (hK _ _ (hp.dep 8 110 (by kernel_rfl)) (Below.refl _ _) hI)
            · intro a k wa K Q _ hI hp hK
              exact op_move _ (.inr rfl) (hK _ _ (hp.dep 9 111 (by kernel_rfl)) (Below.refl _ _) hI)
          case fin31 =>
            intro f w31 hT hI0
            have hI : Below w25.heap.size w25 w31 := hI0
            have hr10 : OwnRcO w25.heap.size x w31 (f 10) := hT 10 (by decide) rfl rfl
            have hr11 : (f 11) = .bool b := hT 11 (by decide) rfl rfl
            clear hT hI0
            obtain ⟨Ah, ch, xsh, eh, hoh, hch⟩ := hr10
            simp only [putAll, eh, hr11]
            go_simp
            have hRh := rcR.own (by have := HX.out.1; omega) HXM.out ⟨Ah, ch, xsh, rfl, hoh, hch⟩
            replace hB := ext_trans hB hI
            replace hgm := hgm.below hI
            clear hI hr11 eh hoh hch q0 q1 q2 q3
            go_wp2_with fail
            refine (eqRecordS_any hRh (HR8.out.below hB)).mono ?_
            rintro e w32 ⟨rfl, hBc⟩
            replace hB := ext_trans hB hBc
            replace hgm := OwnM.below hgm hBc
            clear hBc
            rw [sameB_self]
            go_wp2_with fail
            refine (heldRecordS_any (rcR.ownAt (rcMk_len _ _) (by omega) (rcMk_mem HX.out.2) hgm.n.o) (by omega) rfl HX.out.2 (by omega) (by omega)).mono ?_
            rintro e w33 ⟨rfl, hBc⟩
            replace hB := ext_trans hB hBc
            replace hgm := OwnM.below hgm hBc
            clear hBc
            rw [← HK2.out]
            go_wp2
            go_ret
            exact ⟨rfl, ext_trans HB0.out hB⟩
end Go.Proofs.Ytdpiaiblpafglaa

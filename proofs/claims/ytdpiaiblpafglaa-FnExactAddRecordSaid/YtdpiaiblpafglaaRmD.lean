/- AddRecord: what it hands back lies apart. -/
import Derived.Test.YtdpiaiblpafglaaRcK
import Derived.Test.YtdpiaiblpafglaaRmC
namespace Go.Proofs.Ytdpiaiblpafglaa
set_option linter.unusedSimpArgs false
set_option linter.unusedVariables false
open Go.RowKit

def OwnRcN (B : Nat) (l : RcL) (w : World) (v : Value) : Prop := OwnN B w v l
theorem OwnRcN.below {B : Nat} {l : RcL} {w w' : World} {v : Value} (h : OwnRcN B l w v) (hb : Below w.heap.size w w') : OwnRcN B l w' v := OwnN.below h hb
theorem OwnN.form {B : Nat} {l : RcL} {w : World} {v : Value} (h : OwnN B w v l) : ∃ A c, v = .slice A l.length c ∧ OwnN B w (.slice A l.length c) l := by
  obtain ⟨l', rfl, h1, A, c, xs, rfl, ho, hc⟩ := h
  exact ⟨A, c, by simp, l', rfl, h1, A, c, xs, by simp, ho, hc⟩
/-- What AddRecord leaves. -/
def RcPostN (w : World) (l : RcL) (b : Bool) (e : Ending) (w' : World) : Prop := ∃ A c, e = .returned (.tuple #[.slice A l.length c, .bool b]) ∧ OwnN w.heap.size w' (.slice A l.length c) l ∧ Below w.heap.size w w'
set_option maxRecDepth 100000 in
set_option maxHeartbeats 8000000 in
theorem implAddRecord_n {A A2 : Option Addr} {l : RcL} {fs : FdL} {c c2 : Nat} {tm who act what : Int} {al : Bool} {w : World} (hU : rcR w A l) (hV : fdR w A2 fs) (hn : l.length ≤ 1048576) (hf : FewF 1048576 l) (hn2 : fs.length ≤ 1048576) :
    Calls Try.prog 25 #[.slice A l.length c, .int .i64 tm, .agg #[.int .i64 who, .int .i64 act, .int .i64 what, .slice A2 fs.length c2], .bool al] w (RcPostN w (rcAdd l tm (who, act, what, fs) al).1 (rcAdd l tm (who, act, what, fs) al).2) := by
  obtain ⟨W, hW⟩ : ∃ W, W = w.alloc (.cells #[.int .i64 who, .int .i64 act, .int .i64 what, .slice A2 fs.length c2] 25) := ⟨_, rfl⟩
  obtain ⟨g, hg⟩ : ∃ g, g = w.heap.size := ⟨_, rfl⟩
  have hB : Below w.heap.size w W := by rw [hW]; exact below_alloc _ _
  have q0 : W.cell? ⟨g, 0, none⟩ = some (.int .i64 who) := by rw [hW, hg]; exact box_cell _ _ _ 0 _ rfl
  have q1 : W.cell? ⟨g, 1, none⟩ = some (.int .i64 act) := by rw [hW, hg]; exact box_cell _ _ _ 1 _ rfl
  have q2 : W.cell? ⟨g, 2, none⟩ = some (.int .i64 what) := by rw [hW, hg]; exact box_cell _ _ _ 2 _ rfl
  have q3 : W.cell? ⟨g, 3, none⟩ = some (.slice A2 fs.length c2) := by rw [hW, hg]; exact box_cell _ _ _ 3 _ rfl
  replace hU := hU.below hB
  replace hV := hV.below hB
  have hl := hU.len
  have HW := Lib.hid hW
  have HG := Lib.hid hg
  have HF := Lib.hid hf
  have HM := Lib.hid (FewF.mem hf)
  clear hW hg hf
  by_cases g0 : rcRight l = -1
  · have h20 := rcRight_few g0
    obtain ⟨bf, hbf⟩ : ∃ b, b = rcBefore l := ⟨_, rfl⟩
    obtain ⟨n, hnn⟩ : ∃ n, n = rcSeal bf tm who act what al := ⟨_, rfl⟩
    obtain ⟨x, hx⟩ : ∃ x : Rc, x = (tm, who, act, what, fs, al, n) := ⟨_, rfl⟩
    have hxn : x = rcNext l tm (who, act, what, fs) al := by rw [hx, hnn, hbf]; rfl
    obtain ⟨l2, hl2⟩ : ∃ l2, l2 = l ++ [x] := ⟨_, rfl⟩
    obtain ⟨r2, hr2⟩ : ∃ r, r = rcRight l2 := ⟨_, rfl⟩
    have hy : r2 = -1 → rcAdd l tm (who, act, what, fs) al = (l2, true) := fun e => by rw [rcAdd_yes g0 (by rw [← hxn, ← hl2, ← hr2, e]), ← hxn, ← hl2]
    have hno : r2 ≠ -1 → rcAdd l tm (who, act, what, fs) al = (l, false) := fun e => rcAdd_same g0 (by rw [← hxn, ← hl2, ← hr2]; exact e)
    have hl2n : l2.length = l.length + 1 := by rw [hl2]; simp
    have hf2 : FewF 1048576 l2 := by
      rw [hl2]
      intro k hk
      by_cases e : k < l.length
      · have : rcAt (l ++ [x]) k = rcAt l k := by simp [rcAt, List.getD_eq_getElem?_getD, List.getElem?_append_left e]
        rw [rc4, this]; exact HF.out k e
      · have e2 : k = l.length := by simp at hk; omega
        have : rcAt (l ++ [x]) k = x := by subst e2; simp [rcAt, List.getD_eq_getElem?_getD]
        rw [rc4, this, hx]; exact hn2
    have HR0 := Lib.hid g0
    have HF2 := Lib.hid hf2
    have HM2 := Lib.hid (FewF.mem hf2)
    have HY := Lib.hid hy
    have HNO := Lib.hid hno
    have HL2 := Lib.hid hl2
    have HL2N := Lib.hid hl2n
    have HX := Lib.hid hx
    have HNN := Lib.hid hnn
    have HBF := Lib.hid hbf
    have HR2 := Lib.hid hr2
    clear hy hno hl2 hl2n hx hf2 hnn hr2 hxn g0 hbf
    have hcase : l.length = 0 ∨ 0 < l.length := by omega
    rcases hcase with h0 | h0
    · obtain rfl : bf = 1 := by rw [HBF.out, rcBefore, if_pos h0]
      have hz : ¬ 0 < l.length := by omega
      have hz2 : decide (0 < l.length) = false := decide_eq_false hz
      clear h0 HBF
      go_enter Try.func25, Try.ntmps25
      go_wp2_with fail
      rw [← HW.out, ← HG.out]
      refine (implRecordsRight hU).mono ?_
      rintro e w1 ⟨rfl, hBc⟩
      replace hB := ext_trans hB hBc
      replace q0 := below_cell hBc q0
      replace q1 := below_cell hBc q1
      replace q2 := below_cell hBc q2
      replace q3 := below_cell hBc q3
      replace hU := hU.below hBc
      replace hV := hV.below hBc
      clear hBc
      rw [HR0.out]
      have hb1 := below_alloc w1 (.cells #[.int .i64 tm, .int .i64 who, .int .i64 act, .int .i64 what, .slice A2 fs.length c2, .bool al, .int .i64 0] 27)
      obtain ⟨X, hX⟩ : ∃ X, X = w1.alloc (.cells #[.int .i64 tm, .int .i64 who, .int .i64 act, .int .i64 what, .slice A2 fs.length c2, .bool al, .int .i64 0] 27) := ⟨_, rfl⟩
      obtain ⟨gx, hgx⟩ : ∃ g, g = w1.heap.size := ⟨_, rfl⟩
      have hXg : X.heap[gx]? = some (.cells #[.int .i64 tm, .int .i64 who, .int .i64 act, .int .i64 what, .slice A2 fs.length c2, .bool al, .int .i64 0] 27 (0, 0)) := by rw [hX, hgx]; exact heap_alloc_new _ _
      have hgw : w.heap.size ≤ gx := by have := hB.size; omega
      have hgx1 : w1.heap.size ≤ gx := by omega
      rw [← hX] at hb1
      have hBX := ext_trans hB hb1
      have d0 : X.cell? ⟨gx, 0, none⟩ = some _ := (cell_of_row X gx 0 _ _ _ hXg).trans rfl
      have d1 : X.cell? ⟨gx, 1, none⟩ = some _ := (cell_of_row X gx 1 _ _ _ hXg).trans rfl
      have d2 : X.cell? ⟨gx, 2, none⟩ = some _ := (cell_of_row X gx 2 _ _ _ hXg).trans rfl
      have d3 : X.cell? ⟨gx, 3, none⟩ = some _ := (cell_of_row X gx 3 _ _ _ hXg).trans rfl
      have d4 : X.cell? ⟨gx, 4, none⟩ = some _ := (cell_of_row X gx 4 _ _ _ hXg).trans rfl
      have d5 : X.cell? ⟨gx, 5, none⟩ = some _ := (cell_of_row X gx 5 _ _ _ hXg).trans rfl
      have d6 : X.cell? ⟨gx, 6, none⟩ = some _ := (cell_of_row X gx 6 _ _ _ hXg).trans rfl
      have HXX := Lib.hid hX
      have HGX := Lib.hid hgx
      have HXG := Lib.hid hXg
      clear hX hgx hXg
      go_wp2_with fail
      rw [← HXX.out, ← HGX.out]
      refine implRecordSeal.mono ?_
      rintro e w3 ⟨rfl, hBc⟩
      rw [← HNN.out]
      have hXg3 := (hBc.block _ (Array.getElem?_eq_some_iff.1 HXG.out).1).trans HXG.out
      have e6 : w3.cell? ⟨gx, 6, none⟩ = some _ := (cell_of_row w3 gx 6 _ _ _ hXg3).trans rfl
      have z6 : w3.frozen? ⟨gx, 6, none⟩ = false := frozen_of_row w3 gx 6 _ _ hXg3
      have hsg := setCells_grown gx [.int .i64 n] w3 6
      have hX8 := setCells_at [.int .i64 n] 6 hXg3 (by simp)
      have hwX := hBX.size
      have hB3 := ext_trans hBX hBc
      have hbw := hB3.size
      replace hB := hB3.grown hsg hbw (fun k e => by cases e; exact hgw)
      have hb8 := (ext_trans hb1 hBc).grown hsg (ext_trans hb1 hBc).size (fun k e => by cases e; exact hgx1)
      replace hU := hU.below hb8
      replace hV := hV.below hb8
      obtain ⟨W8, hW8⟩ : ∃ W, W = setCells w3 gx 6 [.int .i64 n] := ⟨_, rfl⟩
      rw [← hW8] at hB hU hV hX8
      have HW8 := Lib.hid (show w3.setCell ⟨gx, 6, none⟩ (.int .i64 n) = W8 from hW8.symm)
      have HX8 : Hid (W8.heap[gx]? = some (.cells #[.int .i64 tm, .int .i64 who, .int .i64 act, .int .i64 what, .slice A2 fs.length c2, .bool al, .int .i64 n] 27 (0, 0))) := Lib.hid hX8
      clear hW8 hX8 hsg hXg3 hBc hb8 hb1 hgx1 hBX d0 d1 d2 d3 d4 d5 d6 HXG q0 q1 q2 q3 
      go_wp2_with fail
      rw [HW8.out]
      have y0 : W8.cell? ⟨gx, 0, none⟩ = some _ := (cell_of_row W8 gx 0 _ _ _ HX8.out).trans rfl
      have y1 : W8.cell? ⟨gx, 1, none⟩ = some _ := (cell_of_row W8 gx 1 _ _ _ HX8.out).trans rfl
      have y2 : W8.cell? ⟨gx, 2, none⟩ = some _ := (cell_of_row W8 gx 2 _ _ _ HX8.out).trans rfl
      have y3 : W8.cell? ⟨gx, 3, none⟩ = some _ := (cell_of_row W8 gx 3 _ _ _ HX8.out).trans rfl
      have y4 : W8.cell? ⟨gx, 4, none⟩ = some _ := (cell_of_row W8 gx 4 _ _ _ HX8.out).trans rfl
      have y5 : W8.cell? ⟨gx, 5, none⟩ = some _ := (cell_of_row W8 gx 5 _ _ _ HX8.out).trans rfl
      have y6 : W8.cell? ⟨gx, 6, none⟩ = some _ := (cell_of_row W8 gx 6 _ _ _ HX8.out).trans rfl
      have HQ : Hid (∀ wa, Below W8.heap.size W8 wa → RcM W8.heap.size wa x (#[.int .i64 tm, .int .i64 who, .int .i64 act, .int .i64 what, .slice A2 fs.length c2, .bool al, .int .i64 n] : Array Value).toList) := Lib.hid (fun wa hI => .inr ⟨A2, c2, by rw [HX.out]; rfl, by rw [HX.out]; exact hV.below hI, by rw [HX.out]; exact fun hn a ha => fdR.lt hV hn a ha⟩)
      clear e6 z6 HX8
      refine wp_region_kinds2 (fun i wz vz => match i with | 0 => vz = .slice A l.length c | 1 => OwnRcO W8.heap.size l wz vz | 2 => vz = .agg #[.int .i64 tm, .int .i64 who, .int .i64 act, .int .i64 what, .slice A2 fs.length c2, .bool al, .int .i64 n] | 3 => FrB W8.heap.size 27 1 #[.int .i64 tm, .int .i64 who, .int .i64 act, .int .i64 what, .slice A2 fs.length c2, .bool al, .int .i64 n] wz vz | 4 => OwnRcM W8.heap.size l2 wz vz | 5 => OwnRcN W8.heap.size l2 wz vz | 6 => OwnRcN W8.heap.size l2 wz vz | _ => True) (fun _ wz => Below W8.heap.size W8 wz) (fun i w w' => Below (if i = 4 then W8.heap.size else w.heap.size) w w') (fun j => match j with | 1 => some 4 | 3 => some 4 | _ => Option.none) (by kernel_rfl) (by kernel_rfl) (by kernel_rfl) ?stab8 (ext_drew (Below.refl _ _)) ?all8 ?fin8
      case stab8 =>
        intro i j wa wb v hR hk hne hd _ h2 hT
        match j, hk, hne, hd, h2, hT with
        | 0, hk, hne, hd, h2, hT => exact hT
        | 1, hk, hne, hd, h2, hT => exact OwnRcO.below hT (rel_un (fun e => hk (by subst e; rfl)) hR)
        | 2, hk, hne, hd, h2, hT => exact hT
        | 3, hk, hne, hd, h2, hT => exact FrB.below hT (rel_un (fun e => hk (by subst e; rfl)) hR)
        | 4, hk, hne, hd, h2, hT => exact OwnRcM.below hT (rel_un (fun e => hne e.symm) hR)
        | 5, hk, hne, hd, h2, hT => exact OwnRcN.below hT (rel_un (fun e => by subst e; exact Bool.noConfusion (hd.symm.trans (show depB _ 5 4 = true from by kernel_rfl))) hR)
        | 6, hk, hne, hd, h2, hT => exact OwnRcN.below hT (rel_un (fun e => by subst e; exact Bool.noConfusion ((h2 5 (by kernel_rfl)).symm.trans (show depB _ 5 4 = true from by kernel_rfl))) hR)
        | n + 7, _, _, _, _, _ => trivial
      case all8 =>
        refine RAll.cons rfl ?_ (RAll.cons rfl ?_ (RAll.cons rfl ?_ (RAll.cons rfl ?_ (RAll.cons rfl ?_ (RAll.cons rfl ?_ (RAll.cons rfl ?_ (RAll.none_)))))))
        · intro a k wa K Q _ hI hp hK
          exact op_move _ (.inl rfl) (hK _ _ (hp.keep 0 (by kernel_rfl)) (Below.refl _ _) hI)
        · intro a k wa K Q _ hI hp hK
          have e34 := tmp_of (show a.eval (.tmp 34) = .slice A l.length c from hp.dep 0 34 (by kernel_rfl))
          go_simp
          refine (cloneRecords_any (hU.below hI) (by omega) HF.out).mono ?_
          rintro e wb ⟨A9, c9, rfl, ho9, hb⟩
          exact hK _ _ (OwnG.lower ho9 hI.size (RcO.lower hI.size)) (rel_ne (by decide) hb) (ext_trans hI hb)
        · intro a k wa K Q _ hI hp hK
          have e11 := tmp_of (show a.eval (.tmp 11) = .pointer (some ⟨gx, 0, none⟩) from hp.keep 11 (by kernel_rfl))
          have y0_ := below_cell hI y0
          have y1_ := below_cell hI y1
          have y2_ := below_cell hI y2
          have y3_ := below_cell hI y3
          have y4_ := below_cell hI y4
          have y5_ := below_cell hI y5
          have y6_ := below_cell hI y6
          go_simp
          exact hK _ _ rfl (Below.refl _ _) hI
        · intro a k wa K Q _ hI hp hK
          have e36 := tmp_of (show a.eval (.tmp 36) = .agg #[.int .i64 tm, .int .i64 who, .int .i64 act, .int .i64 what, .slice A2 fs.length c2, .bool al, .int .i64 n] from hp.dep 2 36 (by kernel_rfl))
          go_simp
          exact hK _ _ ⟨_, rfl, hI.size, heap_alloc_new _ _⟩ (rel_ne (by decide) (below_alloc _ _)) (ext_alloc hI _)
        · intro a k wa K Q _ hI hp hK
          have t35 : OwnRcO W8.heap.size l wa (a.eval (.tmp 35)) := hp.dep 1 35 (by kernel_rfl)
          have t37 : FrB W8.heap.size 27 1 #[.int .i64 tm, .int .i64 who, .int .i64 act, .int .i64 what, .slice A2 fs.length c2, .bool al, .int .i64 n] wa (a.eval (.tmp 37)) := hp.dep 3 37 (by kernel_rfl)
          have hM := OwnRcO.toM t35 HM.out
          obtain ⟨g8, e37, hB8, hg8⟩ := t37
          refine op_appendG (R := RcM W8.heap.size) (l := l) (l2 := [x]) (.tmp 35) (.tmp 37) 33 27 _ 7 72 rfl Try.underlying33 Try.infoRecord rfl (by decide) (fun a cs h => RcM.one h) rfl hM e37 (rd_blockG hg8 rfl (HQ.out _ hI)) (fun w' hg a cs h => RcM.row hI.size hg hM.typ (fun k hk => (hM.ge k hk).1) a cs h) (by simp; omega) (by simp; omega) hI.size ?_
          intro v' wb ho' hb' hgr _
          refine hK _ _ ⟨Nat.le_trans hI.size hb'.size, ?_⟩ (rel_eq rfl hb') (hI.trans hb')
          rw [HL2.out]
          exact ho'
        · intro a k wa K Q _ hI hp hK
          have t38 : OwnRcM W8.heap.size l2 wa (a.eval (.tmp 38)) := hp.dep 4 38 (by kernel_rfl)
          obtain ⟨A9, c9, e38, hr9⟩ := ownRcM_rd t38.2 hI.size (by have := HL2N.out; omega)
          replace e38 := tmp_of e38
          go_simp
          refine (cloneRecords_n hr9 (by have := HL2N.out; omega) HF2.out).mono ?_
          rintro e wb ⟨A8, c8, rfl, ho8, hb⟩
          exact hK _ _ (OwnN.lower ho8 hI.size) (rel_ne (by decide) hb) (ext_trans hI hb)
        · intro a k wa K Q _ hI hp hK
          exact op_move _ (.inr rfl) (hK _ _ (hp.dep 5 39 (by kernel_rfl)) (Below.refl _ _) hI)
      case fin8 =>
        intro f w9 hT hI0
        have hI : Below W8.heap.size W8 w9 := hI0
        have hr6 : OwnRcN W8.heap.size l2 w9 (f 6) := hT 6 (by decide) rfl rfl
        clear hT hI0
        obtain ⟨A6, c6, e6, h6⟩ := OwnN.form hr6
        have H6 := Lib.hid h6
        clear h6
        simp only [putAll, e6]
        go_simp
        have h6 := H6.out
        clear e6 H6
        have hB9 := ext_trans hB hI
        have hws := hB.size
        go_wp2_with fail
        refine (implRecordsRight (rcR.own (by have := HL2N.out; omega) HM2.out h6.o)).mono ?_
        rintro e w10 ⟨rfl, hBc⟩
        rw [← HR2.out]
        replace h6 := h6.below hBc
        replace hB9 := ext_trans hB9 hBc
        have hU10 := (hU.below hI).below hBc
        by_cases gr : r2 = -1
        · have ha := HY.out gr
          subst gr
          have HA := Lib.hid ha
          clear ha HL2N
          go_wp2
          go_ret2
          rw [HA.out]
          exact ⟨A6, c6, rfl, h6.lower hws, hB9⟩
        · have ha := HNO.out gr
          have gr2 : (r2 != -1) = true := by simp [gr]
          clear gr HL2N
          have HA := Lib.hid ha
          clear ha
          go_wp2_with fail
          refine (cloneRecords_n hU10 (by omega) HF.out).mono ?_
          rintro e w11 ⟨A7, c7, rfl, h7, hBd⟩
          have hws2 := hB9.size
          go_wp2
          go_ret2
          rw [HA.out]
          exact ⟨A7, c7, rfl, h7.lower hws2, ext_trans hB9 hBd⟩
    · have hbv := HBF.out
      rw [rcBefore, if_neg (by omega)] at hbv
      obtain ⟨bl, ol, rfl, hcl⟩ := hU.cells h0
      obtain ⟨A', c', _, _, _, _, _, _, _, p6⟩ := hcl (l.length - 1) (by omega)
      rw [← hbv] at p6
      clear hbv hcl HBF
      go_enter Try.func25, Try.ntmps25
      go_wp2_with fail
      rw [← HW.out, ← HG.out]
      refine (implRecordsRight hU).mono ?_
      rintro e w1 ⟨rfl, hBc⟩
      replace hB := ext_trans hB hBc
      replace q0 := below_cell hBc q0
      replace q1 := below_cell hBc q1
      replace q2 := below_cell hBc q2
      replace q3 := below_cell hBc q3
      replace hU := hU.below hBc
      replace hV := hV.below hBc
      replace p6 := below_cell hBc p6
      clear hBc
      rw [HR0.out]
      have hb1 := below_alloc w1 (.cells #[.int .i64 tm, .int .i64 who, .int .i64 act, .int .i64 what, .slice A2 fs.length c2, .bool al, .int .i64 0] 27)
      obtain ⟨X, hX⟩ : ∃ X, X = w1.alloc (.cells #[.int .i64 tm, .int .i64 who, .int .i64 act, .int .i64 what, .slice A2 fs.length c2, .bool al, .int .i64 0] 27) := ⟨_, rfl⟩
      obtain ⟨gx, hgx⟩ : ∃ g, g = w1.heap.size := ⟨_, rfl⟩
      have hXg : X.heap[gx]? = some (.cells #[.int .i64 tm, .int .i64 who, .int .i64 act, .int .i64 what, .slice A2 fs.length c2, .bool al, .int .i64 0] 27 (0, 0)) := by rw [hX, hgx]; exact heap_alloc_new _ _
      have hgw : w.heap.size ≤ gx := by have := hB.size; omega
      have hgx1 : w1.heap.size ≤ gx := by omega
      rw [← hX] at hb1
      have hBX := ext_trans hB hb1
      have d0 : X.cell? ⟨gx, 0, none⟩ = some _ := (cell_of_row X gx 0 _ _ _ hXg).trans rfl
      have d1 : X.cell? ⟨gx, 1, none⟩ = some _ := (cell_of_row X gx 1 _ _ _ hXg).trans rfl
      have d2 : X.cell? ⟨gx, 2, none⟩ = some _ := (cell_of_row X gx 2 _ _ _ hXg).trans rfl
      have d3 : X.cell? ⟨gx, 3, none⟩ = some _ := (cell_of_row X gx 3 _ _ _ hXg).trans rfl
      have d4 : X.cell? ⟨gx, 4, none⟩ = some _ := (cell_of_row X gx 4 _ _ _ hXg).trans rfl
      have d5 : X.cell? ⟨gx, 5, none⟩ = some _ := (cell_of_row X gx 5 _ _ _ hXg).trans rfl
      have d6 : X.cell? ⟨gx, 6, none⟩ = some _ := (cell_of_row X gx 6 _ _ _ hXg).trans rfl
      have HXX := Lib.hid hX
      have HGX := Lib.hid hgx
      have HXG := Lib.hid hXg
      clear hX hgx hXg
      go_wp2_with fail
      rw [← HXX.out, ← HGX.out]
      refine implRecordSeal.mono ?_
      rintro e w3 ⟨rfl, hBc⟩
      rw [← HNN.out]
      have hXg3 := (hBc.block _ (Array.getElem?_eq_some_iff.1 HXG.out).1).trans HXG.out
      have e6 : w3.cell? ⟨gx, 6, none⟩ = some _ := (cell_of_row w3 gx 6 _ _ _ hXg3).trans rfl
      have z6 : w3.frozen? ⟨gx, 6, none⟩ = false := frozen_of_row w3 gx 6 _ _ hXg3
      have hsg := setCells_grown gx [.int .i64 n] w3 6
      have hX8 := setCells_at [.int .i64 n] 6 hXg3 (by simp)
      have hwX := hBX.size
      have hB3 := ext_trans hBX hBc
      have hbw := hB3.size
      replace hB := hB3.grown hsg hbw (fun k e => by cases e; exact hgw)
      have hb8 := (ext_trans hb1 hBc).grown hsg (ext_trans hb1 hBc).size (fun k e => by cases e; exact hgx1)
      replace hU := hU.below hb8
      replace hV := hV.below hb8
      obtain ⟨W8, hW8⟩ : ∃ W, W = setCells w3 gx 6 [.int .i64 n] := ⟨_, rfl⟩
      rw [← hW8] at hB hU hV hX8
      have HW8 := Lib.hid (show w3.setCell ⟨gx, 6, none⟩ (.int .i64 n) = W8 from hW8.symm)
      have HX8 : Hid (W8.heap[gx]? = some (.cells #[.int .i64 tm, .int .i64 who, .int .i64 act, .int .i64 what, .slice A2 fs.length c2, .bool al, .int .i64 n] 27 (0, 0))) := Lib.hid hX8
      clear hW8 hX8 hsg hXg3 hBc hb8 hb1 hgx1 hBX d0 d1 d2 d3 d4 d5 d6 HXG q0 q1 q2 q3 p6
      go_wp2_with fail
      rw [HW8.out]
      have y0 : W8.cell? ⟨gx, 0, none⟩ = some _ := (cell_of_row W8 gx 0 _ _ _ HX8.out).trans rfl
      have y1 : W8.cell? ⟨gx, 1, none⟩ = some _ := (cell_of_row W8 gx 1 _ _ _ HX8.out).trans rfl
      have y2 : W8.cell? ⟨gx, 2, none⟩ = some _ := (cell_of_row W8 gx 2 _ _ _ HX8.out).trans rfl
      have y3 : W8.cell? ⟨gx, 3, none⟩ = some _ := (cell_of_row W8 gx 3 _ _ _ HX8.out).trans rfl
      have y4 : W8.cell? ⟨gx, 4, none⟩ = some _ := (cell_of_row W8 gx 4 _ _ _ HX8.out).trans rfl
      have y5 : W8.cell? ⟨gx, 5, none⟩ = some _ := (cell_of_row W8 gx 5 _ _ _ HX8.out).trans rfl
      have y6 : W8.cell? ⟨gx, 6, none⟩ = some _ := (cell_of_row W8 gx 6 _ _ _ HX8.out).trans rfl
      have HQ : Hid (∀ wa, Below W8.heap.size W8 wa → RcM W8.heap.size wa x (#[.int .i64 tm, .int .i64 who, .int .i64 act, .int .i64 what, .slice A2 fs.length c2, .bool al, .int .i64 n] : Array Value).toList) := Lib.hid (fun wa hI => .inr ⟨A2, c2, by rw [HX.out]; rfl, by rw [HX.out]; exact hV.below hI, by rw [HX.out]; exact fun hn a ha => fdR.lt hV hn a ha⟩)
      clear e6 z6 HX8
      refine wp_region_kinds2 (fun i wz vz => match i with | 0 => vz = .slice (some ⟨bl, ol, none⟩) l.length c | 1 => OwnRcO W8.heap.size l wz vz | 2 => vz = .agg #[.int .i64 tm, .int .i64 who, .int .i64 act, .int .i64 what, .slice A2 fs.length c2, .bool al, .int .i64 n] | 3 => FrB W8.heap.size 27 1 #[.int .i64 tm, .int .i64 who, .int .i64 act, .int .i64 what, .slice A2 fs.length c2, .bool al, .int .i64 n] wz vz | 4 => OwnRcM W8.heap.size l2 wz vz | 5 => OwnRcN W8.heap.size l2 wz vz | 6 => OwnRcN W8.heap.size l2 wz vz | _ => True) (fun _ wz => Below W8.heap.size W8 wz) (fun i w w' => Below (if i = 4 then W8.heap.size else w.heap.size) w w') (fun j => match j with | 1 => some 4 | 3 => some 4 | _ => Option.none) (by kernel_rfl) (by kernel_rfl) (by kernel_rfl) ?stab8 (ext_drew (Below.refl _ _)) ?all8 ?fin8
      case stab8 =>
        intro i j wa wb v hR hk hne hd _ h2 hT
        match j, hk, hne, hd, h2, hT with
        | 0, hk, hne, hd, h2, hT => exact hT
        | 1, hk, hne, hd, h2, hT => exact OwnRcO.below hT (rel_un (fun e => hk (by subst e; rfl)) hR)
        | 2, hk, hne, hd, h2, hT => exact hT
        | 3, hk, hne, hd, h2, hT => exact FrB.below hT (rel_un (fun e => hk (by subst e; rfl)) hR)
        | 4, hk, hne, hd, h2, hT => exact OwnRcM.below hT (rel_un (fun e => hne e.symm) hR)
        | 5, hk, hne, hd, h2, hT => exact OwnRcN.below hT (rel_un (fun e => by subst e; exact Bool.noConfusion (hd.symm.trans (show depB _ 5 4 = true from by kernel_rfl))) hR)
        | 6, hk, hne, hd, h2, hT => exact OwnRcN.below hT (rel_un (fun e => by subst e; exact Bool.noConfusion ((h2 5 (by kernel_rfl)).symm.trans (show depB _ 5 4 = true from by kernel_rfl))) hR)
        | n + 7, _, _, _, _, _ => trivial
      case all8 =>
        refine RAll.cons rfl ?_ (RAll.cons rfl ?_ (RAll.cons rfl ?_ (RAll.cons rfl ?_ (RAll.cons rfl ?_ (RAll.cons rfl ?_ (RAll.cons rfl ?_ (RAll.none_)))))))
        · intro a k wa K Q _ hI hp hK
          exact op_move _ (.inl rfl) (hK _ _ (hp.keep 0 (by kernel_rfl)) (Below.refl _ _) hI)
        · intro a k wa K Q _ hI hp hK
          have e34 := tmp_of (show a.eval (.tmp 34) = .slice (some ⟨bl, ol, none⟩) l.length c from hp.dep 0 34 (by kernel_rfl))
          go_simp
          refine (cloneRecords_any (hU.below hI) (by omega) HF.out).mono ?_
          rintro e wb ⟨A9, c9, rfl, ho9, hb⟩
          exact hK _ _ (OwnG.lower ho9 hI.size (RcO.lower hI.size)) (rel_ne (by decide) hb) (ext_trans hI hb)
        · intro a k wa K Q _ hI hp hK
          have e11 := tmp_of (show a.eval (.tmp 11) = .pointer (some ⟨gx, 0, none⟩) from hp.keep 11 (by kernel_rfl))
          have y0_ := below_cell hI y0
          have y1_ := below_cell hI y1
          have y2_ := below_cell hI y2
          have y3_ := below_cell hI y3
          have y4_ := below_cell hI y4
          have y5_ := below_cell hI y5
          have y6_ := below_cell hI y6
          go_simp
          exact hK _ _ rfl (Below.refl _ _) hI
        · intro a k wa K Q _ hI hp hK
          have e36 := tmp_of (show a.eval (.tmp 36) = .agg #[.int .i64 tm, .int .i64 who, .int .i64 act, .int .i64 what, .slice A2 fs.length c2, .bool al, .int .i64 n] from hp.dep 2 36 (by kernel_rfl))
          go_simp
          exact hK _ _ ⟨_, rfl, hI.size, heap_alloc_new _ _⟩ (rel_ne (by decide) (below_alloc _ _)) (ext_alloc hI _)
        · intro a k wa K Q _ hI hp hK
          have t35 : OwnRcO W8.heap.size l wa (a.eval (.tmp 35)) := hp.dep 1 35 (by kernel_rfl)
          have t37 : FrB W8.heap.size 27 1 #[.int .i64 tm, .int .i64 who, .int .i64 act, .int .i64 what, .slice A2 fs.length c2, .bool al, .int .i64 n] wa (a.eval (.tmp 37)) := hp.dep 3 37 (by kernel_rfl)
          have hM := OwnRcO.toM t35 HM.out
          obtain ⟨g8, e37, hB8, hg8⟩ := t37
          refine op_appendG (R := RcM W8.heap.size) (l := l) (l2 := [x]) (.tmp 35) (.tmp 37) 33 27 _ 7 72 rfl Try.underlying33 Try.infoRecord rfl (by decide) (fun a cs h => RcM.one h) rfl hM e37 (rd_blockG hg8 rfl (HQ.out _ hI)) (fun w' hg a cs h => RcM.row hI.size hg hM.typ (fun k hk => (hM.ge k hk).1) a cs h) (by simp; omega) (by simp; omega) hI.size ?_
          intro v' wb ho' hb' hgr _
          refine hK _ _ ⟨Nat.le_trans hI.size hb'.size, ?_⟩ (rel_eq rfl hb') (hI.trans hb')
          rw [HL2.out]
          exact ho'
        · intro a k wa K Q _ hI hp hK
          have t38 : OwnRcM W8.heap.size l2 wa (a.eval (.tmp 38)) := hp.dep 4 38 (by kernel_rfl)
          obtain ⟨A9, c9, e38, hr9⟩ := ownRcM_rd t38.2 hI.size (by have := HL2N.out; omega)
          replace e38 := tmp_of e38
          go_simp
          refine (cloneRecords_n hr9 (by have := HL2N.out; omega) HF2.out).mono ?_
          rintro e wb ⟨A8, c8, rfl, ho8, hb⟩
          exact hK _ _ (OwnN.lower ho8 hI.size) (rel_ne (by decide) hb) (ext_trans hI hb)
        · intro a k wa K Q _ hI hp hK
          exact op_move _ (.inr rfl) (hK _ _ (hp.dep 5 39 (by kernel_rfl)) (Below.refl _ _) hI)
      case fin8 =>
        intro f w9 hT hI0
        have hI : Below W8.heap.size W8 w9 := hI0
        have hr6 : OwnRcN W8.heap.size l2 w9 (f 6) := hT 6 (by decide) rfl rfl
        clear hT hI0
        obtain ⟨A6, c6, e6, h6⟩ := OwnN.form hr6
        have H6 := Lib.hid h6
        clear h6
        simp only [putAll, e6]
        go_simp
        have h6 := H6.out
        clear e6 H6
        have hB9 := ext_trans hB hI
        have hws := hB.size
        go_wp2_with fail
        refine (implRecordsRight (rcR.own (by have := HL2N.out; omega) HM2.out h6.o)).mono ?_
        rintro e w10 ⟨rfl, hBc⟩
        rw [← HR2.out]
        replace h6 := h6.below hBc
        replace hB9 := ext_trans hB9 hBc
        have hU10 := (hU.below hI).below hBc
        by_cases gr : r2 = -1
        · have ha := HY.out gr
          subst gr
          have HA := Lib.hid ha
          clear ha HL2N
          go_wp2
          go_ret2
          rw [HA.out]
          exact ⟨A6, c6, rfl, h6.lower hws, hB9⟩
        · have ha := HNO.out gr
          have gr2 : (r2 != -1) = true := by simp [gr]
          clear gr HL2N
          have HA := Lib.hid ha
          clear ha
          go_wp2_with fail
          refine (cloneRecords_n hU10 (by omega) HF.out).mono ?_
          rintro e w11 ⟨A7, c7, rfl, h7, hBd⟩
          have hws2 := hB9.size
          go_wp2
          go_ret2
          rw [HA.out]
          exact ⟨A7, c7, rfl, h7.lower hws2, ext_trans hB9 hBd⟩
  · have HADD : Hid (rcAdd l tm (who, act, what, fs) al = ([], false)) := Lib.hid (rcAdd_no g0)
    obtain ⟨r0, hr0⟩ : ∃ r, r = rcRight l := ⟨_, rfl⟩
    have g1 : (r0 != -1) = true := by rw [hr0]; simp [g0]
    have HR0 := Lib.hid hr0
    clear g0 hr0
    go_enter Try.func25, Try.ntmps25
    go_wp2_with fail
    rw [← HW.out]
    refine (implRecordsRight hU).mono ?_
    rintro e w1 ⟨rfl, hBc⟩
    rw [← HR0.out]
    replace hB := ext_trans hB hBc
    go_wp2
    go_ret2
    rw [HADD.out]
    exact ⟨Option.none, 0, rfl, OwnN.nil, hB⟩
end Go.Proofs.Ytdpiaiblpafglaa

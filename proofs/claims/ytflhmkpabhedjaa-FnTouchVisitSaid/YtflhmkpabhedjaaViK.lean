/- TouchVisit of the reference. -/
import Derived.Test.YtflhmkpabhedjaaViJ
namespace Go.Proofs.Ytflhmkpabhedjaa
open Go.RowKit

/-- The row while it is touched. -/
def viTT (who now : Int) (l : ViL) (k : Nat) : ViL := (l.take k).map (viSet who now) ++ l.drop k
theorem viTT_len (who now : Int) (l : ViL) (k : Nat) : (viTT who now l k).length = l.length := by simp [viTT]; omega
theorem viTT_at {who now : Int} {l : ViL} {k : Nat} (hk : k < l.length) : (viTT who now l k).getD k viD = l.getD k viD := by
  have h1 : ((l.take k).map (viSet who now)).length = k := by simp; omega
  rw [viTT, List.getD_eq_getElem?_getD, List.getElem?_append_right (by omega), h1, Nat.sub_self, List.getElem?_drop, Nat.add_zero, ← List.getD_eq_getElem?_getD]
theorem viTT_cells {who now : Int} {l : ViL} {k : Nat} (hk : k < l.length) : vi0 (viTT who now l k) k = vi0 l k ∧ vi1 (viTT who now l k) k = vi1 l k ∧ vi2 (viTT who now l k) k = vi2 l k := by
  simp only [vi0, vi1, vi2, viTT_at hk]; exact ⟨trivial, trivial, trivial⟩
theorem viTT_succ {who now : Int} {l : ViL} {k : Nat} (hk : k < l.length) : viTT who now l (k + 1) = (viTT who now l k).set k (viSet who now l[k]) := by
  have h1 : ((l.take k).map (viSet who now)).length = k := by simp; omega
  rw [viTT, viTT, List.set_append_right _ _ (by omega), h1, Nat.sub_self, List.drop_eq_getElem_cons hk, List.set_cons_zero, List.take_succ_eq_append_getElem hk, List.map_append, List.append_assoc]
  rfl
theorem viTT_skip {who now : Int} {l : ViL} {k : Nat} (hk : k < l.length) (h : vi0 l k ≠ who) : viTT who now l (k + 1) = viTT who now l k := by
  have h0 : viSet who now l[k] = l[k] := by
    have e := vi_elem hk
    simp only [viSet]
    rw [if_neg (by rw [← e]; exact h)]
  have hlen := viTT_len who now l k
  have hg : (viTT who now l k)[k]'(by omega) = l[k] := by
    have := viTT_at (who := who) (now := now) hk
    simpa [List.getD_eq_getElem?_getD, hk, hlen] using this
  rw [viTT_succ hk, h0, ← hg, List.set_getElem_self]
theorem viTT_zero (who now : Int) (l : ViL) : viTT who now l 0 = l := by simp [viTT]
theorem viTT_all (who now : Int) (l : ViL) : viTT who now l l.length = l.map (viSet who now) := by simp [viTT]
def viAny (who : Int) (l : ViL) (k : Nat) : Bool := (l.take k).any (fun v => decide (v.1 = who))
theorem viAny_succ {who : Int} {l : ViL} {k : Nat} (hk : k < l.length) : viAny who l (k + 1) = (viAny who l k || decide (vi0 l k = who)) := by
  have e := vi_elem hk
  rw [viAny, viAny, List.take_succ_eq_append_getElem hk, List.any_append, ← e]
  simp

set_option maxRecDepth 100000 in
set_option maxHeartbeats 8000000 in
theorem specTouchVisit {A : Option Addr} {l : ViL} {c : Nat} {long idle who now : Int} {w : World} (hU : viR w A l) :
    Calls Try.prog 25 #[.agg #[.int .i64 long, .int .i64 idle], .slice A l.length c, .int .i64 who, .int .i64 now] w (TupPost 38 3 viEnc w (viTouch long idle l who now).1 (viTouch long idle l who now).2) := by
  have q0 := box_cell w #[.int .i64 long, .int .i64 idle] 27 0 (.int .i64 long) rfl
  have q1 := box_cell w #[.int .i64 long, .int .i64 idle] 27 1 (.int .i64 idle) rfl
  have hB := below_alloc w (.cells #[.int .i64 long, .int .i64 idle] 27)
  replace hU := hU.below hB
  cases g1 : viOk long idle l
  · have HE : Hid (viTouch long idle l who now = ([], false)) := Lib.hid (viTouch_out (by simp [g1]))
    go_enter Try.func25, Try.ntmps25
    go_wp2_with fail
    refine (specVisitsValid hU).mono ?_
    rintro e w1 ⟨rfl, hBc⟩
    replace hB := ext_trans hB hBc
    clear hBc
    go_wp2
    go_ret2
    exact TupPost.at HE.out (OwnA.empty hB.size) (ext_alloc hB _)
  · cases g2 : inB now 0 1000
    · have HE : Hid (viTouch long idle l who now = ([], false)) := Lib.hid (viTouch_out (by simp [g2]))
      go_enter Try.func25, Try.ntmps25
      go_wp2_with fail
      refine (specVisitsValid hU).mono ?_
      rintro e w1 ⟨rfl, hBc⟩
      replace hB := ext_trans hB hBc
      clear hBc
      go_wp2_with fail
      refine (l1In_any _ _ _ _).mono ?_
      rintro e w2 ⟨rfl, hBc⟩
      replace hB := ext_trans hB hBc
      clear hBc
      go_wp2
      go_ret2
      exact TupPost.at HE.out (OwnA.empty hB.size) (ext_alloc hB _)
    · have HIN := Lib.hid (viTouch_in (who := who) (show (viOk long idle l && inB now 0 1000) = true by simp [g1, g2]))
      have h6 : l.length ≤ 6 := (viOk_bounds g1).1
      have HEND := Lib.hid (viEnd_yes g1 g2)
      go_enter Try.func25, Try.ntmps25
      go_wp2_with fail
      refine (specVisitsValid hU).mono ?_
      rintro e w1 ⟨rfl, hBc⟩
      replace hB := ext_trans hB hBc
      replace q0 := below_cell hBc q0
      replace q1 := below_cell hBc q1
      replace hU := hU.below hBc
      clear hBc
      go_wp2_with fail
      refine (l1In_any _ _ _ _).mono ?_
      rintro e w2 ⟨rfl, hBc⟩
      replace hB := ext_trans hB hBc
      replace q0 := below_cell hBc q0
      replace q1 := below_cell hBc q1
      replace hU := hU.below hBc
      clear hBc
      go_wp2_with fail
      refine (specEndVisits hU).mono ?_
      rintro e w4 ⟨A4, c4, rfl, ho4, hBc⟩
      clear g1 g2
      rw [HEND.out] at ho4 ⊢
      obtain ⟨la, hla⟩ : ∃ la, la = viLast long idle now l := ⟨_, rfl⟩
      rw [← hla] at ho4 HIN ⊢
      have hlal : la.length ≤ l.length := by rw [hla]; exact viLast_len _ _ _ _
      have hb3 := hB.size
      replace hB := ext_trans hB hBc
      replace ho4 := own_lower ho4 hb3
      have hT0 : w4.ownsRow w.heap.size 38 3 (.slice A4 la.length c4) la.length ((viTT who now la 0).flatMap viEnc) := by rw [viTT_zero]; exact ho4
      clear hla hU q0 q1 hBc hb3 ho4
      go_wp2
      go_loopw [11, 12] (fun fv i wr => ∃ k : Nat, k ≤ la.length ∧ i = .int .i64 k ∧ fv = .bool (viAny who la k) ∧ wr.ownsRow w.heap.size 38 3 (.slice A4 la.length c4) la.length ((viTT who now la k).flatMap viEnc) ∧ Below w.heap.size w wr) (fun _ i _ => la.length - (intOf i).toNat)
      case atStart => exact ⟨0, Nat.zero_le _, rfl, rfl, hT0, hB⟩
      case round =>
        clear hT0 hB
        obtain ⟨k, hk, rfl, rfl, ho, hB⟩ := hrel
        by_cases hlt : k < la.length
        · obtain ⟨g, cap, hv, hBg, hglt⟩ := ho.form (by omega)
          simp only [Value.slice.injEq, true_and] at hv
          obtain ⟨rfl, rfl⟩ := hv
          have hR : viR wr (some ⟨g, 0, none⟩) (viTT who now la k) := viR.own (viTT_len _ _ _ _) (by omega) ho
          have hlen := viTT_len who now la k
          obtain ⟨b, off, e, hc⟩ := hR.cells (by omega)
          simp only [Option.some.injEq, Addr.mk.injEq, and_true] at e
          obtain ⟨rfl, rfl⟩ := e
          obtain ⟨c0, c1, c2⟩ := hc k (by omega)
          obtain ⟨e0, e1, e2⟩ := viTT_cells (who := who) (now := now) hlt
          rw [e0, Nat.zero_add] at c0
          rw [e2, Nat.zero_add] at c2
          have HFS := Lib.hid (flatMap_set (enc := viEnc) (sz := 3) (fun _ => rfl) (viSet who now la[k]) 2 (.int .i64 now) (by omega) (viTT who now la k) k (by rw [viTT_len]; exact hlt))
          have HAT := Lib.hid (viTT_at (who := who) (now := now) hlt)
          have HANY := Lib.hid (viAny_succ (who := who) hlt)
          have HSUC := Lib.hid (viTT_succ (who := who) (now := now) hlt)
          have HSKIP := Lib.hid (viTT_skip (who := who) (now := now) hlt)
          have HLEN := Lib.hid hlen
          have HEL := Lib.hid (vi_elem hlt)
          have z2 := ho.frozenAt (k * 3 + 2)
          have h5 := (ho.stored (k * 3 + 2) (.int .i64 now)).1
          have H5 := Lib.hid h5
          clear hR hc c1 e0 e1 e2 hlen h5
          cases gp : (vi0 la k == who)
          · go_wp2
            go_roundw
            case rel =>
              have hne : vi0 la k ≠ who := by simpa using gp
              exact ⟨k + 1, by omega, by go_num, by rw [HANY.out]; simp [hne], by rw [HSKIP.out hne]; exact ho, hB⟩
            case measure => simp [intOf]; omega
          · go_wp2
            go_roundw
            case rel =>
              have hne : vi0 la k = who := by simpa using gp
              refine ⟨k + 1, by omega, by go_num, by rw [HANY.out]; simp [hne], ?_, setCells_below hBg [.int .i64 now] (k * 3 + 2) hB⟩
              rw [HSUC.out, ← HFS.out ?_]
              · exact H5.out
              · have h7 := HAT.out
                have h8 := HLEN.out
                have h9 : (viTT who now la k)[k]'(by omega) = la[k] := by simpa [List.getD_eq_getElem?_getD, hlt, h8] using h7
                rw [h9, viSet, if_pos (by rw [← HEL.out]; exact hne)]
                rfl
            case measure => simp [intOf]; omega
        · obtain rfl : k = la.length := by omega
          have HE : Hid (viTouch long idle l who now = (viTT who now la la.length, viAny who la la.length)) := Lib.hid (by rw [HIN.out, viTT_all, viAny, List.take_length])
          have hls := viTT_len who now la la.length
          have hfin : OwnA w.heap.size 38 3 viEnc wr (.slice A4 la.length c4) (viTT who now la la.length) := ⟨A4, c4, by rw [hls], by rw [hls]; exact ho⟩
          have HFIN := Lib.hid hfin
          clear hls hfin
          go_wp2
          go_ret2
          exact TupPost.at HE.out HFIN.out hB
end Go.Proofs.Ytflhmkpabhedjaa

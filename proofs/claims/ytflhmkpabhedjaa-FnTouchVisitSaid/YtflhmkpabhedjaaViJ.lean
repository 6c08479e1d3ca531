/- BeginVisit of the reference; TouchVisit. -/
import Derived.Test.YtflhmkpabhedjaaViI
namespace Go.Proofs.Ytflhmkpabhedjaa
open Go.RowKit

set_option maxRecDepth 100000 in
set_option maxHeartbeats 8000000 in
theorem specBeginVisit {A : Option Addr} {l : ViL} {c : Nat} {long idle who now : Int} {w : World} (hU : viR w A l) :
    Calls Try.prog 28 #[.agg #[.int .i64 long, .int .i64 idle], .slice A l.length c, .int .i64 who, .int .i64 now] w (TupPost 38 3 viEnc w (viBegin long idle l who now).1 (viBegin long idle l who now).2) := by
  have q0 := box_cell w #[.int .i64 long, .int .i64 idle] 27 0 (.int .i64 long) rfl
  have q1 := box_cell w #[.int .i64 long, .int .i64 idle] 27 1 (.int .i64 idle) rfl
  have hB := below_alloc w (.cells #[.int .i64 long, .int .i64 idle] 27)
  replace hU := hU.below hB
  cases g1 : viOk long idle l
  · have HE : Hid (viBegin long idle l who now = ([], false)) := Lib.hid (viBegin_out (by simp [g1]))
    go_enter Try.func28, Try.ntmps28
    go_wp2_with fail
    refine (specVisitsValid hU).mono ?_
    rintro e w1 ⟨rfl, hBc⟩
    replace hB := ext_trans hB hBc
    clear hBc
    go_wp2
    go_ret2
    exact TupPost.at HE.out (OwnA.empty hB.size) (ext_alloc hB _)
  · cases g3 : inB who 0 6
    · have HE : Hid (viBegin long idle l who now = ([], false)) := Lib.hid (viBegin_out (by simp [g3]))
      go_enter Try.func28, Try.ntmps28
      go_wp2_with fail
      refine (specVisitsValid hU).mono ?_
      rintro e w1 ⟨rfl, hBc⟩
      replace hB := ext_trans hB hBc
      clear hBc
      go_wp2_with fail
      refine (l1In_any _ _ _ _).mono ?_
      rintro e w2 ⟨rfl, hBc⟩
      replace hB := ext_trans hB hBc
      clear hBc
      go_wp2
      go_ret2
      exact TupPost.at HE.out (OwnA.empty hB.size) (ext_alloc hB _)
    · cases g2 : inB now 0 1000
      · have HE : Hid (viBegin long idle l who now = ([], false)) := Lib.hid (viBegin_out (by simp [g2]))
        go_enter Try.func28, Try.ntmps28
        go_wp2_with fail
        refine (specVisitsValid hU).mono ?_
        rintro e w1 ⟨rfl, hBc⟩
        replace hB := ext_trans hB hBc
        clear hBc
        go_wp2_with fail
        refine (l1In_any _ _ _ _).mono ?_
        rintro e w2 ⟨rfl, hBc⟩
        replace hB := ext_trans hB hBc
        clear hBc
        go_wp2_with fail
        refine (l1In_any _ _ _ _).mono ?_
        rintro e w3 ⟨rfl, hBc⟩
        replace hB := ext_trans hB hBc
        clear hBc
        go_wp2
        go_ret2
        exact TupPost.at HE.out (OwnA.empty hB.size) (ext_alloc hB _)
      · have hall : (viOk long idle l && (inB now 0 1000 && inB who 0 6)) = true := by simp [g1, g2, g3]
        have h6 : l.length ≤ 6 := (viOk_bounds g1).1
        have HEND := Lib.hid (viEnd_yes g1 g2)
        have HALL := Lib.hid hall
        clear hall
        go_enter Try.func28, Try.ntmps28
        go_wp2_with fail
        refine (specVisitsValid hU).mono ?_
        rintro e w1 ⟨rfl, hBc⟩
        replace hB := ext_trans hB hBc
        replace q0 := below_cell hBc q0
        replace q1 := below_cell hBc q1
        replace hU := hU.below hBc
        clear hBc
        go_wp2_with fail
        refine (l1In_any _ _ _ _).mono ?_
        rintro e w2 ⟨rfl, hBc⟩
        replace hB := ext_trans hB hBc
        replace q0 := below_cell hBc q0
        replace q1 := below_cell hBc q1
        replace hU := hU.below hBc
        clear hBc
        go_wp2_with fail
        refine (l1In_any _ _ _ _).mono ?_
        rintro e w3 ⟨rfl, hBc⟩
        replace hB := ext_trans hB hBc
        replace q0 := below_cell hBc q0
        replace q1 := below_cell hBc q1
        replace hU := hU.below hBc
        clear hBc
        go_wp2_with fail
        refine (specEndVisits hU).mono ?_
        rintro e w4 ⟨A4, c4, rfl, ho4, hBc⟩
        clear g1 g2 g3
        rw [HEND.out] at ho4 ⊢
        obtain ⟨la, hla⟩ : ∃ la, la = viLast long idle now l := ⟨_, rfl⟩
        rw [← hla] at ho4 ⊢
        have hlal : la.length ≤ l.length := by rw [hla]; exact viLast_len _ _ _ _
        have hb3 := hB.size
        have HLA := Lib.hid hla
        replace hB := ext_trans hB hBc
        replace ho4 := own_lower ho4 hb3
        clear hla hU q0 q1 hBc hb3
        have hR : viR w4 A4 la := viR.own rfl (by omega) ho4
        have hwl := fun k hk => (ho4.lt k hk).2
        have HWL := Lib.hid hwl
        have hO0 : OwnA w4.heap.size 38 3 viEnc (w4.alloc (.cells #[] 38)) (.slice (some ⟨w4.heap.size, 0, none⟩) 0 0) ([] : ViL) := OwnA.empty (Nat.le_refl _)
        clear hwl
        go_wp2_with fail
        go_loopw [11, 12] (fun ov i wr => ∃ k : Nat, k ≤ la.length ∧ i = .int .i64 k ∧ OwnA w4.heap.size 38 3 viEnc wr ov ((la.take k).filter (viNot who)) ∧ Below w4.heap.size w4 wr) (fun _ i _ => la.length - (intOf i).toNat)
        case atStart => exact ⟨0, Nat.zero_le _, rfl, hO0, below_alloc _ _⟩
        case round =>
          clear hO0
          obtain ⟨k, hk, rfl, hO, hC⟩ := hrel
          have hlk : ((la.take k).filter (viNot who)).length ≤ k := Nat.le_trans (List.length_filter_le _ _) (by simp; omega)
          by_cases hlt : k < la.length
          · obtain ⟨b, off, rfl, hc⟩ := hR.cells (by omega)
            obtain ⟨c0, c1, c2⟩ := hc k hlt
            have m0 := below_cell hC c0
            have m1 := below_cell hC c1
            have m2 := below_cell hC c2
            have HS := Lib.hid (filter_succ (who := who) hlt)
            have HI : Hid (viIs who la k = decide (vi0 la k = who)) := Lib.hid rfl
            have HEL := Lib.hid (vi_elem hlt)
            clear c0 c1 c2 hc
            cases gp : (vi0 la k != who)
            · have hn : viIs who la k = true := by rw [HI.out]; simpa using gp
              have HN := Lib.hid hn
              clear hn
              go_wp2
              go_roundw
              case rel => exact ⟨k + 1, by omega, by go_num, hO.eq (by rw [HS.out, if_pos HN.out]), hC⟩
              case measure => simp [intOf]; omega
            · have hn : viIs who la k = false := by rw [HI.out]; simpa using gp
              have HN := Lib.hid hn
              clear hn
              go_wp2_with (at_builtin; go_must (refine wpList_push (enc := viEnc) ((vi0 la k, vi1 la k, vi2 la k)) rfl (.tmp 46) (.tmp 51) 29 38 _ 3 24 rfl Try.underlying29 Try.infoVisit rfl (by decide) (fun _ => rfl) viEnc_one (hO.below (by (repeat (first | exact Below.refl _ _ | refine ext_alloc ?_ _ | refine Below.setCell ?_ (by simp) _)))) rfl (heap_alloc_at (by simp)) (by rfl) (by omega) (by omega) (Nat.le_trans hC.size (show Below _ _ _ by (repeat (first | exact Below.refl _ _ | refine ext_alloc ?_ _ | refine Below.setCell ?_ (by simp) _))).size) ?_); intro v_ wq1 ho_ hb_ hg_)
              replace hC := (ext_trans hC (by (repeat (first | exact Below.refl _ _ | refine ext_alloc ?_ _ | refine Below.setCell ?_ (by simp) _)))).trans hb_
              replace hO := ho_
              clear ho_ hb_ hg_
              go_wp2
              go_roundw
              case rel => exact ⟨k + 1, by omega, by go_num, hO.eq (by rw [HS.out, if_neg (by rw [HN.out]; simp), HEL.out]), hC⟩
              case measure => simp [intOf]; omega
          · obtain rfl : k = la.length := by omega
            rw [List.take_length] at hO hlk
            obtain ⟨fl, hfl⟩ : ∃ fl, fl = la.filter (viNot who) := ⟨_, rfl⟩
            rw [← hfl] at hO hlk
            have HFL := Lib.hid (hfl.trans (by rw [HLA.out]))
            obtain ⟨A6, c6, rfl, ho6⟩ := hO
            have hsz4 := hB.size
            clear hfl
            by_cases h6e : fl.length = 6
            · have HE : Hid (viBegin long idle l who now = (la, false)) := Lib.hid (by rw [viBegin_full HALL.out (by rw [← HFL.out]; exact h6e), HLA.out])
              have h6' : ((fl.length : Int) == 6) = true := by simp [h6e]
              clear h6e
              go_wp2
              go_ret2
              exact TupPost.at HE.out (OwnA.of (own_under ho4 hC HWL.out)) (hB.trans (hC.mono hsz4))
            · have HE : Hid (viBegin long idle l who now = (fl ++ [(who, now, now)], true)) := Lib.hid (by rw [viBegin_in HALL.out (by rw [← HFL.out]; exact h6e), HFL.out])
              have h6' : ((fl.length : Int) == 6) = false := by simp; omega
              clear h6e ho4
              have hO : OwnA w4.heap.size 38 3 viEnc wr (.slice A6 fl.length c6) fl := OwnA.of ho6
              clear ho6
              go_wp2_with (at_builtin; go_must (refine wpList_push (enc := viEnc) ((who, now, now)) rfl (.tmp 57) (.tmp 62) 29 38 _ 3 24 rfl Try.underlying29 Try.infoVisit rfl (by decide) (fun _ => rfl) viEnc_one (hO.below (by (repeat (first | exact Below.refl _ _ | refine ext_alloc ?_ _ | refine Below.setCell ?_ (by simp) _)))) rfl (heap_alloc_at (by simp)) (by rfl) (by omega) (by omega) (Nat.le_trans hC.size (show Below _ _ _ by (repeat (first | exact Below.refl _ _ | refine ext_alloc ?_ _ | refine Below.setCell ?_ (by simp) _))).size) ?_); intro v_ wq2 ho_ hb_ hg_)
              replace hC := (ext_trans hC (by (repeat (first | exact Below.refl _ _ | refine ext_alloc ?_ _ | refine Below.setCell ?_ (by simp) _)))).trans hb_
              replace hO := ho_
              clear ho_ hb_ hg_
              go_wp2
              go_ret2
              exact TupPost.at HE.out (hO.lower hsz4) (hB.trans (hC.mono hsz4))

/-! ### TouchVisit -/
theorem flatMap_set {α : Type} {enc : α → List Value} {sz : Nat} (henc : ∀ a, (enc a).length = sz) (u : α) (j : Nat) (v : Value) (hj : j < sz) : ∀ (l : List α) (m : Nat) (hm : m < l.length), enc u = (enc l[m]).set j v → (l.flatMap enc).set (m * sz + j) v = (l.set m u).flatMap enc
  | a :: l, 0, _, h => by
    simp only [List.getElem_cons_zero] at h
    rw [List.flatMap_cons, List.set_cons_zero, List.flatMap_cons, h, Nat.zero_mul, Nat.zero_add, List.set_append_left _ _ (by rw [henc]; exact hj)]
  | a :: l, m + 1, hm, h => by
    simp only [List.getElem_cons_succ] at h
    have e : (m + 1) * sz + j - sz = m * sz + j := by rw [Nat.add_mul]; omega
    rw [List.flatMap_cons, List.set_cons_succ, List.flatMap_cons, List.set_append_right _ _ (by rw [henc, Nat.add_mul]; omega), henc, e, flatMap_set henc u j v hj l m (by simpa using hm) h]
theorem viTouch_out {long idle who now : Int} {l : ViL} (h : (viOk long idle l && inB now 0 1000) = false) : viTouch long idle l who now = ([], false) := by
  simp only [viTouch, h]; rfl
theorem viTouch_in {long idle who now : Int} {l : ViL} (h : (viOk long idle l && inB now 0 1000) = true) : viTouch long idle l who now = ((viLast long idle now l).map (viSet who now), (viLast long idle now l).any (fun v => decide (v.1 = who))) := by
  simp only [viTouch, h, if_true]
theorem touch_none {who now : Int} {l : ViL} (h : ∀ j, j < l.length → viIs who l j = false) : l.map (viSet who now) = l ∧ l.any (fun v => decide (v.1 = who)) = false := by
  have hv : ∀ v ∈ l, v.1 ≠ who := fun v hv => by
    obtain ⟨k, hk, rfl⟩ := List.getElem_of_mem hv
    have := h k hk
    have e : l[k].1 = vi0 l k := by rw [← vi_elem hk]
    rw [e]
    simpa [viIs] using this
  constructor
  · conv => rhs; rw [← List.map_id l]
    exact List.map_congr_left fun v hv' => by simp [viSet, hv v hv']
  · rw [List.any_eq_false]
    intro v hv'
    simpa using hv v hv'
theorem touch_one {who now : Int} {l : ViL} (ha : viApart l) {k : Nat} (hk : k < l.length) (h : viIs who l k = true) : l.map (viSet who now) = l.set k (vi0 l k, vi1 l k, now) ∧ l.any (fun v => decide (v.1 = who)) = true := by
  have hk0 : l[k].1 = who := by
    have e : l[k].1 = vi0 l k := by rw [← vi_elem hk]
    rw [e]
    simpa [viIs] using h
  constructor
  · apply List.ext_getElem (by simp)
    intro j h1 h2
    simp only [List.length_map] at h1
    rw [List.getElem_map, List.getElem_set]
    by_cases e : k = j
    · subst e
      rw [if_pos rfl]
      have e1 := vi_elem hk
      simp only [viSet, hk0, if_true]
      rw [← e1] at hk0
      simp only at hk0
      rw [← e1]
      simp [hk0]
    · rw [if_neg e]
      have hne : l[j].1 ≠ who := by
        rcases Nat.lt_or_gt_of_ne e with h3 | h3
        · have := List.pairwise_iff_getElem.1 ha k j hk h1 h3
          rw [hk0] at this; exact fun e => this e.symm
        · have := List.pairwise_iff_getElem.1 ha j k h1 hk h3
          rw [hk0] at this; exact this
      simp [viSet, hne]
  · rw [List.any_eq_true]
    exact ⟨l[k], List.getElem_mem hk, by simpa using hk0⟩
theorem viLast_apart {long idle now : Int} {l : ViL} (h : viOk long idle l = true) : viApart (viLast long idle now l) :=
  (viAll_apart (viOk_bounds h).2.2.2).sublist (viLast_sub _ _ _ _)

set_option maxRecDepth 100000 in
set_option maxHeartbeats 8000000 in
theorem implTouchVisit {A : Option Addr} {l : ViL} {c : Nat} {long idle who now : Int} {w : World} (hU : viR w A l) :
    Calls Try.prog 26 #[.agg #[.int .i64 long, .int .i64 idle], .slice A l.length c, .int .i64 who, .int .i64 now] w (TupPost 38 3 viEnc w (viTouch long idle l who now).1 (viTouch long idle l who now).2) := by
  obtain ⟨W1, hW1⟩ : ∃ W, W = w.alloc (.cells #[.int .i64 long, .int .i64 idle] 27) := ⟨_, rfl⟩
  obtain ⟨W, hW⟩ : ∃ W, W = W1.alloc (.cells #[.int .i64 who] 3) := ⟨_, rfl⟩
  have hB1 : Below w.heap.size w W1 := by rw [hW1]; exact below_alloc _ _
  have hB2 : Below W1.heap.size W1 W := by rw [hW]; exact below_alloc _ _
  have hs : w.heap.size + 1 = W1.heap.size := by rw [hW1]; simp
  have q0 : W.cell? ⟨w.heap.size, 0, none⟩ = some (.int .i64 long) := below_cell hB2 (by rw [hW1]; exact box_cell_at rfl rfl)
  have q1 : W.cell? ⟨w.heap.size, 1, none⟩ = some (.int .i64 idle) := below_cell hB2 (by rw [hW1]; exact box_cell_at rfl rfl)
  have q2 : W.cell? ⟨w.heap.size + 1, 0, none⟩ = some (.int .i64 who) := by rw [hW]; exact box_cell_at hs rfl
  have hB := ext_trans hB1 hB2
  replace hU := hU.below hB
  have HW1 := Lib.hid hW1
  have HW := Lib.hid hW
  clear hW1 hW hs hB1 hB2
  cases g1 : viOk long idle l
  · have HE : Hid (viTouch long idle l who now = ([], false)) := Lib.hid (viTouch_out (by simp [g1]))
    go_enter Try.func26, Try.ntmps26
    go_wp2_with fail
    rw [← HW1.out, ← HW.out]
    refine (implVisitsValid hU).mono ?_
    rintro e w1 ⟨rfl, hBc⟩
    replace hB := ext_trans hB hBc
    clear hBc
    go_wp2
    go_ret2
    exact TupPost.at HE.out OwnA.nil hB
  · cases g2 : inB now 0 1000
    · have HE : Hid (viTouch long idle l who now = ([], false)) := Lib.hid (viTouch_out (by simp [g2]))
      go_enter Try.func26, Try.ntmps26
      go_wp2_with fail
      rw [← HW1.out, ← HW.out]
      refine (implVisitsValid hU).mono ?_
      rintro e w1 ⟨rfl, hBc⟩
      replace hB := ext_trans hB hBc
      clear hBc
      go_wp2_with fail
      refine (isTime_any _ _).mono ?_
      rintro e w2 ⟨rfl, hBc⟩
      replace hB := ext_trans hB hBc
      clear hBc
      go_wp2
      go_ret2
      exact TupPost.at HE.out OwnA.nil hB
    · have HIN := Lib.hid (viTouch_in (who := who) (show (viOk long idle l && inB now 0 1000) = true by simp [g1, g2]))
      have HAP := Lib.hid (viLast_apart (now := now) g1)
      obtain ⟨n0, n1⟩ := inB_true.1 g2
      have h6 : l.length ≤ 6 := (viOk_bounds g1).1
      have HG := Lib.hid g1
      go_enter Try.func26, Try.ntmps26
      go_wp2_with fail
      rw [← HW1.out, ← HW.out]
      refine (implVisitsValid hU).mono ?_
      rintro e w1 ⟨rfl, hBc⟩
      replace hB := ext_trans hB hBc
      replace q0 := below_cell hBc q0
      replace q1 := below_cell hBc q1
      replace q2 := below_cell hBc q2
      replace hU := hU.below hBc
      clear hBc
      go_wp2_with fail
      refine (isTime_any _ _).mono ?_
      rintro e w2 ⟨rfl, hBc⟩
      replace hB := ext_trans hB hBc
      replace q0 := below_cell hBc q0
      replace q1 := below_cell hBc q1
      replace q2 := below_cell hBc q2
      replace hU := hU.below hBc
      clear hBc
      go_wp2_with fail
      refine (lasting_any hU HG.out n0 n1).mono ?_
      rintro e w4 ⟨A4, c4, rfl, ho4, hBc⟩
      clear g1 g2
      obtain ⟨la, hla⟩ : ∃ la, la = viLast long idle now l := ⟨_, rfl⟩
      rw [← hla] at ho4 HIN HAP ⊢
      have hlal : la.length ≤ l.length := by rw [hla]; exact viLast_len _ _ _ _
      have hb3 := hB.size
      replace hB := ext_trans hB hBc
      replace q2 := below_cell hBc q2
      replace ho4 := own_lower ho4 hb3
      clear hla hU q0 q1 hBc hb3
      have hR : viR w4 A4 la := viR.own rfl (by omega) ho4
      rcases firstOf_cases (p := viIs who la) la.length 0 with ⟨h1, h2⟩ | ⟨k, h1, _, h3, h4, h5⟩
      · have HI : Hid (viIdx who la = -1) := Lib.hid h1
        have HE : Hid (viTouch long idle l who now = (la, false)) := Lib.hid (by
          obtain ⟨e1, e2⟩ := touch_none (now := now) (fun j hj => h2 j (by omega) (by omega))
          rw [HIN.out, e1, e2])
        clear h1 h2
        go_wp2_with fail
        refine (indexFunc_touch hR q2).mono ?_
        rintro e w5 ⟨rfl, hBc⟩
        rw [HI.out]
        replace ho4 := own_below ho4 hBc
        replace hB := ext_trans hB hBc
        go_wp2
        go_ret2
        exact TupPost.at HE.out (OwnA.of ho4) hB
      · have HI : Hid (viIdx who la = k) := Lib.hid h1
        have hk : k < la.length := by omega
        have HE : Hid (viTouch long idle l who now = (la.set k (vi0 la k, vi1 la k, now), true)) := Lib.hid (by
          obtain ⟨e1, e2⟩ := touch_one (now := now) HAP.out hk h4
          rw [HIN.out, e1, e2])
        have HFS := Lib.hid (flatMap_set (enc := viEnc) (sz := 3) (fun _ => rfl) (vi0 la k, vi1 la k, now) 2 (.int .i64 now) (by omega) la k hk (by rw [← vi_elem hk]; rfl))
        clear h1 h3 h4 h5
        obtain ⟨g, rfl, hc1, hc2⟩ : ∃ g, A4 = some ⟨g, 0, none⟩ ∧ la.length ≤ c4 ∧ c4 ≤ 9223372036854775807 := by
          rcases own_split2 ho4 with ⟨_, h, _⟩ | h
          · omega
          · exact h
        have hgB := (own_lt ho4).1
        go_wp2_with fail
        refine (indexFunc_touch hR q2).mono ?_
        rintro e w5 ⟨rfl, hBc⟩
        rw [HI.out]
        replace ho4 := own_below ho4 hBc
        replace hB := ext_trans hB hBc
        clear hBc hR q2
        obtain ⟨v2, f2⟩ := own_cell ho4 (j := k * 3 + 2) (by omega)
        have z2 := ho4.frozenAt (k * 3 + 2)
        have h5 := (ho4.stored (k * 3 + 2) (.int .i64 now)).1
        rw [HFS.out] at h5
        have hk0 : ¬ (k : Int) < 0 := by omega
        go_wp2
        go_ret2
        have hls : (la.set k (vi0 la k, vi1 la k, now)).length = la.length := by simp
        have hfin : OwnA w.heap.size 38 3 viEnc (w5.setCell ⟨g, k * 3 + 2, none⟩ (.int .i64 now)) (.slice (some ⟨g, 0, none⟩) la.length c4) (la.set k (vi0 la k, vi1 la k, now)) := ⟨some ⟨g, 0, none⟩, c4, by rw [hls], by rw [hls]; exact h5⟩
        exact TupPost.at HE.out hfin (setCells_below hgB [.int .i64 now] (k * 3 + 2) hB)
end Go.Proofs.Ytflhmkpabhedjaa

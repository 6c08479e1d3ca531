/- BeginVisit. -/
import Derived.Test.YtflhmkpabhedjaaViH
import Derived.Test.YtflhmkpabhedjaaViB
namespace Go.Proofs.Ytflhmkpabhedjaa
open Go.RowKit

theorem own_under {B B0 sz n : Nat} {e : TypeId} {w w' : World} {v : Value} {xs : List Value} (h : w.ownsRow B0 e sz v n xs) (hb : Below B w w') (hlt : ∀ k, v.ownBlock = some k → k < B) : w'.ownsRow B0 e sz v n xs := by
  refine ⟨h.1, ?_⟩
  rcases h.2 with h0 | ⟨g, cap, cur, hv, hB, hx, hrest⟩
  · exact .inl h0
  · exact .inr ⟨g, cap, cur, hv, hB, (hb.block g (hlt g (by rw [hv]; rfl))).trans hx, hrest⟩
theorem OwnA.under {α : Type} {B B0 sz : Nat} {e : TypeId} {enc : α → List Value} {w w' : World} {v : Value} {l : List α} (h : OwnA B0 e sz enc w v l) (hb : Below B w w') (hlt : ∀ k, v.ownBlock = some k → k < B) : OwnA B0 e sz enc w' v l := by
  obtain ⟨A, c, rfl, ho⟩ := h
  exact ⟨A, c, rfl, own_under ho hb hlt⟩
theorem own_nil {B sz c : Nat} {e : TypeId} {w : World} {A : Option Addr} {l : ViL} {xs : List Value} (h : w.ownsRow B e sz (.slice A l.length c) l.length xs) : A = Option.none → l = [] := by
  intro hA
  rcases own_split2 h with ⟨_, h0, _⟩ | ⟨g, h1, _⟩
  · exact List.eq_nil_of_length_eq_zero h0
  · rw [hA] at h1; cases h1
theorem viBegin_out {long idle who now : Int} {l : ViL} (h : (viOk long idle l && (inB now 0 1000 && inB who 0 6)) = false) : viBegin long idle l who now = ([], false) := by
  simp only [viBegin, h]; rfl
theorem viBegin_full {long idle who now : Int} {l : ViL} (h : (viOk long idle l && (inB now 0 1000 && inB who 0 6)) = true) (h6 : ((viLast long idle now l).filter (viNot who)).length = 6) : viBegin long idle l who now = (viLast long idle now l, false) := by
  have h6' : ((viLast long idle now l).filter (fun v => decide (v.1 ≠ who))).length = 6 := h6
  simp only [viBegin, h, if_true, h6', if_pos]
theorem viBegin_in {long idle who now : Int} {l : ViL} (h : (viOk long idle l && (inB now 0 1000 && inB who 0 6)) = true) (h6 : ((viLast long idle now l).filter (viNot who)).length ≠ 6) : viBegin long idle l who now = ((viLast long idle now l).filter (viNot who) ++ [(who, now, now)], true) := by
  have h6' : ¬ ((viLast long idle now l).filter (fun v => decide (v.1 ≠ who))).length = 6 := h6
  simp only [viBegin, h, if_true, h6', if_false]; rfl
theorem TupPost.at {α : Type} {e : TypeId} {sz : Nat} {enc : α → List Value} {w w' : World} {l : List α} {b : Bool} {r : List α × Bool} {v : Value} (hr : r = (l, b)) (ho : OwnA w.heap.size e sz enc w' v l) (hB : Below w.heap.size w w') : TupPost e sz enc w r.1 r.2 (.returned (.tuple #[v, .bool b])) w' := by
  subst hr; exact TupPost.ofA rfl rfl ho hB

set_option maxRecDepth 100000 in
set_option maxHeartbeats 8000000 in
theorem implBeginVisit {A : Option Addr} {l : ViL} {c : Nat} {long idle who now : Int} {w : World} (hU : viR w A l) :
    Calls Try.prog 29 #[.agg #[.int .i64 long, .int .i64 idle], .slice A l.length c, .int .i64 who, .int .i64 now] w (TupPost 38 3 viEnc w (viBegin long idle l who now).1 (viBegin long idle l who now).2) := by
  obtain ⟨W1, hW1⟩ : ∃ W, W = w.alloc (.cells #[.int .i64 long, .int .i64 idle] 27) := ⟨_, rfl⟩
  obtain ⟨W, hW⟩ : ∃ W, W = W1.alloc (.cells #[.int .i64 who] 3) := ⟨_, rfl⟩
  have hB1 : Below w.heap.size w W1 := by rw [hW1]; exact below_alloc _ _
  have hB2 : Below W1.heap.size W1 W := by rw [hW]; exact below_alloc _ _
  have hs : w.heap.size + 1 = W1.heap.size := by rw [hW1]; simp
  have hs2 : W.heap.size = w.heap.size + 2 := by rw [hW]; simp; omega
  have q0 : W.cell? ⟨w.heap.size, 0, none⟩ = some (.int .i64 long) := below_cell hB2 (by rw [hW1]; exact box_cell_at rfl rfl)
  have q1 : W.cell? ⟨w.heap.size, 1, none⟩ = some (.int .i64 idle) := below_cell hB2 (by rw [hW1]; exact box_cell_at rfl rfl)
  have q2 : W.cell? ⟨w.heap.size + 1, 0, none⟩ = some (.int .i64 who) := by rw [hW]; exact box_cell_at hs rfl
  have hB := ext_trans hB1 hB2
  have hBs : w.heap.size + 1 < W.heap.size := by omega
  replace hU := hU.below hB
  have HW1 := Lib.hid hW1
  have HW := Lib.hid hW
  clear hW1 hW hs hs2 hB1 hB2
  cases g1 : viOk long idle l
  · have HE : Hid (viBegin long idle l who now = ([], false)) := Lib.hid (viBegin_out (by simp [g1]))
    go_enter Try.func29, Try.ntmps29
    go_wp2_with fail
    rw [← HW1.out, ← HW.out]
    refine (implVisitsValid hU).mono ?_
    rintro e w1 ⟨rfl, hBc⟩
    replace hB := ext_trans hB hBc
    clear hBc
    go_wp2
    go_ret2
    exact TupPost.at HE.out OwnA.nil hB
  · cases g2 : inB now 0 1000
    · have HE : Hid (viBegin long idle l who now = ([], false)) := Lib.hid (viBegin_out (by simp [g2]))
      go_enter Try.func29, Try.ntmps29
      go_wp2_with fail
      rw [← HW1.out, ← HW.out]
      refine (implVisitsValid hU).mono ?_
      rintro e w1 ⟨rfl, hBc⟩
      replace hB := ext_trans hB hBc
      clear hBc
      go_wp2_with fail
      refine (isTime_any _ _).mono ?_
      rintro e w2 ⟨rfl, hBc⟩
      replace hB := ext_trans hB hBc
      clear hBc
      go_wp2
      go_ret2
      exact TupPost.at HE.out OwnA.nil hB
    · cases g3 : inB who 0 6
      · have HE : Hid (viBegin long idle l who now = ([], false)) := Lib.hid (viBegin_out (by simp [g3]))
        go_enter Try.func29, Try.ntmps29
        go_wp2_with fail
        rw [← HW1.out, ← HW.out]
        refine (implVisitsValid hU).mono ?_
        rintro e w1 ⟨rfl, hBc⟩
        replace hB := ext_trans hB hBc
        replace q2 := below_cell hBc q2
        clear hBc
        go_wp2_with fail
        refine (isTime_any _ _).mono ?_
        rintro e w2 ⟨rfl, hBc⟩
        replace hB := ext_trans hB hBc
        replace q2 := below_cell hBc q2
        clear hBc
        go_wp2_with fail
        refine (isPerson_any _ _).mono ?_
        rintro e w3 ⟨rfl, hBc⟩
        replace hB := ext_trans hB hBc
        replace q2 := below_cell hBc q2
        clear hBc
        go_wp2
        go_ret2
        exact TupPost.at HE.out OwnA.nil hB
      · have hall : (viOk long idle l && (inB now 0 1000 && inB who 0 6)) = true := by simp [g1, g2, g3]
        obtain ⟨n0, n1⟩ := inB_true.1 g2
        have h6 : l.length ≤ 6 := (viOk_bounds g1).1
        have HG := Lib.hid g1
        have HALL := Lib.hid hall
        clear hall
        go_enter Try.func29, Try.ntmps29
        go_wp2_with fail
        rw [← HW1.out, ← HW.out]
        refine (implVisitsValid hU).mono ?_
        rintro e w1 ⟨rfl, hBc⟩
        replace hB := ext_trans hB hBc
        replace q0 := below_cell hBc q0
        replace q1 := below_cell hBc q1
        replace q2 := below_cell hBc q2
        replace hU := hU.below hBc
        clear hBc
        go_wp2_with fail
        refine (isTime_any _ _).mono ?_
        rintro e w2 ⟨rfl, hBc⟩
        replace hB := ext_trans hB hBc
        replace q0 := below_cell hBc q0
        replace q1 := below_cell hBc q1
        replace q2 := below_cell hBc q2
        replace hU := hU.below hBc
        clear hBc
        go_wp2_with fail
        refine (isPerson_any _ _).mono ?_
        rintro e w3 ⟨rfl, hBc⟩
        replace hB := ext_trans hB hBc
        replace q0 := below_cell hBc q0
        replace q1 := below_cell hBc q1
        replace q2 := below_cell hBc q2
        replace hU := hU.below hBc
        clear hBc
        go_wp2_with fail
        refine (lasting_any hU HG.out n0 n1).mono ?_
        rintro e w4 ⟨A4, c4, rfl, ho4, hBc⟩
        clear g1 g2 g3
        obtain ⟨la, hla⟩ : ∃ la, la = viLast long idle now l := ⟨_, rfl⟩
        rw [← hla] at ho4 ⊢
        have hlal : la.length ≤ l.length := by rw [hla]; exact viLast_len _ _ _ _
        have hb3 := hB.size
        have HLA := Lib.hid hla
        replace hB := ext_trans hB hBc
        replace q2 := below_cell hBc q2
        replace ho4 := own_lower ho4 hb3
        have hbw4 : w.heap.size + 1 < w4.heap.size := by simpa using block_lt_of_cell q2
        clear hla hU q0 q1 hBc hb3
        go_wp2_with fail
        refine (clone_any (viR.own rfl (by omega) ho4) (own_nil ho4) (by omega)).mono ?_
        rintro e w5 ⟨A5, c5, rfl, ho5, hBc⟩
        have hwl := fun k hk => (ho4.lt k hk).2
        have HWL := Lib.hid hwl
        have h45 := hBc.size
        replace ho4 := own_below ho4 hBc
        replace hB := ext_trans hB hBc
        replace q2 := below_cell hBc q2
        clear hBc hwl
        go_wp2_with fail
        refine (deleteFunc_begin (B := w4.heap.size) h45 (OwnA.of ho5) (by omega) q2 hbw4).mono ?_
        rintro e w6 ⟨_, rfl, ⟨A6, c6, rfl, ho6⟩, hD⟩
        obtain ⟨fl, hfl⟩ : ∃ fl, fl = la.filter (viNot who) := ⟨_, rfl⟩
        rw [← hfl] at ho6 ⊢
        have hfll : fl.length ≤ la.length := by rw [hfl]; exact List.length_filter_le _ _
        replace ho4 := own_under ho4 hD HWL.out
        replace hB := hB.trans (hD.mono (by omega))
        replace q2 := (hD.cell (p := ⟨w.heap.size + 1, 0, none⟩) hbw4).trans q2
        have hb6 := hB.size
        have HFL := Lib.hid (hfl.trans (by rw [HLA.out]))
        clear ho5 hD hfl h45
        by_cases h6e : fl.length = 6
        · have HE : Hid (viBegin long idle l who now = (la, false)) := Lib.hid (by rw [viBegin_full HALL.out (by rw [← HFL.out]; exact h6e), HLA.out])
          have h6' : ((fl.length : Int) == 6) = true := by simp [h6e]
          clear h6e
          go_wp2
          go_ret2
          exact TupPost.at HE.out (OwnA.of ho4) hB
        · have HE : Hid (viBegin long idle l who now = (fl ++ [(who, now, now)], true)) := Lib.hid (by rw [viBegin_in HALL.out (by rw [← HFL.out]; exact h6e), HFL.out])
          have h6' : ((fl.length : Int) == 6) = false := by simp; omega
          clear h6e ho4
          have hO : OwnA w.heap.size 38 3 viEnc w6 (.slice A6 fl.length c6) fl := (OwnA.of ho6).lower (by omega)
          clear ho6
          go_wp2_with (at_builtin; go_must (refine wpList_push (enc := viEnc) ((who, now, now)) rfl (.tmp 38) (.tmp 43) 29 38 _ 3 24 rfl Try.underlying29 Try.infoVisit rfl (by decide) (fun _ => rfl) viEnc_one (hO.below (by (repeat (first | exact Below.refl _ _ | refine ext_alloc ?_ _ | refine Below.setCell ?_ (by simp) _)))) rfl (heap_alloc_at (by simp)) (by rfl) (by omega) (by omega) (Nat.le_trans hB.size (show Below _ _ _ by (repeat (first | exact Below.refl _ _ | refine ext_alloc ?_ _ | refine Below.setCell ?_ (by simp) _))).size) ?_); intro v_ wq1 ho_ hb_ hg_)
          replace hB := (ext_trans hB (by (repeat (first | exact Below.refl _ _ | refine ext_alloc ?_ _ | refine Below.setCell ?_ (by simp) _)))).trans hb_
          replace hO := ho_
          clear ho_ hb_ hg_
          go_wp2
          go_ret2
          exact TupPost.at HE.out hO hB
end Go.Proofs.Ytflhmkpabhedjaa

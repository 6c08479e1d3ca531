/- The words of a pattern, for each number of words. -/
import Derived.Test.YtpmelhkhmichcaaDoorPfB
import Derived.Test.YtpmelhkhmichcaaDoorPaE
import Derived.Lib.SliceRun
namespace Go.Proofs.YtpmelhkhmichcaaDoor
set_option linter.unusedSimpArgs false
set_option linter.unusedVariables false
open Go.RowKit

theorem Tryd.infoTexts : (Tryd.prog.info? 63).map (fun i => (i.zero, i.size, i.bytes)) = some (some (.slice Option.none 0 0), 1, 24) := by kernel_rfl
theorem OwnG.typ {α : Type} {R : World → α → List Value → Prop} {B : Nat} {e : TypeId} {sz : Nat} {w : World} {v : Value} {l : List α} (h : OwnG R B e sz w v l) : ∀ k, v.ownBlock = some k → ∃ cs fr, w.heap[k]? = some (.cells cs e fr) := by
  obtain ⟨A, c, xs, rfl, ho, hc⟩ := h
  intro k hk
  rcases ho.2 with ⟨h1, _⟩ | ⟨g2, cap, cur, hv, _, hx2, _⟩
  · rw [h1] at hk; cases hk
  · rw [hv] at hk
    simp only [Value.ownBlock, Option.some.injEq] at hk
    subst hk
    exact ⟨_, _, hx2⟩
theorem OwnA.sgR {B : Nat} {w : World} {v : Value} {l : Wd} (h : OwnA B 9 1 sgEnc w v l) (hl : l.length ≤ 2097152) : ∃ A c, v = .slice A l.length c ∧ sgR w A l := by
  obtain ⟨A, c, rfl, ho⟩ := h
  exact ⟨A, c, rfl, Go.Proofs.YtpmelhkhmichcaaDoor.sgR.own rfl (by omega) ho⟩
set_option maxRecDepth 100000 in
set_option maxHeartbeats 2000000 in
theorem cloneTexts_any {A : Option Addr} {l : Wd} {c : Nat} {w : World} (hU : sgR w A l) (hl : l.length ≤ 1048576) :
    Calls Tryd.prog 100 #[.slice A l.length c] w fun e w' => ∃ v, e = .returned v ∧ OwnA w.heap.size 9 1 sgEnc w' v l ∧ Below w.heap.size w w' := by
  have q26 : ∀ (w : World) (a : Option Addr) (n c n' c' : Nat), (binOp .eql 63 (.slice a n c) (.slice none n' c')).run Tryd.prog w = .ok (.bool a.isNone) w := fun w a n c n' c' => Lib.run_eql_slice_nil w _ _ a n c n' c' Tryd.underlying63
  cases A with
  | none =>
    have h0 : l = [] := by
      rcases Nat.eq_zero_or_pos l.length with h | h
      · exact List.eq_nil_of_length_eq_zero h
      · obtain ⟨b, off, e, _⟩ := hU.2 h
        cases e
    subst h0
    go_enter Tryd.func100, Tryd.ntmps100
    go_wp2
    go_ret
    exact ⟨_, rfl, OwnA.nil, Below.refl _ _⟩
  | some a =>
    obtain ⟨W, hW⟩ : ∃ W, W = w.alloc (.cells #[] 9) := ⟨_, rfl⟩
    have hBW : Below w.heap.size w W := by rw [hW]; (repeat (first | exact Below.refl _ _ | refine ext_alloc ?_ _ | refine Below.setCell ?_ (by simp) _))
    have HF : Hid (OwnA w.heap.size 9 1 sgEnc W (.slice (some ⟨w.heap.size, 0, Option.none⟩) 0 0) []) := Lib.hid (by rw [hW]; exact OwnA.empty (Nat.le_refl _))
    have HRD := Lib.hid (hU.below hBW)
    have HW := Lib.hid hW
    have HB := Lib.hid hBW
    clear hW hBW
    go_enter Tryd.func100, Tryd.ntmps100
    go_wp2_with (at_builtin; rw [← HW.out]; go_must (refine wpList_pushes (enc := sgEnc) (l := []) (l2 := l) (B := w.heap.size) rfl (.tmp 5) (.tmp 6) 63 9 _ 1 16 rfl Tryd.underlying63 Tryd.infoText rfl (by decide) (fun _ => rfl) sgEnc_one HF.out rfl HRD.out (by simp; omega) (by simp; omega) HB.out.size ?_); intro v1 w1 hO hb _)
    have hb2 : Below w.heap.size w w1 := HB.out.trans hb
    have HO := Lib.hid hO
    clear hO hb
    go_wp2
    go_ret
    exact ⟨v1, rfl, HO.out, hb2⟩
theorem cloneTexts_n {A : Option Addr} {l : Wd} {n c : Nat} {w : World} (hn : l.length = n) (hU : sgR w A l) (hl : l.length ≤ 1048576) :
    Calls Tryd.prog 100 #[.slice A n c] w fun e w' => ∃ v, e = .returned v ∧ OwnA w.heap.size 9 1 sgEnc w' v l ∧ Below w.heap.size w w' := by
  subst hn; exact cloneTexts_any hU hl
def lensK (pre : Wd) (j : Nat) : List Wd := (List.range j).map (fun i => pre ++ List.replicate (i + 1) star1)
theorem lensK_succ (pre : Wd) (j : Nat) : lensK pre (j + 1) = lensK pre j ++ [pre ++ List.replicate (j + 1) star1] := by
  simp [lensK, List.range_succ]
theorem rep_succ (pre : Wd) (j : Nat) : pre ++ List.replicate j star1 ++ [star1] = pre ++ List.replicate (j + 1) star1 := by
  rw [List.append_assoc, ← List.replicate_succ']
theorem lens_star {ws : Wd} {m : Nat} (hm : ws.length = m + 1) (h : sg0 ws m = star2) (h5 : ws.length ≤ 5) : lens ws = lensK (ws.take m) (5 - m) ∧ ws.take m = ws.dropLast := by
  have hd : ws.take m = ws.dropLast := by rw [List.dropLast_eq_take, hm, Nat.add_sub_cancel]
  have hl : ws.getLast? = some star2 := by
    rw [List.getLast?_eq_getElem?, hm, Nat.add_sub_cancel, List.getElem?_eq_getElem (by omega), ← h]
    exact congrArg some (sg_elem (by omega)).symm
  refine ⟨?_, hd⟩
  rw [lens, if_pos hl, lensK, hd, hm, Nat.add_sub_cancel]
theorem lens_one {ws : Wd} {m : Nat} (hm : ws.length = m + 1) (h : ¬ sg0 ws m = star2) : lens ws = [ws] := by
  have hl : ¬ ws.getLast? = some star2 := by
    rw [List.getLast?_eq_getElem?, hm, Nat.add_sub_cancel, List.getElem?_eq_getElem (by omega)]
    intro e
    apply h
    rw [← Option.some.inj e]
    exact sg_elem (by omega)
  rw [lens, if_neg hl]
def sliceLen : Value → Nat
  | .slice _ n _ => n
  | _ => 0
set_option maxRecDepth 100000 in
set_option maxHeartbeats 4000000 in
theorem lengths_any {s : ByteArray} {w : World} (hs : s.size ≤ 2097152) (h5 : (pws s).length ≤ 5) :
    Calls Tryd.prog 85 #[.string s] w fun e w' => ∃ A c, e = .returned (.slice A (lens (pws s)).length c) ∧ lsR w' A (lens (pws s)) ∧ Below w.heap.size w w' := by
  obtain ⟨m, hm⟩ : ∃ m, (pws s).length = m + 1 := ⟨(pws s).length - 1, by have := pws_pos s; omega⟩
  have hcon := Lib.hid (split_any (w := w) hs)
  rw [hm] at hcon
  obtain ⟨x, hx⟩ : ∃ x, sg0 (pws s) m = x := ⟨_, rfl⟩
  have hm4 : m ≤ 4 := by omega
  by_cases hx2 : x = star2
  · have q2 : (x.toList == [42, 42]) = true := by rw [star2_beq]; simpa using hx2
    obtain ⟨hle, _⟩ := lens_star hm (hx.trans hx2) h5
    rw [hle]
    have HX := Lib.hid hx
    have HM := Lib.hid hm
    obtain ⟨pre, hpre⟩ : ∃ pre, pre = (pws s).take m := ⟨_, rfl⟩
    have hpl : pre.length = m := by rw [hpre, List.length_take, hm]; omega
    rw [← hpre]
    have HPRE := Lib.hid hpre
    have HPL := Lib.hid hpl
    clear hx hx2 hm hle h5 hpre hpl
    go_enter Tryd.func85, Tryd.ntmps85
    go_wp2_with fail
    refine hcon.out.mono ?_
    rintro e w1 ⟨A, c, rfl, hown, hB⟩
    have hU : sgR w1 A (pws s) := sgR.own HM.out (by omega) hown
    obtain ⟨b, off, rfl, hc⟩ := hU.cells (by rw [HM.out]; omega)
    have c0 := hc m (by rw [HM.out]; omega)
    rw [HX.out] at c0
    have hT : sgR w1 (some ⟨b, off, none⟩) pre := by rw [HPRE.out]; exact RdL.take hU m
    obtain ⟨g, cap, hv, _, _⟩ := hown.form (by omega)
    simp only [Value.slice.injEq, Option.some.injEq, Addr.mk.injEq, and_true, true_and] at hv
    obtain ⟨⟨rfl, rfl⟩, rfl⟩ := hv
    rw [Nat.zero_add] at c0
    have hcap : m + 1 ≤ c := by
      rcases hown.2 with ⟨h1, _⟩ | ⟨g2, cap, cur, h1, _, _, h2, _⟩
      · cases h1
      · simp only [Value.slice.injEq] at h1; omega
    have HT := Lib.hid hT
    have HB := Lib.hid hB
    clear hc hown hU hT hB
    go_wp2
    go_loopw [3, 5] (fun wv ov wr => ∃ j : Nat, m + j ≤ 5 ∧ (∃ Aw cw, wv = .slice Aw (m + j) cw ∧ sgR wr Aw (pre ++ List.replicate j star1)) ∧ OwnG (lsN.O w.heap.size) w.heap.size 63 1 wr ov (lensK pre j) ∧ Below w.heap.size w wr) (fun wv _ _ => 5 - sliceLen wv)
    case atStart => exact ⟨0, by omega, ⟨_, _, rfl, by simpa using HT.out⟩, OwnG.nil, HB.out⟩
    case round =>
      obtain ⟨j, hj, ⟨Aw, cw, rfl, hW⟩, hO, hB⟩ := hrel
      by_cases hlt : m + j < 5
      · have hwl : (pre ++ List.replicate j star1).length = m + j := by rw [List.length_append, List.length_replicate, HPL.out]
        have hlk : (lensK pre j).length = j := by simp [lensK]
        have HWL := Lib.hid hwl
        clear hwl
        go_wp2_with fail
        refine (cloneTexts_n HWL.out hW (by rw [HWL.out]; omega)).mono ?_
        rintro e w2 ⟨v1, rfl, hO1, hb1⟩
        have hl1 : (pre ++ List.replicate j star1).length + 1 ≤ 6 := by rw [HWL.out]; omega
        have hws := hB.size
        have hlt2 : ∀ k, u5.ownBlock = some k → k < wr.heap.size := fun k hk => (hO.ge k hk).2
        have HLT := Lib.hid hlt2
        have HO := Lib.hid hO
        clear hW hO hlt2
        go_wp2_with (first
          | (at_builtin; (refine wpList_push (enc := sgEnc) star1 rfl (.tmp 25) (.tmp 26) 63 9 _ 1 16 rfl Tryd.underlying63 Tryd.infoText rfl (by decide) (fun _ => rfl) sgEnc_one (hO1.below (by (repeat (first | exact Below.refl _ _ | refine ext_alloc ?_ _ | refine Below.setCell ?_ (by simp) _)))) rfl (heap_alloc_at (by simp)) (by rfl) (by omega) (by omega) (Nat.le_trans hb1.size (show Below _ _ _ by (repeat (first | exact Below.refl _ _ | refine ext_alloc ?_ _ | refine Below.setCell ?_ (by simp) _))).size) ?_); intro v2 w3 hO3 hb3 hg3; (have hb4 : Below wr.heap.size wr w3 := Below.trans (ext_trans hb1 (by (repeat (first | exact Below.refl _ _ | refine ext_alloc ?_ _ | refine Below.setCell ?_ (by simp) _)))) hb3); (have hO4 := HO.out.below hb4 (fun a cs h => Nst.O.below hb4 h)); (have hsz4 := hb4.size); (replace hO3 := hO3.eq (rep_succ pre j)); (obtain ⟨A2, c2, rfl, ho3⟩ := hO3); (generalize hN2 : (pre ++ List.replicate (j + 1) star1).length = N2 at ho3 ⊢); (have HO3 : Hid (OwnA wr.heap.size 9 1 sgEnc w3 (.slice A2 N2 c2) (pre ++ List.replicate (j + 1) star1)) := Lib.hid ⟨A2, c2, by rw [hN2], by rw [hN2]; exact ho3⟩); (have HN2 := Lib.hid hN2); clear hO1 hb3 hg3 ho3 hN2)
          | (at_builtin; go_must (refine wpList_appendG (R := lsN.O w.heap.size) (l := lensK pre j) (l2 := [pre ++ List.replicate (j + 1) star1]) rfl (.tmp 28) (.tmp 30) 86 63 _ 1 24 rfl Tryd.underlying86 Tryd.infoTexts rfl (by decide) (fun a cs h => Nst.O.one lsN_good h) (hO4.below (below_alloc _ _) (fun a cs h => Nst.O.below (below_alloc _ _) h)) rfl (rd_blockG (heap_alloc_at (by simp)) rfl ⟨_, rfl, (HO3.out.lower hws).below (below_alloc _ _)⟩) (fun w' hg a cs h => Nst.O.row lsN_good hg (OwnG.typ (hO4.below (below_alloc _ _) (fun a cs h => Nst.O.below (below_alloc _ _) h))) h) (by simp; omega) (by simp; omega) (by simp; omega) ?_); intro v5 w5 hO5 hb5 hg5 _))
        have hW5 := (HO3.out.below (below_alloc _ _)).apart hg5 (fun k hk e => by
          have h1 := (HO3.out.ge k hk).1
          have h2 := HLT.out k e
          omega)
        have hB5 : Below w.heap.size w w5 := Below.trans (ext_trans (ext_trans hB hb4) (below_alloc _ _)) hb5
        obtain ⟨A3, c3, e3, hS⟩ := OwnA.sgR hW5 (by rw [List.length_append, List.length_replicate, HPL.out]; omega)
        simp only [Value.slice.injEq] at e3
        obtain ⟨rfl, hN3, rfl⟩ := e3
        rw [← lensK_succ] at hO5
        have HO5 := Lib.hid hO5
        have HS := Lib.hid hS
        have hl2 : (pre ++ List.replicate (j + 1) star1).length = m + (j + 1) := by rw [List.length_append, List.length_replicate, HPL.out]
        rw [hl2] at hN3
        subst hN3
        clear hl2 hO5 hS hW5 hO4 hg5 hb5 hb4 hb1 hB
        go_wp2
        go_roundw
        case rel => exact ⟨j + 1, by omega, ⟨A2, c2, rfl, HS.out⟩, HO5.out, hB5⟩
        case measure => simp only [sliceLen]; omega
      · obtain rfl : j = 5 - m := by omega
        have hlk : (lensK pre (5 - m)).length = 5 - m := by simp [lensK]
        obtain ⟨Ao, co, xs, rfl, ho, hch⟩ := hO
        have hls : lsR wr Ao (lensK pre (5 - m)) := Nst.rdl.own lsN_good (by rw [hlk]; omega) (fun r hr => by
          obtain ⟨i, hi, rfl⟩ := List.mem_map.1 hr
          have := List.mem_range.1 hi
          simp only [lsN, List.length_append, List.length_replicate, HPL.out]; omega) ⟨Ao, co, xs, rfl, ho, hch⟩
        have HLS := Lib.hid hls
        clear ho hch hls hW
        go_wp2
        go_ret
        exact ⟨Ao, co, rfl, HLS.out, hB⟩
  · have q2 : (x.toList == [42, 42]) = false := by rw [star2_beq]; simpa using hx2
    have hle := lens_one hm (fun h => hx2 (hx.symm.trans h))
    rw [hle]
    have HX := Lib.hid hx
    have HM := Lib.hid hm
    clear hx hx2 hm hle
    go_enter Tryd.func85, Tryd.ntmps85
    go_wp2_with fail
    refine hcon.out.mono ?_
    rintro e w1 ⟨A, c, rfl, hown, hB⟩
    have hU : sgR w1 A (pws s) := sgR.own HM.out (by omega) hown
    obtain ⟨b, off, rfl, hc⟩ := hU.cells (by rw [HM.out]; omega)
    have c0 := hc m (by rw [HM.out]; omega)
    rw [HX.out] at c0
    have HU := Lib.hid hU
    clear hc hown hU
    go_wp2
    go_ret
    refine ⟨some ⟨w1.heap.size, 0, none⟩, 1, rfl, ?_, ext_trans hB (by (repeat (first | exact Below.refl _ _ | refine ext_alloc ?_ _ | refine Below.setCell ?_ (by simp) _)))⟩
    refine rd_blockG (heap_alloc_new _ _) rfl ⟨some ⟨b, off, none⟩, c, (by rw [show (lsN.inner (pws s)).length = m + 1 from HM.out]; rfl), HU.out.below (below_alloc _ _), fun hn a ha => ?_⟩
    exact rdl_lt (by decide) (HU.out.below (below_alloc _ _)) hn a ha
end Go.Proofs.YtpmelhkhmichcaaDoor

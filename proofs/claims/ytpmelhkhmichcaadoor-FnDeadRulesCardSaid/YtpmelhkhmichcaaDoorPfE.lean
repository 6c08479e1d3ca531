/- Paths that fit patterns, by the program and by the reference. -/
import Derived.Test.YtpmelhkhmichcaaDoorPfB
import Derived.Test.YtpmelhkhmichcaaDoorPaE
import Derived.Lib.SliceRun
namespace Go.Proofs.YtpmelhkhmichcaaDoor
set_option linter.unusedSimpArgs false
set_option linter.unusedVariables false
open Go.RowKit

theorem Tryd.infoTexts : (Tryd.prog.info? 63).map (fun i => (i.zero, i.size, i.bytes)) = some (some (.slice Option.none 0 0), 1, 24) := by kernel_rfl
theorem OwnG.typ {α : Type} {R : World → α → List Value → Prop} {B : Nat} {e : TypeId} {sz : Nat} {w : World} {v : Value} {l : List α} (h : OwnG R B e sz w v l) : ∀ k, v.ownBlock = some k → ∃ cs fr, w.heap[k]? = some (.cells cs e fr) := by
  obtain ⟨A, c, xs, rfl, ho, hc⟩ := h
  intro k hk
  rcases ho.2 with ⟨h1, _⟩ | ⟨g2, cap, cur, hv, _, hx2, _⟩
  · rw [h1] at hk; cases hk
  · rw [hv] at hk
    simp only [Value.ownBlock, Option.some.injEq] at hk
    subst hk
    exact ⟨_, _, hx2⟩
theorem OwnA.sgR {B : Nat} {w : World} {v : Value} {l : Wd} (h : OwnA B 9 1 sgEnc w v l) (hl : l.length ≤ 2097152) : ∃ A c, v = .slice A l.length c ∧ sgR w A l := by
  obtain ⟨A, c, rfl, ho⟩ := h
  exact ⟨A, c, rfl, Go.Proofs.YtpmelhkhmichcaaDoor.sgR.own rfl (by omega) ho⟩
set_option maxRecDepth 100000 in
set_option maxHeartbeats 2000000 in
theorem cloneTexts_any {A : Option Addr} {l : Wd} {c : Nat} {w : World} (hU : sgR w A l) (hl : l.length ≤ 1048576) :
    Calls Tryd.prog 100 #[.slice A l.length c] w fun e w' => ∃ v, e = .returned v ∧ OwnA w.heap.size 9 1 sgEnc w' v l ∧ Below w.heap.size w w' := by
  have q26 : ∀ (w : World) (a : Option Addr) (n c n' c' : Nat), (binOp .eql 63 (.slice a n c) (.slice none n' c')).run Tryd.prog w = .ok (.bool a.isNone) w := fun w a n c n' c' => Lib.run_eql_slice_nil w _ _ a n c n' c' Tryd.underlying63
  cases A with
  | none =>
    have h0 : l = [] := by
      rcases Nat.eq_zero_or_pos l.length with h | h
      · exact List.eq_nil_of_length_eq_zero h
      · obtain ⟨b, off, e, _⟩ := hU.2 h
        cases e
    subst h0
    go_enter Tryd.func100, Tryd.ntmps100
    go_wp2
    go_ret
    exact ⟨_, rfl, OwnA.nil, Below.refl _ _⟩
  | some a =>
    obtain ⟨W, hW⟩ : ∃ W, W = w.alloc (.cells #[] 9) := ⟨_, rfl⟩
    have hBW : Below w.heap.size w W := by rw [hW]; (repeat (first | exact Below.refl _ _ | refine ext_alloc ?_ _ | refine Below.setCell ?_ (by simp) _))
    have HF : Hid (OwnA w.heap.size 9 1 sgEnc W (.slice (some ⟨w.heap.size, 0, Option.none⟩) 0 0) []) := Lib.hid (by rw [hW]; exact OwnA.empty (Nat.le_refl _))
    have HRD := Lib.hid (hU.below hBW)
    have HW := Lib.hid hW
    have HB := Lib.hid hBW
    clear hW hBW
    go_enter Tryd.func100, Tryd.ntmps100
    go_wp2_with (at_builtin; rw [← HW.out]; go_must (refine wpList_pushes (enc := sgEnc) (l := []) (l2 := l) (B := w.heap.size) rfl (.tmp 5) (.tmp 6) 63 9 _ 1 16 rfl Tryd.underlying63 Tryd.infoText rfl (by decide) (fun _ => rfl) sgEnc_one HF.out rfl HRD.out (by simp; omega) (by simp; omega) HB.out.size ?_); intro v1 w1 hO hb _)
    have hb2 : Below w.heap.size w w1 := HB.out.trans hb
    have HO := Lib.hid hO
    clear hO hb
    go_wp2
    go_ret
    exact ⟨v1, rfl, HO.out, hb2⟩
theorem cloneTexts_n {A : Option Addr} {l : Wd} {n c : Nat} {w : World} (hn : l.length = n) (hU : sgR w A l) (hl : l.length ≤ 1048576) :
    Calls Tryd.prog 100 #[.slice A n c] w fun e w' => ∃ v, e = .returned v ∧ OwnA w.heap.size 9 1 sgEnc w' v l ∧ Below w.heap.size w w' := by
  subst hn; exact cloneTexts_any hU hl
def lensK (pre : Wd) (j : Nat) : List Wd := (List.range j).map (fun i => pre ++ List.replicate (i + 1) star1)
theorem lensK_succ (pre : Wd) (j : Nat) : lensK pre (j + 1) = lensK pre j ++ [pre ++ List.replicate (j + 1) star1] := by
  simp [lensK, List.range_succ]
theorem rep_succ (pre : Wd) (j : Nat) : pre ++ List.replicate j star1 ++ [star1] = pre ++ List.replicate (j + 1) star1 := by
  rw [List.append_assoc, ← List.replicate_succ']
theorem lens_star {ws : Wd} {m : Nat} (hm : ws.length = m + 1) (h : sg0 ws m = star2) (h5 : ws.length ≤ 5) : lens ws = lensK (ws.take m) (5 - m) ∧ ws.take m = ws.dropLast := by
  have hd : ws.take m = ws.dropLast := by rw [List.dropLast_eq_take, hm, Nat.add_sub_cancel]
  have hl : ws.getLast? = some star2 := by
    rw [List.getLast?_eq_getElem?, hm, Nat.add_sub_cancel, List.getElem?_eq_getElem (by omega), ← h]
    exact congrArg some (sg_elem (by omega)).symm
  refine ⟨?_, hd⟩
  rw [lens, if_pos hl, lensK, hd, hm, Nat.add_sub_cancel]
theorem lens_one {ws : Wd} {m : Nat} (hm : ws.length = m + 1) (h : ¬ sg0 ws m = star2) : lens ws = [ws] := by
  have hl : ¬ ws.getLast? = some star2 := by
    rw [List.getLast?_eq_getElem?, hm, Nat.add_sub_cancel, List.getElem?_eq_getElem (by omega)]
    intro e
    apply h
    rw [← Option.some.inj e]
    exact sg_elem (by omega)
  rw [lens, if_neg hl]
def sliceLen : Value → Nat
  | .slice _ n _ => n
  | _ => 0
set_option maxRecDepth 100000 in
set_option maxHeartbeats 4000000 in
theorem lengths_any {s : ByteArray} {w : World} (hs : s.size ≤ 2097152) (h5 : (pws s).length ≤ 5) :
    Calls Tryd.prog 85 #[.string s] w fun e w' => ∃ A c, e = .returned (.slice A (lens (pws s)).length c) ∧ lsR w' A (lens (pws s)) ∧ Below w.heap.size w w' := by
  obtain ⟨m, hm⟩ : ∃ m, (pws s).length = m + 1 := ⟨(pws s).length - 1, by have := pws_pos s; omega⟩
  have hcon := Lib.hid (split_any (w := w) hs)
  rw [hm] at hcon
  obtain ⟨x, hx⟩ : ∃ x, sg0 (pws s) m = x := ⟨_, rfl⟩
  have hm4 : m ≤ 4 := by omega
  by_cases hx2 : x = star2
  · have q2 : (x.toList == [42, 42]) = true := by rw [star2_beq]; simpa using hx2
    obtain ⟨hle, _⟩ := lens_star hm (hx.trans hx2) h5
    rw [hle]
    have HX := Lib.hid hx
    have HM := Lib.hid hm
    obtain ⟨pre, hpre⟩ : ∃ pre, pre = (pws s).take m := ⟨_, rfl⟩
    have hpl : pre.length = m := by rw [hpre, List.length_take, hm]; omega
    rw [← hpre]
    have HPRE := Lib.hid hpre
    have HPL := Lib.hid hpl
    clear hx hx2 hm hle h5 hpre hpl
    go_enter Tryd.func85, Tryd.ntmps85
    go_wp2_with fail
    refine hcon.out.mono ?_
    rintro e w1 ⟨A, c, rfl, hown, hB⟩
    have hU : sgR w1 A (pws s) := sgR.own HM.out (by omega) hown
    obtain ⟨b, off, rfl, hc⟩ := hU.cells (by rw [HM.out]; omega)
    have c0 := hc m (by rw [HM.out]; omega)
    rw [HX.out] at c0
    have hT : sgR w1 (some ⟨b, off, none⟩) pre := by rw [HPRE.out]; exact RdL.take hU m
    obtain ⟨g, cap, hv, _, _⟩ := hown.form (by omega)
    simp only [Value.slice.injEq, Option.some.injEq, Addr.mk.injEq, and_true, true_and] at hv
    obtain ⟨⟨rfl, rfl⟩, rfl⟩ := hv
    rw [Nat.zero_add] at c0
    have hcap : m + 1 ≤ c := by
      rcases hown.2 with ⟨h1, _⟩ | ⟨g2, cap, cur, h1, _, _, h2, _⟩
      · cases h1
      · simp only [Value.slice.injEq] at h1; omega
    have HT := Lib.hid hT
    have HB := Lib.hid hB
    clear hc hown hU hT hB
    go_wp2
    go_loopw [3, 5] (fun wv ov wr => ∃ j : Nat, m + j ≤ 5 ∧ (∃ Aw cw, wv = .slice Aw (m + j) cw ∧ sgR wr Aw (pre ++ List.replicate j star1)) ∧ OwnG (lsN.O w.heap.size) w.heap.size 63 1 wr ov (lensK pre j) ∧ Below w.heap.size w wr) (fun wv _ _ => 5 - sliceLen wv)
    case atStart => exact ⟨0, by omega, ⟨_, _, rfl, by simpa using HT.out⟩, OwnG.nil, HB.out⟩
    case round =>
      obtain ⟨j, hj, ⟨Aw, cw, rfl, hW⟩, hO, hB⟩ := hrel
      by_cases hlt : m + j < 5
      · have hwl : (pre ++ List.replicate j star1).length = m + j := by rw [List.length_append, List.length_replicate, HPL.out]
        have hlk : (lensK pre j).length = j := by simp [lensK]
        have HWL := Lib.hid hwl
        clear hwl
        go_wp2_with fail
        refine (cloneTexts_n HWL.out hW (by rw [HWL.out]; omega)).mono ?_
        rintro e w2 ⟨v1, rfl, hO1, hb1⟩
        have hl1 : (pre ++ List.replicate j star1).length + 1 ≤ 6 := by rw [HWL.out]; omega
        have hws := hB.size
        have hlt2 : ∀ k, u5.ownBlock = some k → k < wr.heap.size := fun k hk => (hO.ge k hk).2
        have HLT := Lib.hid hlt2
        have HO := Lib.hid hO
        clear hW hO hlt2
        go_wp2_with (first
          | (at_builtin; (refine wpList_push (enc := sgEnc) star1 rfl (.tmp 25) (.tmp 26) 63 9 _ 1 16 rfl Tryd.underlying63 Tryd.infoText rfl (by decide) (fun _ => rfl) sgEnc_one (hO1.below (by (repeat (first | exact Below.refl _ _ | refine ext_alloc ?_ _ | refine Below.setCell ?_ (by simp) _)))) rfl (heap_alloc_at (by simp)) (by rfl) (by omega) (by omega) (Nat.le_trans hb1.size (show Below _ _ _ by (repeat (first | exact Below.refl _ _ | refine ext_alloc ?_ _ | refine Below.setCell ?_ (by simp) _))).size) ?_); intro v2 w3 hO3 hb3 hg3; (have hb4 : Below wr.heap.size wr w3 := Below.trans (ext_trans hb1 (by (repeat (first | exact Below.refl _ _ | refine ext_alloc ?_ _ | refine Below.setCell ?_ (by simp) _)))) hb3); (have hO4 := HO.out.below hb4 (fun a cs h => Nst.O.below hb4 h)); (have hsz4 := hb4.size); (replace hO3 := hO3.eq (rep_succ pre j)); (obtain ⟨A2, c2, rfl, ho3⟩ := hO3); (generalize hN2 : (pre ++ List.replicate (j + 1) star1).length = N2 at ho3 ⊢); (have HO3 : Hid (OwnA wr.heap.size 9 1 sgEnc w3 (.slice A2 N2 c2) (pre ++ List.replicate (j + 1) star1)) := Lib.hid ⟨A2, c2, by rw [hN2], by rw [hN2]; exact ho3⟩); (have HN2 := Lib.hid hN2); clear hO1 hb3 hg3 ho3 hN2)
          | (at_builtin; go_must (refine wpList_appendG (R := lsN.O w.heap.size) (l := lensK pre j) (l2 := [pre ++ List.replicate (j + 1) star1]) rfl (.tmp 28) (.tmp 30) 86 63 _ 1 24 rfl Tryd.underlying86 Tryd.infoTexts rfl (by decide) (fun a cs h => Nst.O.one lsN_good h) (hO4.below (below_alloc _ _) (fun a cs h => Nst.O.below (below_alloc _ _) h)) rfl (rd_blockG (heap_alloc_at (by simp)) rfl ⟨_, rfl, (HO3.out.lower hws).below (below_alloc _ _)⟩) (fun w' hg a cs h => Nst.O.row lsN_good hg (OwnG.typ (hO4.below (below_alloc _ _) (fun a cs h => Nst.O.below (below_alloc _ _) h))) h) (by simp; omega) (by simp; omega) (by simp; omega) ?_); intro v5 w5 hO5 hb5 hg5 _))
        have hW5 := (HO3.out.below (below_alloc _ _)).apart hg5 (fun k hk e => by
          have h1 := (HO3.out.ge k hk).1
          have h2 := HLT.out k e
          omega)
        have hB5 : Below w.heap.size w w5 := Below.trans (ext_trans (ext_trans hB hb4) (below_alloc _ _)) hb5
        obtain ⟨A3, c3, e3, hS⟩ := OwnA.sgR hW5 (by rw [List.length_append, List.length_replicate, HPL.out]; omega)
        simp only [Value.slice.injEq] at e3
        obtain ⟨rfl, hN3, rfl⟩ := e3
        rw [← lensK_succ] at hO5
        have HO5 := Lib.hid hO5
        have HS := Lib.hid hS
        have hl2 : (pre ++ List.replicate (j + 1) star1).length = m + (j + 1) := by rw [List.length_append, List.length_replicate, HPL.out]
        rw [hl2] at hN3
        subst hN3
        clear hl2 hO5 hS hW5 hO4 hg5 hb5 hb4 hb1 hB
        go_wp2
        go_roundw
        case rel => exact ⟨j + 1, by omega, ⟨A2, c2, rfl, HS.out⟩, HO5.out, hB5⟩
        case measure => simp only [sliceLen]; omega
      · obtain rfl : j = 5 - m := by omega
        have hlk : (lensK pre (5 - m)).length = 5 - m := by simp [lensK]
        obtain ⟨Ao, co, xs, rfl, ho, hch⟩ := hO
        have hls : lsR wr Ao (lensK pre (5 - m)) := Nst.rdl.own lsN_good (by rw [hlk]; omega) (fun r hr => by
          obtain ⟨i, hi, rfl⟩ := List.mem_map.1 hr
          have := List.mem_range.1 hi
          simp only [lsN, List.length_append, List.length_replicate, HPL.out]; omega) ⟨Ao, co, xs, rfl, ho, hch⟩
        have HLS := Lib.hid hls
        clear ho hch hls hW
        go_wp2
        go_ret
        exact ⟨Ao, co, rfl, HLS.out, hB⟩
  · have q2 : (x.toList == [42, 42]) = false := by rw [star2_beq]; simpa using hx2
    have hle := lens_one hm (fun h => hx2 (hx.symm.trans h))
    rw [hle]
    have HX := Lib.hid hx
    have HM := Lib.hid hm
    clear hx hx2 hm hle
    go_enter Tryd.func85, Tryd.ntmps85
    go_wp2_with fail
    refine hcon.out.mono ?_
    rintro e w1 ⟨A, c, rfl, hown, hB⟩
    have hU : sgR w1 A (pws s) := sgR.own HM.out (by omega) hown
    obtain ⟨b, off, rfl, hc⟩ := hU.cells (by rw [HM.out]; omega)
    have c0 := hc m (by rw [HM.out]; omega)
    rw [HX.out] at c0
    have HU := Lib.hid hU
    clear hc hown hU
    go_wp2
    go_ret
    refine ⟨some ⟨w1.heap.size, 0, none⟩, 1, rfl, ?_, ext_trans hB (by (repeat (first | exact Below.refl _ _ | refine ext_alloc ?_ _ | refine Below.setCell ?_ (by simp) _)))⟩
    refine rd_blockG (heap_alloc_new _ _) rfl ⟨some ⟨b, off, none⟩, c, (by rw [show (lsN.inner (pws s)).length = m + 1 from HM.out]; rfl), HU.out.below (below_alloc _ _), fun hn a ha => ?_⟩
    exact rdl_lt (by decide) (HU.out.below (below_alloc _ _)) hn a ha
theorem any_range {α : Type} (l : List α) (d : α) (p : α → Bool) : (List.range l.length).any (fun k => p (l.getD k d)) = l.any p := by
  rw [Bool.eq_iff_iff]
  simp only [List.any_eq_true, List.mem_range]
  constructor
  · rintro ⟨k, hk, h⟩
    exact ⟨l[k], List.getElem_mem hk, by simpa [hk] using h⟩
  · rintro ⟨x, hx, h⟩
    obtain ⟨k, hk, rfl⟩ := List.getElem_of_mem hx
    exact ⟨k, hk, by simpa [hk] using h⟩
set_option maxHeartbeats 1000000 in
theorem cov1_any {A A' : Option Addr} {a b : Wd} {c c' bx : Nat} {w : World} (hU : sgR w A a) (hV : sgR w A' b) (b0 : w.cell? ⟨bx, 0, none⟩ = some (.slice A' b.length c')) :
    Calls Tryd.prog 86 #[.slice A a.length c, .pointer (some ⟨bx, 0, none⟩)] w fun e w' => e = .returned (.bool (covW a b)) ∧ Below w.heap.size w w' := by
  go_enter Tryd.func86, Tryd.ntmps86
  go_wp2_with fail
  refine (covers_any hU hV).mono ?_
  rintro e w1 ⟨rfl, hB⟩
  go_wp2
  go_ret
  exact ⟨rfl, hB⟩
theorem enters_cov1 : ∀ args w, (callFunc 86 args).run Tryd.prog w = .ok (.enter 86 args) w := enters_of Tryd.func86 (by kernel_rfl) rfl
set_option maxHeartbeats 2000000 in
theorem coveredBy_any {s : ByteArray} {A : Option Addr} {ws : Wd} {c : Nat} {w : World} (hs : s.size ≤ 2097152) (h5 : (pws s).length ≤ 5) (hU : sgR w A ws) :
    Calls Tryd.prog 70 #[.string s, .slice A ws.length c] w fun e w' => e = .returned (.bool (covBy (pws s) ws)) ∧ Below w.heap.size w w' := by
  obtain ⟨W, hW⟩ : ∃ W, W = w.alloc (.cells #[.slice A ws.length c] 63) := ⟨_, rfl⟩
  have hB : Below w.heap.size w W := by rw [hW]; (repeat (first | exact Below.refl _ _ | refine ext_alloc ?_ _ | refine Below.setCell ?_ (by simp) _))
  have b0 : W.cell? ⟨w.heap.size, 0, none⟩ = some (.slice A ws.length c) := by rw [hW]; exact box_cell w _ _ 0 _ rfl
  have hUW := hU.below hB
  have HW := Lib.hid hW
  clear hW hU
  obtain ⟨q, hq⟩ : ∃ q, covBy (pws s) ws = q := ⟨_, rfl⟩
  have hq2 : (List.range (lens (pws s)).length).any (fun k => covW (lsAt (lens (pws s)) k) ws) = q := by rw [← hq]; exact any_range _ [] (fun v => covW v ws)
  rw [hq]
  have HQ := Lib.hid hq2
  clear hq hq2
  go_enter Tryd.func70, Tryd.ntmps70
  go_wp2_with fail
  rw [← HW.out]
  refine (lengths_any hs h5).mono ?_
  rintro e w1 ⟨A1, c1, rfl, hL, hb⟩
  replace b0 := below_cell hb b0
  replace hUW := hUW.below hb
  replace hB := ext_trans hB hb
  have HC := Lib.hid (containsFunc_ls (c := c1) (lb := #[.pointer (some ⟨w.heap.size, 0, none⟩)]) enters_cov1 hL (fun k _ X A2 c2 hX h1 => cov1_any h1 (hUW.below hX) (below_cell hX b0)) HQ.out)
  clear hb hL hUW
  go_wp2_with fail
  refine HC.out.mono ?_
  rintro e w2 ⟨rfl, hb⟩
  replace hB := ext_trans hB hb
  go_wp2
  go_ret
  exact ⟨rfl, hB⟩
theorem pathOk_no {s : ByteArray} {k : Nat} (hk : k < (pws s).length) (h : nmOk (sg0 (pws s) k) = false) : pathOk s = false := by
  rw [pathOk, Bool.and_eq_false_iff]
  left
  rw [decide_eq_false_iff_not]
  intro hh
  rw [hh k hk] at h
  cases h
theorem pathOk_yes {s : ByteArray} (h : ∀ k, k < (pws s).length → nmOk (sg0 (pws s) k) = true) : pathOk s = decide (((pws s).length : Int) ≤ 5) := by
  rw [pathOk, decide_eq_true h, Bool.true_and]
  exact decide_eq_decide.2 (by omega)
set_option maxHeartbeats 1000000 in
theorem pathV1_any {s : ByteArray} {w : World} (hs : s.size ≤ 2097152) :
    Calls Tryd.prog 72 #[.string s] w fun e w' => e = .returned (.bool (!nmOk s)) ∧ Below w.heap.size w w' := by
  go_enter Tryd.func72, Tryd.ntmps72
  go_wp2_with fail
  refine (implNameValid s (by omega) _).mono ?_
  rintro e w1 ⟨rfl, hB⟩
  go_wp2
  go_ret
  exact ⟨rfl, hB⟩
theorem enters_pathV1 : ∀ args w, (callFunc 72 args).run Tryd.prog w = .ok (.enter 72 args) w := enters_of Tryd.func72 (by kernel_rfl) rfl
set_option maxHeartbeats 2000000 in
theorem implPathValid {s : ByteArray} {w : World} (hs : s.size ≤ 2097152) :
    Calls Tryd.prog 33 #[.string s] w fun e w' => e = .returned (.bool (pathOk s)) ∧ Below w.heap.size w w' := by
  have hl := pws_len s
  obtain ⟨q, hq⟩ : ∃ q, decide (∀ i, i < (pws s).length → nmOk (sg0 (pws s) i) = true) = q := ⟨_, rfl⟩
  have hq2 : (List.range (pws s).length).any (fun k => !nmOk (sg0 (pws s) k)) = !q := by rw [← hq, ← any_not]; simp
  have HQ2 := Lib.hid hq2
  have HQ := Lib.hid hq
  clear hq hq2
  by_cases h5 : (pws s).length ≤ 5
  · have HR : Hid (pathOk s = q) := Lib.hid (by rw [pathOk, HQ.out, decide_eq_true h5, Bool.and_true])
    go_enter Tryd.func33, Tryd.ntmps33
    go_wp2_with fail
    refine (split_any hs).mono ?_
    rintro e w1 ⟨A, c, rfl, hown, hB⟩
    have hU : sgR w1 A (pws s) := sgR.own rfl (by omega) hown
    have HC := Lib.hid (containsFunc_sg (c := c) (lb := #[]) enters_pathV1 hU (fun k hk X _ => pathV1_any (by have := pws_size hk; omega)) HQ2.out)
    clear hown hU
    go_wp2_with fail
    refine HC.out.mono ?_
    rintro e w2 ⟨rfl, hb⟩
    replace hB := ext_trans hB hb
    go_wp2
    go_ret
    exact ⟨by rw [HR.out]; cases q <;> rfl, hB⟩
  · have HR : Hid (pathOk s = false) := Lib.hid (by rw [pathOk, decide_eq_false h5, Bool.and_false])
    go_enter Tryd.func33, Tryd.ntmps33
    go_wp2_with fail
    refine (split_any hs).mono ?_
    rintro e w1 ⟨A, c, rfl, hown, hB⟩
    go_wp2
    go_ret
    exact ⟨by rw [HR.out]; rfl, hB⟩
theorem implPathValid_v {s : ByteArray} {b : Bool} (hb : pathOk s = b) (hs : s.size ≤ 2097152) (w : World) :
    Calls Tryd.prog 33 #[.string s] w fun e w' => e = .returned (.bool b) ∧ Below w.heap.size w w' := hb ▸ implPathValid hs
theorem implPatternValid_w {s : ByteArray} {b : Bool} (hb : patOk s = b) (hs : s.size ≤ 2097152) (w : World) :
    Calls Tryd.prog 59 #[.string s] w fun e w' => e = .returned (.bool b) ∧ Below w.heap.size w w' := hb ▸ implPatternValid hs
def fitB (path pat : ByteArray) : Bool := pathOk path && (patOk pat && covBy (pws pat) (pws path))
theorem patOk_len {s : ByteArray} (h : patOk s = true) : (pws s).length ≤ 5 := by
  simp only [patOk, Bool.and_eq_true, decide_eq_true_eq] at h
  exact h.2
theorem pathOk_len {s : ByteArray} (h : pathOk s = true) : (pws s).length ≤ 5 := by
  simp only [pathOk, Bool.and_eq_true, decide_eq_true_eq] at h
  exact h.2
set_option maxHeartbeats 2000000 in
theorem implPathFits {p s : ByteArray} {w : World} (hp : p.size ≤ 2097152) (hs : s.size ≤ 2097152) :
    Calls Tryd.prog 29 #[.string p, .string s] w fun e w' => e = .returned (.bool (fitB p s)) ∧ Below w.heap.size w w' := by
  have hl := pws_len p
  cases h1 : pathOk p
  · have HR : Hid (fitB p s = false) := Lib.hid (by rw [fitB, h1]; rfl)
    go_enter Tryd.func29, Tryd.ntmps29
    go_wp2_with fail
    refine (implPathValid_v h1 hp _).mono ?_
    rintro e w1 ⟨rfl, hB⟩
    go_wp2
    go_ret
    exact ⟨by rw [HR.out]; rfl, hB⟩
  · cases h2 : patOk s
    · have HR : Hid (fitB p s = false) := Lib.hid (by rw [fitB, h1, h2]; rfl)
      go_enter Tryd.func29, Tryd.ntmps29
      go_wp2_with fail
      refine (implPathValid_v h1 hp _).mono ?_
      rintro e w1 ⟨rfl, hB⟩
      go_wp2_with fail
      refine (implPatternValid_w h2 hs _).mono ?_
      rintro e w2 ⟨rfl, hb⟩
      replace hB := ext_trans hB hb
      go_wp2
      go_ret
      exact ⟨by rw [HR.out]; rfl, hB⟩
    · obtain ⟨q, hq⟩ : ∃ q, covBy (pws s) (pws p) = q := ⟨_, rfl⟩
      have HR : Hid (fitB p s = q) := Lib.hid (by rw [fitB, h1, h2, hq]; rfl)
      have HQ := Lib.hid hq
      clear hq
      go_enter Tryd.func29, Tryd.ntmps29
      go_wp2_with fail
      refine (implPathValid_v h1 hp _).mono ?_
      rintro e w1 ⟨rfl, hB⟩
      go_wp2_with fail
      refine (implPatternValid_w h2 hs _).mono ?_
      rintro e w2 ⟨rfl, hb⟩
      replace hB := ext_trans hB hb
      clear hb
      go_wp2_with fail
      refine (split_any hp).mono ?_
      rintro e w3 ⟨A, c, rfl, hown, hb⟩
      replace hB := ext_trans hB hb
      have hU : sgR w3 A (pws p) := sgR.own rfl (by omega) hown
      clear hb hown
      go_wp2_with fail
      refine (coveredBy_any hs (patOk_len h2) hU).mono ?_
      rintro e w4 ⟨rfl, hb⟩
      rw [HQ.out]
      replace hB := ext_trans hB hb
      go_wp2
      go_ret
      exact ⟨by rw [HR.out]; rfl, hB⟩
set_option maxRecDepth 100000 in
set_option maxHeartbeats 4000000 in
theorem specPathValid {s : ByteArray} {w : World} (hs : s.size ≤ 2097152) :
    Calls Tryd.prog 83 #[.string s] w fun e w' => e = .returned (.bool (pathOk s)) ∧ Below w.heap.size w w' := by
  have hl := pws_len s
  go_enter Tryd.func83, Tryd.ntmps83
  go_wp2_with fail
  refine (l30Words_any hs).mono ?_
  rintro e w1 ⟨A, c, rfl, hown, hB1⟩
  have hU : sgR w1 A (pws s) := sgR.own rfl (by omega) hown
  have HB1 := Lib.hid hB1
  clear hown hB1
  go_wp2
  go_loopw [4] (fun iv wr => ∃ k : Nat, k ≤ (pws s).length ∧ iv = .int .i64 k ∧ Hid (∀ j, j < k → nmOk (sg0 (pws s) j) = true) ∧ Below w1.heap.size w1 wr) (fun iv _ => (pws s).length - (intOf iv).toNat)
  case atStart => exact ⟨0, Nat.zero_le _, rfl, Lib.hid (fun j h => by omega), Below.refl _ _⟩
  case round =>
    obtain ⟨k, hk, rfl, HG, hB⟩ := hrel
    by_cases hlt : k < (pws s).length
    · obtain ⟨b, off, rfl, hc⟩ := hU.cells (by omega)
      have c0 := below_cell hB (hc k hlt)
      have hxs := pws_size hlt
      clear hc
      obtain ⟨n, hn⟩ : ∃ n, nmOk (sg0 (pws s) k) = n := ⟨_, rfl⟩
      have HN := Lib.hid hn
      cases n
      · have HP := Lib.hid (pathOk_no hlt HN.out)
        go_wp2_with fail
        refine (specNameValid_v hn (by omega) _).mono ?_
        rintro e w2 ⟨rfl, hb⟩
        replace hB := ext_trans hB hb
        clear hb c0
        go_wp2
        go_ret
        exact ⟨by rw [HP.out]; rfl, ext_trans HB1.out hB⟩
      · go_wp2_with fail
        refine (specNameValid_v hn (by omega) _).mono ?_
        rintro e w2 ⟨rfl, hb⟩
        replace hB := ext_trans hB hb
        clear hb c0
        go_wp2
        go_roundw
        case rel => exact ⟨k + 1, by omega, by go_num, Lib.hid (all_succ HG.out HN.out), hB⟩
        case measure => simp [intOf]; omega
    · obtain rfl : k = (pws s).length := by omega
      have HY := Lib.hid (pathOk_yes HG.out)
      go_wp2
      go_ret
      exact ⟨by rw [HY.out]; rfl, ext_trans HB1.out hB⟩
theorem specPathValid_v {s : ByteArray} {b : Bool} (hb : pathOk s = b) (hs : s.size ≤ 2097152) (w : World) :
    Calls Tryd.prog 83 #[.string s] w fun e w' => e = .returned (.bool b) ∧ Below w.heap.size w w' := hb ▸ specPathValid hs
theorem specPatternValid_w {s : ByteArray} {b : Bool} (hb : patOk s = b) (hs : s.size ≤ 2097152) (w : World) :
    Calls Tryd.prog 61 #[.string s] w fun e w' => e = .returned (.bool b) ∧ Below w.heap.size w w' := hb ▸ specPatternValid hs
/-! ### Plain -/
theorem star2_bad : nmOk star2 = false := by
  have h : nmGood star2 0 = false := by decide
  exact (nmOk_no (s := star2) (k := 0) (by decide) h).symm
theorem goodW_of : ∀ {ws : Wd}, (∀ k, k + 1 < ws.length → sg0 ws k ≠ star2) → goodW ws
  | [], _ => trivial
  | [_], _ => trivial
  | y :: z :: b, h => ⟨h 0 (by simp), goodW_of (fun k hk => h (k + 1) (by simpa using hk))⟩
theorem patOk_good {s : ByteArray} (h : patOk s = true) : goodW (pws s) := by
  simp only [patOk, Bool.and_eq_true, decide_eq_true_eq] at h
  refine goodW_of (fun k hk e => ?_)
  have h1 := h.1 k (by omega)
  rw [pwOk, e, star2_bad, decide_eq_true hk, decide_eq_false (fun h => star_ne h.symm)] at h1
  simp at h1
def fitS (path pat : ByteArray) : Bool := pathOk path && (patOk pat && fitG (pws path) (pws pat))
theorem fit_same (p s : ByteArray) : fitB p s = fitS p s := by
  rw [fitB, fitS]
  cases h1 : pathOk p
  · rfl
  · cases h2 : patOk s
    · rfl
    · rw [fit_eq (patOk_good h2) (pathOk_len h1)]
theorem drop_at {l : Wd} {k : Nat} (hk : k < l.length) : l.drop k = sg0 l k :: l.drop (k + 1) := by
  rw [List.drop_eq_getElem_cons hk]
  congr 1
  exact (sg_elem hk).symm
theorem fit_short {a b : Wd} {k : Nat} (hk : k < b.length) (h : a.length ≤ k) : fitG (a.drop k) (b.drop k) = false := by
  rw [List.drop_eq_nil_of_le h, drop_at hk]
  rfl
theorem fit_two {a b : Wd} {k : Nat} (hk : k < b.length) (hk' : k < a.length) (h : sg0 b k = star2) : fitG (a.drop k) (b.drop k) = true := by
  rw [drop_at hk, drop_at hk', fitG, if_pos h]
theorem fit_bad {a b : Wd} {k : Nat} (hk : k < b.length) (hk' : k < a.length) (h : ¬ sg0 b k = star2) (h1 : ¬ sg0 b k = star1) (h2 : ¬ sg0 b k = sg0 a k) : fitG (a.drop k) (b.drop k) = false := by
  rw [drop_at hk, drop_at hk', fitG, if_neg h, if_pos ⟨h1, h2⟩]
theorem fit_go {a b : Wd} {k : Nat} (hk : k < b.length) (hk' : k < a.length) (h : ¬ sg0 b k = star2) (h1 : sg0 b k = star1 ∨ sg0 b k = sg0 a k) : fitG (a.drop k) (b.drop k) = fitG (a.drop (k + 1)) (b.drop (k + 1)) := by
  rw [drop_at hk, drop_at hk', fitG, if_neg h, if_neg (by rintro ⟨h3, h4⟩; rcases h1 with h1 | h1; exact h3 h1; exact h4 h1)]
theorem fit_end {a b : Wd} (h : b.length ≤ a.length) : fitG (a.drop b.length) (b.drop b.length) = ((a.length : Int) == b.length) := by
  rw [List.drop_length, fitG, Bool.eq_iff_iff, List.isEmpty_iff, List.drop_eq_nil_iff, beq_iff_eq]
  omega
set_option maxRecDepth 100000 in
set_option maxHeartbeats 4000000 in
theorem specPathFits {p s : ByteArray} {w : World} (hp : p.size ≤ 2097152) (hs : s.size ≤ 2097152) :
    Calls Tryd.prog 63 #[.string p, .string s] w fun e w' => e = .returned (.bool (fitS p s)) ∧ Below w.heap.size w w' := by
  have hl := pws_len p
  have hl' := pws_len s
  cases h1 : pathOk p
  · have HR : Hid (fitS p s = false) := Lib.hid (by rw [fitS, h1]; rfl)
    go_enter Tryd.func63, Tryd.ntmps63
    go_wp2_with fail
    refine (specPathValid_v h1 hp _).mono ?_
    rintro e w1 ⟨rfl, hB⟩
    go_wp2
    go_ret
    exact ⟨by rw [HR.out]; rfl, hB⟩
  · cases h2 : patOk s
    · have HR : Hid (fitS p s = false) := Lib.hid (by rw [fitS, h1, h2]; rfl)
      go_enter Tryd.func63, Tryd.ntmps63
      go_wp2_with fail
      refine (specPathValid_v h1 hp _).mono ?_
      rintro e w1 ⟨rfl, hB⟩
      go_wp2_with fail
      refine (specPatternValid_w h2 hs _).mono ?_
      rintro e w2 ⟨rfl, hb⟩
      replace hB := ext_trans hB hb
      go_wp2
      go_ret
      exact ⟨by rw [HR.out]; rfl, hB⟩
    · have HR : Hid (fitS p s = fitG (pws p) (pws s)) := Lib.hid (by rw [fitS, h1, h2]; rfl)
      go_enter Tryd.func63, Tryd.ntmps63
      go_wp2_with fail
      refine (specPathValid_v h1 hp _).mono ?_
      rintro e w1 ⟨rfl, hB⟩
      go_wp2_with fail
      refine (specPatternValid_w h2 hs _).mono ?_
      rintro e w2 ⟨rfl, hb⟩
      replace hB := ext_trans hB hb
      clear hb
      go_wp2_with fail
      refine (l30Words_any hp).mono ?_
      rintro e w3 ⟨A, c, rfl, hown, hb⟩
      replace hB := ext_trans hB hb
      have hU0 : sgR w3 A (pws p) := sgR.own rfl (by omega) hown
      clear hb hown
      go_wp2_with fail
      refine (l30Words_any hs).mono ?_
      rintro e w4 ⟨A', c', rfl, hown, hb⟩
      replace hB := ext_trans hB hb
      have hU := hU0.below hb
      have hV : sgR w4 A' (pws s) := sgR.own rfl (by omega) hown
      have HB4 := Lib.hid hB
      obtain ⟨a, ha⟩ : ∃ a, pws p = a := ⟨_, rfl⟩
      obtain ⟨b, hb'⟩ : ∃ b, pws s = b := ⟨_, rfl⟩
      rw [ha, hb'] at HR
      rw [ha] at hU hl ⊢
      rw [hb'] at hV hl' ⊢
      clear hb hown hB hU0 ha hb'
      go_wp2
      go_loopw [7] (fun iv wr => ∃ k : Nat, (k ≤ b.length ∧ k ≤ a.length) ∧ iv = .int .i64 k ∧ Hid (fitG a b = fitG (a.drop k) (b.drop k)) ∧ Below w4.heap.size w4 wr) (fun iv _ => b.length - (intOf iv).toNat)
      case atStart => exact ⟨0, ⟨Nat.zero_le _, Nat.zero_le _⟩, rfl, Lib.hid (by simp), Below.refl _ _⟩
      case round =>
        obtain ⟨k, ⟨hk, hk'⟩, rfl, HG, hB⟩ := hrel
        by_cases hlt : k < b.length
        · by_cases hlt' : k < a.length
          · obtain ⟨b1, o1, rfl, hc⟩ := hU.cells (by omega)
            obtain ⟨b2, o2, rfl, hc'⟩ := hV.cells (by omega)
            have c0 := below_cell hB (hc k hlt')
            have d0 := below_cell hB (hc' k hlt)
            clear hc hc'
            obtain ⟨x, hx⟩ : ∃ x, sg0 a k = x := ⟨_, rfl⟩
            obtain ⟨y, hy⟩ : ∃ x, sg0 b k = x := ⟨_, rfl⟩
            rw [hx] at c0
            rw [hy] at d0
            by_cases e2 : y = star2
            · have q2 : (y.toList == [42, 42]) = true := by rw [star2_beq]; simpa using e2
              have HH := Lib.hid (fit_two (a := a) hlt hlt' (hy.trans e2))
              clear e2 hx hy
              go_wp2
              go_ret
              exact ⟨by rw [HR.out, HG.out, HH.out]; rfl, ext_trans HB4.out hB⟩
            · have q2 : (y.toList == [42, 42]) = false := by rw [star2_beq]; simpa using e2
              have c1 := cell_regrown c0
              have d1 := cell_regrown d0
              by_cases e1 : y = star1
              · have q1 : (y.toList == [42]) = true := by rw [star1_beq]; simpa using e1
                have HH := Lib.hid (fit_go (a := a) hlt hlt' (fun h => e2 (hy.symm.trans h)) (.inl (hy.trans e1)))
                clear e1 e2 hx hy
                go_wp2
                refine wp_region_quiet_below (by kernel_rfl) (by kernel_rfl) ?_
                repeat (go_big_quiet_step (fail))
                refine wpQuiet_nil ?_
                intro w2 hw'regrown
                replace hB := ext_trans hB (below_of_regrown hw'regrown (Nat.le_refl _))
                clear hw'regrown c0 d0 c1 d1
                go_wp2
                go_roundw
                case rel => exact ⟨k + 1, ⟨by omega, by omega⟩, by go_num, Lib.hid (HG.out.trans HH.out), hB⟩
                case measure => simp [intOf]; omega
              · have q1 : (y.toList == [42]) = false := by rw [star1_beq]; simpa using e1
                by_cases e3 : y = x
                · have q3 : (y.toList == x.toList) = true := by rw [str_beq]; simpa using e3
                  have HH := Lib.hid (fit_go (a := a) hlt hlt' (fun h => e2 (hy.symm.trans h)) (.inr (by rw [hx, hy, e3])))
                  clear e1 e2 e3 hx hy
                  go_wp2
                  refine wp_region_quiet_below (by kernel_rfl) (by kernel_rfl) ?_
                  repeat (go_big_quiet_step (fail))
                  refine wpQuiet_nil ?_
                  intro w2 hw'regrown
                  replace hB := ext_trans hB (below_of_regrown hw'regrown (Nat.le_refl _))
                  clear hw'regrown c0 d0 c1 d1
                  go_wp2
                  go_roundw
                  case rel => exact ⟨k + 1, ⟨by omega, by omega⟩, by go_num, Lib.hid (HG.out.trans HH.out), hB⟩
                  case measure => simp [intOf]; omega
                · have q3 : (y.toList == x.toList) = false := by rw [str_beq]; simpa using e3
                  have HH := Lib.hid (fit_bad (a := a) hlt hlt' (fun h => e2 (hy.symm.trans h)) (fun h => e1 (hy.symm.trans h)) (fun h => e3 (by rw [← hx, ← hy, h])))
                  clear e1 e2 e3 hx hy
                  go_wp2
                  refine wp_region_quiet_below (by kernel_rfl) (by kernel_rfl) ?_
                  repeat (go_big_quiet_step (fail))
                  refine wpQuiet_nil ?_
                  intro w2 hw'regrown
                  replace hB := ext_trans hB (below_of_regrown hw'regrown (Nat.le_refl _))
                  clear hw'regrown c0 d0 c1 d1
                  go_wp2
                  go_ret
                  exact ⟨by rw [HR.out, HG.out, HH.out]; rfl, ext_trans HB4.out hB⟩
          · have HH := Lib.hid (fit_short (a := a) hlt (by omega))
            go_wp2
            go_ret
            exact ⟨by rw [HR.out, HG.out, HH.out]; rfl, ext_trans HB4.out hB⟩
        · obtain rfl : k = b.length := by omega
          have HH := Lib.hid (fit_end hk')
          go_wp2
          go_ret
          exact ⟨by rw [HR.out, HG.out, HH.out]; rfl, ext_trans HB4.out hB⟩
end Go.Proofs.YtpmelhkhmichcaaDoor

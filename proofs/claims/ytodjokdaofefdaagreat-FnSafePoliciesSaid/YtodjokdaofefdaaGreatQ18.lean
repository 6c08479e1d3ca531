/- Kinds of expressions, by the program. -/
import Derived.Test.YtodjokdaofefdaaGreatQ17
import Derived.Test.YtodjokdaofefdaaGreatQ5
import Derived.Test.YtodjokdaofefdaaGreatQ8
namespace Go.Proofs.YtodjokdaofefdaaGreat
set_option linter.unusedSimpArgs false
set_option linter.unusedVariables false
open Go.RowKit

theorem allK_iff {ks : List Int} {x : Int} : allK ks x = true ↔ ∀ j, j < ks.length → il0 ks j = x := by
  rw [allK, List.all_eq_true]
  constructor
  · intro h j hj
    rw [il_elem hj]
    simpa using h _ (List.getElem_mem hj)
  · intro h y hy
    obtain ⟨j, hj, rfl⟩ := List.getElem_of_mem hy
    have := h j hj
    rw [il_elem hj] at this
    simpa using this
theorem allK_no {ks : List Int} {x : Int} {j : Nat} (hj : j < ks.length) (h : il0 ks j ≠ x) : allK ks x = false := by
  rw [Bool.eq_false_iff]
  intro hh
  exact h (allK_iff.1 hh j hj)
set_option maxRecDepth 100000 in
set_option maxHeartbeats 4000000 in
theorem kindAll_any {b c : Nat} {A : Option Addr} {ks : List Int} {x : Int} {w : World} (hb : w.cell? ⟨b, 0, none⟩ = some (.slice A ks.length c)) (hr : ilR w A ks) :
    Calls Tryz.prog 80 #[.int .i64 x, .pointer (some ⟨b, 0, none⟩)] w fun e w' => e = .returned (.bool (allK ks x)) ∧ Below w.heap.size w w' := by
  have hlen := hr.len
  go_enter Tryz.func80, Tryz.ntmps80
  go_wp2
  go_loopw [8] (fun i wr => ∃ k : Nat, k ≤ ks.length ∧ i = .int .i64 k ∧ Hid (∀ j, j < k → il0 ks j = x) ∧ Below w.heap.size w wr) (fun i _ => ks.length - (intOf i).toNat)
  case atStart => exact ⟨0, Nat.zero_le _, rfl, Lib.hid (fun j h => by omega), Below.refl _ _⟩
  case round =>
    obtain ⟨k, hk, rfl, HG, hB⟩ := hrel
    by_cases hlt : k < ks.length
    · obtain ⟨b5, o5, rfl, hc⟩ := hr.cells (by omega)
      have c0 := below_cell hB (hc k hlt)
      clear hc
      obtain ⟨y, hy⟩ : ∃ y, il0 ks k = y := ⟨_, rfl⟩
      rw [hy] at c0
      have HY := Lib.hid hy
      clear hy
      by_cases g : y = x
      · have gb : (y != x) = false := by simpa using g
        have HG2 := Lib.hid (all_succ (p := fun j => il0 ks j = x) HG.out (HY.out.trans g))
        clear g
        go_wp2
        go_roundw
        case rel => exact ⟨k + 1, by omega, by go_num, HG2, hB⟩
        case measure => simp [intOf]; omega
      · have gb : (y != x) = true := by simpa using g
        have HE : Hid (allK ks x = false) := Lib.hid (allK_no hlt (by rw [HY.out]; exact g))
        clear g
        go_wp2
        go_ret
        exact ⟨by rw [HE.out]; rfl, hB⟩
    · obtain rfl : k = ks.length := by omega
      have HE : Hid (allK ks x = true) := Lib.hid (allK_iff.2 HG.out)
      go_wp2
      go_ret
      exact ⟨by rw [HE.out]; rfl, hB⟩
theorem enters_all1 : ∀ args w, (callFunc 80 args).run Tryz.prog w = .ok (.enter 80 args) w := enters_of Tryz.func80 (by kernel_rfl) rfl
def KiQ (d : Nat) : Prop := ∀ (s : Sc) (A0 A1 : Option Addr) (c0 c1 : Nat) (A : Option Addr) (r : Ex) (c : Nat) (w : World), scR w A0 A1 s → exW d w A r.ps → gdR (d + 1) r = true →
  Calls Tryz.prog 65 #[.agg #[.slice A0 s.1.length c0, .slice A1 s.2.length c1], .agg #[.int .i64 r.k, .int .i64 r.n, .string r.s, .slice A r.ps.length c]] w fun e w' => e = .returned (.int .i64 (kiR (d + 1) s r)) ∧ Below w.heap.size w w'
set_option maxRecDepth 100000 in
set_option maxHeartbeats 8000000 in
theorem kiQ_of {d : Nat} (hQ : ∀ m, d = m + 1 → KiQ m) : KiQ d := by
  intro s A0 A1 c0 c1 A r c w hS hU hg
  have eg := enters_all1
  have HQ := Lib.hid hQ
  have hhd := gd_head hg
  have hl2 := headB_len hhd
  have har := head_len hhd
  have HP : Hid (∀ k, k < r.ps.length → gdR d (exAt r.ps k) = true) := Lib.hid (fun k hk => gd_part hg hk)
  obtain ⟨W0, hW0⟩ : ∃ W, W = (w.alloc (.cells #[.slice A0 s.1.length c0, .slice A1 s.2.length c1] 25)).alloc (.cells #[.int .i64 r.k, .int .i64 r.n, .string r.s, .slice A r.ps.length c] 36) := ⟨_, rfl⟩
  obtain ⟨g, hgg⟩ : ∃ g, g = w.heap.size := ⟨_, rfl⟩
  have hB0 : Below w.heap.size w W0 := by rw [hW0]; (repeat (first | exact Below.refl _ _ | refine ext_alloc ?_ _ | refine Below.setCell ?_ (by simp) _))
  have hq1 : W0.heap[g]? = some (.cells #[.slice A0 s.1.length c0, .slice A1 s.2.length c1] 25 (0, 0)) := by rw [hW0, hgg]; exact block_in (heap_alloc_new _ _) (below_alloc _ _)
  have hq2 : W0.heap[g + 1]? = some (.cells #[.int .i64 r.k, .int .i64 r.n, .string r.s, .slice A r.ps.length c] 36 (0, 0)) := by rw [hW0, hgg]; exact heap_alloc_at (by simp)
  obtain ⟨gb, hgb⟩ : ∃ b, b = g + 1 + 1 := ⟨_, rfl⟩
  have hsz : gb = W0.heap.size := by rw [hgb, hW0, hgg]; simp
  obtain ⟨W, hW⟩ : ∃ W, W = W0.alloc (.cells #[.slice Option.none 0 0] 40) := ⟨_, rfl⟩
  have hB1 : Below W0.heap.size W0 W := by rw [hW]; exact below_alloc _ _
  have hbx : W.heap[gb]? = some (.cells #[.slice Option.none 0 0] 40 (0, 0)) := by rw [hW]; exact heap_alloc_at hsz
  replace hS := hS.below hB0
  replace hU := hU.below hB0
  have HQ1 := Lib.hid hq1
  have HQ2 := Lib.hid hq2
  have HW0 := Lib.hid hW0
  have HW := Lib.hid hW
  have HGG := Lib.hid hgg
  have HGB := Lib.hid hgb
  have HSZ := Lib.hid hsz
  have HAR := Lib.hid har
  have HHD := Lib.hid hhd
  have HBX := Lib.hid hbx
  have hB := hB1
  clear hW0 hW hsz hB1 hq1 hq2 hgg hgb har hg hQ hhd hbx
  go_enter Tryz.func65, Tryz.ntmps65
  go_wp2_with fail
  rw [← HW0.out, ← HGG.out, ← HGB.out, ← HW.out]
  go_loopw [14] (fun i wr => ∃ (k : Nat) (v : Value), k ≤ r.ps.length ∧ i = .int .i64 k ∧ Hid (wr.heap[gb]? = some (.cells #[v] 40 (0, 0))) ∧ OwnA (gb + 1) 3 1 ilEnc wr v ((r.ps.take k).map (kiR d s)) ∧ Hid (∀ j, j < k → kiR d s (exAt r.ps j) ≠ 0) ∧ Below W0.heap.size W0 wr) (fun i _ => r.ps.length - (intOf i).toNat)
  case atStart => exact ⟨0, _, Nat.zero_le _, rfl, HBX, OwnA.nil, Lib.hid (fun j h => by omega), hB⟩
  case round =>
    clear hB HBX
    obtain ⟨k, v, hk, rfl, HBX, hO, HN, hB⟩ := hrel
    obtain ⟨q0, q1⟩ := cells2 (block_in HQ1.out hB)
    obtain ⟨p0, p1, p2, p3⟩ := cells4 (block_in HQ2.out hB)
    by_cases hlt : k < r.ps.length
    · have hd : ∃ m, d = m + 1 := by
        cases d with
        | zero => have := exS.zero hU; rw [this] at hlt; simp at hlt
        | succ m => exact ⟨m, rfl⟩
      obtain ⟨m, hm⟩ := hd
      subst hm
      have HI := Lib.hid (HQ.out m rfl)
      obtain ⟨b, off, rfl, hcl⟩ := hU.cells (by omega)
      obtain ⟨A', c', hfd, hs, e0, e1, e2, e3⟩ := hcl k hlt
      replace e0 := below_cell hB e0
      replace e1 := below_cell hB e1
      replace e2 := below_cell hB e2
      replace e3 := below_cell hB e3
      have hB3 := ext_alloc hB (.cells #[.int .i64 (exAt r.ps k).k, .int .i64 (exAt r.ps k).n, .string (exAt r.ps k).s, .slice A' (exAt r.ps k).ps.length c'] 36)
      replace hfd := hfd.below hB3
      have hSw := hS.below hB3
      have HGK := Lib.hid (HP.out k hlt)
      have hlk : ((r.ps.take k).map (kiR (m + 1) s)).length = k := by rw [List.length_map, List.length_take]; omega
      have hap : (r.ps.take (k + 1)).map (kiR (m + 1) s) = (r.ps.take k).map (kiR (m + 1) s) ++ [kiR (m + 1) s (exAt r.ps k)] := by
        rw [List.take_succ_eq_append_getElem hlt, List.map_append, exAt_eq hlt]; rfl
      have HAP := Lib.hid hap
      obtain ⟨ks, hks⟩ : ∃ l, l = (r.ps.take k).map (kiR (m + 1) s) := ⟨_, rfl⟩
      rw [← hks] at hO hlk HAP
      have HST : Hid (kiR (m + 1) s (exAt r.ps k) = 0 → kiR (m + 1 + 1) s r = 0) := Lib.hid (kiR_stop hlt)
      obtain ⟨x, hx⟩ : ∃ x, kiR (m + 1) s (exAt r.ps k) = x := ⟨_, rfl⟩
      have HX := Lib.hid hx
      rw [hx] at HAP HST
      have HC : Hid (∀ W A c, scR W A0 A1 s → exW m W A (exAt r.ps k).ps → Calls Tryz.prog 65 #[.agg #[.slice A0 s.1.length c0, .slice A1 s.2.length c1], .agg #[.int .i64 (exAt r.ps k).k, .int .i64 (exAt r.ps k).n, .string (exAt r.ps k).s, .slice A (exAt r.ps k).ps.length c]] W fun e w' => e = .returned (.int .i64 x) ∧ Below W.heap.size W w') := Lib.hid (fun W A c h1 h2 => hx ▸ HI.out _ _ _ _ _ _ _ _ _ h1 h2 HGK.out)
      have HLK := Lib.hid hlk
      replace q0 := below_cell (below_alloc wr (.cells #[.int .i64 (exAt r.ps k).k, .int .i64 (exAt r.ps k).n, .string (exAt r.ps k).s, .slice A' (exAt r.ps k).ps.length c'] 36)) q0
      replace q1 := below_cell (below_alloc wr (.cells #[.int .i64 (exAt r.ps k).k, .int .i64 (exAt r.ps k).n, .string (exAt r.ps k).s, .slice A' (exAt r.ps k).ps.length c'] 36)) q1
      have y0 := box_cell wr #[.int .i64 (exAt r.ps k).k, .int .i64 (exAt r.ps k).n, .string (exAt r.ps k).s, .slice A' (exAt r.ps k).ps.length c'] 36 0 _ rfl
      have y1 := box_cell wr #[.int .i64 (exAt r.ps k).k, .int .i64 (exAt r.ps k).n, .string (exAt r.ps k).s, .slice A' (exAt r.ps k).ps.length c'] 36 1 _ rfl
      have y2 := box_cell wr #[.int .i64 (exAt r.ps k).k, .int .i64 (exAt r.ps k).n, .string (exAt r.ps k).s, .slice A' (exAt r.ps k).ps.length c'] 36 2 _ rfl
      have y3 := box_cell wr #[.int .i64 (exAt r.ps k).k, .int .i64 (exAt r.ps k).n, .string (exAt r.ps k).s, .slice A' (exAt r.ps k).ps.length c'] 36 3 _ rfl
      have HBA := Lib.hid (below_alloc wr (.cells #[.int .i64 (exAt r.ps k).k, .int .i64 (exAt r.ps k).n, .string (exAt r.ps k).s, .slice A' (exAt r.ps k).ps.length c'] 36))
      clear hcl hap hks hx hlk
      go_wp2_with fail
      refine (HC.out _ _ _ hSw hfd).mono ?_
      rintro e w1 ⟨rfl, hb⟩
      replace hO := (hO.below HBA.out).below hb
      have hbx := block_in (block_in HBX.out HBA.out) hb
      replace hB := ext_trans hB3 hb
      clear hb e0 e1 e2 e3 hfd hSw p0 p1 p2 p3 q0 q1 y0 y1 y2 y3 hB3 HBA HBX HC
      by_cases gx : x = 0
      · have gxb : (x == 0) = true := by simpa using gx
        have HE := Lib.hid (HST.out gx)
        clear gx
        go_wp2
        go_ret
        exact ⟨by rw [HE.out]; rfl, hB0.trans (hB.mono hB0.size)⟩
      · have gxb : (x == 0) = false := by simpa using gx
        have HN2 : Hid (∀ j, j < k + 1 → kiR (m + 1) s (exAt r.ps j) ≠ 0) := Lib.hid (all_succ (p := fun j => kiR (m + 1) s (exAt r.ps j) ≠ 0) HN.out (by rw [HX.out]; exact gx))
        have hb0 : w1.cell? ⟨gb, 0, none⟩ = some v := (cell_of_row w1 gb 0 _ _ _ hbx).trans rfl
        have hbz : gb + 1 ≤ w1.heap.size := (Array.getElem?_eq_some_iff.1 hbx).1
        have HBX := Lib.hid hbx
        have hks2 : ks.length ≤ 2 := by have := HLK.out; omega
        clear gx HST HX HN hbx
        go_wp2_with (at_builtin; go_must (refine wpList_push (enc := ilEnc) x rfl (.tmp 23) (.tmp 25) 40 3 _ 1 8 rfl Tryz.underlying40 Tryz.infoInt rfl (by decide) (fun _ => rfl) ilEnc_one (hO.below (by (repeat (first | exact Below.refl _ _ | refine ext_alloc ?_ _ | refine Below.setCell ?_ (by simp) _)))) rfl (heap_alloc_at (by simp)) (by rfl) (by omega) (by omega) (Nat.le_trans hbz (show Below _ _ _ by (repeat (first | exact Below.refl _ _ | refine ext_alloc ?_ _ | refine Below.setCell ?_ (by simp) _))).size) ?_); intro v_ wq ho_ hb_ hg_; obtain ⟨A5, c5, hv5, hr5⟩ := OwnA.rd (enc := ilEnc) (sz := 1) (fun _ => rfl) (by rw [List.length_append, HLK.out]; simp; omega) ho_; rw [show (ks ++ [x]).length = ks.length + 1 by simp] at hv5; subst hv5; have hbq := (hb_.block gb (by omega)).trans (block_in HBX.out (below_alloc _ _)); have hc0 : wq.cell? ⟨gb, 0, none⟩ = some v := (cell_of_row wq gb 0 _ _ _ hbq).trans rfl; have hf0 := frozen_of_row wq gb 0 _ _ hbq; have HBQ := Lib.hid hbq; clear hbq)
        have hst := setCells_grown gb [.slice A5 (ks.length + 1) c5] wq 0
        have HBX2 : Hid ((setCells wq gb 0 [.slice A5 (ks.length + 1) c5]).heap[gb]? = some (.cells #[.slice A5 (ks.length + 1) c5] 40 (0, 0))) := Lib.hid (setCells_atG [.slice A5 (ks.length + 1) c5] 0 HBQ.out (by simp))
        have HO2 := Lib.hid (ho_.apart hst (fun q hq e => by have := (ho_.ge q hq).1; cases e; omega))
        have hBq : Below W0.heap.size W0 wq := (ext_trans hB (below_alloc _ _)).trans (hb_.mono (by rw [HSZ.out]; omega))
        have HB2 := Lib.hid (setCells_below (Nat.le_of_eq HSZ.out.symm) [.slice A5 (ks.length + 1) c5] 0 hBq)
        clear ho_ hb_ hg_ hst hBq
        go_roundw
        case rel => exact ⟨k + 1, _, by omega, by go_num, HBX2, by rw [HAP.out]; exact HO2.out, HN2, HB2.out⟩
        case measure => simp [intOf]; omega
    · obtain rfl : k = r.ps.length := by omega
      rw [List.take_length] at hO
      have hgo := kiR_go (d := d) (s := s) (t := r) HN.out
      obtain ⟨ks, hks⟩ : ∃ l, l = r.ps.map (kiR d s) := ⟨_, rfl⟩
      rw [← hks] at hO hgo
      have hkl : ks.length = r.ps.length := by rw [hks, List.length_map]
      have HGO := Lib.hid hgo
      have hSw := hS.below hB
      have HBB := Lib.hid (hB0.trans (hB.mono hB0.size))
      obtain ⟨A5, c5, rfl, hr5⟩ := OwnA.rd (enc := ilEnc) (sz := 1) (fun _ => rfl) (by rw [hkl]; omega) hO
      have hr5 : ilR wr A5 ks := hr5
      have zb : wr.cell? ⟨gb, 0, none⟩ = some (.slice A5 ks.length c5) := (cell_of_row wr gb 0 _ _ _ HBX.out).trans rfl
      have hk15 := inB_true.1 (show inB r.k 1 15 = true from (Bool.and_eq_true_iff.1 HHD.out).1)
      have har := HAR.out
      clear hks hgo hO HN HAR HHD hB HQ HP hlt HBX
      rcases (show r.k = 1 ∨ r.k = 2 ∨ r.k = 3 ∨ r.k = 4 ∨ r.k = 5 ∨ r.k = 6 ∨ r.k = 7 ∨ r.k = 8 ∨ r.k = 9 ∨ r.k = 10 ∨ r.k = 11 ∨ r.k = 12 ∨ r.k = 13 ∨ r.k = 14 ∨ r.k = 15 from by omega) with h | h | h | h | h | h | h | h | h | h | h | h | h | h | h
      · rw [h] at p0 har
        have hl : ks.length = 0 := by rw [hkl, har]; rfl
        clear har hkl
        have HE : Hid (kiR (d + 1) s r = 1) := Lib.hid (HGO.out.trans (fin_1 h))
        clear HGO h
        go_wp2
        go_ret
        exact ⟨by rw [HE.out]; rfl, HBB.out⟩
      · rw [h] at p0 har
        have hl : ks.length = 0 := by rw [hkl, har]; rfl
        clear har hkl
        have HE : Hid (kiR (d + 1) s r = 2) := Lib.hid (HGO.out.trans (fin_2 (.inl h)))
        clear HGO h
        go_wp2
        go_ret
        exact ⟨by rw [HE.out]; rfl, HBB.out⟩
      · rw [h] at p0 har
        have hl : ks.length = 0 := by rw [hkl, har]; rfl
        clear har hkl
        have HE : Hid (kiR (d + 1) s r = 3) := Lib.hid (HGO.out.trans (fin_3 (.inl h)))
        clear HGO h
        go_wp2
        go_ret
        exact ⟨by rw [HE.out]; rfl, HBB.out⟩
      · rw [h] at p0 har
        have hl : ks.length = 0 := by rw [hkl, har]; rfl
        clear har hkl
        have HE : Hid (kiR (d + 1) s r = 3) := Lib.hid (HGO.out.trans (fin_3 (.inr (.inl h))))
        clear HGO h
        go_wp2
        go_ret
        exact ⟨by rw [HE.out]; rfl, HBB.out⟩
      · rw [h] at p0 har
        have hl : ks.length = 0 := by rw [hkl, har]; rfl
        clear har hkl
        have HE : Hid (kiR (d + 1) s r = 3) := Lib.hid (HGO.out.trans (fin_3 (.inr (.inr h))))
        clear HGO h
        go_wp2
        go_ret
        exact ⟨by rw [HE.out]; rfl, HBB.out⟩
      · rw [h] at p0 har
        have hl : ks.length = 0 := by rw [hkl, har]; rfl
        clear har hkl
        have HE : Hid (kiR (d + 1) s r = 2) := Lib.hid (HGO.out.trans (fin_2 (.inr h)))
        clear HGO h
        go_wp2
        go_ret
        exact ⟨by rw [HE.out]; rfl, HBB.out⟩
      · rw [h] at p0 har
        have hl : ks.length = 0 := by rw [hkl, har]; rfl
        clear har hkl
        have HE : Hid (kiR (d + 1) s r = kdIn s.2 r.s) := Lib.hid (HGO.out.trans (fin_7 h))
        clear HGO h
        go_wp2_with fail
        refine (kindIn_any rfl hSw.2).mono ?_
        rintro e w1 ⟨rfl, hb⟩
        have HB1 := Lib.hid (ext_trans HBB.out hb)
        clear hb p0 p1 p2 p3 q0 q1 zb
        go_wp2
        go_ret
        exact ⟨by rw [HE.out]; rfl, HB1.out⟩
      · rw [h] at p0 har
        have hl : ks.length = 1 := by rw [hkl, har]; rfl
        clear har hkl
        obtain ⟨q, hq⟩ : ∃ q, allK ks 3 = q := ⟨_, rfl⟩
        have HF : Hid (kiR (d + 1) s r = if q = true then kdIn s.1 r.s else 0) := Lib.hid (by rw [HGO.out, fin_8 h, hq])
        have HA := Lib.hid (kindAll_any (x := 3) zb hr5)
        rw [hq] at HA
        clear HGO h hq hr5 hl
        go_wp2_with fail
        refine HA.out.mono ?_
        rintro e w1 ⟨rfl, hb⟩
        have HB1 := Lib.hid (ext_trans HBB.out hb)
        replace q0 := below_cell hb q0
        replace p2 := below_cell hb p2
        replace hSw := hSw.below hb
        clear hb p0 p1 p3 q1 zb
        cases q
        · go_wp2
          go_ret
          exact ⟨by rw [HF.out]; rfl, HB1.out⟩
        · go_wp2_with fail
          refine (kindIn_any rfl hSw.1).mono ?_
          rintro e w2 ⟨rfl, hb⟩
          have HB2 := Lib.hid (ext_trans HB1.out hb)
          clear hb p2 q0
          go_wp2
          go_ret
          exact ⟨by rw [HF.out]; rfl, HB2.out⟩
      · rw [h] at p0 har
        have hl : ks.length = 1 := by rw [hkl, har]; rfl
        clear har hkl
        obtain ⟨q, hq⟩ : ∃ q, allK ks 3 = q := ⟨_, rfl⟩
        have HF : Hid (kiR (d + 1) s r = if q = true then 1 else 0) := Lib.hid (by rw [HGO.out, fin_9 (.inl h), hq])
        have HA := Lib.hid (kindAll_any (x := 3) zb hr5)
        rw [hq] at HA
        clear HGO h hq hr5 hl
        go_wp2_with fail
        refine HA.out.mono ?_
        rintro e w1 ⟨rfl, hb⟩
        have HB1 := Lib.hid (ext_trans HBB.out hb)
        clear hb p0 p1 p2 p3 q0 q1 zb
        cases q
        all_goals
          go_wp2
          go_ret
          exact ⟨by rw [HF.out]; rfl, HB1.out⟩
      · rw [h] at p0 har
        have hl : ks.length = 2 := by rw [hkl, har]; rfl
        clear har hkl
        have hl1 : 0 < ks.length := by omega
        have hl2 : 1 < ks.length := by omega
        obtain ⟨b5, o5, rfl, hc5⟩ := ilR.cells hr5 hl1
        have y0 := hc5 0 hl1
        have y1 := hc5 1 hl2
        rw [Nat.add_zero] at y0
        obtain ⟨x, hx⟩ : ∃ x, il0 ks 0 = x := ⟨_, rfl⟩
        obtain ⟨z, hz⟩ : ∃ z, il0 ks 1 = z := ⟨_, rfl⟩
        rw [hx] at y0
        rw [hz] at y1
        have HF : Hid (kiR (d + 1) s r = if x = z then 1 else 0) := Lib.hid (by rw [HGO.out, fin_10 h, hx, hz])
        clear HGO h hc5 hx hz hr5 hl
        have y2 := cell_regrown y0
        have y3 := cell_regrown y1
        have y4 := cell_regrown zb
        clear y0 y1
        by_cases e : x = z
        · have gb : (x == z) = true := by simpa using e
          rw [if_pos e] at HF
          go_wp2
          refine wp_region_quiet_below (by kernel_rfl) (by kernel_rfl) ?_
          repeat (go_big_quiet_step (fail))
          refine wpQuiet_nil ?_
          intro w4 hw'regrown
          have HB1 := Lib.hid (ext_trans HBB.out (below_of_regrown hw'regrown (Nat.le_refl _)))
          clear hw'regrown
          go_wp2
          go_ret
          exact ⟨by rw [HF.out]; rfl, HB1.out⟩
        · have gb : (x == z) = false := by simpa using e
          rw [if_neg e] at HF
          go_wp2
          refine wp_region_quiet_below (by kernel_rfl) (by kernel_rfl) ?_
          repeat (go_big_quiet_step (fail))
          refine wpQuiet_nil ?_
          intro w4 hw'regrown
          have HB1 := Lib.hid (ext_trans HBB.out (below_of_regrown hw'regrown (Nat.le_refl _)))
          clear hw'regrown
          go_wp2
          go_ret
          exact ⟨by rw [HF.out]; rfl, HB1.out⟩
      · rw [h] at p0 har
        have hl : ks.length = 2 := by rw [hkl, har]; rfl
        clear har hkl
        obtain ⟨q, hq⟩ : ∃ q, allK ks 2 = q := ⟨_, rfl⟩
        have HF : Hid (kiR (d + 1) s r = if q = true then 1 else 0) := Lib.hid (by rw [HGO.out, fin_11 h, hq])
        have HA := Lib.hid (kindAll_any (x := 2) zb hr5)
        rw [hq] at HA
        clear HGO h hq hr5 hl
        go_wp2_with fail
        refine HA.out.mono ?_
        rintro e w1 ⟨rfl, hb⟩
        have HB1 := Lib.hid (ext_trans HBB.out hb)
        clear hb p0 p1 p2 p3 q0 q1 zb
        cases q
        all_goals
          go_wp2
          go_ret
          exact ⟨by rw [HF.out]; rfl, HB1.out⟩
      · rw [h] at p0 har
        have hl : ks.length = 2 := by rw [hkl, har]; rfl
        clear har hkl
        obtain ⟨q, hq⟩ : ∃ q, allK ks 3 = q := ⟨_, rfl⟩
        have HF : Hid (kiR (d + 1) s r = if q = true then 1 else 0) := Lib.hid (by rw [HGO.out, fin_9 (.inr h), hq])
        have HA := Lib.hid (kindAll_any (x := 3) zb hr5)
        rw [hq] at HA
        clear HGO h hq hr5 hl
        go_wp2_with fail
        refine HA.out.mono ?_
        rintro e w1 ⟨rfl, hb⟩
        have HB1 := Lib.hid (ext_trans HBB.out hb)
        clear hb p0 p1 p2 p3 q0 q1 zb
        cases q
        all_goals
          go_wp2
          go_ret
          exact ⟨by rw [HF.out]; rfl, HB1.out⟩
      · rw [h] at p0 har
        have hl : ks.length = 1 := by rw [hkl, har]; rfl
        clear har hkl
        obtain ⟨q, hq⟩ : ∃ q, allK ks 1 = q := ⟨_, rfl⟩
        have HF : Hid (kiR (d + 1) s r = if q = true then 1 else 0) := Lib.hid (by rw [HGO.out, fin_13 (.inl h), hq])
        have HA := Lib.hid (kindAll_any (x := 1) zb hr5)
        rw [hq] at HA
        clear HGO h hq hr5 hl
        go_wp2_with fail
        refine HA.out.mono ?_
        rintro e w1 ⟨rfl, hb⟩
        have HB1 := Lib.hid (ext_trans HBB.out hb)
        clear hb p0 p1 p2 p3 q0 q1 zb
        cases q
        all_goals
          go_wp2
          go_ret
          exact ⟨by rw [HF.out]; rfl, HB1.out⟩
      · rw [h] at p0 har
        have hl : ks.length = 2 := by rw [hkl, har]; rfl
        clear har hkl
        obtain ⟨q, hq⟩ : ∃ q, allK ks 1 = q := ⟨_, rfl⟩
        have HF : Hid (kiR (d + 1) s r = if q = true then 1 else 0) := Lib.hid (by rw [HGO.out, fin_13 (.inr (.inl h)), hq])
        have HA := Lib.hid (kindAll_any (x := 1) zb hr5)
        rw [hq] at HA
        clear HGO h hq hr5 hl
        go_wp2_with fail
        refine HA.out.mono ?_
        rintro e w1 ⟨rfl, hb⟩
        have HB1 := Lib.hid (ext_trans HBB.out hb)
        clear hb p0 p1 p2 p3 q0 q1 zb
        cases q
        all_goals
          go_wp2
          go_ret
          exact ⟨by rw [HF.out]; rfl, HB1.out⟩
      · rw [h] at p0 har
        have hl : ks.length = 2 := by rw [hkl, har]; rfl
        clear har hkl
        obtain ⟨q, hq⟩ : ∃ q, allK ks 1 = q := ⟨_, rfl⟩
        have HF : Hid (kiR (d + 1) s r = if q = true then 1 else 0) := Lib.hid (by rw [HGO.out, fin_13 (.inr (.inr h)), hq])
        have HA := Lib.hid (kindAll_any (x := 1) zb hr5)
        rw [hq] at HA
        clear HGO h hq hr5 hl
        go_wp2_with fail
        refine HA.out.mono ?_
        rintro e w1 ⟨rfl, hb⟩
        have HB1 := Lib.hid (ext_trans HBB.out hb)
        clear hb p0 p1 p2 p3 q0 q1 zb
        cases q
        all_goals
          go_wp2
          go_ret
          exact ⟨by rw [HF.out]; rfl, HB1.out⟩
theorem kiQ_all : ∀ d, KiQ d
  | 0 => kiQ_of (fun m h => by omega)
  | d + 1 => kiQ_of (fun m h => by cases h; exact kiQ_all d)
end Go.Proofs.YtodjokdaofefdaaGreat
/- The greatest thing of an expression; kinds by both. -/
namespace Go.Proofs.YtodjokdaofefdaaGreat
set_option linter.unusedSimpArgs false
set_option linter.unusedVariables false
open Go.RowKit

theorem grownP_below {w w' : World} (h : Below w.heap.size w w') (row : Option Nat) : w.grownBy w' row := ⟨h.os, h.tape, h.output, h.size, fun k hk _ => h.block k hk⟩
theorem mxI_swap (l : List Int) (x y : Int) : max (mxI x l) y = mxI (max x y) l := by
  rw [Int.max_comm, ← mxI_max, Int.max_comm]
theorem max_if (a b : Int) : max a b = if a < b then b else a := by
  rw [Int.max_def]; split <;> split <;> omega
def ThQ (d : Nat) : Prop := ∀ (A : Option Addr) (r : Ex) (c : Nat) (w : World), exW d w A r.ps →
  Calls Tryz.prog 44 #[.agg #[.int .i64 r.k, .int .i64 r.n, .string r.s, .slice A r.ps.length c]] w fun e w' => e = .returned (.int .i64 (thR (d + 1) r)) ∧ Below w.heap.size w w'
set_option maxRecDepth 100000 in
set_option maxHeartbeats 4000000 in
theorem thQ_of {d : Nat} (hQ : ∀ m, d = m + 1 → ThQ m) : ThQ d := by
  intro A r c w hU
  have HQ := Lib.hid hQ
  have hlen := exS.len hU
  obtain ⟨W, hW⟩ : ∃ W, W = w.alloc (.cells #[.int .i64 r.k, .int .i64 r.n, .string r.s, .slice A r.ps.length c] 36) := ⟨_, rfl⟩
  obtain ⟨g, hg⟩ : ∃ g, g = w.heap.size := ⟨_, rfl⟩
  have hB0 : Below w.heap.size w W := by rw [hW]; exact below_alloc _ _
  have hq : W.heap[g]? = some (.cells #[.int .i64 r.k, .int .i64 r.n, .string r.s, .slice A r.ps.length c] 36 (0, 0)) := by rw [hW, hg]; exact heap_alloc_new _ _
  obtain ⟨p0, p1, p2, p3⟩ := cells4 hq
  replace hU := hU.below hB0
  have HQ1 := Lib.hid hq
  have HW := Lib.hid hW
  have HG := Lib.hid hg
  clear hW hg hq hQ
  obtain ⟨x0, hx0⟩ : ∃ x, x = (if r.k = 3 then r.n else -1) := ⟨_, rfl⟩
  have HX0 := Lib.hid hx0
  have hstart : ∀ {P : Prop}, (r.k = 3 → x0 = r.n → P) → (r.k ≠ 3 → x0 = -1 → P) → P := fun a b => by
    by_cases h3 : r.k = 3
    · exact a h3 (by rw [hx0, if_pos h3])
    · exact b h3 (by rw [hx0, if_neg h3])
  clear hx0
  have hloop : ∀ {id : Nat}, True := fun {_} => trivial
  clear hloop
  go_enter Tryz.func44, Tryz.ntmps44
  refine hstart (fun h3 he => ?_) (fun h3 he => ?_)
  all_goals
    first
      | (have h3b : (r.k == 3) = true := by simpa using h3)
      | (have h3b : (r.k == 3) = false := by simpa using h3)
    clear h3
    go_wp2_with fail
    rw [← HW.out, ← HG.out]
    first
      | rw [← he]
      | skip
    clear he hstart h3b
    go_loopw [3, 4] (fun m i wr => ∃ k : Nat, k ≤ r.ps.length ∧ i = .int .i64 k ∧ m = .int .i64 (mxI x0 ((r.ps.take k).map (thR d))) ∧ Below W.heap.size W wr) (fun _ i _ => r.ps.length - (intOf i).toNat)
    case atStart => exact ⟨0, Nat.zero_le _, rfl, rfl, Below.refl _ _⟩
    case round =>
      obtain ⟨k, hk, rfl, rfl, hB⟩ := hrel
      obtain ⟨e0, e1, e2, e3⟩ := cells4 (block_in HQ1.out hB)
      by_cases hlt : k < r.ps.length
      · have hd : ∃ m, d = m + 1 := by
          cases d with
          | zero => have := exS.zero hU; rw [this] at hlt; simp at hlt
          | succ m => exact ⟨m, rfl⟩
        obtain ⟨m, hm⟩ := hd
        subst hm
        have HI := Lib.hid (HQ.out m rfl)
        obtain ⟨b, off, rfl, hcl⟩ := hU.cells (by omega)
        obtain ⟨A', c', hfd, hs, y0, y1, y2, y3⟩ := hcl k hlt
        replace y0 := below_cell hB y0
        replace y1 := below_cell hB y1
        replace y2 := below_cell hB y2
        replace y3 := below_cell hB y3
        replace hfd := hfd.below hB
        have HAP : Hid (mxI x0 ((r.ps.take (k + 1)).map (thR (m + 1))) = max (mxI x0 ((r.ps.take k).map (thR (m + 1)))) (thR (m + 1) (exAt r.ps k))) := Lib.hid (by
          rw [List.take_succ_eq_append_getElem hlt, List.map_append, exAt_eq hlt]; exact mxI_snoc _ _ _)
        obtain ⟨z, hz⟩ : ∃ z, mxI x0 ((r.ps.take k).map (thR (m + 1))) = z := ⟨_, rfl⟩
        rw [hz] at HAP ⊢
        clear hcl hz
        go_wp2_with fail
        refine (HI.out _ _ _ _ hfd).mono ?_
        rintro e w1 ⟨rfl, hb⟩
        replace hB := ext_trans hB hb
        clear hb y0 y1 y2 y3 hfd e0 e1 e2 e3
        go_wp2
        go_roundw
        case rel => exact ⟨k + 1, by omega, by go_num, by rw [HAP.out, max_if], hB⟩
        case measure => simp [intOf]; omega
      · obtain rfl : k = r.ps.length := by omega
        go_wp2
        go_ret
        refine ⟨?_, hB0.trans (hB.mono hB0.size)⟩
        rw [List.take_length, thR, ← HX0.out]
        rfl
theorem thQ_all : ∀ d, ThQ d
  | 0 => thQ_of (fun m h => by omega)
  | d + 1 => thQ_of (fun m h => by cases h; exact thQ_all d)
set_option maxRecDepth 100000 in
set_option maxHeartbeats 4000000 in
theorem used1_any {A : Option Addr} {r : Ex} {n c b : Nat} {x : Int} {w : World} (hb : w.heap[b]? = some (.cells #[.int .i64 x] 3 (0, 0))) :
    Calls Tryz.prog 67 #[.agg #[.int .i64 r.k, .int .i64 r.n, .string r.s, .slice A n c], .pointer (some ⟨b, 0, none⟩)] w fun e w' => e = .returned (.tuple #[]) ∧ w'.heap[b]? = some (.cells #[.int .i64 (if r.k = 3 then max x r.n else x)] 3 (0, 0)) ∧ w.grownBy w' (some b) := by
  have hlt := (Array.getElem?_eq_some_iff.1 hb).1
  have hc0 : w.cell? ⟨b, 0, none⟩ = some (.int .i64 x) := (cell_of_row w b 0 _ _ _ hb).trans rfl
  have hf0 := frozen_of_row w b 0 _ _ hb
  have HB := Lib.hid hb
  clear hb
  obtain ⟨F, hF⟩ : ∃ F, F = (if r.k = 3 then max x r.n else x) := ⟨_, rfl⟩
  rw [← hF]
  have HFF := Lib.hid hF
  clear hF
  have hfin : ∀ (v : Int) (o : Obj), v = F → ((w.setCell ⟨b, 0, none⟩ (.int .i64 v)).alloc o).heap[b]? = some (.cells #[.int .i64 F] 3 (0, 0)) ∧ w.grownBy ((w.setCell ⟨b, 0, none⟩ (.int .i64 v)).alloc o) (some b) := fun v o e => by
    subst e
    exact ⟨block_in (setCells_atG [.int .i64 v] 0 HB.out (by simp)) (below_alloc _ _), grown_trans_ (setCells_grown b [.int .i64 v] w 0) (grownP_below (below_alloc _ _) _)⟩
  have HF := Lib.hid hfin
  clear hfin
  by_cases h3 : r.k = 3
  · have h3b : (r.k == 3) = true := by simpa using h3
    rcases Int.lt_or_le x r.n with hx | hx
    · have HV : Hid (r.n = F) := Lib.hid (by rw [HFF.out, if_pos h3]; omega)
      clear h3
      go_enter Tryz.func67, Tryz.ntmps67
      go_wp2
      exact bodyPost_end (results_none rfl _ _ _) rfl ⟨rfl, HF.out _ _ HV.out⟩
    · have HV : Hid (x = F) := Lib.hid (by rw [HFF.out, if_pos h3]; omega)
      clear h3
      go_enter Tryz.func67, Tryz.ntmps67
      go_wp2
      exact bodyPost_end (results_none rfl _ _ _) rfl ⟨rfl, HF.out _ _ HV.out⟩
  · have h3b : (r.k == 3) = false := by simpa using h3
    have HN : Hid (F = x) := Lib.hid (by rw [HFF.out, if_neg h3])
    clear h3
    go_enter Tryz.func67, Tryz.ntmps67
    go_wp2
    exact bodyPost_end (results_none rfl _ _ _) rfl ⟨rfl, by rw [HN.out]; exact block_in HB.out (below_alloc _ _), grownP_below (below_alloc _ _) _⟩
theorem enters_used1 : ∀ args w, (callFunc 67 args).run Tryz.prog w = .ok (.enter 67 args) w := enters_of Tryz.func67 (by kernel_rfl) rfl
/-- What a call for each part gives: a box below holds the greatest. -/
def EaQ (d : Nat) : Prop := ∀ (A : Option Addr) (r : Ex) (c b : Nat) (x : Int) (w : World), exS d 0 b w A r.ps → w.heap[b]? = some (.cells #[.int .i64 x] 3 (0, 0)) → -1 ≤ x →
  Calls Tryz.prog 66 #[.agg #[.int .i64 r.k, .int .i64 r.n, .string r.s, .slice A r.ps.length c], .func (.func 67) #[] #[.pointer (some ⟨b, 0, none⟩)]] w fun e w' => e = .returned (.tuple #[]) ∧ w'.heap[b]? = some (.cells #[.int .i64 (max x (thR (d + 1) r))] 3 (0, 0)) ∧ w.grownBy w' (some b)
theorem th_all {d : Nat} {r : Ex} {x y : Int} (hx : -1 ≤ x) (hy : y = mxI x (r.ps.map (thR d))) : (if r.k = 3 then max y r.n else y) = max x (thR (d + 1) r) := by
  subst hy
  rw [thR]
  by_cases h3 : r.k = 3
  · rw [if_pos h3, if_pos h3, mxI_swap, mxI_max]
  · rw [if_neg h3, if_neg h3, ← mxI_max, show max x (-1) = x by omega]
set_option maxRecDepth 100000 in
set_option maxHeartbeats 4000000 in
theorem eaQ_of {d : Nat} (hQ : ∀ m, d = m + 1 → EaQ m) : EaQ d := by
  intro A r c b x w hU hbx hx
  have eg := enters_used1
  have HQ := Lib.hid hQ
  have hlen := exS.len hU
  have hbw := (Array.getElem?_eq_some_iff.1 hbx).1
  obtain ⟨W, hW⟩ : ∃ W, W = w.alloc (.cells #[.int .i64 r.k, .int .i64 r.n, .string r.s, .slice A r.ps.length c] 36) := ⟨_, rfl⟩
  obtain ⟨g, hg⟩ : ∃ g, g = w.heap.size := ⟨_, rfl⟩
  have hB0 : Below w.heap.size w W := by rw [hW]; exact below_alloc _ _
  have hq : W.heap[g]? = some (.cells #[.int .i64 r.k, .int .i64 r.n, .string r.s, .slice A r.ps.length c] 36 (0, 0)) := by rw [hW, hg]; exact heap_alloc_new _ _
  have hbW := block_in hbx hB0
  obtain ⟨p0, p1, p2, p3⟩ := cells4 hq
  replace hU := exS.below hU (Nat.le_of_lt hbw) hB0
  have HG0 := Lib.hid (grownP_below hB0 (some b))
  have HQ1 := Lib.hid hq
  have HW := Lib.hid hW
  have HG := Lib.hid hg
  have HBW := Lib.hid hbW
  have HGB : Hid (b < g) := Lib.hid (by rw [hg]; exact hbw)
  have HXX := Lib.hid hx
  clear hW hg hq hQ hbx hbW hbw hB0 hx
  go_enter Tryz.func66, Tryz.ntmps66
  go_wp2_with fail
  rw [← HW.out, ← HG.out]
  go_loopw [9] (fun i wr => ∃ k : Nat, k ≤ r.ps.length ∧ i = .int .i64 k ∧ Hid (wr.heap[b]? = some (.cells #[.int .i64 (mxI x ((r.ps.take k).map (thR d)))] 3 (0, 0))) ∧ W.grownBy wr (some b)) (fun i _ => r.ps.length - (intOf i).toNat)
  case atStart => exact ⟨0, Nat.zero_le _, rfl, HBW, World.grownBy.refl _ _⟩
  case round =>
    obtain ⟨k, hk, rfl, HBX, hR⟩ := hrel
    have HR := Lib.hid hR
    have hUr := hU.keep (w' := wr) (fun q _ h2 => hR.block q (by have := (Array.getElem?_eq_some_iff.1 HBW.out).1; omega) (fun e => by cases e; omega)) (Nat.le_refl _) (Nat.le_refl _)
    have HQ2 := Lib.hid ((hR.block g (Array.getElem?_eq_some_iff.1 HQ1.out).1 (fun e => by have := HGB.out; cases e; omega)).trans HQ1.out)
    by_cases hlt : k < r.ps.length
    · have hd : ∃ m, d = m + 1 := by
        cases d with
        | zero => have := exS.zero hU; rw [this] at hlt; simp at hlt
        | succ m => exact ⟨m, rfl⟩
      obtain ⟨m, hm⟩ := hd
      subst hm
      have HI := Lib.hid (HQ.out m rfl)
      obtain ⟨b1, off, rfl, _, hcl⟩ := exS.cells hUr (by omega)
      obtain ⟨A', c', hfd, hs, e0, e1, e2, e3⟩ := hcl k hlt
      have y0 := box_cell wr #[.int .i64 (exAt r.ps k).k, .int .i64 (exAt r.ps k).n, .string (exAt r.ps k).s, .slice A' (exAt r.ps k).ps.length c'] 36 0 _ rfl
      have y1 := box_cell wr #[.int .i64 (exAt r.ps k).k, .int .i64 (exAt r.ps k).n, .string (exAt r.ps k).s, .slice A' (exAt r.ps k).ps.length c'] 36 1 _ rfl
      have y2 := box_cell wr #[.int .i64 (exAt r.ps k).k, .int .i64 (exAt r.ps k).n, .string (exAt r.ps k).s, .slice A' (exAt r.ps k).ps.length c'] 36 2 _ rfl
      have y3 := box_cell wr #[.int .i64 (exAt r.ps k).k, .int .i64 (exAt r.ps k).n, .string (exAt r.ps k).s, .slice A' (exAt r.ps k).ps.length c'] 36 3 _ rfl
      have HBA := Lib.hid (below_alloc wr (.cells #[.int .i64 (exAt r.ps k).k, .int .i64 (exAt r.ps k).n, .string (exAt r.ps k).s, .slice A' (exAt r.ps k).ps.length c'] 36))
      have hfd2 := exS.below hfd (Nat.le_of_lt (Array.getElem?_eq_some_iff.1 HBX.out).1) HBA.out
      have HAP : Hid (mxI x ((r.ps.take (k + 1)).map (thR (m + 1))) = max (mxI x ((r.ps.take k).map (thR (m + 1)))) (thR (m + 1) (exAt r.ps k))) := Lib.hid (by
        rw [List.take_succ_eq_append_getElem hlt, List.map_append, exAt_eq hlt]; exact mxI_snoc _ _ _)
      have hz1 : -1 ≤ mxI x ((r.ps.take k).map (thR (m + 1))) := Int.le_trans HXX.out (mxI_ge _ _)
      obtain ⟨z, hz⟩ : ∃ z, mxI x ((r.ps.take k).map (thR (m + 1))) = z := ⟨_, rfl⟩
      rw [hz] at HAP HBX hz1
      have HC := Lib.hid (HI.out _ _ c' _ _ _ hfd2 (block_in HBX.out HBA.out) hz1)
      clear hcl hz hfd hfd2 hz1 hR hUr
      go_wp2_with fail
      refine HC.out.mono ?_
      rintro e w1 ⟨rfl, hb1, hg1⟩
      have HB1 := Lib.hid hb1
      have HR1 := Lib.hid (grown_trans_ HR.out (grown_trans_ (grownP_below HBA.out _) hg1))
      clear hb1 hg1 e0 e1 e2 e3 y0 y1 y2 y3
      go_wp2
      go_roundw
      case rel => exact ⟨k + 1, by omega, by go_num, by rw [HAP.out]; exact HB1, HR1.out⟩
      case measure => simp [intOf]; omega
    · obtain rfl : k = r.ps.length := by omega
      rw [List.take_length] at HBX
      obtain ⟨p0, p1, p2, p3⟩ := cells4 HQ2.out
      have hth := th_all (d := d) (r := r) (y := mxI x (r.ps.map (thR d))) HXX.out rfl
      have HTH := Lib.hid hth
      clear hth hR hUr
      go_wp2_with fail
      refine (used1_any HBX.out).mono ?_
      rintro e w1 ⟨rfl, hb1, hg1⟩
      rw [HTH.out] at hb1
      have HB1 := Lib.hid hb1
      have HR1 := Lib.hid (grown_trans_ HG0.out (grown_trans_ HR.out hg1))
      clear hb1 hg1 p0 p1 p2 p3
      go_wp2
      exact bodyPost_end (results_none rfl _ _ _) rfl ⟨rfl, HB1.out, HR1.out⟩
theorem eaQ_all : ∀ d, EaQ d
  | 0 => eaQ_of (fun m h => by omega)
  | d + 1 => eaQ_of (fun m h => by cases h; exact eaQ_all d)
end Go.Proofs.YtodjokdaofefdaaGreat
/- Values of expressions: guarded ones miss no field; with enough things none is missing. -/
namespace Go.Proofs.YtodjokdaofefdaaGreat
set_option linter.unusedSimpArgs false
set_option linter.unusedVariables false
open Go.RowKit

theorem gd_up : ∀ (d : Nat) (t : Ex), gdR d t = true → gdR (d + 1) t = true
  | 0, t, h => by simp [gdR] at h
  | d + 1, t, h => by
    have h1 := gd_head h
    rw [gdR, h1, Bool.true_and, List.all_eq_true]
    intro p hp
    obtain ⟨k, hk, rfl⟩ := List.getElem_of_mem hp
    have := gd_part h hk
    rw [exAt_eq hk] at this
    exact gd_up d _ this
theorem ev_step {W : WL} {r : Rq} : ∀ (d : Nat) (t : Ex), gdR d t = true → ev (d + 1) W r t = ev d W r t
  | 0, t, h => by simp [gdR] at h
  | d + 1, t, h => by
    have hl := gd_len h
    have part : ∀ k, k < t.ps.length → ev (d + 1) W r (exAt t.ps k) = ev d W r (exAt t.ps k) := fun k hk => ev_step d _ (gd_part h hk)
    rcases gd_k h with k | k | k | k | k | k | k | k | k | k | k | k | k
    · rw [ev_k1 k, ev_k1 k]
    · rw [ev_k2 k, ev_k2 k]
    · rw [ev_k3 k, ev_k3 k]
    · rw [ev_k4 k, ev_k4 k]
    · rw [ev_k5 k, ev_k5 k]
    · rw [ev_k6 k, ev_k6 k]
    · rw [ev_k7 k, ev_k7 k]
    · rw [k] at hl; rw [ev_k8 k, ev_k8 k, part 0 (by rw [hl]; decide)]
    · rw [k] at hl; rw [ev_k9 k, ev_k9 k, part 0 (by rw [hl]; decide)]
    · have hl2 : t.ps.length = 2 := by rcases k with k | k | k <;> (rw [k] at hl; exact hl.trans (by decide))
      rw [ev_kp k, ev_kp k, part 0 (by omega), part 1 (by omega)]
    · rw [k] at hl; rw [ev_k13 k, ev_k13 k, part 0 (by rw [hl]; decide)]
    · rw [k] at hl; rw [ev_k14 k, ev_k14 k, part 0 (by rw [hl]; decide), part 1 (by rw [hl]; decide)]
    · rw [k] at hl; rw [ev_k15 k, ev_k15 k, part 0 (by rw [hl]; decide), part 1 (by rw [hl]; decide)]
theorem ev_up {W : WL} {r : Rq} {d : Nat} {t : Ex} (h : gdR d t = true) : ∀ e : Nat, ev (d + e) W r t = ev d W r t ∧ gdR (d + e) t = true
  | 0 => ⟨rfl, h⟩
  | e + 1 => by
    obtain ⟨h1, h2⟩ := ev_up h e
    exact ⟨(ev_step (d + e) t h2).trans h1, gd_up _ _ h2⟩
theorem ev_any {W : WL} {r : Rq} {d d' : Nat} {t : Ex} (h : gdR d t = true) (h' : gdR d' t = true) : ev d W r t = ev d' W r t := by
  rcases Nat.le_total d d' with hd | hd
  · obtain ⟨e, rfl⟩ : ∃ e, d' = d + e := ⟨d' - d, by omega⟩
    exact (ev_up h e).1.symm
  · obtain ⟨e, rfl⟩ : ∃ e, d = d' + e := ⟨d - d', by omega⟩
    exact (ev_up h' e).1
/-- What holds. -/
def Tru (W : WL) (r : Rq) (x : Ex) : Prop := ∃ d, gdR d x = true ∧ ev d W r x = (1, 1, 0)
theorem either_11 {a b : Ev} (h : evEither a b 0 = (1, 1, 0)) : a.2.2 = 0 ∧ a.1 = 1 ∧ a.2.1 ≠ 0 ∧ b = (1, 1, 0) := by
  unfold evEither at h
  by_cases e : (evK a 1).2.2 ≠ 0
  · rw [if_pos e] at h; cases h
  · rw [if_neg e] at h
    obtain ⟨_, e1, e2⟩ := evK_ok (Classical.not_not.1 e)
    by_cases e3 : a.2.1 = 0
    · rw [if_pos e3] at h; rw [h] at e3; cases e3
    · rw [if_neg e3] at h
      have e4 : (evK b 1).2.2 = 0 := by rw [h]
      rw [(evK_ok e4).1] at h
      exact ⟨e1, e2, e3, h⟩
theorem cj_true {W : WL} {r : Rq} (hW : OkW W r) : ∀ (d : Nat) (t : Ex), gdR d t = true → ev d W r t = (1, 1, 0) → ∀ x ∈ cjI d t, Tru W r x
  | 0, t, h, _ => by simp [gdR] at h
  | d + 1, t, h, he => by
    intro x hx
    rw [cjI] at hx
    by_cases k : t.k = 14
    · rw [if_pos k] at hx
      have hl := gd_len h
      rw [k] at hl
      have g0 := gd_part h (k := 0) (by rw [hl]; decide)
      have g1 := gd_part h (k := 1) (by rw [hl]; decide)
      rw [ev_k14 k] at he
      obtain ⟨a1, a2, a3, hb⟩ := either_11 he
      have hv := ev_val hW d _ g0 a1
      rw [a2] at hv
      have ha : ev d W r (exAt t.ps 0) = (1, 1, 0) := by
        have := vl_1 hv
        exact Prod.ext a2 (Prod.ext (show _ = (1 : Int) by omega) a1)
      rcases List.mem_append.1 hx with hx | hx
      · exact cj_true hW d _ g0 ha x hx
      · exact cj_true hW d _ g1 hb x hx
    · rw [if_neg k] at hx
      have : x = t := by simpa using hx
      subst this
      exact ⟨d + 1, h, he⟩
theorem no2_K {v : Ev} {k : Int} (h : v.2.2 ≠ 2) : (evK v k).2.2 ≠ 2 := by
  unfold evK; split
  · decide
  · exact h
theorem no2_Pair {W : WL} {t : Int} {a b : Ev} {f : Int} (hf : f = 2 ∨ f = 3) (ha : a.2.2 ≠ f) (hb : b.2.2 ≠ f) : (evPair W t a b).2.2 ≠ f := by
  unfold evPair
  by_cases h : a.2.2 ≠ 0
  · rw [if_pos h]; exact ha
  · rw [if_neg h]
    by_cases h2 : b.2.2 ≠ 0
    · rw [if_pos h2]; exact hb
    · rw [if_neg h2]
      repeat' split
      all_goals (show (_ : Int) ≠ f; first | (show (0 : Int) ≠ f; omega) | (show (1 : Int) ≠ f; omega))
theorem gu_no2 {W : WL} {r : Rq} (hW : OkW W r) : ∀ (d : Nat) (t : Ex) (l : ExL), gdR d t = true → guI d t l = true → (∀ x ∈ l, Tru W r x) → (ev d W r t).2.2 ≠ 2
  | 0, t, l, h, _, _ => by simp [gdR] at h
  | d + 1, t, l, h, hg, hk => by
    have hl := gd_len h
    rw [guI] at hg
    by_cases k7 : t.k = 7
    · rw [if_pos k7] at hg; cases hg
    · rw [if_neg k7] at hg
      by_cases k8 : t.k = 8 ∧ hasB l (asHas t) = false
      · rw [if_pos k8] at hg; cases hg
      · rw [if_neg k8] at hg
        by_cases k14 : t.k = 14
        · rw [if_pos k14, Bool.and_eq_true] at hg
          rw [k14] at hl
          have g0 := gd_part h (k := 0) (by rw [hl]; decide)
          have g1 := gd_part h (k := 1) (by rw [hl]; decide)
          have n0 := gu_no2 hW d _ l g0 hg.1 hk
          rw [ev_k14 k14]
          unfold evEither
          by_cases e : (evK (ev d W r (exAt t.ps 0)) 1).2.2 ≠ 0
          · rw [if_pos e]; exact no2_K n0
          · rw [if_neg e]
            obtain ⟨_, e1, e2⟩ := evK_ok (Classical.not_not.1 e)
            by_cases e3 : (ev d W r (exAt t.ps 0)).2.1 = 0
            · rw [if_pos e3]; exact n0
            · rw [if_neg e3]
              have hv := ev_val hW d _ g0 e1
              rw [e2] at hv
              have ha : ev d W r (exAt t.ps 0) = (1, 1, 0) := by
                have := vl_1 hv
                exact Prod.ext e2 (Prod.ext (show _ = (1 : Int) by omega) e1)
              refine no2_K (gu_no2 hW d _ _ g1 hg.2 (fun x hx => ?_))
              rcases List.mem_append.1 hx with hx | hx
              · exact hk x hx
              · exact cj_true hW d _ g0 ha x hx
        · rw [if_neg k14] at hg
          have part : ∀ k, k < t.ps.length → (ev d W r (exAt t.ps k)).2.2 ≠ 2 := fun k hk2 => gu_no2 hW d _ l (gd_part h hk2) (all_at.1 hg k hk2) hk
          rcases gd_k h with k | k | k | k | k | k | k | k | k | k | k | k | k
          · rw [ev_k1 k]; show (0 : Int) ≠ 2; decide
          · rw [ev_k2 k]; show (0 : Int) ≠ 2; decide
          · rw [ev_k3 k]; split
            · show (0 : Int) ≠ 2; decide
            · show (3 : Int) ≠ 2; decide
          · rw [ev_k4 k]; show (0 : Int) ≠ 2; decide
          · rw [ev_k5 k]; show (0 : Int) ≠ 2; decide
          · rw [ev_k6 k]; show (0 : Int) ≠ 2; decide
          · exact absurd k k7
          · rw [k] at hl
            have h0 : 0 < t.ps.length := by rw [hl]; decide
            have hh : hasB l (asHas t) = true := by
              cases hb : hasB l (asHas t)
              · exact absurd ⟨k, hb⟩ k8
              · rfl
            rw [hasB, List.any_eq_true] at hh
            obtain ⟨x, hx, e⟩ := hh
            rw [sameX_true] at e
            subst e
            obtain ⟨d', q1, q2⟩ := hk _ hx
            cases d' with
            | zero => simp [gdR] at q1
            | succ m =>
              rw [ev_k9 rfl] at q2
              have hp : ev m W r (exAt (asHas t).ps 0) = ev d W r (exAt t.ps 0) := ev_any (gd_part q1 (k := 0) h0) (gd_part h h0)
              rw [hp] at q2
              rw [ev_k8 k]
              by_cases e : (evK (ev d W r (exAt t.ps 0)) 3).2.2 ≠ 0
              · rw [if_pos e] at q2; cases q2
              · rw [if_neg e] at q2 ⊢
                have hs : (asHas t).s = t.s := rfl
                rw [hs] at q2
                cases hv : fdOf (thAt W (ev d W r (exAt t.ps 0)).2.1.toNat).fs t.s with
                | none => rw [hv] at q2; cases q2
                | some v => show (0 : Int) ≠ 2; decide
          · rw [k] at hl
            rw [ev_k9 k]
            by_cases e : (evK (ev d W r (exAt t.ps 0)) 3).2.2 ≠ 0
            · rw [if_pos e]; exact no2_K (part 0 (by rw [hl]; decide))
            · rw [if_neg e]; show (0 : Int) ≠ 2; decide
          · have hl2 : t.ps.length = 2 := by rcases k with k | k | k <;> (rw [k] at hl; exact hl.trans (by decide))
            rw [ev_kp k]; exact no2_Pair (.inl rfl) (part 0 (by omega)) (part 1 (by omega))
          · rw [k] at hl
            rw [ev_k13 k]
            by_cases e : (evK (ev d W r (exAt t.ps 0)) 1).2.2 ≠ 0
            · rw [if_pos e]; exact no2_K (part 0 (by rw [hl]; decide))
            · rw [if_neg e]; show (0 : Int) ≠ 2; decide
          · exact absurd k k14
          · rw [k] at hl
            rw [ev_k15 k]
            unfold evEither
            by_cases e : (evK (ev d W r (exAt t.ps 0)) 1).2.2 ≠ 0
            · rw [if_pos e]; exact no2_K (part 0 (by rw [hl]; decide))
            · rw [if_neg e]
              split
              · exact part 0 (by rw [hl]; decide)
              · exact no2_K (part 1 (by rw [hl]; decide))
theorem mxI_mem : ∀ (l : List Int) (x y : Int), y ∈ l → y ≤ mxI x l
  | [], _, _, h => by simp at h
  | z :: l, x, y, h => by
    show y ≤ mxI (max x z) l
    rcases List.mem_cons.1 h with rfl | h
    · exact Int.le_trans (Int.le_max_right x y) (mxI_ge l _)
    · exact mxI_mem l _ y h
theorem no3_K {v : Ev} {k : Int} (h : v.2.2 ≠ 3) : (evK v k).2.2 ≠ 3 := by
  unfold evK; split
  · decide
  · exact h
theorem th_no3 {W : WL} {r : Rq} : ∀ (d : Nat) (t : Ex), gdR d t = true → thR d t < W.length → (ev d W r t).2.2 ≠ 3
  | 0, t, h, _ => by simp [gdR] at h
  | d + 1, t, h, ht => by
    have hl := gd_len h
    rw [thR] at ht
    have part : ∀ k, k < t.ps.length → (ev d W r (exAt t.ps k)).2.2 ≠ 3 := fun k hk => th_no3 d _ (gd_part h hk) (Int.lt_of_le_of_lt (mxI_mem _ _ _ (List.mem_map.2 ⟨exAt t.ps k, by rw [exAt_eq hk]; exact List.getElem_mem hk, rfl⟩)) ht)
    rcases gd_k h with k | k | k | k | k | k | k | k | k | k | k | k | k
    · rw [ev_k1 k]; show (0 : Int) ≠ 3; decide
    · rw [ev_k2 k]; show (0 : Int) ≠ 3; decide
    · rw [ev_k3 k]
      have hn := (gd_n h).1
      rw [if_pos k] at ht
      have hm := Int.lt_of_le_of_lt (mxI_ge _ _) ht
      rw [if_pos (show thgB W t.n = true from inB_true.2 ⟨hn, by omega⟩)]; show (0 : Int) ≠ 3; decide
    · rw [ev_k4 k]; show (0 : Int) ≠ 3; decide
    · rw [ev_k5 k]; show (0 : Int) ≠ 3; decide
    · rw [ev_k6 k]; show (0 : Int) ≠ 3; decide
    · rw [ev_k7 k]
      cases fdOf r.fs t.s with
      | none => show (2 : Int) ≠ 3; decide
      | some v => show (0 : Int) ≠ 3; decide
    · rw [k] at hl
      rw [ev_k8 k]
      by_cases e : (evK (ev d W r (exAt t.ps 0)) 3).2.2 ≠ 0
      · rw [if_pos e]; exact no3_K (part 0 (by rw [hl]; decide))
      · rw [if_neg e]
        cases fdOf (thAt W (ev d W r (exAt t.ps 0)).2.1.toNat).fs t.s with
        | none => show (2 : Int) ≠ 3; decide
        | some v => show (0 : Int) ≠ 3; decide
    · rw [k] at hl
      rw [ev_k9 k]
      by_cases e : (evK (ev d W r (exAt t.ps 0)) 3).2.2 ≠ 0
      · rw [if_pos e]; exact no3_K (part 0 (by rw [hl]; decide))
      · rw [if_neg e]; show (0 : Int) ≠ 3; decide
    · have hl2 : t.ps.length = 2 := by rcases k with k | k | k <;> (rw [k] at hl; exact hl.trans (by decide))
      rw [ev_kp k]; exact no2_Pair (.inr rfl) (part 0 (by omega)) (part 1 (by omega))
    · rw [k] at hl
      rw [ev_k13 k]
      by_cases e : (evK (ev d W r (exAt t.ps 0)) 1).2.2 ≠ 0
      · rw [if_pos e]; exact no3_K (part 0 (by rw [hl]; decide))
      · rw [if_neg e]; show (0 : Int) ≠ 3; decide
    all_goals
      rw [k] at hl
      first
        | rw [ev_k14 k]
        | rw [ev_k15 k]
      unfold evEither
      by_cases e : (evK (ev d W r (exAt t.ps 0)) 1).2.2 ≠ 0
      · rw [if_pos e]; exact no3_K (part 0 (by rw [hl]; decide))
      · rw [if_neg e]
        split
        · exact part 0 (by rw [hl]; decide)
        · exact no3_K (part 1 (by rw [hl]; decide))
theorem po_exOk' {p : Po} (h : poOk p = true) : exOk p.wh = true := by
  simp only [poOk, Bool.and_eq_true] at h
  exact h.2.2.2.2
/-- A checked policy's condition has a truth value. -/
theorem ck_sound {d : Nat} {s : Sc} {W : WL} {r : Rq} {p : Po} (hC : CfW s W r) (hin : inD (d + 1) p.wh) (h : ckX d s W.length p = 0) : ∃ n : Int, (n = 0 ∨ n = 1) ∧ ev (d + 1) W r p.wh = (1, n, 0) := by
  rw [ckX] at h
  by_cases h0 : (scOk s && (poOk p && inB (W.length : Int) 0 7)) = false
  · rw [if_pos h0] at h; cases h
  · rw [if_neg h0] at h
    by_cases h1 : kiR (d + 1) s p.wh ≠ 1
    · rw [if_pos h1] at h; cases h
    · rw [if_neg h1] at h
      by_cases h2 : (W.length : Int) ≤ p.who ∨ (W.length : Int) ≤ p.what ∨ (W.length : Int) ≤ thR (d + 1) p.wh
      · rw [if_pos h2] at h; cases h
      · rw [if_neg h2] at h
        by_cases h3 : guOk d p.wh = false
        · rw [if_pos h3] at h; cases h
        · have hall : (scOk s && (poOk p && inB (W.length : Int) 0 7)) = true := by simpa using h0
          simp only [Bool.and_eq_true] at hall
          have hok := po_exOk' hall.2.1
          have hg := (ok_parts hin hok).1
          have hki : kiR (d + 1) s p.wh = 1 := Classical.not_not.1 h1
          have hgu : guI (d + 1) p.wh [] = true := by
            have : guOk d p.wh = true := by simpa using h3
            simp only [guOk, Bool.and_eq_true] at this
            exact this.2
          have e1 := ev_kind hC (d + 1) p.wh hg (by rw [hki]; decide)
          have e2 := gu_no2 hC.ok (d + 1) p.wh [] hg hgu (fun x hx => by simp at hx)
          have e3 := th_no3 (W := W) (r := r) (d + 1) p.wh hg (by omega)
          rw [hki] at e1
          rcases e1 with ⟨a, b⟩ | a | a
          · have hv := ev_val hC.ok (d + 1) p.wh hg a
            rw [b] at hv
            exact ⟨_, vl_1 hv, Prod.ext b (Prod.ext rfl a)⟩
          · exact absurd a e2
          · exact absurd a e3
end Go.Proofs.YtodjokdaofefdaaGreat
/- Policies: how they read. -/
namespace Go.Proofs.YtodjokdaofefdaaGreat
set_option linter.unusedSimpArgs false
set_option linter.unusedVariables false
open Go.RowKit

def poC (p : Po) (v : Value) : List Value := [.string p.nm, .bool p.al, .int .i64 p.who, .int .i64 p.what, .int .i64 p.acts, .int .i64 p.wh.k, .int .i64 p.wh.n, .string p.wh.s, v]
def poV (p : Po) (A : Option Addr) (c : Nat) : Value := .agg #[.string p.nm, .bool p.al, .int .i64 p.who, .int .i64 p.what, .int .i64 p.acts, .int .i64 p.wh.k, .int .i64 p.wh.n, .string p.wh.s, .slice A p.wh.ps.length c]
/-- Texts that are not too long. -/
def poZ (p : Po) : Prop := p.wh.s.size ≤ 9223372036854775807 ∧ p.nm.size ≤ 9223372036854775807
/-- A policy that reads, its condition's parts at most d deep, in blocks from lo on, below hi. -/
def PoR (d lo hi : Nat) (w : World) (p : Po) (cs : List Value) : Prop := ∃ A c, cs = poC p (.slice A p.wh.ps.length c) ∧ exS d lo hi w A p.wh.ps ∧ poZ p
def poS (d lo hi : Nat) (w : World) (A : Option Addr) (l : PoL) : Prop := RdL (PoR d lo hi) 9 w A l ∧ (0 < l.length → ∀ a, A = some a → lo ≤ a.block ∧ a.block < hi)
def poW (d : Nat) (w : World) (A : Option Addr) (l : PoL) : Prop := poS d 0 w.heap.size w A l
section
variable {d d' lo hi lo' hi' B : Nat} {w w' : World} {A : Option Addr} {l : PoL} {p : Po} {cs : List Value}
theorem PoR.keep (hk : ∀ k, lo ≤ k → k < hi → w'.heap[k]? = w.heap[k]?) (h1 : lo' ≤ lo) (h2 : hi ≤ hi') (h : PoR d lo hi w p cs) : PoR d lo' hi' w' p cs := by
  obtain ⟨A, c, e, h3, h4⟩ := h
  exact ⟨A, c, e, h3.keep hk h1 h2, h4⟩
theorem PoR.deeper (hd : d ≤ d') (h : PoR d lo hi w p cs) : PoR d' lo hi w p cs := by
  obtain ⟨A, c, e, h3, h4⟩ := h
  exact ⟨A, c, e, h3.deeper hd, h4⟩
theorem PoR.one (h : PoR d lo hi w p cs) : ∀ u ∈ cs, u.oneCell' = true := by
  obtain ⟨A, c, rfl, _⟩ := h
  intro u hu
  simp only [poC, List.mem_cons, List.not_mem_nil, or_false] at hu
  rcases hu with rfl | rfl | rfl | rfl | rfl | rfl | rfl | rfl | rfl <;> rfl
theorem poS.keep (h : poS d lo hi w A l) (hk : ∀ k, lo ≤ k → k < hi → w'.heap[k]? = w.heap[k]?) (h1 : lo' ≤ lo) (h2 : hi ≤ hi') : poS d lo' hi' w' A l :=
  ⟨RdL.keep h.1 (fun _ _ h => PoR.keep hk h1 h2 h) (fun hn a ha => hk _ (h.2 hn a ha).1 (h.2 hn a ha).2), fun hn a ha => ⟨by have := (h.2 hn a ha).1; omega, by have := (h.2 hn a ha).2; omega⟩⟩
theorem poS.below (h : poS d lo hi w A l) (hB : hi ≤ B) (hb : Below B w w') : poS d lo hi w' A l := h.keep (fun k _ hk => hb.block k (by omega)) (Nat.le_refl _) (Nat.le_refl _)
theorem poS.wide (h : poS d lo hi w A l) (h1 : lo' ≤ lo) (h2 : hi ≤ hi') : poS d lo' hi' w A l := h.keep (fun _ _ _ => rfl) h1 h2
theorem poW.below (h : poW d w A l) (hb : Below w.heap.size w w') : poW d w' A l := (poS.below h (Nat.le_refl _) hb).wide (Nat.le_refl _) hb.size
theorem poW.len (h : poW d w A l) : l.length ≤ 9223372036854775807 := h.1.1
theorem poS.cells (h : poS d lo hi w A l) (hn : 0 < l.length) : ∃ b off, A = some ⟨b, off, none⟩ ∧ (lo ≤ b ∧ b < hi) ∧ ∀ k, k < l.length → ∃ A' c', exS d lo hi w A' (poAt l k).wh.ps ∧ poZ (poAt l k) ∧
    w.cell? ⟨b, off + k * 9, none⟩ = some (.string (poAt l k).nm) ∧ w.cell? ⟨b, off + k * 9 + 1, none⟩ = some (.bool (poAt l k).al) ∧ w.cell? ⟨b, off + k * 9 + 2, none⟩ = some (.int .i64 (poAt l k).who) ∧ w.cell? ⟨b, off + k * 9 + 3, none⟩ = some (.int .i64 (poAt l k).what) ∧ w.cell? ⟨b, off + k * 9 + 4, none⟩ = some (.int .i64 (poAt l k).acts) ∧
    w.cell? ⟨b, off + k * 9 + 5, none⟩ = some (.int .i64 (poAt l k).wh.k) ∧ w.cell? ⟨b, off + k * 9 + 6, none⟩ = some (.int .i64 (poAt l k).wh.n) ∧ w.cell? ⟨b, off + k * 9 + 7, none⟩ = some (.string (poAt l k).wh.s) ∧ w.cell? ⟨b, off + k * 9 + 8, none⟩ = some (.slice A' (poAt l k).wh.ps.length c') := by
  obtain ⟨b, off, e, hc⟩ := h.1.2 hn
  refine ⟨b, off, e, h.2 hn _ e, fun k hk => ?_⟩
  obtain ⟨cs, _, ⟨A', c', rfl, h2, h4⟩, hv⟩ := hc k hk
  have e : l[k] = poAt l k := (poAt_eq hk).symm
  rw [e] at h2 hv h4
  exact ⟨A', c', h2, h4, hv 0 _ rfl, hv 1 _ rfl, hv 2 _ rfl, hv 3 _ rfl, hv 4 _ rfl, hv 5 _ rfl, hv 6 _ rfl, hv 7 _ rfl, hv 8 _ rfl⟩
end
theorem cells9 {w : World} {g : Nat} {T : TypeId} {a b c d e f h i j : Value} (q : w.heap[g]? = some (.cells #[a, b, c, d, e, f, h, i, j] T (0, 0))) :
    w.cell? ⟨g, 0, none⟩ = some a ∧ w.cell? ⟨g, 1, none⟩ = some b ∧ w.cell? ⟨g, 2, none⟩ = some c ∧ w.cell? ⟨g, 3, none⟩ = some d ∧ w.cell? ⟨g, 4, none⟩ = some e ∧ w.cell? ⟨g, 5, none⟩ = some f ∧ w.cell? ⟨g, 6, none⟩ = some h ∧ w.cell? ⟨g, 7, none⟩ = some i ∧ w.cell? ⟨g, 8, none⟩ = some j :=
  ⟨(cell_of_row w g 0 _ _ _ q).trans rfl, (cell_of_row w g 1 _ _ _ q).trans rfl, (cell_of_row w g 2 _ _ _ q).trans rfl, (cell_of_row w g 3 _ _ _ q).trans rfl, (cell_of_row w g 4 _ _ _ q).trans rfl, (cell_of_row w g 5 _ _ _ q).trans rfl, (cell_of_row w g 6 _ _ _ q).trans rfl, (cell_of_row w g 7 _ _ _ q).trans rfl, (cell_of_row w g 8 _ _ _ q).trans rfl⟩
end Go.Proofs.YtodjokdaofefdaaGreat

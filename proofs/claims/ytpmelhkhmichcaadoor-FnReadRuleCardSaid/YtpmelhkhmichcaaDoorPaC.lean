/- Paths: words, by the reference: the walk. -/
import Derived.Test.YtpmelhkhmichcaaDoorPaB
namespace Go.Proofs.YtpmelhkhmichcaaDoor
set_option linter.unusedSimpArgs false
set_option linter.unusedVariables false
open Go.RowKit

set_option maxRecDepth 100000 in
set_option maxHeartbeats 4000000 in
theorem l30Words_any {s : ByteArray} {w : World} (hs : s.size ≤ 2097152) :
    Calls Tryd.prog 81 #[.string s] w fun e w' => ∃ A c, e = .returned (.slice A (pws s).length c) ∧ w'.ownsRow w.heap.size 9 1 (.slice A (pws s).length c) (pws s).length ((pws s).flatMap sgEnc) ∧ Below w.heap.size w w' := by
  obtain ⟨X, hX⟩ : ∃ X, X = w.alloc (.cells #[.string ByteArray.empty] 9) := ⟨_, rfl⟩
  have hBX : Below w.heap.size w X := by rw [hX]; (repeat (first | exact Below.refl _ _ | refine ext_alloc ?_ _ | refine Below.setCell ?_ (by simp) _))
  have hO0 : OwnA w.heap.size 9 1 sgEnc X (.slice (some ⟨w.heap.size, 0, Option.none⟩) 1 1) (wlK s 0) := by
    rw [wlK_zero]
    exact OwnA.of ⟨by simp [sgEnc], .inr ⟨w.heap.size, 1, #[.string ByteArray.empty], rfl, Nat.le_refl _, by rw [hX]; exact heap_alloc_new _ _, by simp, by simp [maxLen], by simp, by simp [sgEnc]⟩⟩
  have HO0 := Lib.hid hO0
  have HX := Lib.hid hX
  have HBX := Lib.hid hBX
  clear hO0 hX hBX
  go_enter Tryd.func81, Tryd.ntmps81
  go_wp2
  go_loopw [3, 4] (fun ov iv wr => ∃ k : Nat, k ≤ s.size ∧ iv = .int .i64 k ∧ OwnA w.heap.size 9 1 sgEnc wr ov (wlK s k) ∧ Below w.heap.size w wr) (fun _ iv _ => s.size - (intOf iv).toNat)
  case atStart => exact ⟨0, Nat.zero_le _, rfl, (by have h := HO0.out; rw [HX.out] at h; exact h), (by have h := HBX.out; rw [HX.out] at h; exact h)⟩
  case round =>
    obtain ⟨k, hk, rfl, hO, hB⟩ := hrel
    by_cases hlt : k < s.size
    · have hx := byteAt_of hlt
      have hln := wlK_len s k
      have hlp := wlK_pos s k
      by_cases h1 : ((s[k]'hlt).toNat : Int) = 47
      · have e1 : (((s[k]'hlt).toNat : Int) == 47) = true := by simpa using h1
        have HW : Hid (wlK s (k + 1) = wlK s k ++ [ByteArray.empty]) := Lib.hid (wlK_sep hlt (by
          apply UInt8.toNat_inj.1
          have : (s[k]'hlt).toNat = 47 := by omega
          rw [this]; rfl))
        clear h1
        go_wp2_with (at_builtin; go_must (refine wpList_push (enc := sgEnc) (ByteArray.empty) rfl (.tmp 16) (.tmp 17) 63 9 _ 1 16 rfl Tryd.underlying63 Tryd.infoText rfl (by decide) (fun _ => rfl) sgEnc_one (hO.below (by (repeat (first | exact Below.refl _ _ | refine ext_alloc ?_ _ | refine Below.setCell ?_ (by simp) _)))) rfl (heap_alloc_at (by simp)) (by rfl) (by omega) (by omega) (Nat.le_trans hB.size (show Below _ _ _ by (repeat (first | exact Below.refl _ _ | refine ext_alloc ?_ _ | refine Below.setCell ?_ (by simp) _))).size) ?_); intro v_ wq1 ho_ hb_ hg_)
        replace hB := (ext_trans hB (by (repeat (first | exact Below.refl _ _ | refine ext_alloc ?_ _ | refine Below.setCell ?_ (by simp) _)))).trans hb_
        replace hO := ho_
        clear ho_ hb_ hg_
        go_wp2
        go_roundw
        case rel => exact ⟨k + 1, by omega, by go_num, by rw [HW.out]; exact hO, hB⟩
        case measure => simp [intOf]; omega
      · have e1 : (((s[k]'hlt).toNat : Int) == 47) = false := by simpa using h1
        have HW : Hid (wlK s (k + 1) = (wlK s k).set ((wlK s k).length - 1) (sg0 (wlK s k) ((wlK s k).length - 1) ++ s.extract k (k + 1))) := Lib.hid (wlK_add hlt (by
          intro h
          apply h1
          rw [h]; rfl))
        clear h1
        obtain ⟨m, hm⟩ : ∃ m, (wlK s k).length = m + 1 := ⟨(wlK s k).length - 1, by omega⟩
        obtain ⟨A, c, rfl, hown⟩ := hO
        obtain ⟨g, cap, hv, _, _⟩ := hown.form hlp
        simp only [Value.slice.injEq, true_and] at hv
        obtain ⟨rfl, rfl⟩ := hv
        have hrd : sgR wr (some ⟨g, 0, none⟩) (wlK s k) := sgR.own rfl (by omega) hown
        obtain ⟨b, off, eb, hc⟩ := hrd.cells hlp
        simp only [Option.some.injEq, Addr.mk.injEq, and_true] at eb
        obtain ⟨rfl, rfl⟩ := eb
        have cx := hc m (by omega)
        have hxs := wlK_size (s := s) (k := k) (j := m) (by omega)
        have hmb : m ≤ 2097152 := by omega
        rw [Nat.zero_add] at cx
        have zx := hown.frozenAt m
        have HOWN := Lib.hid hown
        have hgw := (hown.lt g rfl).1
        rw [hm, Nat.add_sub_cancel] at HW
        have HM := Lib.hid hm
        rw [hm]
        clear hc hrd hown hm hln hlp
        have hk1 : (k : Int) + 1 ≤ s.size := by omega
        obtain ⟨x, hxx⟩ : ∃ x, sg0 (wlK s k) m = x := ⟨_, rfl⟩
        rw [hxx] at cx hxs HW
        have HXX := Lib.hid hxx
        clear hxx
        go_wp2_with fail
        refine wp_region_draws2H (some 17) (fun wz => Below wr.heap.size wr wz) (fun wz => Below w.heap.size w wz ∧ OwnA w.heap.size 9 1 sgEnc wz (.slice (some ⟨g, 0, Option.none⟩) (m + 1) c) (wlK s (k + 1))) (fun i wz vz => match i with | 0 => vz = .slice (some ⟨g, 0, Option.none⟩) (m + 1) c | 1 => vz = .slice (some ⟨g, 0, Option.none⟩) (m + 1) c | 2 => vz = .int .i64 ((m : Int) + 1) | 3 => vz = .int .i64 m | 4 => vz = .slice (some ⟨g, 0, Option.none⟩) (m + 1) c | 5 => vz = .slice (some ⟨g, 0, Option.none⟩) (m + 1) c | 6 => vz = .int .i64 ((m : Int) + 1) | 7 => vz = .int .i64 m | 8 => vz = .pointer (some ⟨g, m, Option.none⟩) | 9 => vz = .string x | 10 => vz = .string s | 11 => vz = .int .i64 k | 12 => vz = .int .i64 k | 13 => vz = .int .i64 ((k : Int) + 1) | 14 => vz = .string (s.extract k (k + 1)) | 15 => vz = .string (x ++ s.extract k (k + 1)) | 16 => vz = .pointer (some ⟨g, m, Option.none⟩) | _ => True) (fun _ _ => True) (fun i w w' => i = 17 ∨ Below w.heap.size w w') (fun j => match j with  | _ => Option.none) (by kernel_rfl) (by kernel_rfl) (by kernel_rfl) ?stab7 ?stabG7 ?stabH7 trivial (ext_drew (Below.refl _ _)) ?all7 ?fin7
        case stab7 =>
          intro i j wa wb v hR hk hne hd _ h2 hT
          match j, hk, hne, hd, h2, hT with
          | 0, hk, hne, hd, h2, hT => exact (hT)
          | 1, hk, hne, hd, h2, hT => exact (hT)
          | 2, hk, hne, hd, h2, hT => exact (hT)
          | 3, hk, hne, hd, h2, hT => exact (hT)
          | 4, hk, hne, hd, h2, hT => exact (hT)
          | 5, hk, hne, hd, h2, hT => exact (hT)
          | 6, hk, hne, hd, h2, hT => exact (hT)
          | 7, hk, hne, hd, h2, hT => exact (hT)
          | 8, hk, hne, hd, h2, hT => exact (hT)
          | 9, hk, hne, hd, h2, hT => exact (hT)
          | 10, hk, hne, hd, h2, hT => exact (hT)
          | 11, hk, hne, hd, h2, hT => exact (hT)
          | 12, hk, hne, hd, h2, hT => exact (hT)
          | 13, hk, hne, hd, h2, hT => exact (hT)
          | 14, hk, hne, hd, h2, hT => exact (hT)
          | 15, hk, hne, hd, h2, hT => exact (hT)
          | 16, hk, hne, hd, h2, hT => exact (hT)
          | n + 17, _, _, _, _, _ => trivial
        case stabG7 => exact fun i wa wb hR hne hG => ext_trans hG (hR.resolve_left (fun e => hne (by rw [e])))
        case stabH7 => exact fun i wa wb hR hne _ h => (by have hb := hR.resolve_left (fun e => hne (by rw [e])); exact ⟨ext_trans h.1 hb, h.2.below hb⟩)
        case all7 =>
          refine RAllH.cons rfl ?_ (RAllH.cons rfl ?_ (RAllH.cons rfl ?_ (RAllH.cons rfl ?_ (RAllH.cons rfl ?_ (RAllH.cons rfl ?_ (RAllH.cons rfl ?_ (RAllH.cons rfl ?_ (RAllH.cons rfl ?_ (RAllH.cons rfl ?_ (RAllH.cons rfl ?_ (RAllH.cons rfl ?_ (RAllH.cons rfl ?_ (RAllH.cons rfl ?_ (RAllH.cons rfl ?_ (RAllH.cons rfl ?_ (RAllH.cons rfl ?_ (RAllH.cons rfl ?_ (RAllH.none_))))))))))))))))))
          · intro a kq_ wa K Q _ _ hp hK0
            have hI : Below wr.heap.size wr wa := hp.pre (fun c hc => by cases hc; kernel_rfl)
            have hK := fun v w' h1 h2 (_ : Below wr.heap.size wr w') => hK0 v w' h1 (.inr h2) trivial (fun e => by cases e)
            exact op_move _ (.inl rfl) (hK _ _ (hp.keep 3 (by kernel_rfl)) (Below.refl _ _) hI)
          · intro a kq_ wa K Q _ _ hp hK0
            have hI : Below wr.heap.size wr wa := hp.pre (fun c hc => by cases hc; kernel_rfl)
            have hK := fun v w' h1 h2 (_ : Below wr.heap.size wr w') => hK0 v w' h1 (.inr h2) trivial (fun e => by cases e)
            exact op_move _ (.inl rfl) (hK _ _ (hp.keep 3 (by kernel_rfl)) (Below.refl _ _) hI)
          · intro a kq_ wa K Q _ _ hp hK0
            have hI : Below wr.heap.size wr wa := hp.pre (fun c hc => by cases hc; kernel_rfl)
            have hK := fun v w' h1 h2 (_ : Below wr.heap.size wr w') => hK0 v w' h1 (.inr h2) trivial (fun e => by cases e)
            have e20 := tmp_of (show a.eval (.tmp 20) = .slice (some ⟨g, 0, Option.none⟩) (m + 1) c from hp.dep 1 20 (by kernel_rfl))
            go_simp
            exact hK _ _ rfl (Below.refl _ _) hI
          · intro a kq_ wa K Q _ _ hp hK0
            have hI : Below wr.heap.size wr wa := hp.pre (fun c hc => by cases hc; kernel_rfl)
            have hK := fun v w' h1 h2 (_ : Below wr.heap.size wr w') => hK0 v w' h1 (.inr h2) trivial (fun e => by cases e)
            have e21 := tmp_of (show a.eval (.tmp 21) = .int .i64 ((m : Int) + 1) from hp.dep 2 21 (by kernel_rfl))
            go_simp
            rw [IntWalk.i64_in _ (by omega)]
            exact hK _ _ rfl (Below.refl _ _) hI
          · intro a kq_ wa K Q _ _ hp hK0
            have hI : Below wr.heap.size wr wa := hp.pre (fun c hc => by cases hc; kernel_rfl)
            have hK := fun v w' h1 h2 (_ : Below wr.heap.size wr w') => hK0 v w' h1 (.inr h2) trivial (fun e => by cases e)
            exact op_move _ (.inl rfl) (hK _ _ (hp.keep 3 (by kernel_rfl)) (Below.refl _ _) hI)
          · intro a kq_ wa K Q _ _ hp hK0
            have hI : Below wr.heap.size wr wa := hp.pre (fun c hc => by cases hc; kernel_rfl)
            have hK := fun v w' h1 h2 (_ : Below wr.heap.size wr w') => hK0 v w' h1 (.inr h2) trivial (fun e => by cases e)
            exact op_move _ (.inl rfl) (hK _ _ (hp.keep 3 (by kernel_rfl)) (Below.refl _ _) hI)
          · intro a kq_ wa K Q _ _ hp hK0
            have hI : Below wr.heap.size wr wa := hp.pre (fun c hc => by cases hc; kernel_rfl)
            have hK := fun v w' h1 h2 (_ : Below wr.heap.size wr w') => hK0 v w' h1 (.inr h2) trivial (fun e => by cases e)
            have e24 := tmp_of (show a.eval (.tmp 24) = .slice (some ⟨g, 0, Option.none⟩) (m + 1) c from hp.dep 5 24 (by kernel_rfl))
            go_simp
            exact hK _ _ rfl (Below.refl _ _) hI
          · intro a kq_ wa K Q _ _ hp hK0
            have hI : Below wr.heap.size wr wa := hp.pre (fun c hc => by cases hc; kernel_rfl)
            have hK := fun v w' h1 h2 (_ : Below wr.heap.size wr w') => hK0 v w' h1 (.inr h2) trivial (fun e => by cases e)
            have e25 := tmp_of (show a.eval (.tmp 25) = .int .i64 ((m : Int) + 1) from hp.dep 6 25 (by kernel_rfl))
            go_simp
            rw [IntWalk.i64_in _ (by omega)]
            exact hK _ _ rfl (Below.refl _ _) hI
          · intro a kq_ wa K Q _ _ hp hK0
            have hI : Below wr.heap.size wr wa := hp.pre (fun c hc => by cases hc; kernel_rfl)
            have hK := fun v w' h1 h2 (_ : Below wr.heap.size wr w') => hK0 v w' h1 (.inr h2) trivial (fun e => by cases e)
            have e23 := tmp_of (show a.eval (.tmp 23) = .slice (some ⟨g, 0, Option.none⟩) (m + 1) c from hp.dep 4 23 (by kernel_rfl))
            have e26 := tmp_of (show a.eval (.tmp 26) = .int .i64 m from hp.dep 7 26 (by kernel_rfl))
            go_simp
            rw [if_pos (by omega)]
            go_simp
            exact hK _ _ rfl (Below.refl _ _) hI
          · intro a kq_ wa K Q _ _ hp hK0
            have hI : Below wr.heap.size wr wa := hp.pre (fun c hc => by cases hc; kernel_rfl)
            have hK := fun v w' h1 h2 (_ : Below wr.heap.size wr w') => hK0 v w' h1 (.inr h2) trivial (fun e => by cases e)
            have e27 := tmp_of (show a.eval (.tmp 27) = .pointer (some ⟨g, m, Option.none⟩) from hp.dep 8 27 (by kernel_rfl))
            have cx_ := below_cell hI cx
            go_simp
            exact hK _ _ rfl (Below.refl _ _) hI
          · intro a kq_ wa K Q _ _ hp hK0
            have hI : Below wr.heap.size wr wa := hp.pre (fun c hc => by cases hc; kernel_rfl)
            have hK := fun v w' h1 h2 (_ : Below wr.heap.size wr w') => hK0 v w' h1 (.inr h2) trivial (fun e => by cases e)
            exact op_move _ (.inl rfl) (hK _ _ (hp.keep 0 (by kernel_rfl)) (Below.refl _ _) hI)
          · intro a kq_ wa K Q _ _ hp hK0
            have hI : Below wr.heap.size wr wa := hp.pre (fun c hc => by cases hc; kernel_rfl)
            have hK := fun v w' h1 h2 (_ : Below wr.heap.size wr w') => hK0 v w' h1 (.inr h2) trivial (fun e => by cases e)
            exact op_move _ (.inl rfl) (hK _ _ (hp.keep 4 (by kernel_rfl)) (Below.refl _ _) hI)
          · intro a kq_ wa K Q _ _ hp hK0
            have hI : Below wr.heap.size wr wa := hp.pre (fun c hc => by cases hc; kernel_rfl)
            have hK := fun v w' h1 h2 (_ : Below wr.heap.size wr w') => hK0 v w' h1 (.inr h2) trivial (fun e => by cases e)
            exact op_move _ (.inl rfl) (hK _ _ (hp.keep 4 (by kernel_rfl)) (Below.refl _ _) hI)
          · intro a kq_ wa K Q _ _ hp hK0
            have hI : Below wr.heap.size wr wa := hp.pre (fun c hc => by cases hc; kernel_rfl)
            have hK := fun v w' h1 h2 (_ : Below wr.heap.size wr w') => hK0 v w' h1 (.inr h2) trivial (fun e => by cases e)
            have e31 := tmp_of (show a.eval (.tmp 31) = .int .i64 k from hp.dep 12 31 (by kernel_rfl))
            go_simp
            rw [IntWalk.i64_in _ (by omega)]
            exact hK _ _ rfl (Below.refl _ _) hI
          · intro a kq_ wa K Q _ _ hp hK0
            have hI : Below wr.heap.size wr wa := hp.pre (fun c hc => by cases hc; kernel_rfl)
            have hK := fun v w' h1 h2 (_ : Below wr.heap.size wr w') => hK0 v w' h1 (.inr h2) trivial (fun e => by cases e)
            have e29 := tmp_of (show a.eval (.tmp 29) = .string s from hp.dep 10 29 (by kernel_rfl))
            have e30 := tmp_of (show a.eval (.tmp 30) = .int .i64 k from hp.dep 11 30 (by kernel_rfl))
            have e32 := tmp_of (show a.eval (.tmp 32) = .int .i64 ((k : Int) + 1) from hp.dep 13 32 (by kernel_rfl))
            go_simp
            rw [if_pos (by omega), if_pos (by omega)]
            go_simp
            exact hK _ _ rfl (Below.refl _ _) hI
          · intro a kq_ wa K Q _ _ hp hK0
            have hI : Below wr.heap.size wr wa := hp.pre (fun c hc => by cases hc; kernel_rfl)
            have hK := fun v w' h1 h2 (_ : Below wr.heap.size wr w') => hK0 v w' h1 (.inr h2) trivial (fun e => by cases e)
            have e28 := tmp_of (show a.eval (.tmp 28) = .string x from hp.dep 9 28 (by kernel_rfl))
            have e33 := tmp_of (show a.eval (.tmp 33) = .string (s.extract k (k + 1)) from hp.dep 14 33 (by kernel_rfl))
            go_simp
            rw [if_neg (by omega)]
            go_simp
            exact hK _ _ rfl (Below.refl _ _) hI
          · intro a kq_ wa K Q _ _ hp hK0
            have hI : Below wr.heap.size wr wa := hp.pre (fun c hc => by cases hc; kernel_rfl)
            have hK := fun v w' h1 h2 (_ : Below wr.heap.size wr w') => hK0 v w' h1 (.inr h2) trivial (fun e => by cases e)
            have e19 := tmp_of (show a.eval (.tmp 19) = .slice (some ⟨g, 0, Option.none⟩) (m + 1) c from hp.dep 0 19 (by kernel_rfl))
            have e22 := tmp_of (show a.eval (.tmp 22) = .int .i64 m from hp.dep 3 22 (by kernel_rfl))
            go_simp
            rw [if_pos (by omega)]
            go_simp
            exact hK _ _ rfl (Below.refl _ _) hI
          · intro a kq_ wa K Q _ _ hp hK0
            have hI : Below wr.heap.size wr wa := hp.pre (fun c hc => by cases hc; kernel_rfl)
            have hS := fun v w' h => hK0 v w' trivial (.inl rfl) trivial (fun _ => h)
            have e34 := tmp_of (show a.eval (.tmp 34) = .string (x ++ s.extract k (k + 1)) from hp.dep 15 34 (by kernel_rfl))
            have e35 := tmp_of (show a.eval (.tmp 35) = .pointer (some ⟨g, m, Option.none⟩) from hp.dep 16 35 (by kernel_rfl))
            have cw := below_cell hI cx
            have zw := (hI.frozen (p := ⟨g, m, none⟩) (block_lt_of_cell cx)).trans zx
            have hp2 := own_put (enc := sgEnc) (sz := 1) (k := m) (x ++ s.extract k (k + 1)) (fun _ => rfl) (own_below HOWN.out hI) rfl (by rw [HM.out]; omega)
            rw [Nat.mul_one] at hp2
            go_simp
            refine hS (.tuple #[]) _ ⟨?_, ?_⟩
            · exact (ext_trans hB hI).setCell hgw _
            rw [HW.out]
            exact ⟨_, _, by rw [List.length_set, HM.out], by rw [List.length_set]; exact hp2⟩
        case fin7 =>
          intro f w9 hT _ hH
          have hH := hH 17 rfl (by decide)
          have hr6 : (f 16) = .pointer (some ⟨g, m, Option.none⟩) := hT 16 (by decide) rfl rfl
          clear hT
          clear hr6
          obtain ⟨hB9, hO9⟩ := hH
          simp only [putAll]
          go_simp
          go_wp2
          go_roundw
          case rel => exact ⟨k + 1, by omega, by go_num, hO9, hB9⟩
          case measure => simp [intOf]; omega
    · obtain rfl : k = s.size := by omega
      obtain ⟨A, c, rfl, hown⟩ := hO
      have HOWN := Lib.hid hown
      clear hown
      go_wp2
      go_ret
      have h := HOWN.out
      rw [wlK_all] at h
      exact ⟨A, c, by rw [wlK_all]; rfl, h, hB⟩
end Go.Proofs.YtpmelhkhmichcaaDoor

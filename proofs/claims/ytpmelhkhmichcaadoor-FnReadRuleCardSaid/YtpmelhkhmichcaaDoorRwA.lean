/- Words with a space between them: XPaB, XPaC, XPaD turned by gen_sp.py. -/
import Derived.Test.YtpmelhkhmichcaaDoorPaD
namespace Go.Proofs.YtpmelhkhmichcaaDoor
set_option linter.unusedSimpArgs false
set_option linter.unusedVariables false
open Go.RowKit Go.Shelf

def sws (s : ByteArray) : List ByteArray := wds 32 s
theorem sws_len (s : ByteArray) : (sws s).length ≤ s.size + 1 := by
  rw [sws, wds, List.length_map]
  have := wdL_len 32 s.data.toList
  rw [show s.data.toList.length = s.size from rfl] at this
  exact this
theorem sws_pos (s : ByteArray) : 0 < (sws s).length := by
  rw [sws, wds, List.length_map]
  have := wdL_ne 32 s.data.toList
  exact List.length_pos_iff.2 this
theorem sws_size {s : ByteArray} {k : Nat} (hk : k < (sws s).length) : (sg0 (sws s) k).size ≤ s.size := by
  have e : sg0 (sws s) k = (sws s)[k] := sg_elem hk
  rw [e]
  have hm : (sws s)[k] ∈ sws s := List.getElem_mem hk
  unfold sws wds at hm
  obtain ⟨x, hx, h2⟩ := List.mem_map.1 hm
  have := wdL_size 32 _ x hx
  rw [show (sws s)[k] = bsOf x from h2.symm]
  exact this
/-- The words of the first bytes. -/
def wsK (s : ByteArray) (k : Nat) : List ByteArray := ((s.data.toList.take k).foldl (wdStep 32) [[]]).map bsOf
theorem wsK_zero (s : ByteArray) : wsK s 0 = [ByteArray.empty] := rfl
theorem wsK_all (s : ByteArray) : wsK s s.size = sws s := by
  rw [wsK, show s.size = s.data.toList.length from rfl, List.take_length, wd_all]
  rfl
theorem fold_takeS {s : ByteArray} {k : Nat} (hk : k < s.size) : (s.data.toList.take (k + 1)).foldl (wdStep 32) [[]] = wdStep 32 ((s.data.toList.take k).foldl (wdStep 32) [[]]) (s[k]'hk) := by
  rw [List.take_succ_eq_append_getElem (show k < s.data.toList.length from hk), List.foldl_append]
  rfl
theorem fold_neS (l : List UInt8) : ∀ {out : List (List UInt8)}, out ≠ [] → l.foldl (wdStep 32) out ≠ [] := by
  induction l with
  | nil => intro out h; exact h
  | cons b l ih => intro out h; exact ih wdStep_ne
theorem fold_lenS (l : List UInt8) : ∀ (out : List (List UInt8)), out ≠ [] → (l.foldl (wdStep 32) out).length ≤ out.length + l.length := by
  induction l with
  | nil => intro out _; simp
  | cons b l ih =>
    intro out ho
    have := ih (wdStep 32 out b) wdStep_ne
    have h2 : (wdStep 32 out b).length ≤ out.length + 1 := by
      unfold wdStep
      split
      · simp
      · have := List.length_pos_iff.2 ho
        simp <;> omega
    simp only [List.foldl_cons, List.length_cons]
    omega
theorem wsK_pos (s : ByteArray) (k : Nat) : 0 < (wsK s k).length := by
  rw [wsK, List.length_map]
  exact List.length_pos_iff.2 (fold_neS _ (by simp))
theorem wsK_len (s : ByteArray) (k : Nat) : (wsK s k).length ≤ 1 + s.size := by
  rw [wsK, List.length_map]
  have := fold_lenS (s.data.toList.take k) [[]] (by simp)
  have h2 : (s.data.toList.take k).length ≤ s.size := by rw [List.length_take]; exact Nat.min_le_right _ _
  simp only [List.length_singleton] at this
  omega
theorem wsK_sep {s : ByteArray} {k : Nat} (hk : k < s.size) (h : s[k]'hk = 32) : wsK s (k + 1) = wsK s k ++ [ByteArray.empty] := by
  rw [wsK, fold_takeS hk, h, wdStep, if_pos rfl, List.map_append]
  rfl
theorem wsK_add {s : ByteArray} {k : Nat} (hk : k < s.size) (h : ¬ s[k]'hk = 32) : wsK s (k + 1) = (wsK s k).set ((wsK s k).length - 1) (sg0 (wsK s k) ((wsK s k).length - 1) ++ s.extract k (k + 1)) := by
  have hne := fold_neS (s.data.toList.take k) (out := [[]]) (by simp)
  rw [wsK, fold_takeS hk, wdStep, if_neg h]
  obtain ⟨x, a, e⟩ : ∃ (x : List (List UInt8)) (a : List UInt8), (s.data.toList.take k).foldl (wdStep 32) [[]] = x ++ [a] := ⟨_, _, (List.dropLast_concat_getLast hne).symm⟩
  have e2 : wsK s k = x.map bsOf ++ [bsOf a] := by rw [wsK, e]; simp
  rw [e2, e, bs_one hk]
  have hl : (x.map bsOf ++ [bsOf a]).length - 1 = x.length := by simp
  rw [hl]
  have hs : sg0 (x.map bsOf ++ [bsOf a]) x.length = bsOf a := by
    unfold sg0
    simp
  rw [hs, bs_add]
  simp only [List.dropLast_concat, List.getLast?_append, List.getLast?_singleton, Option.some_or, Option.getD_some, List.map_append, List.map_cons, List.map_nil]
  rw [show (x.map bsOf ++ [bsOf a]).set x.length (bsOf (a ++ [s[k]'hk])) = x.map bsOf ++ [bsOf (a ++ [s[k]'hk])] by rw [List.set_append, if_neg (by simp)]; simp]
theorem fold_sizeS : ∀ (l : List UInt8) {n : Nat} {out : List (List UInt8)}, out ≠ [] → (∀ x ∈ out, x.length ≤ n) → ∀ x ∈ l.foldl (wdStep 32) out, x.length ≤ n + l.length
  | [], n, out, _, h => h
  | b :: l, n, out, ho, h => by
    intro x hx
    have := fold_sizeS l (n := n + 1) wdStep_ne (wdStep_size (c := 32) (b := b) ho h) x hx
    simp only [List.length_cons]; omega
theorem wsK_size {s : ByteArray} {k j : Nat} (hj : j < (wsK s k).length) : (sg0 (wsK s k) j).size ≤ s.size := by
  have e : sg0 (wsK s k) j = (wsK s k)[j] := sg_elem hj
  rw [e]
  have hm : (wsK s k)[j] ∈ wsK s k := List.getElem_mem hj
  generalize (wsK s k)[j] = y at hm
  unfold wsK at hm
  obtain ⟨x, hx, rfl⟩ := List.mem_map.1 hm
  have h1 := fold_sizeS (s.data.toList.take k) (n := 0) (out := [[]]) (by simp) (by simp) x hx
  have h2 : (s.data.toList.take k).length ≤ s.size := by rw [List.length_take]; exact Nat.min_le_right _ _
  show x.length ≤ s.size
  omega
set_option maxRecDepth 100000 in
set_option maxHeartbeats 4000000 in
theorem l21Words_any {s : ByteArray} {w : World} (hs : s.size ≤ 2097152) :
    Calls Tryd.prog 53 #[.string s] w fun e w' => ∃ A c, e = .returned (.slice A (sws s).length c) ∧ w'.ownsRow w.heap.size 9 1 (.slice A (sws s).length c) (sws s).length ((sws s).flatMap sgEnc) ∧ Below w.heap.size w w' := by
  obtain ⟨X, hX⟩ : ∃ X, X = w.alloc (.cells #[.string ByteArray.empty] 9) := ⟨_, rfl⟩
  have hBX : Below w.heap.size w X := by rw [hX]; (repeat (first | exact Below.refl _ _ | refine ext_alloc ?_ _ | refine Below.setCell ?_ (by simp) _))
  have hO0 : OwnA w.heap.size 9 1 sgEnc X (.slice (some ⟨w.heap.size, 0, Option.none⟩) 1 1) (wsK s 0) := by
    rw [wsK_zero]
    exact OwnA.of ⟨by simp [sgEnc], .inr ⟨w.heap.size, 1, #[.string ByteArray.empty], rfl, Nat.le_refl _, by rw [hX]; exact heap_alloc_new _ _, by simp, by simp [maxLen], by simp, by simp [sgEnc]⟩⟩
  have HO0 := Lib.hid hO0
  have HX := Lib.hid hX
  have HBX := Lib.hid hBX
  clear hO0 hX hBX
  go_enter Tryd.func53, Tryd.ntmps53
  go_wp2
  go_loopw [3, 4] (fun ov iv wr => ∃ k : Nat, k ≤ s.size ∧ iv = .int .i64 k ∧ OwnA w.heap.size 9 1 sgEnc wr ov (wsK s k) ∧ Below w.heap.size w wr) (fun _ iv _ => s.size - (intOf iv).toNat)
  case atStart => exact ⟨0, Nat.zero_le _, rfl, (by have h := HO0.out; rw [HX.out] at h; exact h), (by have h := HBX.out; rw [HX.out] at h; exact h)⟩
  case round =>
    obtain ⟨k, hk, rfl, hO, hB⟩ := hrel
    by_cases hlt : k < s.size
    · have hx := byteAt_of hlt
      have hln := wsK_len s k
      have hlp := wsK_pos s k
      by_cases h1 : ((s[k]'hlt).toNat : Int) = 32
      · have e1 : (((s[k]'hlt).toNat : Int) == 32) = true := by simpa using h1
        have HW : Hid (wsK s (k + 1) = wsK s k ++ [ByteArray.empty]) := Lib.hid (wsK_sep hlt (by
          apply UInt8.toNat_inj.1
          have : (s[k]'hlt).toNat = 32 := by omega
          rw [this]; rfl))
        clear h1
        go_wp2_with (at_builtin; go_must (refine wpList_push (enc := sgEnc) (ByteArray.empty) rfl (.tmp 16) (.tmp 17) 63 9 _ 1 16 rfl Tryd.underlying63 Tryd.infoText rfl (by decide) (fun _ => rfl) sgEnc_one (hO.below (by (repeat (first | exact Below.refl _ _ | refine ext_alloc ?_ _ | refine Below.setCell ?_ (by simp) _)))) rfl (heap_alloc_at (by simp)) (by rfl) (by omega) (by omega) (Nat.le_trans hB.size (show Below _ _ _ by (repeat (first | exact Below.refl _ _ | refine ext_alloc ?_ _ | refine Below.setCell ?_ (by simp) _))).size) ?_); intro v_ wq1 ho_ hb_ hg_)
        replace hB := (ext_trans hB (by (repeat (first | exact Below.refl _ _ | refine ext_alloc ?_ _ | refine Below.setCell ?_ (by simp) _)))).trans hb_
        replace hO := ho_
        clear ho_ hb_ hg_
        go_wp2
        go_roundw
        case rel => exact ⟨k + 1, by omega, by go_num, by rw [HW.out]; exact hO, hB⟩
        case measure => simp [intOf]; omega
      · have e1 : (((s[k]'hlt).toNat : Int) == 32) = false := by simpa using h1
        have HW : Hid (wsK s (k + 1) = (wsK s k).set ((wsK s k).length - 1) (sg0 (wsK s k) ((wsK s k).length - 1) ++ s.extract k (k + 1))) := Lib.hid (wsK_add hlt (by
          intro h
          apply h1
          rw [h]; rfl))
        clear h1
        obtain ⟨m, hm⟩ : ∃ m, (wsK s k).length = m + 1 := ⟨(wsK s k).length - 1, by omega⟩
        obtain ⟨A, c, rfl, hown⟩ := hO
        obtain ⟨g, cap, hv, _, _⟩ := hown.form hlp
        simp only [Value.slice.injEq, true_and] at hv
        obtain ⟨rfl, rfl⟩ := hv
        have hrd : sgR wr (some ⟨g, 0, none⟩) (wsK s k) := sgR.own rfl (by omega) hown
        obtain ⟨b, off, eb, hc⟩ := hrd.cells hlp
        simp only [Option.some.injEq, Addr.mk.injEq, and_true] at eb
        obtain ⟨rfl, rfl⟩ := eb
        have cx := hc m (by omega)
        have hxs := wsK_size (s := s) (k := k) (j := m) (by omega)
        have hmb : m ≤ 2097152 := by omega
        rw [Nat.zero_add] at cx
        have zx := hown.frozenAt m
        have HOWN := Lib.hid hown
        have hgw := (hown.lt g rfl).1
        rw [hm, Nat.add_sub_cancel] at HW
        have HM := Lib.hid hm
        rw [hm]
        clear hc hrd hown hm hln hlp
        have hk1 : (k : Int) + 1 ≤ s.size := by omega
        obtain ⟨x, hxx⟩ : ∃ x, sg0 (wsK s k) m = x := ⟨_, rfl⟩
        rw [hxx] at cx hxs HW
        have HXX := Lib.hid hxx
        clear hxx
        go_wp2_with fail
        refine wp_region_draws2H (some 17) (fun wz => Below wr.heap.size wr wz) (fun wz => Below w.heap.size w wz ∧ OwnA w.heap.size 9 1 sgEnc wz (.slice (some ⟨g, 0, Option.none⟩) (m + 1) c) (wsK s (k + 1))) (fun i wz vz => match i with | 0 => vz = .slice (some ⟨g, 0, Option.none⟩) (m + 1) c | 1 => vz = .slice (some ⟨g, 0, Option.none⟩) (m + 1) c | 2 => vz = .int .i64 ((m : Int) + 1) | 3 => vz = .int .i64 m | 4 => vz = .slice (some ⟨g, 0, Option.none⟩) (m + 1) c | 5 => vz = .slice (some ⟨g, 0, Option.none⟩) (m + 1) c | 6 => vz = .int .i64 ((m : Int) + 1) | 7 => vz = .int .i64 m | 8 => vz = .pointer (some ⟨g, m, Option.none⟩) | 9 => vz = .string x | 10 => vz = .string s | 11 => vz = .int .i64 k | 12 => vz = .int .i64 k | 13 => vz = .int .i64 ((k : Int) + 1) | 14 => vz = .string (s.extract k (k + 1)) | 15 => vz = .string (x ++ s.extract k (k + 1)) | 16 => vz = .pointer (some ⟨g, m, Option.none⟩) | _ => True) (fun _ _ => True) (fun i w w' => i = 17 ∨ Below w.heap.size w w') (fun j => match j with  | _ => Option.none) (by kernel_rfl) (by kernel_rfl) (by kernel_rfl) ?stab7 ?stabG7 ?stabH7 trivial (ext_drew (Below.refl _ _)) ?all7 ?fin7
        case stab7 =>
          intro i j wa wb v hR hk hne hd _ h2 hT
          match j, hk, hne, hd, h2, hT with
          | 0, hk, hne, hd, h2, hT => exact (hT)
          | 1, hk, hne, hd, h2, hT => exact (hT)
          | 2, hk, hne, hd, h2, hT => exact (hT)
          | 3, hk, hne, hd, h2, hT => exact (hT)
          | 4, hk, hne, hd, h2, hT => exact (hT)
          | 5, hk, hne, hd, h2, hT => exact (hT)
          | 6, hk, hne, hd, h2, hT => exact (hT)
          | 7, hk, hne, hd, h2, hT => exact (hT)
          | 8, hk, hne, hd, h2, hT => exact (hT)
          | 9, hk, hne, hd, h2, hT => exact (hT)
          | 10, hk, hne, hd, h2, hT => exact (hT)
          | 11, hk, hne, hd, h2, hT => exact (hT)
          | 12, hk, hne, hd, h2, hT => exact (hT)
          | 13, hk, hne, hd, h2, hT => exact (hT)
          | 14, hk, hne, hd, h2, hT => exact (hT)
          | 15, hk, hne, hd, h2, hT => exact (hT)
          | 16, hk, hne, hd, h2, hT => exact (hT)
          | n + 17, _, _, _, _, _ => trivial
        case stabG7 => exact fun i wa wb hR hne hG => ext_trans hG (hR.resolve_left (fun e => hne (by rw [e])))
        case stabH7 => exact fun i wa wb hR hne _ h => (by have hb := hR.resolve_left (fun e => hne (by rw [e])); exact ⟨ext_trans h.1 hb, h.2.below hb⟩)
        case all7 =>
          refine RAllH.cons rfl ?_ (RAllH.cons rfl ?_ (RAllH.cons rfl ?_ (RAllH.cons rfl ?_ (RAllH.cons rfl ?_ (RAllH.cons rfl ?_ (RAllH.cons rfl ?_ (RAllH.cons rfl ?_ (RAllH.cons rfl ?_ (RAllH.cons rfl ?_ (RAllH.cons rfl ?_ (RAllH.cons rfl ?_ (RAllH.cons rfl ?_ (RAllH.cons rfl ?_ (RAllH.cons rfl ?_ (RAllH.cons rfl ?_ (RAllH.cons rfl ?_ (RAllH.cons rfl ?_ (RAllH.none_))))))))))))))))))
          · intro a kq_ wa K Q _ _ hp hK0
            have hI : Below wr.heap.size wr wa := hp.pre (fun c hc => by cases hc; kernel_rfl)
            have hK := fun v w' h1 h2 (_ : Below wr.heap.size wr w') => hK0 v w' h1 (.inr h2) trivial (fun e => by cases e)
            exact op_move _ (.inl rfl) (hK _ _ (hp.keep 3 (by kernel_rfl)) (Below.refl _ _) hI)
          · intro a kq_ wa K Q _ _ hp hK0
            have hI : Below wr.heap.size wr wa := hp.pre (fun c hc => by cases hc; kernel_rfl)
            have hK := fun v w' h1 h2 (_ : Below wr.heap.size wr w') => hK0 v w' h1 (.inr h2) trivial (fun e => by cases e)
            exact op_move _ (.inl rfl) (hK _ _ (hp.keep 3 (by kernel_rfl)) (Below.refl _ _) hI)
          · intro a kq_ wa K Q _ _ hp hK0
            have hI : Below wr.heap.size wr wa := hp.pre (fun c hc => by cases hc; kernel_rfl)
            have hK := fun v w' h1 h2 (_ : Below wr.heap.size wr w') => hK0 v w' h1 (.inr h2) trivial (fun e => by cases e)
            have e20 := tmp_of (show a.eval (.tmp 20) = .slice (some ⟨g, 0, Option.none⟩) (m + 1) c from hp.dep 1 20 (by kernel_rfl))
            go_simp
            exact hK _ _ rfl (Below.refl _ _) hI
          · intro a kq_ wa K Q _ _ hp hK0
            have hI : Below wr.heap.size wr wa := hp.pre (fun c hc => by cases hc; kernel_rfl)
            have hK := fun v w' h1 h2 (_ : Below wr.heap.size wr w') => hK0 v w' h1 (.inr h2) trivial (fun e => by cases e)
            have e21 := tmp_of (show a.eval (.tmp 21) = .int .i64 ((m : Int) + 1) from hp.dep 2 21 (by kernel_rfl))
            go_simp
            rw [IntWalk.i64_in _ (by omega)]
            exact hK _ _ rfl (Below.refl _ _) hI
          · intro a kq_ wa K Q _ _ hp hK0
            have hI : Below wr.heap.size wr wa := hp.pre (fun c hc => by cases hc; kernel_rfl)
            have hK := fun v w' h1 h2 (_ : Below wr.heap.size wr w') => hK0 v w' h1 (.inr h2) trivial (fun e => by cases e)
            exact op_move _ (.inl rfl) (hK _ _ (hp.keep 3 (by kernel_rfl)) (Below.refl _ _) hI)
          · intro a kq_ wa K Q _ _ hp hK0
            have hI : Below wr.heap.size wr wa := hp.pre (fun c hc => by cases hc; kernel_rfl)
            have hK := fun v w' h1 h2 (_ : Below wr.heap.size wr w') => hK0 v w' h1 (.inr h2) trivial (fun e => by cases e)
            exact op_move _ (.inl rfl) (hK _ _ (hp.keep 3 (by kernel_rfl)) (Below.refl _ _) hI)
          · intro a kq_ wa K Q _ _ hp hK0
            have hI : Below wr.heap.size wr wa := hp.pre (fun c hc => by cases hc; kernel_rfl)
            have hK := fun v w' h1 h2 (_ : Below wr.heap.size wr w') => hK0 v w' h1 (.inr h2) trivial (fun e => by cases e)
            have e24 := tmp_of (show a.eval (.tmp 24) = .slice (some ⟨g, 0, Option.none⟩) (m + 1) c from hp.dep 5 24 (by kernel_rfl))
            go_simp
            exact hK _ _ rfl (Below.refl _ _) hI
          · intro a kq_ wa K Q _ _ hp hK0
            have hI : Below wr.heap.size wr wa := hp.pre (fun c hc => by cases hc; kernel_rfl)
            have hK := fun v w' h1 h2 (_ : Below wr.heap.size wr w') => hK0 v w' h1 (.inr h2) trivial (fun e => by cases e)
            have e25 := tmp_of (show a.eval (.tmp 25) = .int .i64 ((m : Int) + 1) from hp.dep 6 25 (by kernel_rfl))
            go_simp
            rw [IntWalk.i64_in _ (by omega)]
            exact hK _ _ rfl (Below.refl _ _) hI
          · intro a kq_ wa K Q _ _ hp hK0
            have hI : Below wr.heap.size wr wa := hp.pre (fun c hc => by cases hc; kernel_rfl)
            have hK := fun v w' h1 h2 (_ : Below wr.heap.size wr w') => hK0 v w' h1 (.inr h2) trivial (fun e => by cases e)
            have e23 := tmp_of (show a.eval (.tmp 23) = .slice (some ⟨g, 0, Option.none⟩) (m + 1) c from hp.dep 4 23 (by kernel_rfl))
            have e26 := tmp_of (show a.eval (.tmp 26) = .int .i64 m from hp.dep 7 26 (by kernel_rfl))
            go_simp
            rw [if_pos (by omega)]
            go_simp
            exact hK _ _ rfl (Below.refl _ _) hI
          · intro a kq_ wa K Q _ _ hp hK0
            have hI : Below wr.heap.size wr wa := hp.pre (fun c hc => by cases hc; kernel_rfl)
            have hK := fun v w' h1 h2 (_ : Below wr.heap.size wr w') => hK0 v w' h1 (.inr h2) trivial (fun e => by cases e)
            have e27 := tmp_of (show a.eval (.tmp 27) = .pointer (some ⟨g, m, Option.none⟩) from hp.dep 8 27 (by kernel_rfl))
            have cx_ := below_cell hI cx
            go_simp
            exact hK _ _ rfl (Below.refl _ _) hI
          · intro a kq_ wa K Q _ _ hp hK0
            have hI : Below wr.heap.size wr wa := hp.pre (fun c hc => by cases hc; kernel_rfl)
            have hK := fun v w' h1 h2 (_ : Below wr.heap.size wr w') => hK0 v w' h1 (.inr h2) trivial (fun e => by cases e)
            exact op_move _ (.inl rfl) (hK _ _ (hp.keep 0 (by kernel_rfl)) (Below.refl _ _) hI)
          · intro a kq_ wa K Q _ _ hp hK0
            have hI : Below wr.heap.size wr wa := hp.pre (fun c hc => by cases hc; kernel_rfl)
            have hK := fun v w' h1 h2 (_ : Below wr.heap.size wr w') => hK0 v w' h1 (.inr h2) trivial (fun e => by cases e)
            exact op_move _ (.inl rfl) (hK _ _ (hp.keep 4 (by kernel_rfl)) (Below.refl _ _) hI)
          · intro a kq_ wa K Q _ _ hp hK0
            have hI : Below wr.heap.size wr wa := hp.pre (fun c hc => by cases hc; kernel_rfl)
            have hK := fun v w' h1 h2 (_ : Below wr.heap.size wr w') => hK0 v w' h1 (.inr h2) trivial (fun e => by cases e)
            exact op_move _ (.inl rfl) (hK _ _ (hp.keep 4 (by kernel_rfl)) (Below.refl _ _) hI)
          · intro a kq_ wa K Q _ _ hp hK0
            have hI : Below wr.heap.size wr wa := hp.pre (fun c hc => by cases hc; kernel_rfl)
            have hK := fun v w' h1 h2 (_ : Below wr.heap.size wr w') => hK0 v w' h1 (.inr h2) trivial (fun e => by cases e)
            have e31 := tmp_of (show a.eval (.tmp 31) = .int .i64 k from hp.dep 12 31 (by kernel_rfl))
            go_simp
            rw [IntWalk.i64_in _ (by omega)]
            exact hK _ _ rfl (Below.refl _ _) hI
          · intro a kq_ wa K Q _ _ hp hK0
            have hI : Below wr.heap.size wr wa := hp.pre (fun c hc => by cases hc; kernel_rfl)
            have hK := fun v w' h1 h2 (_ : Below wr.heap.size wr w') => hK0 v w' h1 (.inr h2) trivial (fun e => by cases e)
            have e29 := tmp_of (show a.eval (.tmp 29) = .string s from hp.dep 10 29 (by kernel_rfl))
            have e30 := tmp_of (show a.eval (.tmp 30) = .int .i64 k from hp.dep 11 30 (by kernel_rfl))
            have e32 := tmp_of (show a.eval (.tmp 32) = .int .i64 ((k : Int) + 1) from hp.dep 13 32 (by kernel_rfl))
            go_simp
            rw [if_pos (by omega), if_pos (by omega)]
            go_simp
            exact hK _ _ rfl (Below.refl _ _) hI
          · intro a kq_ wa K Q _ _ hp hK0
            have hI : Below wr.heap.size wr wa := hp.pre (fun c hc => by cases hc; kernel_rfl)
            have hK := fun v w' h1 h2 (_ : Below wr.heap.size wr w') => hK0 v w' h1 (.inr h2) trivial (fun e => by cases e)
            have e28 := tmp_of (show a.eval (.tmp 28) = .string x from hp.dep 9 28 (by kernel_rfl))
            have e33 := tmp_of (show a.eval (.tmp 33) = .string (s.extract k (k + 1)) from hp.dep 14 33 (by kernel_rfl))
            go_simp
            rw [if_neg (by omega)]
            go_simp
            exact hK _ _ rfl (Below.refl _ _) hI
          · intro a kq_ wa K Q _ _ hp hK0
            have hI : Below wr.heap.size wr wa := hp.pre (fun c hc => by cases hc; kernel_rfl)
            have hK := fun v w' h1 h2 (_ : Below wr.heap.size wr w') => hK0 v w' h1 (.inr h2) trivial (fun e => by cases e)
            have e19 := tmp_of (show a.eval (.tmp 19) = .slice (some ⟨g, 0, Option.none⟩) (m + 1) c from hp.dep 0 19 (by kernel_rfl))
            have e22 := tmp_of (show a.eval (.tmp 22) = .int .i64 m from hp.dep 3 22 (by kernel_rfl))
            go_simp
            rw [if_pos (by omega)]
            go_simp
            exact hK _ _ rfl (Below.refl _ _) hI
          · intro a kq_ wa K Q _ _ hp hK0
            have hI : Below wr.heap.size wr wa := hp.pre (fun c hc => by cases hc; kernel_rfl)
            have hS := fun v w' h => hK0 v w' trivial (.inl rfl) trivial (fun _ => h)
            have e34 := tmp_of (show a.eval (.tmp 34) = .string (x ++ s.extract k (k + 1)) from hp.dep 15 34 (by kernel_rfl))
            have e35 := tmp_of (show a.eval (.tmp 35) = .pointer (some ⟨g, m, Option.none⟩) from hp.dep 16 35 (by kernel_rfl))
            have cw := below_cell hI cx
            have zw := (hI.frozen (p := ⟨g, m, none⟩) (block_lt_of_cell cx)).trans zx
            have hp2 := own_put (enc := sgEnc) (sz := 1) (k := m) (x ++ s.extract k (k + 1)) (fun _ => rfl) (own_below HOWN.out hI) rfl (by rw [HM.out]; omega)
            rw [Nat.mul_one] at hp2
            go_simp
            refine hS (.tuple #[]) _ ⟨?_, ?_⟩
            · exact (ext_trans hB hI).setCell hgw _
            rw [HW.out]
            exact ⟨_, _, by rw [List.length_set, HM.out], by rw [List.length_set]; exact hp2⟩
        case fin7 =>
          intro f w9 hT _ hH
          have hH := hH 17 rfl (by decide)
          have hr6 : (f 16) = .pointer (some ⟨g, m, Option.none⟩) := hT 16 (by decide) rfl rfl
          clear hT
          clear hr6
          obtain ⟨hB9, hO9⟩ := hH
          simp only [putAll]
          go_simp
          go_wp2
          go_roundw
          case rel => exact ⟨k + 1, by omega, by go_num, hO9, hB9⟩
          case measure => simp [intOf]; omega
    · obtain rfl : k = s.size := by omega
      obtain ⟨A, c, rfl, hown⟩ := hO
      have HOWN := Lib.hid hown
      clear hown
      go_wp2
      go_ret
      have h := HOWN.out
      rw [wsK_all] at h
      exact ⟨A, c, by rw [wsK_all]; rfl, h, hB⟩
theorem split_sp {s : ByteArray} {w : World} (hs : s.size ≤ 2097152) :
    Calls Tryd.prog 51 #[.string s, .string ⟨#[32]⟩] w fun e w' => ∃ A c, e = .returned (.slice A (sws s).length c) ∧ w'.ownsRow w.heap.size 9 1 (.slice A (sws s).length c) (sws s).length ((sws s).flatMap sgEnc) ∧ Below w.heap.size w w' := by
  have h := split_one Tryd.lays146 (by kernel_rfl) s 32 w (by omega)
  have hlen := Lib.splitB_all ⟨#[32]⟩ (Nat.le_refl 1) 0 _ s rfl
  rw [splitB_wds] at h hlen
  change Calls Tryd.prog 51 _ w _ at h
  refine h.mono ?_
  rintro e w' ⟨rfl, rfl⟩
  have hl := sws_len s
  have hl2 : (sws s).length = Lib.countB s ⟨#[32]⟩ + 1 := hlen
  refine ⟨_, _, by rw [← hl2], ⟨by rw [flatMap_length sgEnc 1 (fun _ => rfl)], .inr ⟨w.heap.size, _, _, rfl, Nat.le_refl _, heap_alloc_new _ _, by omega, ?_, ?_, ?_⟩⟩, below_alloc _ _⟩
  · simp only [maxLen]; omega
  · simp [sws]
  · rw [flatMap_sg, List.take_of_length_le (by simp [sws])]
    rfl
end Go.Proofs.YtpmelhkhmichcaaDoor

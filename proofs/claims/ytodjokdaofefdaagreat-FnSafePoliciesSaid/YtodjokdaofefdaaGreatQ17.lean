/- Kinds of expressions, by the reference. -/
import Derived.Test.YtodjokdaofefdaaGreatQ16
import Derived.Test.YtodjokdaofefdaaGreatQ11
import Derived.Test.YtodjokdaofefdaaGreatQ8
namespace Go.Proofs.YtodjokdaofefdaaGreat
set_option linter.unusedSimpArgs false
set_option linter.unusedVariables false
open Go.RowKit

theorem allK_one {ks : List Int} (h : ks.length = 1) (x : Int) : allK ks x = (il0 ks 0 == x) := by
  match ks, h with
  | [a], _ => rw [Bool.eq_iff_iff]; simp [allK, il0]
theorem allK_two {ks : List Int} (h : ks.length = 2) (x : Int) : allK ks x = ((il0 ks 0 == x) && (il0 ks 1 == x)) := by
  match ks, h with
  | [a, b], _ => rw [Bool.eq_iff_iff]; simp [allK, il0]
theorem fin_1 {s : Sc} {t : Ex} {ks : List Int} (h : t.k = 1) : kdFin s t ks = 1 := by simp [kdFin, h]
theorem fin_2 {s : Sc} {t : Ex} {ks : List Int} (h : t.k = 2 ∨ t.k = 6) : kdFin s t ks = 2 := by rw [kdFin, if_pos h]
theorem fin_3 {s : Sc} {t : Ex} {ks : List Int} (h : t.k = 3 ∨ t.k = 4 ∨ t.k = 5) : kdFin s t ks = 3 := by rw [kdFin, if_neg (by omega), if_pos h]
theorem fin_7 {s : Sc} {t : Ex} {ks : List Int} (h : t.k = 7) : kdFin s t ks = kdIn s.2 t.s := by simp [kdFin, h]
theorem fin_8 {s : Sc} {t : Ex} {ks : List Int} (h : t.k = 8) : kdFin s t ks = if allK ks 3 = true then kdIn s.1 t.s else 0 := by simp [kdFin, h]
theorem fin_9 {s : Sc} {t : Ex} {ks : List Int} (h : t.k = 9 ∨ t.k = 12) : kdFin s t ks = if allK ks 3 = true then 1 else 0 := by
  rw [kdFin, if_neg (by omega), if_neg (by omega), if_neg (by omega), if_neg (by omega), if_pos h]
theorem fin_10 {s : Sc} {t : Ex} {ks : List Int} (h : t.k = 10) : kdFin s t ks = if il0 ks 0 = il0 ks 1 then 1 else 0 := by simp [kdFin, h]
theorem fin_11 {s : Sc} {t : Ex} {ks : List Int} (h : t.k = 11) : kdFin s t ks = if allK ks 2 = true then 1 else 0 := by simp [kdFin, h]
theorem fin_13 {s : Sc} {t : Ex} {ks : List Int} (h : t.k = 13 ∨ t.k = 14 ∨ t.k = 15) : kdFin s t ks = if allK ks 1 = true then 1 else 0 := by
  rw [kdFin, if_neg (by omega), if_neg (by omega), if_neg (by omega), if_neg (by omega), if_neg (by omega), if_neg (by omega), if_neg (by omega), if_pos h]
/-- A grown row of numbers of one's own. -/
def CkA (B : Nat) (W : World) (l : List Int) (w : World) (v : Value) : Prop := OwnA B 3 1 ilEnc w v l ∧ Below B W w ∧ B ≤ w.heap.size
theorem CkA.below {B : Nat} {W : World} {l : List Int} {w w' : World} {v : Value} (h : CkA B W l w v) (hb : Below w.heap.size w w') : CkA B W l w' v :=
  ⟨h.1.below hb, h.2.1.trans (hb.mono h.2.2), Nat.le_trans h.2.2 hb.size⟩
/-- What a call for the kind gives, at parts at most d deep. -/
def KsQ (d : Nat) : Prop := ∀ (s : Sc) (A0 A1 : Option Addr) (c0 c1 : Nat) (A : Option Addr) (r : Ex) (c : Nat) (w : World), scR w A0 A1 s → exW d w A r.ps → gdR (d + 1) r = true →
  Calls Tryz.prog 70 #[.agg #[.slice A0 s.1.length c0, .slice A1 s.2.length c1], .agg #[.int .i64 r.k, .int .i64 r.n, .string r.s, .slice A r.ps.length c]] w fun e w' => e = .returned (.int .i64 (kiR (d + 1) s r)) ∧ Below w.heap.size w w'
set_option maxRecDepth 100000 in
set_option maxHeartbeats 8000000 in
theorem ksQ_of {d : Nat} (hQ : ∀ m, d = m + 1 → KsQ m) : KsQ d := by
  intro s A0 A1 c0 c1 A r c w hS hU hg
  have HQ := Lib.hid hQ
  have hhd := gd_head hg
  have hl2 := headB_len hhd
  have har := head_len hhd
  have HP : Hid (∀ k, k < r.ps.length → gdR d (exAt r.ps k) = true) := Lib.hid (fun k hk => gd_part hg hk)
  obtain ⟨W0, hW0⟩ : ∃ W, W = (w.alloc (.cells #[.slice A0 s.1.length c0, .slice A1 s.2.length c1] 25)).alloc (.cells #[.int .i64 r.k, .int .i64 r.n, .string r.s, .slice A r.ps.length c] 36) := ⟨_, rfl⟩
  obtain ⟨g, hgg⟩ : ∃ g, g = w.heap.size := ⟨_, rfl⟩
  have hB0 : Below w.heap.size w W0 := by rw [hW0]; (repeat (first | exact Below.refl _ _ | refine ext_alloc ?_ _ | refine Below.setCell ?_ (by simp) _))
  have hq1 : W0.heap[g]? = some (.cells #[.slice A0 s.1.length c0, .slice A1 s.2.length c1] 25 (0, 0)) := by rw [hW0, hgg]; exact block_in (heap_alloc_new _ _) (below_alloc _ _)
  have hq2 : W0.heap[g + 1]? = some (.cells #[.int .i64 r.k, .int .i64 r.n, .string r.s, .slice A r.ps.length c] 36 (0, 0)) := by rw [hW0, hgg]; exact heap_alloc_at (by simp)
  have hsz : W0.heap.size = g + 1 + 1 := by rw [hW0, hgg]; simp
  obtain ⟨ov0, hov0⟩ : ∃ v, v = Value.slice (some ⟨g + 1 + 1, 0, none⟩) 0 0 := ⟨_, rfl⟩
  have hO : OwnA W0.heap.size 3 1 ilEnc (W0.alloc (.cells #[] 3)) ov0 [] := by rw [hov0, ← hsz]; exact OwnA.empty (Nat.le_refl _)
  obtain ⟨W, hW⟩ : ∃ W, W = W0.alloc (.cells #[] 3) := ⟨_, rfl⟩
  have hB1 : Below W0.heap.size W0 W := by rw [hW]; exact below_alloc _ _
  rw [← hW] at hO
  replace hS := hS.below hB0
  replace hU := hU.below hB0
  have HQ1 := Lib.hid hq1
  have HQ2 := Lib.hid hq2
  have HW0 := Lib.hid hW0
  have HW := Lib.hid hW
  have HV := Lib.hid hov0
  have HGG := Lib.hid hgg
  have HAR := Lib.hid har
  have HHD := Lib.hid hhd
  have hB := hB1
  clear hW0 hW hsz hov0 hB1 hq1 hq2 hgg har hg hQ hhd
  go_enter Tryz.func70, Tryz.ntmps70
  go_wp2_with fail
  rw [← HW0.out, ← HGG.out, ← HV.out, ← HW.out]
  go_loopw [5, 6] (fun ov i wr => ∃ k : Nat, k ≤ r.ps.length ∧ i = .int .i64 k ∧ OwnA W0.heap.size 3 1 ilEnc wr ov ((r.ps.take k).map (kiR d s)) ∧ Hid (∀ j, j < k → kiR d s (exAt r.ps j) ≠ 0) ∧ Below W0.heap.size W0 wr) (fun _ i _ => r.ps.length - (intOf i).toNat)
  case atStart => exact ⟨0, Nat.zero_le _, rfl, hO, Lib.hid (fun j h => by omega), hB⟩
  case round =>
    clear hB hO
    obtain ⟨k, hk, rfl, hO, HN, hB⟩ := hrel
    obtain ⟨q0, q1⟩ := cells2 (block_in HQ1.out hB)
    obtain ⟨p0, p1, p2, p3⟩ := cells4 (block_in HQ2.out hB)
    by_cases hlt : k < r.ps.length
    · have hd : ∃ m, d = m + 1 := by
        cases d with
        | zero => have := exS.zero hU; rw [this] at hlt; simp at hlt
        | succ m => exact ⟨m, rfl⟩
      obtain ⟨m, hm⟩ := hd
      subst hm
      have HI := Lib.hid (HQ.out m rfl)
      obtain ⟨b, off, rfl, hcl⟩ := hU.cells (by omega)
      obtain ⟨A', c', hfd, hs, e0, e1, e2, e3⟩ := hcl k hlt
      replace e0 := below_cell hB e0
      replace e1 := below_cell hB e1
      replace e2 := below_cell hB e2
      replace e3 := below_cell hB e3
      replace hfd := hfd.below hB
      have hSw := hS.below hB
      have hGk := HP.out k hlt
      have HGK := Lib.hid hGk
      have hlk : ((r.ps.take k).map (kiR (m + 1) s)).length = k := by rw [List.length_map, List.length_take]; omega
      have hap : (r.ps.take (k + 1)).map (kiR (m + 1) s) = (r.ps.take k).map (kiR (m + 1) s) ++ [kiR (m + 1) s (exAt r.ps k)] := by
        rw [List.take_succ_eq_append_getElem hlt, List.map_append, exAt_eq hlt]; rfl
      have HAP := Lib.hid hap
      obtain ⟨ks, hks⟩ : ∃ l, l = (r.ps.take k).map (kiR (m + 1) s) := ⟨_, rfl⟩
      rw [← hks] at hO hlk HAP
      clear hcl hGk hap hks
      have HST : Hid (kiR (m + 1) s (exAt r.ps k) = 0 → kiR (m + 1 + 1) s r = 0) := Lib.hid (kiR_stop hlt)
      obtain ⟨x, hx⟩ : ∃ x, kiR (m + 1) s (exAt r.ps k) = x := ⟨_, rfl⟩
      rw [hx] at HAP HST
      have HX := Lib.hid hx
      have HLK := Lib.hid hlk
      have hbz : W0.heap.size ≤ wr.heap.size := hB.size
      clear hx hlk
      go_wp2_with fail
      refine wp_region_draws2K (some 9) (some 10) (fun wz => Below wr.heap.size wr wz) (fun wz => True) (fun i wz vz => match i with | 0 => vz = u5 | 1 => vz = .agg #[.slice A0 s.1.length c0, .slice A1 s.2.length c1] | 2 => vz = .pointer (some ⟨g + 1, 3, Option.none⟩) | 3 => vz = .slice (some ⟨b, off, none⟩) r.ps.length c | 4 => vz = .int .i64 k | 5 => vz = .pointer (some ⟨b, off + k * 4, Option.none⟩) | 6 => vz = .agg #[.int .i64 (exAt r.ps k).k, .int .i64 (exAt r.ps k).n, .string (exAt r.ps k).s, .slice A' (exAt r.ps k).ps.length c'] | 7 => vz = .int .i64 x | 8 => FrB wr.heap.size 3 1 #[.int .i64 x] wz vz | 9 => CkA W0.heap.size W0 (ks ++ [x]) wz vz | 10 => CkA W0.heap.size W0 (ks ++ [x]) wz vz | _ => True) (fun _ _ => True) (fun i w w' => (i = 9 ∨ i = 10) ∨ Below w.heap.size w w') (fun j => match j with | 8 => some 9 | 9 => some 10 | _ => Option.none) (by kernel_rfl) (by kernel_rfl) (by kernel_rfl) ?stab5 ?stabG5 ?stabH5 trivial (ext_drew (Below.refl _ _)) ?all5 ?fin5
      case stab5 =>
        intro i j wa wb v hR hk hne hd h3 h2 hT
        match j, hk, hne, hd, h3, h2, hT with
        | 0, hk, hne, hd, h3, h2, hT => exact (hT)
        | 1, hk, hne, hd, h3, h2, hT => exact (hT)
        | 2, hk, hne, hd, h3, h2, hT => exact (hT)
        | 3, hk, hne, hd, h3, h2, hT => exact (hT)
        | 4, hk, hne, hd, h3, h2, hT => exact (hT)
        | 5, hk, hne, hd, h3, h2, hT => exact (hT)
        | 6, hk, hne, hd, h3, h2, hT => exact (hT)
        | 7, hk, hne, hd, h3, h2, hT => exact (hT)
        | 8, hk, hne, hd, h3, h2, hT => exact (FrB.below hT (hR.resolve_left (fun e => e.elim (fun e => hk (by subst e; rfl)) (fun e => by subst e; exact Bool.noConfusion ((h3 9 rfl).symm.trans (show depB _ 10 9 = true from by kernel_rfl))))))
        | 9, hk, hne, hd, h3, h2, hT => exact (CkA.below hT (hR.resolve_left (fun e => e.elim (fun e => hne (by rw [e])) (fun e => hk (by subst e; rfl)))))
        | 10, hk, hne, hd, h3, h2, hT => exact (CkA.below hT (hR.resolve_left (fun e => e.elim (fun e => by subst e; exact Bool.noConfusion ((show depB _ 10 9 = true from by kernel_rfl).symm.trans hd)) (fun e => hne (by rw [e])))))
        | n + 11, _, _, _, _, _, _ => trivial
      case stabG5 => exact fun i wa wb hR hne hd hG => ext_trans hG (hR.resolve_left (fun e => e.elim (fun e => hne (by rw [e])) (fun e => by subst e; exact Bool.noConfusion ((hd 9 rfl).symm.trans (show depB _ 10 9 = true from by kernel_rfl)))))
      case stabH5 => exact fun i wa wb hR hne hd h => (by have hb := hR.resolve_left (fun e => e.elim (fun e => by subst e; exact Bool.noConfusion ((hd 10 rfl).symm.trans (show depB _ 10 9 = true from by kernel_rfl))) (fun e => hne (by rw [e]))); exact trivial)
      case all5 =>
        refine RAllK.cons rfl ?_ (RAllK.cons rfl ?_ (RAllK.cons rfl ?_ (RAllK.cons rfl ?_ (RAllK.cons rfl ?_ (RAllK.cons rfl ?_ (RAllK.cons rfl ?_ (RAllK.cons rfl ?_ (RAllK.cons rfl ?_ (RAllK.cons rfl ?_ (RAllK.cons rfl ?_ (RAllK.none_)))))))))))
        · intro a kq_ wa K Q _ _ hp hK0
          have hI : Below wr.heap.size wr wa := hp.pre 9 (fun c hc => by cases hc; kernel_rfl)
          have hK := fun v w' h1 h2 (_ : Below wr.heap.size wr w') => hK0 v w' h1 (.inr h2) trivial (fun e => by cases e)
          exact op_move _ (.inl rfl) (hK _ _ (hp.keep 5 (by kernel_rfl)) (Below.refl _ _) hI)
        · intro a kq_ wa K Q _ _ hp hK0
          have hI : Below wr.heap.size wr wa := hp.pre 9 (fun c hc => by cases hc; kernel_rfl)
          have hK := fun v w' h1 h2 (_ : Below wr.heap.size wr w') => hK0 v w' h1 (.inr h2) trivial (fun e => by cases e)
          have e2 := tmp_of (show a.eval (.tmp 2) = .pointer (some ⟨g, 0, none⟩) from hp.keep 2 (by kernel_rfl))
          have q0_ := below_cell hI q0
          have q1_ := below_cell hI q1
          go_simp
          exact hK _ _ rfl (Below.refl _ _) hI
        · intro a kq_ wa K Q _ _ hp hK0
          have hI : Below wr.heap.size wr wa := hp.pre 9 (fun c hc => by cases hc; kernel_rfl)
          have hK := fun v w' h1 h2 (_ : Below wr.heap.size wr w') => hK0 v w' h1 (.inr h2) trivial (fun e => by cases e)
          have e3 := tmp_of (show a.eval (.tmp 3) = .pointer (some ⟨g + 1, 0, none⟩) from hp.keep 3 (by kernel_rfl))
          go_simp
          exact hK _ _ rfl (Below.refl _ _) hI
        · intro a kq_ wa K Q _ _ hp hK0
          have hI : Below wr.heap.size wr wa := hp.pre 9 (fun c hc => by cases hc; kernel_rfl)
          have hK := fun v w' h1 h2 (_ : Below wr.heap.size wr w') => hK0 v w' h1 (.inr h2) trivial (fun e => by cases e)
          have e19 := tmp_of (show a.eval (.tmp 19) = .pointer (some ⟨g + 1, 3, Option.none⟩) from hp.dep 2 19 (by kernel_rfl))
          have p3_ := below_cell hI p3
          go_simp
          exact hK _ _ rfl (Below.refl _ _) hI
        · intro a kq_ wa K Q _ _ hp hK0
          have hI : Below wr.heap.size wr wa := hp.pre 9 (fun c hc => by cases hc; kernel_rfl)
          have hK := fun v w' h1 h2 (_ : Below wr.heap.size wr w') => hK0 v w' h1 (.inr h2) trivial (fun e => by cases e)
          exact op_move _ (.inl rfl) (hK _ _ (hp.keep 6 (by kernel_rfl)) (Below.refl _ _) hI)
        · intro a kq_ wa K Q _ _ hp hK0
          have hI : Below wr.heap.size wr wa := hp.pre 9 (fun c hc => by cases hc; kernel_rfl)
          have hK := fun v w' h1 h2 (_ : Below wr.heap.size wr w') => hK0 v w' h1 (.inr h2) trivial (fun e => by cases e)
          have e20 := tmp_of (show a.eval (.tmp 20) = .slice (some ⟨b, off, none⟩) r.ps.length c from hp.dep 3 20 (by kernel_rfl))
          have e21 := tmp_of (show a.eval (.tmp 21) = .int .i64 k from hp.dep 4 21 (by kernel_rfl))
          go_simp
          exact hK _ _ rfl (Below.refl _ _) hI
        · intro a kq_ wa K Q _ _ hp hK0
          have hI : Below wr.heap.size wr wa := hp.pre 9 (fun c hc => by cases hc; kernel_rfl)
          have hK := fun v w' h1 h2 (_ : Below wr.heap.size wr w') => hK0 v w' h1 (.inr h2) trivial (fun e => by cases e)
          have e22 := tmp_of (show a.eval (.tmp 22) = .pointer (some ⟨b, off + k * 4, Option.none⟩) from hp.dep 5 22 (by kernel_rfl))
          have e0_ := below_cell hI e0
          have e1_ := below_cell hI e1
          have e2_ := below_cell hI e2
          have e3_ := below_cell hI e3
          go_simp
          exact hK _ _ rfl (Below.refl _ _) hI
        · intro a kq_ wa K Q _ _ hp hK0
          have hI : Below wr.heap.size wr wa := hp.pre 9 (fun c hc => by cases hc; kernel_rfl)
          have hK := fun v w' h1 h2 (_ : Below wr.heap.size wr w') => hK0 v w' h1 (.inr h2) trivial (fun e => by cases e)
          have e18 := tmp_of (show a.eval (.tmp 18) = .agg #[.slice A0 s.1.length c0, .slice A1 s.2.length c1] from hp.dep 1 18 (by kernel_rfl))
          have e23 := tmp_of (show a.eval (.tmp 23) = .agg #[.int .i64 (exAt r.ps k).k, .int .i64 (exAt r.ps k).n, .string (exAt r.ps k).s, .slice A' (exAt r.ps k).ps.length c'] from hp.dep 6 23 (by kernel_rfl))
          go_simp
          refine (HI.out _ _ _ _ _ _ _ _ _ (hSw.below hI) (hfd.below hI) HGK.out).mono ?_
          rintro e wb ⟨rfl, hb⟩
          rw [HX.out]
          exact hK _ _ rfl hb (ext_trans hI hb)
        · intro a kq_ wa K Q _ _ hp hK0
          have hI : Below wr.heap.size wr wa := hp.pre 9 (fun c hc => by cases hc; kernel_rfl)
          have hK := fun v w' h1 h2 (_ : Below wr.heap.size wr w') => hK0 v w' h1 (.inr h2) trivial (fun e => by cases e)
          have e24 := tmp_of (show a.eval (.tmp 24) = .int .i64 x from hp.dep 7 24 (by kernel_rfl))
          go_simp
          exact hK _ _ ⟨_, rfl, hI.size, heap_alloc_new _ _⟩ (below_alloc _ _) (ext_alloc hI _)
        · intro a kq_ wa K Q _ _ hp hK0
          have hI : Below wr.heap.size wr wa := hp.pre 9 (fun c hc => by cases hc; kernel_rfl)
          have hA := fun v w' h => hK0 v w' h (.inl (.inl rfl)) trivial (fun e => by cases e)
          have e17 := tmp_of (show a.eval (.tmp 17) = u5 from hp.dep 0 17 (by kernel_rfl))
          have t25 : FrB wr.heap.size 3 1 #[.int .i64 x] wa (a.eval (.tmp 25)) := hp.dep 8 25 (by kernel_rfl)
          obtain ⟨g8, e25, hB8, hg8⟩ := t25
          obtain ⟨A9, c9, ev, ho9⟩ := hO.below hI
          refine op_append_rd (enc := ilEnc) (l := [x]) (.tmp 17) (.tmp 25) W0.heap.size 40 3 _ 1 8 rfl Tryz.underlying40 Tryz.infoInt rfl (by decide) (fun _ => rfl) ilEnc_one ((hp.dep 0 17 (by kernel_rfl)).trans ev) ho9 e25 (rd_block (fun _ => rfl) hg8 rfl) (by have := HLK.out; simp; omega) (by have := HLK.out; simp; omega) (Nat.le_trans hbz hI.size) ?_
          intro v' wb ho' hgr hv
          exact hA v' wb ⟨OwnA.of (show wb.ownsRow W0.heap.size 3 1 v' (ks ++ [x]).length ((ks ++ [x]).flatMap ilEnc) by simpa using ho'), (ext_trans hB hI).trans (grown_below hgr (Nat.le_trans hbz hI.size) (fun q hq => (ho9.lt q hq).1)), Nat.le_trans hbz (Nat.le_trans hI.size hgr.size)⟩
        · intro a kq_ wa K Q _ _ hp hK0
          have hS := fun v w' ht h => hK0 v w' ht (.inl (.inr rfl)) trivial (fun _ => h)
          have t26 : CkA W0.heap.size W0 (ks ++ [x]) wa (a.eval (.tmp 26)) := hp.dep 9 26 (by kernel_rfl)
          have t := t26
          rw [show a.eval (.tmp 26) = a.tmps[26]?.getD undef from by simp [Act.eval]] at t
          go_simp
          exact hS _ wa t trivial
      case fin5 =>
        intro f w9 hT _ hH
        have hH := hH 10 rfl (by decide)
        have hr6 : CkA W0.heap.size W0 (ks ++ [x]) w9 (f 10) := hT 10 (by decide) rfl rfl
        clear hT
        clear hH
        have hl5 : (ks ++ [x]).length = k + 1 := by rw [List.length_append, HLK.out]; rfl
        obtain ⟨A5, c5, hv5, hr5⟩ := OwnA.rd (enc := ilEnc) (sz := 1) (fun _ => rfl) (by rw [hl5]; omega) hr6.1
        have he5 : il0 (ks ++ [x]) k = x := by
          have := HLK.out
          subst this
          simp [il0]
        obtain ⟨b5, o5, rfl, hc5⟩ := ilR.cells hr5 (by simp)
        have y5 := hc5 k (by rw [hl5]; omega)
        rw [he5] at y5
        rw [hl5] at hv5
        have HO5 := Lib.hid hr6
        rw [hv5, ← HAP.out] at HO5
        simp only [putAll, hv5]
        clear hr6 hr5 hc5 hv5 he5 hl5 q0 q1 p0 p1 p2 p3 e0 e1 e2 e3 hO hB
        go_simp
        by_cases gx : x = 0
        · have gb : (x == 0) = true := by simpa using gx
          have HE := Lib.hid (HST.out gx)
          clear gx
          go_wp2
          go_ret
          exact ⟨by rw [HE.out]; rfl, hB0.trans (HO5.out.2.1.mono hB0.size)⟩
        · have gb : (x == 0) = false := by simpa using gx
          have HN2 : Hid (∀ j, j < k + 1 → kiR (m + 1) s (exAt r.ps j) ≠ 0) := Lib.hid (all_succ (p := fun j => kiR (m + 1) s (exAt r.ps j) ≠ 0) HN.out (by rw [HX.out]; exact gx))
          clear gx
          go_wp2
          go_roundw
          case rel => exact ⟨k + 1, by omega, by go_num, HO5.out.1, HN2, HO5.out.2.1⟩
          case measure => simp [intOf]; omega
    · obtain rfl : k = r.ps.length := by omega
      rw [List.take_length] at hO
      have hgo := kiR_go (d := d) (s := s) (t := r) HN.out
      obtain ⟨ks, hks⟩ : ∃ l, l = r.ps.map (kiR d s) := ⟨_, rfl⟩
      rw [← hks] at hO hgo
      have hkl : ks.length = r.ps.length := by rw [hks, List.length_map]
      have HGO := Lib.hid hgo
      have hSw := hS.below hB
      have HBB := Lib.hid (hB0.trans (hB.mono hB0.size))
      obtain ⟨A5, c5, rfl, hr5⟩ := OwnA.rd (enc := ilEnc) (sz := 1) (fun _ => rfl) (by rw [hkl]; omega) hO
      have hr5 : ilR wr A5 ks := hr5
      have hk15 := inB_true.1 (show inB r.k 1 15 = true from (Bool.and_eq_true_iff.1 HHD.out).1)
      have har := HAR.out
      clear hks hgo hO HN HAR HHD hB HQ HP hlt
      rcases (show r.k = 1 ∨ r.k = 2 ∨ r.k = 3 ∨ r.k = 4 ∨ r.k = 5 ∨ r.k = 6 ∨ r.k = 7 ∨ r.k = 8 ∨ r.k = 9 ∨ r.k = 10 ∨ r.k = 11 ∨ r.k = 12 ∨ r.k = 13 ∨ r.k = 14 ∨ r.k = 15 from by omega) with h | h | h | h | h | h | h | h | h | h | h | h | h | h | h
      · rw [h] at p0 har
        have hl : ks.length = 0 := by rw [hkl, har]; rfl
        clear har hkl
        have HE : Hid (kiR (d + 1) s r = 1) := Lib.hid (HGO.out.trans (fin_1 h))
        clear HGO h
        go_wp2
        go_ret
        exact ⟨by rw [HE.out]; rfl, HBB.out⟩
      · rw [h] at p0 har
        have hl : ks.length = 0 := by rw [hkl, har]; rfl
        clear har hkl
        have HE : Hid (kiR (d + 1) s r = 2) := Lib.hid (HGO.out.trans (fin_2 (.inl h)))
        clear HGO h
        go_wp2
        go_ret
        exact ⟨by rw [HE.out]; rfl, HBB.out⟩
      · rw [h] at p0 har
        have hl : ks.length = 0 := by rw [hkl, har]; rfl
        clear har hkl
        have HE : Hid (kiR (d + 1) s r = 3) := Lib.hid (HGO.out.trans (fin_3 (.inl h)))
        clear HGO h
        go_wp2
        go_ret
        exact ⟨by rw [HE.out]; rfl, HBB.out⟩
      · rw [h] at p0 har
        have hl : ks.length = 0 := by rw [hkl, har]; rfl
        clear har hkl
        have HE : Hid (kiR (d + 1) s r = 3) := Lib.hid (HGO.out.trans (fin_3 (.inr (.inl h))))
        clear HGO h
        go_wp2
        go_ret
        exact ⟨by rw [HE.out]; rfl, HBB.out⟩
      · rw [h] at p0 har
        have hl : ks.length = 0 := by rw [hkl, har]; rfl
        clear har hkl
        have HE : Hid (kiR (d + 1) s r = 3) := Lib.hid (HGO.out.trans (fin_3 (.inr (.inr h))))
        clear HGO h
        go_wp2
        go_ret
        exact ⟨by rw [HE.out]; rfl, HBB.out⟩
      · rw [h] at p0 har
        have hl : ks.length = 0 := by rw [hkl, har]; rfl
        clear har hkl
        have HE : Hid (kiR (d + 1) s r = 2) := Lib.hid (HGO.out.trans (fin_2 (.inr h)))
        clear HGO h
        go_wp2
        go_ret
        exact ⟨by rw [HE.out]; rfl, HBB.out⟩
      · rw [h] at p0 har
        have hl : ks.length = 0 := by rw [hkl, har]; rfl
        clear har hkl
        have HE : Hid (kiR (d + 1) s r = kdIn s.2 r.s) := Lib.hid (HGO.out.trans (fin_7 h))
        clear HGO h
        go_wp2_with fail
        refine (l7Kind_any hSw.2).mono ?_
        rintro e w1 ⟨rfl, hb⟩
        have HB1 := Lib.hid (ext_trans HBB.out hb)
        clear hb p0 p1 p2 p3 q0 q1
        go_wp2
        go_ret
        exact ⟨by rw [HE.out]; rfl, HB1.out⟩
      · rw [h] at p0 har
        have hl : ks.length = 1 := by rw [hkl, har]; rfl
        clear har hkl
        have hl1 : 0 < ks.length := by omega
        obtain ⟨b5, o5, rfl, hc5⟩ := ilR.cells hr5 hl1
        have y0 := hc5 0 (by omega)
        rw [Nat.add_zero] at y0
        obtain ⟨x, hx⟩ : ∃ x, il0 ks 0 = x := ⟨_, rfl⟩
        rw [hx] at y0
        have HF : Hid (kiR (d + 1) s r = if (x == 3) = true then kdIn s.1 r.s else 0) := Lib.hid (by rw [HGO.out, fin_8 h, allK_one hl, hx])
        clear HGO h hc5 hx hr5 hl
        go_wp2_with fail
        refine (l7Kind_any hSw.1).mono ?_
        rintro e w1 ⟨rfl, hb⟩
        have HB1 := Lib.hid (ext_trans HBB.out hb)
        replace y0 := below_cell hb y0
        replace p0 := below_cell hb p0
        clear hb p1 p2 p3 q0 q1
        obtain ⟨v, hv⟩ : ∃ v, kdIn s.1 r.s = v := ⟨_, rfl⟩
        rw [hv] at HF ⊢
        clear hv
        cases gb : (x == 3)
        all_goals
          rw [gb] at HF
          go_wp2
          go_ret
          exact ⟨by rw [HF.out]; rfl, HB1.out⟩
      · rw [h] at p0 har
        have hl : ks.length = 1 := by rw [hkl, har]; rfl
        clear har hkl
        have hl1 : 0 < ks.length := by omega
        obtain ⟨b5, o5, rfl, hc5⟩ := ilR.cells hr5 hl1
        have y0 := hc5 0 (by omega)
        rw [Nat.add_zero] at y0
        obtain ⟨x, hx⟩ : ∃ x, il0 ks 0 = x := ⟨_, rfl⟩
        rw [hx] at y0
        have HF : Hid (kiR (d + 1) s r = if (x == 3) = true then 1 else 0) := Lib.hid (by rw [HGO.out, fin_9 (.inl h), allK_one hl, hx])
        clear HGO h hc5 hx hr5 hl
        cases gb : (x == 3)
        all_goals
          rw [gb] at HF
          go_wp2
          go_ret
          exact ⟨by rw [HF.out]; rfl, HBB.out⟩
      · rw [h] at p0 har
        have hl : ks.length = 2 := by rw [hkl, har]; rfl
        clear har hkl
        have hl1 : 0 < ks.length := by omega
        obtain ⟨b5, o5, rfl, hc5⟩ := ilR.cells hr5 hl1
        have y0 := hc5 0 (by omega)
        rw [Nat.add_zero] at y0
        obtain ⟨x, hx⟩ : ∃ x, il0 ks 0 = x := ⟨_, rfl⟩
        rw [hx] at y0
        have hl2 : 1 < ks.length := by omega
        have y1 := hc5 1 hl2
        obtain ⟨z, hz⟩ : ∃ z, il0 ks 1 = z := ⟨_, rfl⟩
        rw [hz] at y1
        have HF : Hid (kiR (d + 1) s r = if x = z then 1 else 0) := Lib.hid (by rw [HGO.out, fin_10 h, hx, hz])
        clear HGO h hc5 hx hz hr5 hl
        have y2 := cell_regrown y0
        have y3 := cell_regrown y1
        clear y0 y1
        by_cases e : x = z
        · have gb : (x == z) = true := by simpa using e
          rw [if_pos e] at HF
          go_wp2
          refine wp_region_quiet_below (by kernel_rfl) (by kernel_rfl) ?_
          repeat (go_big_quiet_step (fail))
          refine wpQuiet_nil ?_
          intro w4 hw'regrown
          have HB1 := Lib.hid (ext_trans HBB.out (below_of_regrown hw'regrown (Nat.le_refl _)))
          clear hw'regrown
          go_wp2
          go_ret
          exact ⟨by rw [HF.out]; rfl, HB1.out⟩
        · have gb : (x == z) = false := by simpa using e
          rw [if_neg e] at HF
          go_wp2
          refine wp_region_quiet_below (by kernel_rfl) (by kernel_rfl) ?_
          repeat (go_big_quiet_step (fail))
          refine wpQuiet_nil ?_
          intro w4 hw'regrown
          have HB1 := Lib.hid (ext_trans HBB.out (below_of_regrown hw'regrown (Nat.le_refl _)))
          clear hw'regrown
          go_wp2
          go_ret
          exact ⟨by rw [HF.out]; rfl, HB1.out⟩
      · rw [h] at p0 har
        have hl : ks.length = 2 := by rw [hkl, har]; rfl
        clear har hkl
        have hl1 : 0 < ks.length := by omega
        obtain ⟨b5, o5, rfl, hc5⟩ := ilR.cells hr5 hl1
        have y0 := hc5 0 (by omega)
        rw [Nat.add_zero] at y0
        obtain ⟨x, hx⟩ : ∃ x, il0 ks 0 = x := ⟨_, rfl⟩
        rw [hx] at y0
        have hl2 : 1 < ks.length := by omega
        have y1 := hc5 1 hl2
        obtain ⟨z, hz⟩ : ∃ z, il0 ks 1 = z := ⟨_, rfl⟩
        rw [hz] at y1
        have HF : Hid (kiR (d + 1) s r = if ((x == 2) && (z == 2)) = true then 1 else 0) := Lib.hid (by rw [HGO.out, fin_11 h, allK_two hl, hx, hz])
        clear HGO h hc5 hx hz hr5 hl
        cases gb : (x == 2)
        · rw [gb] at HF
          go_wp2
          go_ret
          exact ⟨by rw [HF.out]; rfl, HBB.out⟩
        · cases gc : (z == 2)
          all_goals
            rw [gb, gc] at HF
            go_wp2
            go_ret
            exact ⟨by rw [HF.out]; rfl, HBB.out⟩
      · rw [h] at p0 har
        have hl : ks.length = 2 := by rw [hkl, har]; rfl
        clear har hkl
        have hl1 : 0 < ks.length := by omega
        obtain ⟨b5, o5, rfl, hc5⟩ := ilR.cells hr5 hl1
        have y0 := hc5 0 (by omega)
        rw [Nat.add_zero] at y0
        obtain ⟨x, hx⟩ : ∃ x, il0 ks 0 = x := ⟨_, rfl⟩
        rw [hx] at y0
        have hl2 : 1 < ks.length := by omega
        have y1 := hc5 1 hl2
        obtain ⟨z, hz⟩ : ∃ z, il0 ks 1 = z := ⟨_, rfl⟩
        rw [hz] at y1
        have HF : Hid (kiR (d + 1) s r = if ((x == 3) && (z == 3)) = true then 1 else 0) := Lib.hid (by rw [HGO.out, fin_9 (.inr h), allK_two hl, hx, hz])
        clear HGO h hc5 hx hz hr5 hl
        cases gb : (x == 3)
        · rw [gb] at HF
          go_wp2
          go_ret
          exact ⟨by rw [HF.out]; rfl, HBB.out⟩
        · cases gc : (z == 3)
          all_goals
            rw [gb, gc] at HF
            go_wp2
            go_ret
            exact ⟨by rw [HF.out]; rfl, HBB.out⟩
      · rw [h] at p0 har
        have hl : ks.length = 1 := by rw [hkl, har]; rfl
        clear har hkl
        have hl1 : 0 < ks.length := by omega
        obtain ⟨b5, o5, rfl, hc5⟩ := ilR.cells hr5 hl1
        have y0 := hc5 0 (by omega)
        rw [Nat.add_zero] at y0
        obtain ⟨x, hx⟩ : ∃ x, il0 ks 0 = x := ⟨_, rfl⟩
        rw [hx] at y0
        have HF : Hid (kiR (d + 1) s r = if (x == 1) = true then 1 else 0) := Lib.hid (by rw [HGO.out, fin_13 (.inl h), allK_one hl, hx])
        clear HGO h hc5 hx hr5 hl
        cases gb : (x == 1)
        all_goals
          rw [gb] at HF
          go_wp2
          go_ret
          exact ⟨by rw [HF.out]; rfl, HBB.out⟩
      · rw [h] at p0 har
        have hl : ks.length = 2 := by rw [hkl, har]; rfl
        clear har hkl
        have hl1 : 0 < ks.length := by omega
        obtain ⟨b5, o5, rfl, hc5⟩ := ilR.cells hr5 hl1
        have y0 := hc5 0 (by omega)
        rw [Nat.add_zero] at y0
        obtain ⟨x, hx⟩ : ∃ x, il0 ks 0 = x := ⟨_, rfl⟩
        rw [hx] at y0
        have hl2 : 1 < ks.length := by omega
        have y1 := hc5 1 hl2
        obtain ⟨z, hz⟩ : ∃ z, il0 ks 1 = z := ⟨_, rfl⟩
        rw [hz] at y1
        have HF : Hid (kiR (d + 1) s r = if ((x == 1) && (z == 1)) = true then 1 else 0) := Lib.hid (by rw [HGO.out, fin_13 (.inr (.inl h)), allK_two hl, hx, hz])
        clear HGO h hc5 hx hz hr5 hl
        cases gb : (x == 1)
        · rw [gb] at HF
          go_wp2
          go_ret
          exact ⟨by rw [HF.out]; rfl, HBB.out⟩
        · cases gc : (z == 1)
          all_goals
            rw [gb, gc] at HF
            go_wp2
            go_ret
            exact ⟨by rw [HF.out]; rfl, HBB.out⟩
      · rw [h] at p0 har
        have hl : ks.length = 2 := by rw [hkl, har]; rfl
        clear har hkl
        have hl1 : 0 < ks.length := by omega
        obtain ⟨b5, o5, rfl, hc5⟩ := ilR.cells hr5 hl1
        have y0 := hc5 0 (by omega)
        rw [Nat.add_zero] at y0
        obtain ⟨x, hx⟩ : ∃ x, il0 ks 0 = x := ⟨_, rfl⟩
        rw [hx] at y0
        have hl2 : 1 < ks.length := by omega
        have y1 := hc5 1 hl2
        obtain ⟨z, hz⟩ : ∃ z, il0 ks 1 = z := ⟨_, rfl⟩
        rw [hz] at y1
        have HF : Hid (kiR (d + 1) s r = if ((x == 1) && (z == 1)) = true then 1 else 0) := Lib.hid (by rw [HGO.out, fin_13 (.inr (.inr h)), allK_two hl, hx, hz])
        clear HGO h hc5 hx hz hr5 hl
        cases gb : (x == 1)
        · rw [gb] at HF
          go_wp2
          go_ret
          exact ⟨by rw [HF.out]; rfl, HBB.out⟩
        · cases gc : (z == 1)
          all_goals
            rw [gb, gc] at HF
            go_wp2
            go_ret
            exact ⟨by rw [HF.out]; rfl, HBB.out⟩
theorem ksQ_all : ∀ d, KsQ d
  | 0 => ksQ_of (fun m h => by omega)
  | d + 1 => ksQ_of (fun m h => by cases h; exact ksQ_all d)
end Go.Proofs.YtodjokdaofefdaaGreat
/- Values of expressions: they have their kind, unless a field or a thing is missing; guarded ones miss no field. -/
namespace Go.Proofs.YtodjokdaofefdaaGreat
set_option linter.unusedSimpArgs false
set_option linter.unusedVariables false
open Go.RowKit

def CfP (l : KdL) (fs : FdL) : Prop := ∀ k, k < fs.length → kdIn l (fd0 fs k) = fd1 fs k
noncomputable def cfOk (l : KdL) (fs : FdL) : Bool := cD (CfP l fs)
/-- What conforms to a schema. -/
structure CfW (s : Sc) (W : WL) (r : Rq) : Prop where
  ok : OkW W r
  sc : NmsP s.1 ∧ NmsP s.2
  rq : CfP s.2 r.fs
  th : ∀ k, k < W.length → CfP s.1 (thAt W k).fs
theorem cf_of {l : KdL} {fs : FdL} (h : CfP l fs) {s : ByteArray} {v : Int × Int} (hv : fdOf fs s = some v) : v.1 = kdIn l s := by
  obtain ⟨k, h1, h2, rfl⟩ := fdOf_some hv
  rw [← h2]; exact (h k h1).symm
/-- Of the kind, or a field is missing, or a thing. -/
def EvKd (kd : Int) (v : Ev) : Prop := (v.2.2 = 0 ∧ v.1 = kd) ∨ v.2.2 = 2 ∨ v.2.2 = 3
theorem evKd_K {v : Ev} {k : Int} (h : EvKd k v) : evK v k = v := by
  unfold evK
  rw [if_neg]
  rintro ⟨h1, h2⟩
  rcases h with ⟨_, h⟩ | h | h
  · exact h2 h
  · rw [h1] at h; cases h
  · rw [h1] at h; cases h
theorem evKd_fault {kd kd' : Int} {v : Ev} (h : EvKd kd v) (hf : v.2.2 ≠ 0) : EvKd kd' (evFault v.2.2) := by
  rcases h with ⟨h, _⟩ | h | h
  · exact absurd h hf
  · exact .inr (.inl h)
  · exact .inr (.inr h)
theorem evKd_B (b : Bool) : EvKd 1 (evB b) := .inl ⟨rfl, rfl⟩
theorem evKd_Of {l : KdL} {fs : FdL} (h : CfP l fs) (s : ByteArray) : EvKd (kdIn l s) (evOf (fdOf fs s)) := by
  cases hv : fdOf fs s with
  | none => exact .inr (.inl rfl)
  | some v => exact .inl ⟨rfl, cf_of h hv⟩
theorem evKd_Either {a b : Ev} (ha : EvKd 1 a) (hb : EvKd 1 b) (s : Int) : EvKd 1 (evEither a b s) := by
  unfold evEither
  rw [evKd_K ha, evKd_K hb]
  by_cases h : a.2.2 ≠ 0
  · rw [if_pos h]; exact evKd_fault ha h
  · rw [if_neg h]
    split
    · exact ha
    · exact hb
theorem ki_parts {d : Nat} {s : Sc} {t : Ex} (h : kiR (d + 1) s t ≠ 0) : ∀ k, k < t.ps.length → kiR d s (exAt t.ps k) ≠ 0 := fun k hk e => h (kiR_stop hk e)
theorem il0_map {d : Nat} {s : Sc} {t : Ex} {k : Nat} (hk : k < t.ps.length) : il0 (t.ps.map (kiR d s)) k = kiR d s (exAt t.ps k) := by
  rw [il_elem (by simpa using hk), List.getElem_map, exAt_eq hk]
theorem ev_kind {s : Sc} {W : WL} {r : Rq} (hC : CfW s W r) : ∀ (d : Nat) (t : Ex), gdR d t = true → kiR d s t ≠ 0 → EvKd (kiR d s t) (ev d W r t)
  | 0, t, h, _ => by simp [gdR] at h
  | d + 1, t, h, hk => by
    have hl := gd_len h
    have hp := ki_parts hk
    have hgo := kiR_go hp
    have part : ∀ k, k < t.ps.length → EvKd (kiR d s (exAt t.ps k)) (ev d W r (exAt t.ps k)) := fun k hk => ev_kind hC d _ (gd_part h hk) (hp k hk)
    have hlm : (t.ps.map (kiR d s)).length = t.ps.length := List.length_map _
    rw [hgo] at hk ⊢
    rcases gd_k h with k | k | k | k | k | k | k | k | k | k | k | k | k
    · rw [ev_k1 k, fin_1 k]; exact .inl ⟨rfl, rfl⟩
    · rw [ev_k2 k, fin_2 (.inl k)]; exact .inl ⟨rfl, rfl⟩
    · rw [ev_k3 k, fin_3 (.inl k)]
      split
      · exact .inl ⟨rfl, rfl⟩
      · exact .inr (.inr rfl)
    · rw [ev_k4 k, fin_3 (.inr (.inl k))]; exact .inl ⟨rfl, rfl⟩
    · rw [ev_k5 k, fin_3 (.inr (.inr k))]; exact .inl ⟨rfl, rfl⟩
    · rw [ev_k6 k, fin_2 (.inr k)]; exact .inl ⟨rfl, rfl⟩
    · rw [ev_k7 k, fin_7 k]; exact evKd_Of hC.rq _
    · rw [k] at hl
      have h0 : 0 < t.ps.length := by rw [hl]; decide
      have hone : (t.ps.map (kiR d s)).length = 1 := by rw [hlm, hl]; decide
      rw [fin_8 k, allK_one hone, il0_map h0] at hk ⊢
      by_cases e3 : kiR d s (exAt t.ps 0) = 3
      · have hp0 := part 0 h0
        rw [e3] at hp0 ⊢
        rw [if_pos (by decide), ev_k8 k, evKd_K hp0]
        by_cases ef : (ev d W r (exAt t.ps 0)).2.2 ≠ 0
        · rw [if_pos ef]; exact evKd_fault hp0 ef
        · rw [if_neg ef]
          have hv := ev_val hC.ok d _ (gd_part h h0) (Classical.not_not.1 ef)
          rw [show (ev d W r (exAt t.ps 0)).1 = 3 from by
            rcases hp0 with ⟨_, e⟩ | e | e
            · exact e
            · exact absurd (by rw [e]; decide) ef
            · exact absurd (by rw [e]; decide) ef] at hv
          have hb := vl_3 hv
          exact evKd_Of (hC.th _ (by omega)) _
      · rw [if_neg (by simpa using e3)] at hk; exact absurd rfl hk
    · rw [k] at hl
      have h0 : 0 < t.ps.length := by rw [hl]; decide
      have hone : (t.ps.map (kiR d s)).length = 1 := by rw [hlm, hl]; decide
      rw [fin_9 (.inl k), allK_one hone, il0_map h0] at hk ⊢
      by_cases e3 : kiR d s (exAt t.ps 0) = 3
      · have hp0 := part 0 h0
        rw [e3] at hp0 ⊢
        rw [if_pos (by decide), ev_k9 k, evKd_K hp0]
        by_cases ef : (ev d W r (exAt t.ps 0)).2.2 ≠ 0
        · rw [if_pos ef]; exact evKd_fault hp0 ef
        · rw [if_neg ef]; exact evKd_B _
      · rw [if_neg (by simpa using e3)] at hk; exact absurd rfl hk
    · have hl2 : t.ps.length = 2 := by rcases k with k | k | k <;> (rw [k] at hl; exact hl.trans (by decide))
      have h0 : 0 < t.ps.length := by omega
      have h1 : 1 < t.ps.length := by omega
      have htwo : (t.ps.map (kiR d s)).length = 2 := by rw [hlm, hl2]
      have hp0 := part 0 h0
      have hp1 := part 1 h1
      have key : ∀ (p : Prop) [Decidable p], kdFin s t (t.ps.map (kiR d s)) = (if p then 1 else 0) → (p → (ev d W r (exAt t.ps 0)).2.2 = 0 → (ev d W r (exAt t.ps 1)).2.2 = 0 → EvKd 1 (evPair W t.k (ev d W r (exAt t.ps 0)) (ev d W r (exAt t.ps 1)))) → EvKd (kdFin s t (t.ps.map (kiR d s))) (evPair W t.k (ev d W r (exAt t.ps 0)) (ev d W r (exAt t.ps 1))) := by
        intro p _ he hh
        rw [he] at hk ⊢
        by_cases hp : p
        · rw [if_pos hp]
          by_cases f0 : (ev d W r (exAt t.ps 0)).2.2 = 0
          · by_cases f1 : (ev d W r (exAt t.ps 1)).2.2 = 0
            · exact hh hp f0 f1
            · unfold evPair; rw [if_neg (by simpa using f0), if_pos f1]; exact evKd_fault hp1 f1
          · unfold evPair; rw [if_pos f0]; exact evKd_fault hp0 f0
        · rw [if_neg hp] at hk; exact absurd rfl hk
      rw [ev_kp k]
      rcases k with k | k | k
      · refine key _ ((fin_10 k).trans (by rw [il0_map h0, il0_map h1])) (fun e f0 f1 => ?_)
        rw [e] at hp0
        have a0 : (ev d W r (exAt t.ps 0)).1 = kiR d s (exAt t.ps 1) := by
          rcases hp0 with ⟨_, q⟩ | q | q
          · exact q
          · rw [f0] at q; cases q
          · rw [f0] at q; cases q
        have a1 : (ev d W r (exAt t.ps 1)).1 = kiR d s (exAt t.ps 1) := by
          rcases hp1 with ⟨_, q⟩ | q | q
          · exact q
          · rw [f1] at q; cases q
          · rw [f1] at q; cases q
        unfold evPair
        rw [if_neg (by simpa using f0), if_neg (by simpa using f1), if_pos ⟨k, a0.trans a1.symm⟩]
        exact evKd_B _
      · refine key _ ((fin_11 k).trans (by rw [allK_two htwo, il0_map h0, il0_map h1])) (fun e f0 f1 => ?_)
        simp only [Bool.and_eq_true, beq_iff_eq] at e
        rw [e.1] at hp0
        rw [e.2] at hp1
        have a0 : (ev d W r (exAt t.ps 0)).1 = 2 := by
          rcases hp0 with ⟨_, q⟩ | q | q
          · exact q
          · rw [f0] at q; cases q
          · rw [f0] at q; cases q
        have a1 : (ev d W r (exAt t.ps 1)).1 = 2 := by
          rcases hp1 with ⟨_, q⟩ | q | q
          · exact q
          · rw [f1] at q; cases q
          · rw [f1] at q; cases q
        unfold evPair
        rw [if_neg (by simpa using f0), if_neg (by simpa using f1), if_neg (by rw [k]; rintro ⟨h, _⟩; cases h), if_pos ⟨k, a0, a1⟩]
        exact evKd_B _
      · refine key _ ((fin_9 (.inr k)).trans (by rw [allK_two htwo, il0_map h0, il0_map h1])) (fun e f0 f1 => ?_)
        simp only [Bool.and_eq_true, beq_iff_eq] at e
        rw [e.1] at hp0
        rw [e.2] at hp1
        have a0 : (ev d W r (exAt t.ps 0)).1 = 3 := by
          rcases hp0 with ⟨_, q⟩ | q | q
          · exact q
          · rw [f0] at q; cases q
          · rw [f0] at q; cases q
        have a1 : (ev d W r (exAt t.ps 1)).1 = 3 := by
          rcases hp1 with ⟨_, q⟩ | q | q
          · exact q
          · rw [f1] at q; cases q
          · rw [f1] at q; cases q
        unfold evPair
        rw [if_neg (by simpa using f0), if_neg (by simpa using f1), if_neg (by rw [k]; rintro ⟨h, _⟩; cases h), if_neg (by rw [k]; rintro ⟨h, _⟩; cases h), if_pos ⟨k, a0, a1⟩]
        exact evKd_B _
    · rw [k] at hl
      have h0 : 0 < t.ps.length := by rw [hl]; decide
      have hone : (t.ps.map (kiR d s)).length = 1 := by rw [hlm, hl]; decide
      rw [fin_13 (.inl k), allK_one hone, il0_map h0] at hk ⊢
      by_cases e3 : kiR d s (exAt t.ps 0) = 1
      · have hp0 := part 0 h0
        rw [e3] at hp0 ⊢
        rw [if_pos (by decide), ev_k13 k, evKd_K hp0]
        by_cases ef : (ev d W r (exAt t.ps 0)).2.2 ≠ 0
        · rw [if_pos ef]; exact evKd_fault hp0 ef
        · rw [if_neg ef]; exact evKd_B _
      · rw [if_neg (by simpa using e3)] at hk; exact absurd rfl hk
    all_goals
      rw [k] at hl
      have h0 : 0 < t.ps.length := by rw [hl]; decide
      have h1 : 1 < t.ps.length := by rw [hl]; decide
      have htwo : (t.ps.map (kiR d s)).length = 2 := by rw [hlm, hl]; decide
      rw [fin_13 (by omega), allK_two htwo, il0_map h0, il0_map h1] at hk ⊢
      by_cases e3 : (kiR d s (exAt t.ps 0) == 1 && kiR d s (exAt t.ps 1) == 1) = true
      · have hp0 := part 0 h0
        have hp1 := part 1 h1
        simp only [Bool.and_eq_true, beq_iff_eq] at e3
        rw [e3.1] at hp0
        rw [e3.2] at hp1
        rw [if_pos (by rw [e3.1, e3.2]; decide)]
        first
          | rw [ev_k14 k]; exact evKd_Either hp0 hp1 0
          | rw [ev_k15 k]; exact evKd_Either hp0 hp1 1
      · rw [if_neg e3] at hk; exact absurd rfl hk
end Go.Proofs.YtodjokdaofefdaaGreat

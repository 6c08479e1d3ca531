/- FnVisitsValid, walked. -/
import Derived.Test.YtflhmkpabhedjaaViN
namespace Go.Proofs.Ytflhmkpabhedjaa
open Go.RowKit

theorem rel_ne {p : Prop} [Decidable p] {a b : Nat} {w w' : World} (h : ¬ p) (hb : Below b w w') : Below (if p then a else b) w w' := by rw [if_neg h]; exact hb
theorem rel_eq {p : Prop} [Decidable p] {a b : Nat} {w w' : World} (h : p) (hb : Below a w w') : Below (if p then a else b) w w' := by rw [if_pos h]; exact hb
theorem rel_un {p : Prop} [Decidable p] {a b : Nat} {w w' : World} (h : ¬ p) (hb : Below (if p then a else b) w w') : Below b w w' := by rwa [if_neg h] at hb

/-- A slice from its second element on. -/
theorem op_slice1 {P : Program} {w : World} {o : Oper} {a : Act} {K : Act → World → Prop} {Q : Exit → Act → World → Prop} {b off n c : Nat} (x : Operand) (ty e : TypeId) (sz : Nat)
    (ho : o.op = .slice ty x (some (.const (.int .i64 1))) Option.none Option.none) (ht : P.underlying ty = some (.slice e)) (hs : ∀ w, Sem.run P (sizeOf e) w = .ok sz w) (hx : a.eval x = .slice (some ⟨b, off, none⟩) n c) (hn : 1 ≤ n) (hc : n ≤ c)
    (h : K (a.put o.dst (.slice (if c = 1 then some ⟨b, off, none⟩ else some ⟨b, off + sz, none⟩) (n - 1) (c - 1))) w) : o.wp P a w K Q := by
  have h1 : (1 : Int) ≤ n := by omega
  unfold Oper.wp execOp
  simp only [ho, hx]
  go_simp
  exact h
theorem implVisitsValid_n {A : Option Addr} {l : ViL} {c n : Nat} {long idle : Int} {w : World} (hn : l.length = n) (hU : viR w A l) :
    Calls Try.prog 15 #[.agg #[.int .i64 long, .int .i64 idle], .slice A n c] w fun e w' => e = .returned (.bool (viOk long idle l)) ∧ Below w.heap.size w w' := by
  subst hn; exact implVisitsValid hU

set_option maxRecDepth 100000 in
set_option maxHeartbeats 8000000 in
theorem lawVisitsValid {A : Option Addr} {l : List Int} {c : Nat} {w : World} (hC : CodeR w w.heap.size A l) (hc : l.length ≤ c) :
    Calls Try.prog 4 #[.slice A l.length c] w fun e w' => e = .returned (.bool true) ∧ Below w.heap.size w w' := by
  by_cases h : (1048576 : Int) < l.length
  · go_enter Try.func4, Try.ntmps4
    go_wp2
    go_ret
    exact ⟨rfl, Below.refl _ _⟩
  · go_enter Try.func4, Try.ntmps4
    go_wp2_with fail
    refine (DrawVisitsValid_d hC hc).mono ?_
    rintro e w1 ⟨us, _, long, idle, rfl, hn, ⟨hl0, hl1⟩, ⟨hi0, hi1⟩, ⟨Au, cu, rfl, ho⟩, hB⟩
    have q0 := box_cell w1 #[.int .i64 long, .int .i64 idle] 27 0 (.int .i64 long) rfl
    have q1 := box_cell w1 #[.int .i64 long, .int .i64 idle] 27 1 (.int .i64 idle) rfl
    have hbl := below_alloc w1 (.cells #[.int .i64 long, .int .i64 idle] 27)
    have hU : viR _ Au us := (viR.own rfl (by omega) ho).below hbl
    have hsp := Lib.hid (own_split2 ho)
    obtain ⟨X, hX⟩ : ∃ X, X = w1.alloc (.cells #[.int .i64 long, .int .i64 idle] 27) := ⟨_, rfl⟩
    obtain ⟨g, hg⟩ : ∃ g, g = w1.heap.size := ⟨_, rfl⟩
    rw [← hX] at q0 q1 hU hbl
    rw [← hg] at q0 q1
    replace hB := ext_trans hB hbl
    have HX := Lib.hid hX
    have HG := Lib.hid hg
    clear hX hg hbl ho
    go_wp2_with fail
    rw [← HX.out, ← HG.out]
    refine (implVisitsValid hU).mono ?_
    rintro e w2 ⟨rfl, hBc⟩
    replace hB := ext_trans hB hBc
    replace q0 := below_cell hBc q0
    replace q1 := below_cell hBc q1
    replace hU := hU.below hBc
    clear hBc
    go_wp2_with fail
    refine (specVisitsValid hU).mono ?_
    rintro e w3 ⟨rfl, hBc⟩
    replace hB := ext_trans hB hBc
    replace q0 := below_cell hBc q0
    replace q1 := below_cell hBc q1
    replace hU := hU.below hBc
    clear hBc
    cases hok : viOk long idle us
    · skip
      go_wp2_with fail
      refine (alive_any _).mono ?_
      rintro e w4 ⟨rfl, hBc⟩
      replace hB := ext_trans hB hBc
      clear hBc
      go_wp2
      go_ret
      exact ⟨rfl, hB⟩
    · rcases Nat.eq_zero_or_pos us.length with h0 | h0
      · obtain rfl := List.eq_nil_of_length_eq_zero h0
        clear h0
        go_wp2_with fail
        refine (alive_any _).mono ?_
        rintro e w4 ⟨rfl, hBc⟩
        replace hB := ext_trans hB hBc
        clear hBc
        go_wp2
        go_ret
        exact ⟨rfl, hB⟩
      · rcases hsp.out with ⟨_, h1, _⟩ | ⟨ga, rfl, hcap, hcap2⟩
        · omega
        have hz : ((us.length : Int) == 0) = false := by
          simp only [beq_eq_false_iff_ne, ne_eq]; omega
        have HTL := Lib.hid (viOk_sub (List.drop_sublist 1 us) hok)
        have HDB : Hid (viOk long idle ((vi0 us 0, vi1 us 0, vi2 us 0) :: us) = false) := Lib.hid (by
          cases us with
          | nil => simp at h0
          | cons v rest => exact viOk_double v rest)
        obtain ⟨b, off, e, hcl⟩ := hU.cells h0
        simp only [Option.some.injEq, Addr.mk.injEq, and_true] at e
        obtain ⟨rfl, rfl⟩ := e
        obtain ⟨c0, c1, c2⟩ := hcl 0 h0
        simp only [Nat.zero_mul, Nat.zero_add] at c0 c1 c2
        obtain ⟨us2, hus2⟩ : ∃ x, x = (vi0 us 0, vi1 us 0, vi2 us 0) :: us := ⟨_, rfl⟩
        have hus2l : us2.length = us.length + 1 := by rw [hus2]; rfl
        have HUS2 := Lib.hid hus2
        have HUSL := Lib.hid hus2l
        rw [← hus2] at HDB
        clear hus2 hus2l
        have hlen1 : (us.drop 1).length = us.length - 1 := by simp
        have HL1 := Lib.hid hlen1
        have HOK := Lib.hid hok
        clear hcl hlen1 hok
        obtain ⟨A2, hA2⟩ : ∃ x : Option Addr, x = if cu = 1 then some ⟨ga, 0, none⟩ else some ⟨ga, 0 + 3, none⟩ := ⟨_, rfl⟩
        have HR : Hid (viR w3 A2 (us.drop 1)) := Lib.hid (by
          rw [hA2]
          split
          · have hnil : us.drop 1 = [] := List.drop_eq_nil_of_le (by omega)
            rw [hnil]; exact RdL.nil _
          · exact RdL.dropAt hU 1)
        have HA2 := Lib.hid hA2
        clear hA2
        go_wp2_with fail
        refine wp_region_kinds (fun i wz vz => match i with | 0 => vz = .agg #[.int .i64 long, .int .i64 idle] | 1 => vz = .slice (some ⟨ga, 0, none⟩) us.length cu | 2 => vz = .slice A2 (us.length - 1) (cu - 1) | 3 => vz = .bool true | 4 => vz = .bool true | 5 => vz = .agg #[.int .i64 long, .int .i64 idle] | 6 => vz = .slice (some ⟨ga, 0, none⟩) us.length cu | 7 => vz = .pointer (some ⟨ga, 0, none⟩) | 8 => vz = .agg #[.int .i64 (vi0 us 0), .int .i64 (vi1 us 0), .int .i64 (vi2 us 0)] | 9 => FrB w3.heap.size 38 1 #[.int .i64 (vi0 us 0), .int .i64 (vi1 us 0), .int .i64 (vi2 us 0)] wz vz | 10 => vz = .slice (some ⟨ga, 0, none⟩) us.length cu | 11 => OwnA w3.heap.size 38 3 viEnc wz vz us2 | 12 => vz = .bool false | 13 => vz = .bool true | 14 => vz = .bool true | 15 => vz = .bool true | _ => True) (fun _ wz => Below w3.heap.size w3 wz) (fun i w w' => Below (if i = 11 then w3.heap.size else w.heap.size) w w') (fun j => match j with | 9 => some 11 | _ => Option.none) (by kernel_rfl) (by kernel_rfl) (by kernel_rfl) ?stab9 (ext_drew (Below.refl _ _)) ?all9 ?fin9
        case stab9 =>
          intro i j wa wb v hR hk hne _ _ hT
          match j, hk, hne, hT with
          | 0, hk, hne, hT => exact hT
          | 1, hk, hne, hT => exact hT
          | 2, hk, hne, hT => exact hT
          | 3, hk, hne, hT => exact hT
          | 4, hk, hne, hT => exact hT
          | 5, hk, hne, hT => exact hT
          | 6, hk, hne, hT => exact hT
          | 7, hk, hne, hT => exact hT
          | 8, hk, hne, hT => exact hT
          | 9, hk, hne, hT => exact FrB.below hT (rel_un (fun e => hk (by subst e; rfl)) hR)
          | 10, hk, hne, hT => exact hT
          | 11, hk, hne, hT => exact OwnA.below hT (rel_un (fun e => hne e.symm) hR)
          | 12, hk, hne, hT => exact hT
          | 13, hk, hne, hT => exact hT
          | 14, hk, hne, hT => exact hT
          | 15, hk, hne, hT => exact hT
          | n + 16, _, _, _ => trivial
        case all9 =>
          refine RAll.cons rfl ?_ (RAll.cons rfl ?_ (RAll.cons rfl ?_ (RAll.cons rfl ?_ (RAll.cons rfl ?_ (RAll.guarded 4 34 true rfl (by kernel_rfl) (fun _ _ h => h) ?_ (RAll.guarded 4 34 true rfl (by kernel_rfl) (fun _ _ h => h) ?_ (RAll.guarded 4 34 true rfl (by kernel_rfl) (fun _ _ h => h) ?_ (RAll.guarded 4 34 true rfl (by kernel_rfl) (fun _ _ h => h) ?_ (RAll.guarded 4 34 true rfl (by kernel_rfl) (fun _ _ h => h) ?_ (RAll.guarded 4 34 true rfl (by kernel_rfl) (fun _ _ h => h) ?_ (RAll.guarded 4 34 true rfl (by kernel_rfl) (fun _ _ h => h) ?_ (RAll.guarded 4 34 true rfl (by kernel_rfl) (fun _ _ h => h) ?_ (RAll.guarded 4 34 true rfl (by kernel_rfl) (fun _ _ h => h) ?_ (RAll.cons rfl ?_ (RAll.cons rfl ?_ (RAll.none_))))))))))))))))
          · intro a k wa K Q _ hI hp hK
            have e3 := tmp_of (show a.eval (.tmp 3) = .pointer (some ⟨g, 0, none⟩) from hp.keep 3 (by kernel_rfl))
            have q0_ := below_cell hI q0
            have q1_ := below_cell hI q1
            go_simp
            exact hK _ _ rfl (Below.refl _ _) hI
          · intro a k wa K Q _ hI hp hK
            exact op_move _ (.inl rfl) (hK _ _ (hp.keep 4 (by kernel_rfl)) (Below.refl _ _) hI)
          · intro a k wa K Q _ hI hp hK
            have e31 := tmp_of (show a.eval (.tmp 31) = .slice (some ⟨ga, 0, none⟩) us.length cu from hp.dep 1 31 (by kernel_rfl))
            refine op_slice1 (.tmp 31) _ 38 3 rfl Try.underlying29 (fun _ => by kernel_rfl) (show a.eval (.tmp 31) = .slice (some ⟨ga, 0, none⟩) us.length cu from hp.dep 1 31 (by kernel_rfl)) (by omega) (by omega) ?_
            rw [← HA2.out]
            exact hK _ _ rfl (Below.refl _ _) hI
          · intro a k wa K Q _ hI hp hK
            have e30 := tmp_of (show a.eval (.tmp 30) = .agg #[.int .i64 long, .int .i64 idle] from hp.dep 0 30 (by kernel_rfl))
            have e32 := tmp_of (show a.eval (.tmp 32) = .slice A2 (us.length - 1) (cu - 1) from hp.dep 2 32 (by kernel_rfl))
            go_simp
            refine (implVisitsValid_n HL1.out (HR.out.below hI)).mono ?_
            rintro e wb ⟨rfl, hb⟩
            exact hK _ _ (show _ = (.bool true : Value) from by rw [HTL.out]) (rel_ne (by decide) hb) (ext_trans hI hb)
          · intro a k wa K Q _ hI hp hK
            exact op_move _ (.inl rfl) (hK _ _ (hp.dep 3 33 (by kernel_rfl)) (Below.refl _ _) hI)
          · intro a k wa K Q _ hI hp hK
            have e3 := tmp_of (show a.eval (.tmp 3) = .pointer (some ⟨g, 0, none⟩) from hp.keep 3 (by kernel_rfl))
            have q0_ := below_cell hI q0
            have q1_ := below_cell hI q1
            go_simp
            exact hK _ _ rfl (Below.refl _ _) hI
          · intro a k wa K Q _ hI hp hK
            exact op_move _ (.inl rfl) (hK _ _ (hp.keep 4 (by kernel_rfl)) (Below.refl _ _) hI)
          · intro a k wa K Q _ hI hp hK
            have e36 := tmp_of (show a.eval (.tmp 36) = .slice (some ⟨ga, 0, none⟩) us.length cu from hp.dep 6 36 (by kernel_rfl))
            go_simp
            exact hK _ _ (rfl) (Below.refl _ _) hI
          · intro a k wa K Q _ hI hp hK
            have e37 := tmp_of (show a.eval (.tmp 37) = .pointer (some ⟨ga, 0, none⟩) from hp.dep 7 37 (by kernel_rfl))
            have c0_ := below_cell hI c0
            have c1_ := below_cell hI c1
            have c2_ := below_cell hI c2
            go_simp
            exact hK _ _ rfl (Below.refl _ _) hI
          · intro a k wa K Q _ hI hp hK
            have e38 := tmp_of (show a.eval (.tmp 38) = .agg #[.int .i64 (vi0 us 0), .int .i64 (vi1 us 0), .int .i64 (vi2 us 0)] from hp.dep 8 38 (by kernel_rfl))
            go_simp
            exact hK _ _ ⟨_, rfl, hI.size, heap_alloc_new _ _⟩ (rel_ne (by decide) (below_alloc _ _)) (ext_alloc hI _)
          · intro a k wa K Q _ hI hp hK
            exact op_move _ (.inl rfl) (hK _ _ (hp.keep 4 (by kernel_rfl)) (Below.refl _ _) hI)
          · intro a k wa K Q _ hI hp hK
            have t39 : FrB w3.heap.size 38 1 #[.int .i64 (vi0 us 0), .int .i64 (vi1 us 0), .int .i64 (vi2 us 0)] wa (a.eval (.tmp 39)) := hp.dep 9 39 (by kernel_rfl)
            have e40 := tmp_of (show a.eval (.tmp 40) = .slice (some ⟨ga, 0, none⟩) us.length cu from hp.dep 10 40 (by kernel_rfl))
            obtain ⟨g9, e39, hB9, hg9⟩ := t39
            refine op_append_rd (enc := viEnc) (l := us) (.tmp 39) (.tmp 40) w3.heap.size 29 38 _ 3 24 rfl Try.underlying29 Try.infoVisit rfl (by decide) (fun _ => rfl) viEnc_one e39 (own_of_block hB9 hg9 rfl (by decide)) (hp.dep 10 40 (by kernel_rfl)) (hU.below hI) (by omega) (by omega) hI.size ?_
            intro v' wb ho' hgr _
            have hb := grown_below hgr hI.size (fun k hk => by cases hk; exact hB9)
            refine hK _ _ ?_ (rel_eq rfl hb) (hI.trans hb)
            have ho2 : wb.ownsRow w3.heap.size 38 3 v' us2.length (us2.flatMap viEnc) := by rw [HUS2.out]; simpa [viEnc, Nat.add_comm] using ho'
            exact OwnA.of ho2
          · intro a k wa K Q _ hI hp hK
            have e35 := tmp_of (show a.eval (.tmp 35) = .agg #[.int .i64 long, .int .i64 idle] from hp.dep 5 35 (by kernel_rfl))
            have t41 : OwnA w3.heap.size 38 3 viEnc wa (a.eval (.tmp 41)) us2 := hp.dep 11 41 (by kernel_rfl)
            obtain ⟨A8, c8, e41, ho8⟩ := t41
            replace e41 := tmp_of e41
            go_simp
            refine (implVisitsValid_n rfl (viR.own rfl (by have := HUSL.out; omega) ho8)).mono ?_
            rintro e wb ⟨rfl, hb⟩
            rw [HDB.out]
            exact hK _ _ rfl (rel_ne (by decide) hb) (ext_trans hI hb)
          · intro a k wa K Q _ hI hp hK
            have e42 := tmp_of (show a.eval (.tmp 42) = .bool false from hp.dep 12 42 (by kernel_rfl))
            go_simp
            exact hK _ _ (rfl) (Below.refl _ _) hI
          · intro a k wa K Q _ hI hp hK
            exact op_pick_t _ _ _ rfl (hp.dep 4 34 (by kernel_rfl)) (hK _ _ (hp.dep 13 43 (by kernel_rfl)) (Below.refl _ _) hI)
          · intro a k wa K Q _ hI hp hK
            exact op_move _ (.inr rfl) (hK _ _ (hp.dep 14 44 (by kernel_rfl)) (Below.refl _ _) hI)
        case fin9 =>
          intro f w4 hT hI0
          have hI : Below w3.heap.size w3 w4 := hI0
          have hr : (f 15) = .bool true := hT 15 (by decide) rfl rfl
          clear hT hI0
          simp only [putAll, hr]
          go_simp
          go_wp2
          go_ret
          exact ⟨rfl, ext_trans hB hI⟩
end Go.Proofs.Ytflhmkpabhedjaa

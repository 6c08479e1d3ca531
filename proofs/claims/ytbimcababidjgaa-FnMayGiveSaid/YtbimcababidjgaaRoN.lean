/- FnMayGive, walked. -/
import Derived.Test.YtbimcababidjgaaRoJ
import Derived.Test.YtbimcababidjgaaRoL
import Derived.Test.YtbimcababidjgaaApL
namespace Go.Proofs.Ytbimcababidjgaa
set_option linter.unusedSimpArgs false
set_option linter.unusedVariables false
open Go.RowKit

theorem mayG_true {l : RoL} {list : ApL} {has : IL} {role : Int} (h : mayG l list has role = true) : roOk l = true ∧ inB role 0 (l.length - 1) = true ∧ apOk l.length list = true ∧ apBrk (hasSet l.length (allOf l role has has.length)) list list.length = [] := by
  simp only [mayG, Bool.and_eq_true, decide_eq_true_eq] at h
  obtain ⟨⟨h1, h2⟩, h3, h4⟩ := h
  exact ⟨h1, h2, h3, by rw [hasSet_all h1 h2]; exact List.eq_nil_of_length_eq_zero h4⟩
theorem mem_allOf {l : RoL} {role : Int} {has : IL} {x : Int} : x ∈ allOf l role has has.length ↔ x ∈ rwOf l role ∨ ∃ n ∈ has, x ∈ rwOf l n := by
  unfold allOf
  rw [List.take_length, List.mem_append, List.mem_flatMap]
theorem may_broken {l : RoL} {list : ApL} {has : IL} {role : Int} (h : mayG l list has role = true) : apBroken l.length list (rwOf l role ++ has) = [] := by
  obtain ⟨h1, h2, h3, h4⟩ := mayG_true h
  have h8 := (roOk_good h1).1
  rw [apBroken, if_pos h3]
  have hs : (apBrk (hasSet l.length (rwOf l role ++ has)) list list.length).Sublist (apBrk (hasSet l.length (allOf l role has has.length)) list list.length) := apBrk_sub list (fun i hi => by
    rw [hasSet, setOf_testBit, List.any_eq_true] at hi ⊢
    obtain ⟨n, hn, he⟩ := hi
    obtain ⟨g1, g2⟩ := List.mem_filter.1 hn
    refine ⟨n, List.mem_filter.2 ⟨mem_allOf.2 ?_, g2⟩, he⟩
    rcases List.mem_append.1 g1 with g1 | g1
    · exact .inl g1
    · obtain ⟨m, rfl, hm⟩ := roIn_nat g2
      exact .inr ⟨_, g1, mem_rwOf.2 ⟨by rw [h1]; exact g2, m, rfl, by omega, (reach_ok h1 hm).1⟩⟩) _
  rw [h4] at hs
  exact List.sublist_nil.1 hs
theorem may_drop {l : RoL} {list : ApL} {has : IL} {role : Int} (h : mayG l list has role = true) (k : Nat) : mayG l list (has.drop k) role = true := by
  obtain ⟨h1, h2, h3, h4⟩ := mayG_true h
  have hs : (apBrk (hasSet l.length (allOf l role (has.drop k) (has.drop k).length)) list list.length).Sublist (apBrk (hasSet l.length (allOf l role has has.length)) list list.length) := apBrk_sub list (hasSet_sub (fun n hn => by
    rw [mem_allOf] at hn ⊢
    rcases hn with hn | ⟨m, hm, hn⟩
    · exact .inl hn
    · exact .inr ⟨m, List.mem_of_mem_drop hm, hn⟩)) _
  rw [h4] at hs
  have := List.sublist_nil.1 hs
  rw [hasSet_all h1 h2] at this
  rw [mayG, h1, h2, h3, this]; rfl
theorem implMayGive_n {A A1 A2 : Option Addr} {l : RoL} {list : ApL} {has : IL} {c c1 c2 n : Nat} {role : Int} {w : World} {r : Bool} (hr : mayG l list has role = r) (hln : has.length = n) (hU : roR w A l) (hw : WfRoL l) (hn : l.length ≤ 2097152) (hP : apR w A1 list) (hV : ilR w A2 has) :
    Calls Try.prog 21 #[.slice A l.length c, .slice A1 list.length c1, .slice A2 n c2, .int .i64 role] w fun e w' => e = .returned (.bool r) ∧ Below w.heap.size w w' := by
  subst hr; subst hln; exact implMayGive hU hw hn hP hV
/-- append of a slice that reads as a list, where a guard asks for it. -/
theorem wpList_pushes_g {α : Type} {enc : α → List Value} {P : Program} {w : World} {ops : Array Oper} {rest : List Oper} {o : Oper} {a : Act} {Q0 : Exit → Act → World → Prop} (hgd : Region.wanted o (yielded ops a.tmps) = true) (s x : Operand) (t e : TypeId) (z : Value) (sz bytes : Nat)
    (ho : o.op = .call { callee := .builtin .append, args := #[s, x], argTypes := #[t, t] }) (ht : P.underlying t = some (.slice e)) (hinfo : (P.info? e).map (fun i => (i.zero, i.size, i.bytes)) = some (some z, sz, bytes))
    (hzs : z.cells.size = sz) (hsz : 0 < sz) (henc : ∀ a, (enc a).length = sz) (hone : ∀ a, ∀ u ∈ enc a, u.oneCell' = true)
    {B c : Nat} {A : Option Addr} {l l2 : List α} (hd : OwnA B e sz enc w (a.eval s) l) (hx : a.eval x = .slice A l2.length c) (hr : RdL (Flat enc) sz w A l2)
    (hbytes : (l.length + l2.length) * bytes ≤ 140737488355328) (h63 : l.length + l2.length ≤ 9223372036854775807) (hbase : B ≤ w.heap.size)
    (h : ∀ v' w', OwnA B e sz enc w' v' (l ++ l2) → Below B w w' → wpList P ops Q0 rest (a.put o.dst v') w') : wpList P ops Q0 (o :: rest) a w := by
  obtain ⟨A, c', hv, hown⟩ := hd
  refine wpList_step fun K hK => ?_
  rw [if_pos hgd]
  refine op_append_rd (enc := enc) (l := l2) s x B t e z sz bytes ho ht hinfo hzs hsz henc hone hv hown hx hr hbytes h63 hbase ?_
  intro v' w' ho' hg _
  have ho2 : w'.ownsRow B e sz v' (l ++ l2).length ((l ++ l2).flatMap enc) := by simpa using ho'
  exact hK _ _ (h v' w' (OwnA.of ho2) (grown_below hg hbase (fun k hk => (hown.lt k hk).1)))
set_option maxRecDepth 100000 in
set_option maxHeartbeats 8000000 in
theorem lawMayGive {A : Option Addr} {l : List Int} {c : Nat} {w : World} (hC : CodeR w w.heap.size A l) (hc : l.length ≤ c) :
    Calls Try.prog 5 #[.slice A l.length c] w fun e w' => e = .returned (.bool true) ∧ Below w.heap.size w w' := by
  by_cases h : (1048576 : Int) < l.length
  · go_enter Try.func5, Try.ntmps5
    go_wp2
    go_ret
    exact ⟨rfl, Below.refl _ _⟩
  · go_enter Try.func5, Try.ntmps5
    go_wp2_with fail
    refine (DrawMayGive_d hC hc).mono ?_
    rintro e w1 ⟨us, list, has, role, A0, A1, A2, c0, c1, c2, rfl, n0, n1, n2, n3, n4, hform, hU, hW, hP, hV, hB⟩
    have HW := Lib.hid hW
    have HFORM := Lib.hid hform
    clear hW hform
    cases g : mayG us list has role
    · have HG := Lib.hid g
      clear g
      go_wp2_with fail
      refine (implMayGive_n HG.out rfl hU HW.out (by omega) hP hV).mono ?_
      rintro e w2 ⟨rfl, hb⟩
      replace hB := ext_trans hB hb
      replace hU := Nst.rdl.below hU hb
      replace hP := Nst.rdl.below hP hb
      replace hV := ilR.below hV hb
      clear hb
      go_wp2_with fail
      refine (specMayGive hU HW.out (by omega) hP hV (by omega)).mono ?_
      rintro e w3 ⟨rfl, hb⟩
      rw [HG.out]
      replace hB := ext_trans hB hb
      go_wp2_with fail
      refine (alive_any _).mono ?_
      rintro e w4 ⟨rfl, hb4⟩
      go_wp2
      go_ret
      exact ⟨rfl, ext_trans hB hb4⟩
    · have HG := Lib.hid g
      have HBR := Lib.hid (may_broken g)
      have HDR := Lib.hid (may_drop g (has.length / 2))
      have hrl := rwOf_len us role
      clear g
      go_wp2_with fail
      refine (implMayGive_n HG.out rfl hU HW.out (by omega) hP hV).mono ?_
      rintro e w2 ⟨rfl, hb⟩
      replace hB := ext_trans hB hb
      replace hU := Nst.rdl.below hU hb
      replace hP := Nst.rdl.below hP hb
      replace hV := ilR.below hV hb
      clear hb
      go_wp2_with fail
      refine (specMayGive hU HW.out (by omega) hP hV (by omega)).mono ?_
      rintro e w3 ⟨rfl, hb⟩
      rw [HG.out]
      replace hB := ext_trans hB hb
      replace hU := Nst.rdl.below hU hb
      replace hP := Nst.rdl.below hP hb
      replace hV := ilR.below hV hb
      clear hb
      have hO0 : OwnA w3.heap.size 3 1 ilEnc (w3.alloc (.cells #[] 3)) (.slice (some ⟨w3.heap.size, 0, Option.none⟩) 0 0) ([] : IL) := OwnA.empty (Nat.le_refl _)
      have hB0 := below_alloc w3 (.cells #[] 3)
      obtain ⟨X, hX⟩ : ∃ X, X = w3.alloc (.cells #[] 3) := ⟨_, rfl⟩
      rw [← hX] at hO0 hB0
      have HX := Lib.hid hX
      have hsz := hB0.size
      clear hX
      go_wp2_with fail
      rw [← HX.out]
      refine (implRolesWith (Nst.rdl.below hU hB0) HW.out (by omega)).mono ?_
      rintro e w4 ⟨A4, c4, rfl, ho4, hb⟩
      have hR : ilR w4 A4 (rwOf us role) := ilR.own rfl (by omega) ho4
      have hB4 : Below w3.heap.size w3 w4 := ext_trans hB0 hb
      replace hO0 := hO0.below hb
      have hsz4 := hB4.size
      clear hb ho4 HX hB0
      obtain ⟨L1, hL1⟩ : ∃ x, rwOf us role = x := ⟨_, rfl⟩
      rw [hL1] at hR hrl ⊢
      have HL1 := Lib.hid hL1
      clear hL1
      have hpos : 0 ≤ w3.heap.size := Nat.zero_le _
      go_wp2_with (first | (at_builtin; (refine wpList_pushes_g (enc := ilEnc) rfl (.tmp 35) (.tmp 38) 24 3 _ 1 8 rfl Try.underlying24 Try.infoInt rfl (by decide) (fun _ => rfl) ilEnc_one hO0 rfl hR (by simp; omega) (by simp; omega) (by omega) ?_); intro v5 w5 hO5 hB5; replace hB5 : Below w3.heap.size w3 w5 := hB4.trans hB5; clear hO0 hR) | (at_builtin; (refine wpList_pushes_g (enc := ilEnc) rfl (.tmp 39) (.tmp 40) 24 3 _ 1 8 rfl Try.underlying24 Try.infoInt rfl (by decide) (fun _ => rfl) ilEnc_one hO5 rfl (ilR.below hV hB5) (by simp; omega) (by simp; omega) (by have := hB5.size; omega) ?_); intro v6 w6 hO6 hB6))
      replace hB6 : Below w3.heap.size w3 w6 := hB5.trans hB6
      obtain ⟨A6, c6, rfl, ho6⟩ := hO6
      have hV2 : ilR w6 A6 ([] ++ L1 ++ has) := ilR.own rfl (by simp; omega) ho6
      have HBR2 : Hid (apBroken us.length list ([] ++ L1 ++ has) = []) := Lib.hid (by rw [← HL1.out]; exact HBR.out)
      clear ho6 hB5 hO5 HL1 HBR
      go_wp2_with fail
      refine (implBrokenRules_v HBR2.out rfl (Nst.rdl.below hP hB6) hV2).mono ?_
      rintro e w7 ⟨A7, c7, rfl, _, hb7⟩
      replace hB := ext_trans (ext_trans hB hB6) hb7
      replace hU := Nst.rdl.below (Nst.rdl.below hU hB6) hb7
      replace hP := Nst.rdl.below (Nst.rdl.below hP hB6) hb7
      replace hV := ilR.below (ilR.below hV hB6) hb7
      clear hV2 hb7 hB6 HBR2 hB4 hsz4 hsz hpos
      have hl2 : (has.drop (has.length / 2)).length = has.length - has.length / 2 := by simp
      rcases Nat.eq_zero_or_pos has.length with h0 | h0
      · obtain rfl := List.eq_nil_of_length_eq_zero h0
        have HDR2 : Hid (mayG us list [] role = true) := Lib.hid (by have := HDR.out; rwa [List.drop_nil] at this)
        clear HDR hV hl2 h0
        rcases HFORM.out with ⟨_, rfl, rfl⟩ | ⟨b, off, rfl⟩
        all_goals
          go_wp2_with fail
        all_goals
          refine (implMayGive_n (has := []) HDR2.out rfl hU HW.out (by omega) hP (RdL.nil _)).mono ?_
          rintro e w8 ⟨rfl, hb8⟩
          go_wp2_with fail
          refine (alive_any _).mono ?_
          rintro e w9 ⟨rfl, hb9⟩
          go_wp2
          go_ret
          exact ⟨rfl, ext_trans (ext_trans hB hb8) hb9⟩
      · rcases HFORM.out with ⟨rfl, _, _⟩ | ⟨b, off, rfl⟩
        · simp at h0
        have hd := RdL.dropAt hV (has.length / 2)
        have hlt : has.length / 2 < c2 := by omega
        rw [Nat.mul_one] at hd
        clear HFORM
        go_wp2_with fail
        refine (implMayGive_n HDR.out hl2 hU HW.out (by omega) hP hd).mono ?_
        rintro e w8 ⟨rfl, hb8⟩
        go_wp2_with fail
        refine (alive_any _).mono ?_
        rintro e w9 ⟨rfl, hb9⟩
        go_wp2
        go_ret
        exact ⟨rfl, ext_trans (ext_trans hB hb8) hb9⟩
end Go.Proofs.Ytbimcababidjgaa

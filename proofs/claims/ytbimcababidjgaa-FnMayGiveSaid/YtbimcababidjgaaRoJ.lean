/- Whether a role may be given, by the reference. -/
import Derived.Test.YtbimcababidjgaaRoH
namespace Go.Proofs.Ytbimcababidjgaa
set_option linter.unusedSimpArgs false
set_option linter.unusedVariables false
open Go.RowKit

noncomputable def allOf (l : RoL) (role : Int) (has : IL) (k : Nat) : IL := rwOf l role ++ (has.take k).flatMap (rwOf l)
theorem rwOf_len (l : RoL) (n : Int) : (rwOf l n).length ≤ 8 := by
  unfold rwOf
  split
  · exact mbOf_len _ _
  · simp
theorem allOf_succ (l : RoL) (role : Int) (has : IL) {k : Nat} (hk : k < has.length) : allOf l role has (k + 1) = allOf l role has k ++ rwOf l (il0 has k) := by
  unfold allOf
  rw [List.take_succ_eq_append_getElem hk, List.flatMap_append, il_get hk]; simp
theorem allOf_len (l : RoL) (role : Int) (has : IL) : ∀ k, k ≤ has.length → (allOf l role has k).length ≤ 8 * (k + 1)
  | 0, _ => by have := rwOf_len l role; simp [allOf]; omega
  | k + 1, h => by
    have ih := allOf_len l role has k (by omega)
    have := rwOf_len l (il0 has k)
    rw [allOf_succ l role has (k := k) (by omega), List.length_append]; omega
theorem mem_rwOf {l : RoL} {n x : Int} : x ∈ rwOf l n ↔ (roOk l && inB n 0 (l.length - 1)) = true ∧ ∃ i : Nat, x = i ∧ i < 8 ∧ (roReach l n.toNat).testBit i = true := by
  unfold rwOf
  split
  · rename_i h; rw [mem_mbOf]; exact ⟨fun g => ⟨h, g⟩, fun g => g.2⟩
  · rename_i h; simp [h]
theorem mgSet_bit {l : RoL} {role : Int} {has : IL} (hok : roOk l = true) (hr : inB role 0 (l.length - 1) = true) (i : Nat) : ∀ k, k ≤ has.length → ((mgSet l role has k).testBit i = true ↔ (i : Int) ∈ allOf l role has k)
  | 0, _ => by
    obtain ⟨m, e, hm⟩ := roIn_nat hr
    have hlt := reach_lt hok hm
    simp only [mgSet, allOf, List.take_zero, List.flatMap_nil, List.append_nil, mem_rwOf, hok, hr, Bool.and_self, true_and]
    constructor
    · intro h
      refine ⟨i, rfl, tb_lt (R := roReach l role.toNat) (by rw [e]; exact hlt) h, h⟩
    · rintro ⟨i', h1, _, h3⟩
      obtain rfl : i = i' := by omega
      exact h3
  | k + 1, h => by
    have ih := mgSet_bit (has := has) hok hr i k (by omega)
    rw [allOf_succ l role has (k := k) (by omega), List.mem_append, ← ih, mem_rwOf, mgSet, hok, Bool.true_and]
    by_cases g : inB (il0 has k) 0 (l.length - 1) = true
    · obtain ⟨m, e, hm⟩ := roIn_nat g
      have hlt := reach_lt hok hm
      rw [if_pos g, Nat.testBit_or, Bool.or_eq_true]
      constructor
      · rintro (h1 | h1)
        · exact .inl h1
        · exact .inr ⟨g, i, rfl, tb_lt (R := roReach l (il0 has k).toNat) (by rw [e]; exact hlt) h1, h1⟩
      · rintro (h1 | ⟨_, i', h1, _, h3⟩)
        · exact .inl h1
        · obtain rfl : i = i' := by omega
          exact .inr h3
    · rw [if_neg g]
      exact ⟨.inl, fun h => h.elim id (fun h => absurd h.1 g)⟩
theorem allOf_in {l : RoL} {role : Int} {has : IL} (hok : roOk l = true) : ∀ x ∈ allOf l role has has.length, ∃ i : Nat, x = i ∧ i < l.length := by
  have key : ∀ n x, x ∈ rwOf l n → ∃ i : Nat, x = i ∧ i < l.length := fun n x hx => by
    obtain ⟨h1, i, rfl, _, h3⟩ := mem_rwOf.1 hx
    obtain ⟨m, e, hm⟩ := roIn_nat (Bool.and_eq_true_iff.1 h1).2
    have hlt := (reach_ok hok hm).lt hok hm
    refine ⟨i, rfl, ?_⟩
    rcases Nat.lt_or_ge i l.length with h | h
    · exact h
    · rw [e, show (m : Int).toNat = m by simp, tb_high hlt h] at h3; cases h3
  intro x hx
  rcases List.mem_append.1 hx with h | h
  · exact key _ _ h
  · obtain ⟨n, _, hn⟩ := List.mem_flatMap.1 h
    exact key _ _ hn
theorem hasSet_all {l : RoL} {role : Int} {has : IL} (hok : roOk l = true) (hr : inB role 0 (l.length - 1) = true) : hasSet l.length (allOf l role has has.length) = mgSet l role has has.length := by
  apply Nat.eq_of_testBit_eq
  intro i
  rw [Bool.eq_iff_iff, mgSet_bit hok hr i _ (Nat.le_refl _), hasSet, setOf_testBit, List.any_eq_true]
  constructor
  · rintro ⟨n, hn, he⟩
    obtain ⟨h1, h2⟩ := List.mem_filter.1 hn
    obtain ⟨i', rfl, _⟩ := allOf_in hok n h1
    have : i' = i := by simpa using he
    rwa [this] at h1
  · intro h
    obtain ⟨i', e, hi⟩ := allOf_in hok _ h
    exact ⟨(i : Int), List.mem_filter.2 ⟨h, inB_true.2 ⟨by omega, by omega⟩⟩, by simp⟩
/-- append of one element, and where the new row stands. -/
theorem wpList_push_at {α : Type} {enc : α → List Value} {P : Program} {w : World} {ops : Array Oper} {rest : List Oper} {o : Oper} {a : Act} {Q0 : Exit → Act → World → Prop} (q : α) (hgd : o.guard = Option.none) (s x : Operand) (t e : TypeId) (z : Value) (sz bytes : Nat)
    (ho : o.op = .call { callee := .builtin .append, args := #[s, x], argTypes := #[t, t] }) (ht : P.underlying t = some (.slice e)) (hinfo : (P.info? e).map (fun i => (i.zero, i.size, i.bytes)) = some (some z, sz, bytes))
    (hzs : z.cells.size = sz) (hsz : 0 < sz) (henc : ∀ a, (enc a).length = sz) (hone : ∀ a, ∀ u ∈ enc a, u.oneCell' = true)
    {B g c : Nat} {l : List α} {cs : Array Value} {T : TypeId} {v : Value} (hv0 : a.eval s = v) (hd : OwnA B e sz enc w v l) (hx : a.eval x = .slice (some ⟨g, 0, Option.none⟩) 1 c) (hblk : w.heap[g]? = some (.cells cs T (0, 0))) (hcs : [q].flatMap enc = cs.toList)
    (hbytes : (l.length + 1) * bytes ≤ 140737488355328) (h63 : l.length + 1 ≤ 9223372036854775807) (hbase : B ≤ w.heap.size)
    (h : ∀ v' w', OwnA B e sz enc w' v' (l ++ [q]) → Below B w w' → w.grownBy w' v.ownBlock → (v'.ownBlock = v.ownBlock ∨ v'.ownBlock = some w.heap.size) → wpList P ops Q0 rest (a.put o.dst v') w') : wpList P ops Q0 (o :: rest) a w := by
  obtain ⟨A, c', hv, hown⟩ := hd
  refine wpList_append_rd (enc := enc) (l := [q]) hgd s x B t e z sz bytes ho ht hinfo hzs hsz henc hone (hv0.trans hv) hown hx (rd_block henc hblk hcs) (by simpa using hbytes) (by simpa using h63) hbase ?_
  intro v' w' ho' hg ha
  have ho2 : w'.ownsRow B e sz v' (l ++ [q]).length ((l ++ [q]).flatMap enc) := by simpa using ho'
  refine h v' w' (OwnA.of ho2) (grown_below hg hbase (fun k hk => (hown.lt k hk).1)) (by rw [hv]; exact hg) (by rw [hv]; exact ha)
set_option maxRecDepth 100000 in
set_option maxHeartbeats 4000000 in
theorem specRolesWith {A : Option Addr} {l : RoL} {c : Nat} {n : Int} {w : World} (hU : roR w A l) (hw : WfRoL l) (hn : l.length ≤ 2097152) :
    Calls Try.prog 45 #[.slice A l.length c, .int .i64 n] w (SlPost 3 1 ilEnc w (rwOf l n)) := by
  have hl := hU.len
  have hO0 : OwnA w.heap.size 3 1 ilEnc (w.alloc (.cells #[] 3)) (.slice (some ⟨w.heap.size, 0, Option.none⟩) 0 0) ([] : IL) := OwnA.empty (Nat.le_refl _)
  have hB0 := below_alloc w (.cells #[] 3)
  obtain ⟨X, hX⟩ : ∃ X, X = w.alloc (.cells #[] 3) := ⟨_, rfl⟩
  obtain ⟨g0, hg0⟩ : ∃ g, g = w.heap.size := ⟨_, rfl⟩
  rw [← hX] at hO0 hB0
  rw [← hg0] at hO0
  replace hU := hU.below hB0
  have HX := Lib.hid hX
  have HG0 := Lib.hid hg0
  clear hX
  cases g1 : roOk l
  · have HE : Hid (rwOf l n = []) := Lib.hid (by rw [rwOf, g1]; rfl)
    have HG := Lib.hid g1
    clear g1 hg0
    go_enter Try.func45, Try.ntmps45
    go_wp2_with fail
    rw [← HX.out, ← HG0.out]
    refine (specRolesValid hU hw hn).mono ?_
    rintro e w1 ⟨rfl, hB⟩
    rw [HG.out]
    go_wp2
    go_ret
    exact SlPost.of HE.out ((hO0.below hB).lower (Nat.le_of_eq HG0.out.symm)) (ext_trans hB0 hB)
  · cases g2 : inB n 0 (l.length - 1)
    · have HE : Hid (rwOf l n = []) := Lib.hid (by rw [rwOf, g2]; simp)
      have HG := Lib.hid g1
      have HG2 := Lib.hid g2
      clear g1 g2 hg0
      go_enter Try.func45, Try.ntmps45
      go_wp2_with fail
      rw [← HX.out, ← HG0.out]
      refine (specRolesValid hU hw hn).mono ?_
      rintro e w1 ⟨rfl, hB⟩
      rw [HG.out]
      go_wp2_with fail
      refine (l1In_any _ _ _ _).mono ?_
      rintro e w2 ⟨rfl, hB2⟩
      rw [HG2.out]
      replace hB := ext_trans hB hB2
      go_wp2
      go_ret
      exact SlPost.of HE.out ((hO0.below hB).lower (Nat.le_of_eq HG0.out.symm)) (ext_trans hB0 hB)
    · obtain ⟨m, rfl, hm⟩ := roIn_nat g2
      have h8 := (roOk_good g1).1
      obtain ⟨R, hR⟩ : ∃ R, roReach l m = R := ⟨_, rfl⟩
      have HRW : Hid (rwOf l m = mbOf R l.length) := Lib.hid (by
        rw [rwOf, g1, g2]
        simp only [Bool.and_self, if_true]
        rw [show (m : Int).toNat = m by simp, hR]
        exact mbOf_to (fun i hi => tb_high (by rw [← hR]; exact (reach_ok g1 hm).lt g1 hm) hi) h8)
      have HR := Lib.hid hR
      have HG := Lib.hid g1
      have HG2 := Lib.hid g2
      clear g1 g2 hR
      go_enter Try.func45, Try.ntmps45
      go_wp2_with fail
      rw [← HX.out, ← HG0.out]
      refine (specRolesValid hU hw hn).mono ?_
      rintro e w1 ⟨rfl, hB⟩
      rw [HG.out]
      go_wp2_with fail
      refine (l1In_any _ _ _ _).mono ?_
      rintro e w2 ⟨rfl, hB2⟩
      rw [HG2.out]
      replace hB := ext_trans hB hB2
      clear hB2
      go_wp2_with fail
      refine (l26Reach_any (hU.below hB) HG.out hm).mono ?_
      rintro e w3 ⟨rfl, hor, hB3⟩
      rw [HR.out] at hor
      have hgl2 : w2.heap.size < w3.heap.size := (hor.lt _ rfl).2
      have hGs : g0 < w2.heap.size := Nat.lt_of_lt_of_le (hO0.ge g0 rfl).2 hB.size
      replace hB := ext_trans hB hB3
      replace hO0 := hO0.below hB
      clear hB3
      obtain ⟨W, hW⟩ : ∃ W, W = w3 := ⟨_, rfl⟩
      obtain ⟨gr, hgr⟩ : ∃ g, g = w2.heap.size := ⟨_, rfl⟩
      rw [← hW] at hor hO0 hB
      rw [← hgr] at hor ⊢
      have HGR : Hid (g0 ≠ gr ∧ gr < W.heap.size) := Lib.hid (by
        have h1 := hgl2
        rw [← hgr] at h1
        have h3 := hGs
        rw [← hgr] at h3
        constructor
        · omega
        · rw [hW]; exact h1)
      have HW := Lib.hid hW
      have HB := Lib.hid (ext_trans hB0 hB)
      have hcell : ∀ k, k < l.length → W.cell? ⟨gr, k, none⟩ = some (.bool (R.testBit k)) := fun k hk => own_getB hor hk
      have HC := Lib.hid hcell
      have hgg : g0 ≠ gr ∧ gr < W.heap.size := HGR.out
      have HGG := Lib.hid hgg
      clear hW hgr hB hor hcell hgg
      go_wp2
      go_loopw [5, 7] (fun ov kv wr => ∃ k : Nat, k ≤ l.length ∧ kv = .int .i64 k ∧ OwnA w.heap.size 3 1 ilEnc wr ov (mbOf R k) ∧ ov.ownBlock ≠ some gr ∧ (∀ k, k < l.length → wr.cell? ⟨gr, k, none⟩ = some (.bool (R.testBit k))) ∧ gr < wr.heap.size ∧ Below w.heap.size w wr) (fun _ kv _ => l.length - (intOf kv).toNat)
      case atStart =>
        refine ⟨0, Nat.zero_le _, rfl, ?_, ?_, ?_, ?_, ?_⟩
        · rw [← HW.out, ← HG0.out]; exact hO0
        · rw [← HG0.out]; simp only [Value.ownBlock]; intro e; exact HGG.out.1 (Option.some.inj e)
        · rw [← HW.out]; exact HC.out
        · rw [← HW.out]; exact HGG.out.2
        · rw [← HW.out]; exact HB.out
      case round =>
        obtain ⟨k, hk, rfl, hO, hne, hC, hgl, hB⟩ := hrel
        have hlk := mbOf_len R k
        by_cases hkl : k < l.length
        · have hcell := hC k hkl
          have HS := Lib.hid (mbOf_succ R k)
          cases g : R.testBit k
          · rw [g] at hcell
            have HGB := Lib.hid g
            have HNE := Lib.hid hne
            have HCC := Lib.hid hC
            clear g hne hC
            go_wp2
            go_roundw
            case rel => exact ⟨k + 1, by omega, by go_num, hO.eq (by rw [HS.out, if_neg (by rw [HGB.out]; simp)]), HNE.out, HCC.out, hgl, hB⟩
            case measure => simp [intOf]; omega
          · rw [g] at hcell
            have HGB := Lib.hid g
            have HNE := Lib.hid hne
            have HCC := Lib.hid hC
            clear g hne hC
            go_wp2_with (at_builtin; go_must (refine wpList_push_at (enc := ilEnc) ((k : Int)) rfl (.tmp 34) (.tmp 36) 24 3 _ 1 8 rfl Try.underlying24 Try.infoInt rfl (by decide) (fun _ => rfl) ilEnc_one rfl (hO.below (by (repeat (first | exact Below.refl _ _ | refine ext_alloc ?_ _ | refine Below.setCell ?_ (by simp) _)))) rfl (heap_alloc_at (by simp)) (by rfl) (by omega) (by omega) (Nat.le_trans hB.size (show Below _ _ _ by (repeat (first | exact Below.refl _ _ | refine ext_alloc ?_ _ | refine Below.setCell ?_ (by simp) _))).size) ?_); intro v_ wq ho_ hb_ hg_ ha_)
            have HC2 : ∀ k, k < l.length → wq.cell? ⟨gr, k, none⟩ = some (.bool (R.testBit k)) := fun k hk => hg_.cell (below_cell (by (repeat (first | exact Below.refl _ _ | refine ext_alloc ?_ _ | refine Below.setCell ?_ (by simp) _))) (HCC.out k hk)) (Ne.symm HNE.out)
            have HN2 : v_.ownBlock ≠ some gr := fun e => by
              rcases ha_ with h | h
              · exact HNE.out (h ▸ e)
              · rw [h] at e; simp at e; omega
            have HL2 : gr < wq.heap.size := Nat.lt_of_lt_of_le hgl (Nat.le_trans (show Below _ _ _ by (repeat (first | exact Below.refl _ _ | refine ext_alloc ?_ _ | refine Below.setCell ?_ (by simp) _))).size hg_.size)
            replace hB := (ext_trans hB (by (repeat (first | exact Below.refl _ _ | refine ext_alloc ?_ _ | refine Below.setCell ?_ (by simp) _)))).trans hb_
            clear hg_ ha_ hb_ hO hcell hgl
            have HC3 := Lib.hid HC2
            have HN3 := Lib.hid HN2
            clear HC2 HN2
            go_wp2
            go_roundw
            case rel => exact ⟨k + 1, by omega, by go_num, ho_.eq (by rw [HS.out, if_pos HGB.out]), HN3.out, HC3.out, HL2, hB⟩
            case measure => simp [intOf]; omega
        · obtain rfl : k = l.length := by omega
          go_wp2
          go_ret
          exact SlPost.of HRW.out hO hB
set_option maxRecDepth 100000 in
set_option maxHeartbeats 4000000 in
theorem specMayGive {A A1 A2 : Option Addr} {l : RoL} {list : ApL} {has : IL} {c c1 c2 : Nat} {role : Int} {w : World} (hU : roR w A l) (hw : WfRoL l) (hn : l.length ≤ 2097152) (hP : apR w A1 list) (hV : ilR w A2 has) (hm : has.length ≤ 2097152) :
    Calls Try.prog 22 #[.slice A l.length c, .slice A1 list.length c1, .slice A2 has.length c2, .int .i64 role] w fun e w' => e = .returned (.bool (mayG l list has role)) ∧ Below w.heap.size w w' := by
  have hl := hU.len
  have hl2 := hV.len
  cases g1 : roOk l
  · have HE : Hid (mayG l list has role = false) := Lib.hid (by rw [mayG, g1]; rfl)
    have HG := Lib.hid g1
    clear g1
    go_enter Try.func22, Try.ntmps22
    go_wp2_with fail
    refine (specRolesValid hU hw hn).mono ?_
    rintro e w1 ⟨rfl, hB⟩
    rw [HG.out]
    go_wp2
    go_ret
    exact ⟨ret_bool HE.out.symm, hB⟩
  · cases g2 : apOk l.length list
    · have HE : Hid (mayG l list has role = false) := Lib.hid (by rw [mayG, g2]; simp)
      have HG := Lib.hid g1
      have HG2 := Lib.hid g2
      clear g1 g2
      go_enter Try.func22, Try.ntmps22
      go_wp2_with fail
      refine (specRolesValid hU hw hn).mono ?_
      rintro e w1 ⟨rfl, hB⟩
      rw [HG.out]
      go_wp2_with fail
      refine (specApartValid (hP.below hB)).mono ?_
      rintro e w2 ⟨rfl, hB2⟩
      rw [HG2.out]
      go_wp2
      go_ret
      exact ⟨ret_bool HE.out.symm, ext_trans hB hB2⟩
    · cases g3 : inB role 0 (l.length - 1)
      · have HE : Hid (mayG l list has role = false) := Lib.hid (by rw [mayG, g3]; simp)
        have HG := Lib.hid g1
        have HG2 := Lib.hid g2
        have HG3 := Lib.hid g3
        clear g1 g2 g3
        go_enter Try.func22, Try.ntmps22
        go_wp2_with fail
        refine (specRolesValid hU hw hn).mono ?_
        rintro e w1 ⟨rfl, hB⟩
        rw [HG.out]
        go_wp2_with fail
        refine (specApartValid (hP.below hB)).mono ?_
        rintro e w2 ⟨rfl, hB2⟩
        rw [HG2.out]
        replace hB := ext_trans hB hB2
        go_wp2_with fail
        refine (l1In_any _ _ _ _).mono ?_
        rintro e w3 ⟨rfl, hB3⟩
        rw [HG3.out]
        go_wp2
        go_ret
        exact ⟨ret_bool HE.out.symm, ext_trans hB hB3⟩
      · have HE : Hid (mayG l list has role = decide ((apBroken l.length list (allOf l role has has.length)).length = 0)) := Lib.hid (by
          rw [mayG, g1, g2, g3, apBroken, g2, hasSet_all g1 g3]; rfl)
        have hal := allOf_len l role has
        have HAL := Lib.hid hal
        have HG := Lib.hid g1
        have HG2 := Lib.hid g2
        have HG3 := Lib.hid g3
        have HBL := Lib.hid (fun k hk => allOf_succ l role has (k := k) hk)
        have HRL := Lib.hid (rwOf_len l)
        have HA0 : Hid (allOf l role has 0 = rwOf l role) := Lib.hid (by simp [allOf])
        clear g1 g2 g3 hal
        go_enter Try.func22, Try.ntmps22
        go_wp2_with fail
        refine (specRolesValid hU hw hn).mono ?_
        rintro e w1 ⟨rfl, hB⟩
        rw [HG.out]
        go_wp2_with fail
        refine (specApartValid (hP.below hB)).mono ?_
        rintro e w2 ⟨rfl, hB2⟩
        rw [HG2.out]
        replace hB := ext_trans hB hB2
        go_wp2_with fail
        refine (l1In_any _ _ _ _).mono ?_
        rintro e w3 ⟨rfl, hB3⟩
        rw [HG3.out]
        replace hB := ext_trans hB hB3
        clear hB2 hB3
        go_wp2_with fail
        refine (specRolesWith (hU.below hB) hw hn).mono ?_
        rintro e w4 ⟨A4, c4, rfl, ho4, hB4⟩
        have hO : OwnA w.heap.size 3 1 ilEnc w4 (.slice A4 (rwOf l role).length c4) (rwOf l role) := (OwnA.of ho4).lower hB.size
        replace hB := ext_trans hB hB4
        clear ho4 hB4
        obtain ⟨W, hW⟩ : ∃ W, W = w4 := ⟨_, rfl⟩
        rw [← hW] at hB hO
        have HW := Lib.hid hW
        have HB := Lib.hid hB
        have HO := Lib.hid hO
        clear hW hB hO
        go_wp2
        go_loopw [9, 10] (fun ov kv wr => ∃ k : Nat, k ≤ has.length ∧ kv = .int .i64 k ∧ OwnA w.heap.size 3 1 ilEnc wr ov (allOf l role has k) ∧ Below w.heap.size w wr) (fun _ kv _ => has.length - (intOf kv).toNat)
        case atStart => exact ⟨0, Nat.zero_le _, rfl, by rw [HA0.out, ← HW.out]; exact HO.out, by rw [← HW.out]; exact HB.out⟩
        case round =>
          obtain ⟨k, hk, rfl, hO, hB⟩ := hrel
          have hlk := HAL.out k hk
          by_cases hkl : k < has.length
          · have hV2 := hV.below hB
            obtain ⟨b, off, rfl, hc⟩ := hV2.cells (by omega)
            have m0 := hc k hkl
            clear hc
            have hr5 := HRL.out (il0 has k)
            have hs2 := HBL.out k hkl
            obtain ⟨L2, hL2⟩ : ∃ x, rwOf l (il0 has k) = x := ⟨_, rfl⟩
            obtain ⟨L1, hL1⟩ : ∃ x, allOf l role has k = x := ⟨_, rfl⟩
            rw [hL2] at hr5
            rw [hL1] at hlk hO
            rw [hL1, hL2] at hs2
            have HS := Lib.hid hs2
            have HL2 := Lib.hid hL2
            clear hs2 hL1 hL2
            go_wp2_with fail
            refine (specRolesWith (hU.below hB) hw hn).mono ?_
            rintro e w5 ⟨A5, c5, rfl, ho5, hB5⟩
            rw [HL2.out] at ho5 ⊢
            have hX : ilR w5 A5 L2 := ilR.own rfl (by omega) ho5
            replace hB := ext_trans hB hB5
            replace hO := hO.below hB5
            clear ho5 hB5 m0
            go_wp2_with (at_builtin; (refine wpList_pushes (enc := ilEnc) rfl (.tmp 38) (.tmp 44) 24 3 _ 1 8 rfl Try.underlying24 Try.infoInt rfl (by decide) (fun _ => rfl) ilEnc_one hO rfl hX (by omega) (by omega) hB.size ?_); intro v_ wq9 ho_ hb_ hg_)
            replace hB := hB.trans hb_
            replace hO := ho_
            clear ho_ hb_ hg_
            go_wp2
            go_roundw
            case rel => exact ⟨k + 1, by omega, by go_num, hO.eq HS.out.symm, hB⟩
            case measure => simp [intOf]; omega
          · obtain rfl : k = has.length := by omega
            obtain ⟨A6, c6, rfl, ho6⟩ := hO
            have hX := RdL.of_own (enc := ilEnc) (fun _ => rfl) rfl (by omega) ho6
            go_wp2_with fail
            refine (specBrokenRules (hP.below hB) hX).mono ?_
            rintro e w7 ⟨A7, c7, rfl, ho7, hB7⟩
            replace hB := ext_trans hB hB7
            clear ho7
            generalize (apBroken l.length list (allOf l role has has.length)).length = z at HE ⊢
            go_wp2
            go_ret
            exact ⟨ret_bool (by rw [HE.out]; rw [Bool.eq_iff_iff]; simp), hB⟩
end Go.Proofs.Ytbimcababidjgaa

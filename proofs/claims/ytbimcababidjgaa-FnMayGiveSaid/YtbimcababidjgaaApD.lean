/- Rules on roles: those that someone breaks. -/
import Derived.Test.YtbimcababidjgaaApC
namespace Go.Proofs.Ytbimcababidjgaa
set_option linter.unusedSimpArgs false
set_option linter.unusedVariables false
open Go.RowKit

theorem hasSet_take (many : Int) (has : IL) {k : Nat} (hk : k < has.length) : hasSet many (has.take (k + 1)) = if inB (il0 has k) 0 (many - 1) = true then hasSet many (has.take k) ||| 2 ^ (il0 has k).toNat else hasSet many (has.take k) := by
  unfold hasSet
  rw [List.take_succ_eq_append_getElem hk, List.filter_append, il_get hk]
  cases h : inB has[k] 0 (many - 1) <;> simp [List.filter_cons, h, setOf_snoc]
set_option maxRecDepth 100000 in
set_option maxHeartbeats 4000000 in
theorem implBrokenRules {A A2 : Option Addr} {l : ApL} {has : IL} {c c2 : Nat} {many : Int} {w : World} (hU : apR w A l) (hV : ilR w A2 has) :
    Calls Try.prog 8 #[.int .i64 many, .slice A l.length c, .slice A2 has.length c2] w (SlPost 3 1 ilEnc w (apBroken many l has)) := by
  have hl2 := hV.len
  cases hok : apOk many l
  · have HK := Lib.hid hok
    clear hok
    have HE : Hid (apBroken many l has = []) := Lib.hid (by rw [apBroken, HK.out]; rfl)
    go_enter Try.func8, Try.ntmps8
    go_wp2_with fail
    refine (implApartValid hU).mono ?_
    rintro e w1 ⟨rfl, hB⟩
    rw [HK.out]
    go_wp2
    go_ret
    exact SlPost.of HE.out OwnA.nil hB
  · have HK := Lib.hid hok
    obtain ⟨⟨hm0, hm1⟩, _, _⟩ := apOk_good hok
    have HE : Hid (apBroken many l has = apBrk (hasSet many has) l l.length) := Lib.hid (by rw [apBroken, hok]; rfl)
    clear hok
    go_enter Try.func8, Try.ntmps8
    go_wp2_with fail
    refine (implApartValid hU).mono ?_
    rintro e w1 ⟨rfl, hB⟩
    rw [HK.out]
    replace hU := hU.below hB
    replace hV := hV.below hB
    obtain ⟨W, hW⟩ : ∃ W, W = w1 := ⟨_, rfl⟩
    rw [← hW] at hU hV hB
    have HW := Lib.hid hW
    have HB := Lib.hid hB
    clear hW hB
    go_wp2
    go_loopw [7, 16] (fun sv iv wr => ∃ (k s : Nat), k ≤ has.length ∧ iv = .int .i64 k ∧ sv = .int .i64 (s : Int) ∧ Hid (s = hasSet many (has.take k)) ∧ s < 256 ∧ Below W.heap.size W wr) (fun _ iv _ => has.length - (intOf iv).toNat)
    case atStart => exact ⟨0, 0, Nat.zero_le _, rfl, rfl, Lib.hid rfl, by omega, by rw [HW.out]; exact Below.refl _ _⟩
    case round =>
      obtain ⟨k, s, hk, rfl, rfl, HS, hs, hC⟩ := hrel
      by_cases hlt : k < has.length
      · have HT := Lib.hid (hasSet_take many has hlt)
        obtain ⟨b, off, rfl, hc⟩ := hV.cells (by omega)
        have m0 := below_cell hC (hc k hlt)
        clear hc
        cases g : inB (il0 has k) 0 (many - 1)
        · have HG := Lib.hid g
          clear g
          go_wp2_with fail
          refine (in_any _ _ _ _).mono ?_
          rintro e w2 ⟨rfl, hB2⟩
          rw [HG.out]
          replace hC := ext_trans hC hB2
          go_wp2
          go_roundw
          case rel => exact ⟨k + 1, s, by omega, by go_num, rfl, Lib.hid (by rw [HT.out, if_neg (by rw [HG.out]; simp)]; exact HS.out), hs, hC⟩
          case measure => simp [intOf]; omega
        · obtain ⟨n0, n1⟩ := inB_true.1 g
          have HG := Lib.hid g
          clear g
          obtain ⟨n, hn⟩ : ∃ n : Nat, il0 has k = n := ⟨(il0 has k).toNat, by omega⟩
          have hn8 : n < 8 := by omega
          have HN := Lib.hid hn
          have HI : Hid (inB (n : Int) 0 (many - 1) = true) := Lib.hid (by rw [← hn]; exact HG.out)
          rw [hn] at m0
          clear hn n0 n1
          have ho := or_lt hs (two_lt hn8)
          have hneg : ¬ (n : Int) < 0 := by omega
          have HBS := Lib.hid (bits_set hs hn8)
          go_wp2_with fail
          refine (in_any _ _ _ _).mono ?_
          rintro e w2 ⟨rfl, hB2⟩
          rw [HI.out]
          replace hC := ext_trans hC hB2
          go_wp2
          go_roundw
          case rel => exact ⟨k + 1, s ||| 2 ^ n, by omega, by go_num, by rw [HBS.out], Lib.hid (by rw [HT.out, if_pos (by rw [HG.out]), HS.out, HN.out]; rfl), ho, hC⟩
          case measure => simp [intOf]; omega
      · obtain rfl : k = has.length := by omega
        go_wp2_with fail
        refine (broken_any (hU.below hC) HK.out hs).mono ?_
        rintro e w2 ⟨A3, c3, rfl, ho, hB2⟩
        go_wp2
        go_ret
        have e : s = hasSet many has := by rw [HS.out, List.take_length]
        subst e
        exact SlPost.of HE.out ((OwnA.of ho).lower (by have := hC.size; have := HB.out.size; omega)) (ext_trans (ext_trans HB.out hC) hB2)
set_option maxHeartbeats 1000000 in
theorem has_any {A : Option Addr} {l : IL} {c : Nat} {n : Int} {w : World} (hU : ilR w A l) :
    Calls Try.prog 35 #[.slice A l.length c, .int .i64 n] w fun e w' => e = .returned (.bool (decide (n ∈ l))) ∧ Below w.heap.size w w' := by
  have hl := hU.len
  go_enter Try.func35, Try.ntmps35
  go_wp2
  go_loopw [5] (fun i wr => ∃ k : Nat, k ≤ l.length ∧ i = .int .i64 k ∧ Hid (n ∉ l.take k) ∧ Below w.heap.size w wr) (fun i _ => l.length - (intOf i).toNat)
  case atStart => exact ⟨0, Nat.zero_le _, rfl, Lib.hid (by simp), Below.refl _ _⟩
  case round =>
    obtain ⟨k, hk, rfl, HN, hB⟩ := hrel
    by_cases hlt : k < l.length
    · obtain ⟨b, off, rfl, hc⟩ := hU.cells (by omega)
      have m0 := below_cell hB (hc k hlt)
      clear hc
      have HM : Hid (il0 l k ∈ l) := Lib.hid (by rw [il_get hlt]; exact List.getElem_mem _)
      have HT : Hid (l.take (k + 1) = l.take k ++ [il0 l k]) := Lib.hid (by rw [List.take_succ_eq_append_getElem hlt, il_get hlt])
      by_cases g : il0 l k = n
      · have g1 : (il0 l k == n) = true := by simp [g]
        have HG := Lib.hid g
        clear g
        go_wp2
        go_ret
        exact ⟨ret_bool (by rw [eq_comm, decide_eq_true_eq, ← HG.out]; exact HM.out), hB⟩
      · have g1 : (il0 l k == n) = false := by simp [g]
        have HG := Lib.hid g
        clear g
        go_wp2
        go_roundw
        case rel => exact ⟨k + 1, by omega, by go_num, Lib.hid (by rw [HT.out, List.mem_append]; rintro (h | h); exact HN.out h; exact HG.out (List.mem_singleton.1 h).symm), hB⟩
        case measure => simp [intOf]; omega
    · obtain rfl : k = l.length := by omega
      go_wp2
      go_ret
      exact ⟨ret_bool (by rw [eq_comm, decide_eq_false_iff_not]; have := HN.out; rwa [List.take_length] at this), hB⟩
theorem cnt_in {many : Int} {has roles : IL} {j : Nat} (hj : j < roles.length) (h : 0 ≤ il0 roles j ∧ il0 roles j ≤ many - 1) : cnt (hasSet many has) (roles.take (j + 1)) = if decide (il0 roles j ∈ has) = true then cnt (hasSet many has) (roles.take j) + 1 else cnt (hasSet many has) (roles.take j) := by
  rw [cnt_take _ _ hj, hasSet_bit has h.1 h.2]
  cases decide (il0 roles j ∈ has) <;> simp
theorem cnt_le (S : Nat) (l : IL) (k : Nat) : cnt S (l.take k) ≤ k := Nat.le_trans (List.length_filter_le _ _) (by simp; omega)
set_option maxRecDepth 100000 in
set_option maxHeartbeats 4000000 in
theorem specBrokenRules {A A2 : Option Addr} {l : ApL} {has : IL} {c c2 : Nat} {many : Int} {w : World} (hU : apR w A l) (hV : ilR w A2 has) :
    Calls Try.prog 10 #[.int .i64 many, .slice A l.length c, .slice A2 has.length c2] w (SlPost 3 1 ilEnc w (apBroken many l has)) := by
  have hl := hU.len
  obtain ⟨S, hS⟩ : ∃ S, S = hasSet many has := ⟨_, rfl⟩
  have HS := Lib.hid hS
  have HEMP : Hid (apBrk S l 0 = []) := Lib.hid rfl
  clear hS
  go_enter Try.func10, Try.ntmps10
  go_wp2
  go_loopw [7, 8] (fun ov i wr => ∃ k : Nat, k ≤ l.length ∧ i = .int .i64 k ∧ OwnA w.heap.size 3 1 ilEnc wr ov (apBrk S l k) ∧ Hid (k = 0 ∨ apOk many l = true) ∧ Below w.heap.size w wr) (fun _ i _ => l.length - (intOf i).toNat)
  case atStart => exact ⟨0, Nat.zero_le _, rfl, OwnA.empty (Nat.le_refl _), Lib.hid (.inl rfl), below_alloc _ _⟩
  case round =>
    obtain ⟨k, hk, rfl, hO, HK0, hB⟩ := hrel
    have hlk := apBrk_len S l k
    by_cases hlt : k < l.length
    · cases hok : apOk many l
      · have HK := Lib.hid hok
        clear hok
        go_wp2_with fail
        refine (specApartValid (hU.below hB)).mono ?_
        rintro e w1 ⟨rfl, hb⟩
        rw [HK.out]
        replace hO := hO.below hb
        replace hB := ext_trans hB hb
        go_wp2
        go_ret
        have h0 : k = 0 := HK0.out.resolve_right (by rw [HK.out]; simp)
        subst h0
        exact SlPost.of (by rw [apBroken, HK.out, HEMP.out]; rfl) hO hB
      · obtain ⟨⟨hm0, hm1⟩, h5, hgood⟩ := apOk_good hok
        have hg := hgood k hlt
        obtain ⟨ha, hr, hq0, hq1⟩ := apGood_at hg hm1
        have HR := Lib.hid hr
        have HK := Lib.hid hok
        have HH : Hid (apHit S (apAt l k) = decide (ap1 l k < (cnt S (ap0 l k) : Int))) := Lib.hid rfl
        have HSU := Lib.hid (apBrk_succ S l k)
        clear hok hgood hg ha hr
        go_wp2_with fail
        refine (specApartValid (hU.below hB)).mono ?_
        rintro e w1 ⟨rfl, hb⟩
        rw [HK.out]
        replace hO := hO.below hb
        replace hB := ext_trans hB hb
        clear hb
        obtain ⟨b, off, rfl, hc⟩ := apR.cells hU (by omega)
        obtain ⟨A', c', hfd, c0, c1⟩ := hc k hlt
        replace c0 := below_cell hB c0
        replace c1 := below_cell hB c1
        replace hfd := hfd.below hB
        replace hV := hV.below hB
        have hll := hfd.len
        clear hc
        obtain ⟨wo, hwo⟩ : ∃ wo : World, wo = w1 := ⟨_, rfl⟩
        rw [← hwo] at hO hB c0 c1 hfd hV
        have HWO := Lib.hid hwo
        clear hwo
        go_wp2
        rw [← HWO.out]
        go_loopw [9, 10] (fun nv j wr => ∃ (i n : Nat), i ≤ (ap0 l k).length ∧ j = .int .i64 i ∧ nv = .int .i64 (n : Int) ∧ Hid (n = cnt S ((ap0 l k).take i)) ∧ n ≤ i ∧ Below wo.heap.size wo wr) (fun _ j _ => (ap0 l k).length - (intOf j).toNat)
        case atStart => exact ⟨0, 0, Nat.zero_le _, rfl, rfl, Lib.hid (by simp [cnt]), by omega, Below.refl _ _⟩
        case round =>
          rename_i wj
          obtain ⟨i, n, hi, rfl, rfl, HN, hn, hC⟩ := hrel
          have d0 := below_cell hC c0
          have d1 := below_cell hC c1
          by_cases hlt2 : i < (ap0 l k).length
          · have HT := Lib.hid (cnt_in (has := has) hlt2 (HR.out i hlt2))
            rw [← HS.out] at HT
            obtain ⟨b2, off2, rfl, hc2⟩ := hfd.cells (by omega)
            have m0 := below_cell hC (hc2 i hlt2)
            clear hc2
            cases g : decide (il0 (ap0 l k) i ∈ has)
            all_goals
              have HG := Lib.hid g
              clear g
              go_wp2_with fail
              refine (has_any (hV.below hC)).mono ?_
              rintro e w2 ⟨rfl, hb⟩
              rw [HG.out]
              replace hC := ext_trans hC hb
              go_wp2
            · go_roundw
              case rel => exact ⟨i + 1, n, by omega, by go_num, rfl, Lib.hid (by rw [HT.out, if_neg (by rw [HG.out]; simp)]; exact HN.out), by omega, hC⟩
              case measure => simp [intOf]; omega
            · go_roundw
              case rel => exact ⟨i + 1, n + 1, by omega, by go_num, by go_num, Lib.hid (by rw [HT.out, if_pos (by rw [HG.out]), HN.out]), by omega, hC⟩
              case measure => simp [intOf]; omega
          · obtain rfl : i = (ap0 l k).length := by omega
            have HC : Hid (n = cnt S (ap0 l k)) := Lib.hid (by have := HN.out; rwa [List.take_length] at this)
            replace hO := hO.below hC
            replace hB := ext_trans hB hC
            by_cases g : ap1 l k < (n : Int)
            · have HG := Lib.hid g
              go_wp2_with (at_builtin; go_must (refine wpList_push (enc := ilEnc) ((k : Int)) rfl (.tmp 52) (.tmp 54) 24 3 _ 1 8 rfl Try.underlying24 Try.infoInt rfl (by decide) (fun _ => rfl) ilEnc_one (hO.below (by (repeat (first | exact Below.refl _ _ | refine ext_alloc ?_ _ | refine Below.setCell ?_ (by simp) _)))) rfl (heap_alloc_at (by simp)) (by rfl) (by omega) (by omega) (Nat.le_trans hB.size (show Below _ _ _ by (repeat (first | exact Below.refl _ _ | refine ext_alloc ?_ _ | refine Below.setCell ?_ (by simp) _))).size) ?_); intro v_ wq1 ho_ hb_ hg_)
              replace hB := (ext_trans hB (by (repeat (first | exact Below.refl _ _ | refine ext_alloc ?_ _ | refine Below.setCell ?_ (by simp) _)))).trans hb_
              replace hO := ho_
              clear ho_ hb_ hg_
              go_wp2
              go_roundw
              case rel => exact ⟨k + 1, by omega, by go_num, hO.eq (by rw [HSU.out, if_pos (by rw [HH.out, decide_eq_true_eq, ← HC.out]; exact HG.out)]), Lib.hid (.inr (by first | exact HK.out | trivial)), hB⟩
              case measure => simp [intOf]; omega
            · have HG := Lib.hid g
              go_wp2
              go_roundw
              case rel => exact ⟨k + 1, by omega, by go_num, hO.eq (by rw [HSU.out, if_neg (by rw [HH.out, decide_eq_true_eq, ← HC.out]; exact HG.out)]), Lib.hid (.inr (by first | exact HK.out | trivial)), hB⟩
              case measure => simp [intOf]; omega
    · obtain rfl : k = l.length := by omega
      go_wp2
      go_ret
      refine SlPost.of ?_ hO hB
      rw [apBroken, HS.out]
      rcases HK0.out with h | h
      · rw [h]
        split <;> rfl
      · rw [if_pos h]
end Go.Proofs.Ytbimcababidjgaa

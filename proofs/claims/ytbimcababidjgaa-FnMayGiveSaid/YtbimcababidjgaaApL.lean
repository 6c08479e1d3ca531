/- FnBrokenRules, walked. -/
import Derived.Test.YtbimcababidjgaaApD
import Derived.Test.YtbimcababidjgaaApK
import Derived.Test.YtbimcababidjgaaIlS
import Derived.Test.YtbimcababidjgaaAlv
namespace Go.Proofs.Ytbimcababidjgaa
set_option linter.unusedSimpArgs false
set_option linter.unusedVariables false
open Go.RowKit

/-- How much of x is met in m, one behind the other. -/
def gr : IL → IL → Nat
  | [], _ => 0
  | _ :: _, [] => 0
  | b :: m, a :: x => if a = b then gr m x + 1 else gr m (a :: x)
theorem gr_nil (m : IL) : gr m [] = 0 := by cases m <;> rfl
theorem gr_le : ∀ (m x : IL), gr m x ≤ x.length
  | [], x => by simp [gr]
  | _ :: _, [] => by simp [gr]
  | b :: m, a :: x => by
    rw [gr]
    split
    · have := gr_le m x; simp; omega
    · exact gr_le m (a :: x)
theorem gr_sub : ∀ {m x : IL}, x.Sublist m → gr m x = x.length
  | [], x, h => by rw [List.sublist_nil.1 h]; rfl
  | b :: m, [], _ => by rfl
  | b :: m, a :: x, h => by
    rw [gr]
    split
    · rename_i e
      subst e
      rw [gr_sub (List.cons_sublist_cons.1 h)]; rfl
    · rename_i e
      refine gr_sub ?_
      cases h with
      | cons _ h => exact h
      | cons_cons _ h => exact absurd rfl e
theorem gr_snoc (b : Int) : ∀ (m x : IL), gr (m ++ [b]) x = if gr m x < x.length ∧ il0 x (gr m x) = b then gr m x + 1 else gr m x
  | [], [] => by simp [gr]
  | [], a :: x => by
    show (if a = b then gr [] x + 1 else gr [] (a :: x)) = _
    have h0 : gr [] (a :: x) = 0 := rfl
    have h1 : gr [] x = 0 := by cases x <;> rfl
    have h2 : il0 (a :: x) (gr [] (a :: x)) = a := by rw [h0]; simp [il0]
    by_cases e : a = b
    · rw [if_pos e, if_pos ⟨by rw [h0]; simp, by rw [h2]; exact e⟩, h0, h1]
    · rw [if_neg e, if_neg (fun h => e (by rw [← h2]; exact h.2))]
  | c :: m, [] => by simp [gr]
  | c :: m, a :: x => by
    have ih1 := gr_snoc b m x
    have ih2 := gr_snoc b m (a :: x)
    have h1 : gr ((c :: m) ++ [b]) (a :: x) = if a = c then gr (m ++ [b]) x + 1 else gr (m ++ [b]) (a :: x) := rfl
    have h2 : gr (c :: m) (a :: x) = if a = c then gr m x + 1 else gr m (a :: x) := rfl
    by_cases e : a = c
    · rw [if_pos e] at h1 h2
      rw [h1, h2, ih1]
      have e2 : il0 (a :: x) (gr m x + 1) = il0 x (gr m x) := by simp [il0]
      by_cases g : gr m x < x.length ∧ il0 x (gr m x) = b
      · rw [if_pos g, if_pos ⟨by simp; exact g.1, by rw [e2]; exact g.2⟩]
      · rw [if_neg g, if_neg (fun h => g ⟨by simpa using h.1, by rw [← e2]; exact h.2⟩)]
    · rw [if_neg e] at h1 h2
      rw [h1, h2, ih2]
theorem gr_take (m x : IL) {k : Nat} (hk : k < m.length) : gr (m.take (k + 1)) x = if gr (m.take k) x < x.length ∧ il0 x (gr (m.take k) x) = il0 m k then gr (m.take k) x + 1 else gr (m.take k) x := by
  rw [List.take_succ_eq_append_getElem hk, gr_snoc, il_get hk]
theorem cnt_zero (l : IL) : cnt 0 l = 0 := by simp [cnt]
theorem cnt_mono {S S' : Nat} {l : IL} (h : ∀ n ∈ l, S.testBit n.toNat = true → S'.testBit n.toNat = true) : cnt S l ≤ cnt S' l := by
  unfold cnt
  induction l with
  | nil => simp
  | cons a l ih =>
    have h1 := ih (fun n hn => h n (by simp [hn]))
    have h2 := h a (by simp)
    simp only [List.filter_cons]
    cases hs : S.testBit a.toNat
    · cases S'.testBit a.toNat <;> simp <;> omega
    · rw [h2 hs]; simp; omega
theorem apBroken_nil (many : Int) (l : ApL) : apBroken many l [] = [] := by
  unfold apBroken
  split
  · rename_i h
    obtain ⟨⟨_, hm⟩, _, hg⟩ := apOk_good h
    unfold apBrk
    rw [List.map_eq_nil_iff, List.filter_eq_nil_iff]
    intro k hk hh
    have := (apGood_bounds (hg k (by simpa using hk)) hm).2.2
    simp only [apHit, show hasSet many [] = 0 from rfl, cnt_zero, decide_eq_true_eq] at hh
    omega
  · rfl
theorem hasSet_sub {many : Int} {has has' : IL} (h : ∀ n ∈ has, n ∈ has') (i : Nat) (hi : (hasSet many has).testBit i = true) : (hasSet many has').testBit i = true := by
  rw [hasSet, setOf_testBit, List.any_eq_true] at hi ⊢
  obtain ⟨n, hn, he⟩ := hi
  obtain ⟨h1, h2⟩ := List.mem_filter.1 hn
  exact ⟨n, List.mem_filter.2 ⟨h n h1, h2⟩, he⟩
theorem apBrk_sub {S S' : Nat} (l : ApL) (h : ∀ i, S.testBit i = true → S'.testBit i = true) (k : Nat) : (apBrk S l k).Sublist (apBrk S' l k) := by
  unfold apBrk
  refine List.Sublist.map _ ?_
  have e : (List.range k).filter (fun i => apHit S (apAt l i)) = ((List.range k).filter (fun i => apHit S' (apAt l i))).filter (fun i => apHit S (apAt l i)) := by
    rw [List.filter_filter]
    refine List.filter_congr (fun i _ => ?_)
    cases hh : apHit S (apAt l i)
    · simp
    · have : apHit S' (apAt l i) = true := by
        simp only [apHit, decide_eq_true_eq] at hh ⊢
        have := cnt_mono (S := S) (S' := S') (l := apf0 (apAt l i)) (fun n _ => h _)
        omega
      simp [this]
  rw [e]
  exact List.filter_sublist
theorem apBroken_sub {many : Int} (l : ApL) {has has' : IL} (h : ∀ n ∈ has, n ∈ has') : (apBroken many l has).Sublist (apBroken many l has') := by
  unfold apBroken
  split
  · exact apBrk_sub l (hasSet_sub h) _
  · exact List.Sublist.refl _
theorem apBroken_len (many : Int) (l : ApL) (has : IL) : (apBroken many l has).length ≤ l.length := by
  unfold apBroken
  split
  · exact apBrk_len _ _ _
  · simp
theorem implBrokenRules_v {A A2 : Option Addr} {l : ApL} {has r : IL} {c c2 n : Nat} {many : Int} {w : World} (hr : apBroken many l has = r) (hn : has.length = n) (hU : apR w A l) (hV : ilR w A2 has) :
    Calls Try.prog 8 #[.int .i64 many, .slice A l.length c, .slice A2 n c2] w (SlPost 3 1 ilEnc w r) := by
  subst hr; subst hn; exact implBrokenRules hU hV
theorem specBrokenRules_v {A A2 : Option Addr} {l : ApL} {has r : IL} {c c2 n : Nat} {many : Int} {w : World} (hr : apBroken many l has = r) (hn : has.length = n) (hU : apR w A l) (hV : ilR w A2 has) :
    Calls Try.prog 10 #[.int .i64 many, .slice A l.length c, .slice A2 n c2] w (SlPost 3 1 ilEnc w r) := by
  subst hr; subst hn; exact specBrokenRules hU hV
set_option maxRecDepth 100000 in
set_option maxHeartbeats 8000000 in
theorem lawBrokenRules {A : Option Addr} {l : List Int} {c : Nat} {w : World} (hC : CodeR w w.heap.size A l) (hc : l.length ≤ c) :
    Calls Try.prog 3 #[.slice A l.length c] w fun e w' => e = .returned (.bool true) ∧ Below w.heap.size w w' := by
  by_cases h : (1048576 : Int) < l.length
  · go_enter Try.func3, Try.ntmps3
    go_wp2
    go_ret
    exact ⟨rfl, Below.refl _ _⟩
  · go_enter Try.func3, Try.ntmps3
    go_wp2_with fail
    refine (DrawBrokenRules_d hC hc).mono ?_
    rintro e w1 ⟨many, us, has, A1, A2, c1, c2, rfl, hn5, hn5', hU, hV, hB⟩
    obtain ⟨r, hr⟩ : ∃ r, apBroken many us has = r := ⟨_, rfl⟩
    obtain ⟨has2, hh2⟩ : ∃ x : IL, x = [] ++ has ++ [0, 1] := ⟨_, rfl⟩
    obtain ⟨r2, hr2⟩ : ∃ r, apBroken many us has2 = r := ⟨_, rfl⟩
    have hrl := apBroken_len many us has
    have hrl2 := apBroken_len many us has2
    have hsub := apBroken_sub (many := many) us (has := has) (has' := has2) (fun n hn => by rw [hh2]; simp [hn])
    rw [hr] at hrl hsub
    rw [hr2] at hrl2 hsub
    have HR := Lib.hid hr
    have HR2 := Lib.hid hr2
    have HH2 := Lib.hid hh2
    have HL2 : Hid (has2.length = has.length + 2) := Lib.hid (by rw [hh2]; simp)
    have HSUB := Lib.hid hsub
    clear hr hr2 hh2 hsub
    go_wp2_with fail
    refine (implBrokenRules_v HR.out rfl hU hV).mono ?_
    rintro e w2 ⟨A3, c3, rfl, ho3, hb⟩
    replace hB := ext_trans hB hb
    replace hU := hU.below hb
    replace hV := hV.below hb
    clear hb
    go_wp2_with fail
    refine (specBrokenRules_v HR.out rfl hU hV).mono ?_
    rintro e w3 ⟨A4, c4, rfl, ho4, hb⟩
    replace hB := ext_trans hB hb
    replace hU := hU.below hb
    replace hV := hV.below hb
    have hX : ilR w3 A3 r := ilR.own rfl (by omega) (own_below ho3 hb)
    have hY : ilR w3 A4 r := ilR.own rfl (by omega) ho4
    clear hb ho3 ho4
    go_wp2_with fail
    refine (sameInts_any hX hY).mono ?_
    rintro e w4 ⟨rfl, hBc⟩
    replace hB := ext_trans hB hBc
    replace hU := hU.below hBc
    replace hV := hV.below hBc
    replace hX := hX.below hBc
    clear hBc
    rw [sameB_self]
    clear hY
    have hO0 : OwnA w4.heap.size 3 1 ilEnc (w4.alloc (.cells #[] 3)) (.slice (some ⟨w4.heap.size, 0, Option.none⟩) 0 0) ([] : IL) := OwnA.empty (Nat.le_refl _)
    obtain ⟨W, hW⟩ : ∃ W, W = w4 := ⟨_, rfl⟩
    rw [← hW] at hO0 hB hU hV hX ⊢
    have HW := Lib.hid hW
    clear hW
    go_wp2_with (first | (at_builtin; (refine wpList_pushes (enc := ilEnc) rfl (.tmp 32) (.tmp 33) 24 3 _ 1 8 rfl Try.underlying24 Try.infoInt rfl (by decide) (fun _ => rfl) ilEnc_one (hO0.below (by (repeat (first | exact Below.refl _ _ | refine ext_alloc ?_ _ | refine Below.setCell ?_ (by simp) _)))) rfl (ilR.below hV (by (repeat (first | exact Below.refl _ _ | refine ext_alloc ?_ _ | refine Below.setCell ?_ (by simp) _)))) (by simp; omega) (by simp; omega) (by simp) ?_); intro v5 w5 hO5 hB5 hG5; replace hB5 : Below W.heap.size W w5 := (below_alloc W (.cells #[] 3)).trans hB5; clear hO0 hG5) | (at_builtin; (refine wpList_pushes (enc := ilEnc) (l2 := [0, 1]) rfl (.tmp 34) (.tmp 35) 24 3 _ 1 8 rfl Try.underlying24 Try.infoInt rfl (by decide) (fun _ => rfl) ilEnc_one (hO5.below (by (repeat (first | exact Below.refl _ _ | refine ext_alloc ?_ _ | refine Below.setCell ?_ (by simp) _)))) rfl (rd_block (fun _ => rfl) (heap_alloc_new _ _) rfl) (by simp; omega) (by simp; omega) (by simp; have := hB5.size; omega) ?_); intro v6 w6 hO6 hB6 hG6))
    replace hB6 : Below W.heap.size W w6 := hB5.trans (((below_alloc w5 _).mono hB5.size).trans hB6)
    obtain ⟨A6, c6, rfl, ho6⟩ := hO6
    have hV2 : ilR w6 A6 has2 := ilR.own (by rw [HH2.out]) (by simp; omega) (by rw [HH2.out]; exact ho6)
    have HN2 : Hid (has2.length = ([] ++ has ++ [0, 1]).length) := Lib.hid (by rw [HH2.out])
    clear ho6 hG6 hB5 hO5
    go_wp2_with fail
    refine (implBrokenRules_v HR2.out HN2.out (hU.below hB6) hV2).mono ?_
    rintro e w7 ⟨A7, c7, rfl, ho7, hb7⟩
    have hR2 : ilR w7 A7 r2 := ilR.own rfl (by omega) ho7
    replace hB := ext_trans (ext_trans hB hB6) hb7
    replace hU := (hU.below hB6).below hb7
    replace hX := (hX.below hB6).below hb7
    clear hV2 hV hb7 hB6 ho7
    obtain ⟨wo, hwo⟩ : ∃ wo : World, wo = w7 := ⟨_, rfl⟩
    rw [← hwo] at hB hU hX hR2
    have HWO := Lib.hid hwo
    clear hwo
    have hrl2' : r2.length ≤ 5 := by omega
    have hrl' : r.length ≤ 5 := by omega
    go_wp2
    rw [← HWO.out]
    go_loopw [8, 9] (fun av i wr => ∃ k n : Nat, k ≤ r2.length ∧ i = .int .i64 k ∧ av = .int .i64 n ∧ Hid (n = gr (r2.take k) r) ∧ n ≤ r.length ∧ Below wo.heap.size wo wr) (fun _ i _ => r2.length - (intOf i).toNat)
    case atStart => exact ⟨0, 0, Nat.zero_le _, rfl, rfl, Lib.hid rfl, Nat.zero_le _, Below.refl _ _⟩
    case round =>
      rename_i wr
      obtain ⟨k, n, hk, rfl, rfl, HN, hn, hD⟩ := hrel
      by_cases hlt : k < r2.length
      · have HT := Lib.hid (gr_take r2 r hlt)
        obtain ⟨b7, o7, rfl, hc7⟩ := hR2.cells (by omega)
        have m0 := cell_regrown (below_cell hD (hc7 k hlt))
        clear hc7
        by_cases hnr : n < r.length
        · obtain ⟨b3, o3, rfl, hc3⟩ := hX.cells (by omega)
          have m1 := cell_regrown (below_cell hD (hc3 n hnr))
          clear hc3
          by_cases g : il0 r n = il0 r2 k
          · have g2 : (il0 r n == il0 r2 k) = true := by simp [g]
            have HG := Lib.hid g
            clear g
            go_wp2
            refine wp_region_quiet_below (by kernel_rfl) (by kernel_rfl) ?_
            repeat (go_big_quiet_step (fail))
            refine wpQuiet_nil ?_
            intro w2 hw'regrown
            replace hD := ext_trans hD (below_of_regrown hw'regrown (Nat.le_refl _))
            clear hw'regrown m0 m1
            go_wp2
            go_roundw
            case rel => exact ⟨k + 1, n + 1, by omega, by go_num, by go_num, Lib.hid (by rw [HT.out, ← HN.out, if_pos ⟨hnr, HG.out⟩]), by omega, hD⟩
            case measure => simp [intOf]; omega
          · have g2 : (il0 r n == il0 r2 k) = false := by simp [g]
            have HG := Lib.hid g
            clear g
            go_wp2
            refine wp_region_quiet_below (by kernel_rfl) (by kernel_rfl) ?_
            repeat (go_big_quiet_step (fail))
            refine wpQuiet_nil ?_
            intro w2 hw'regrown
            replace hD := ext_trans hD (below_of_regrown hw'regrown (Nat.le_refl _))
            clear hw'regrown m0 m1
            go_wp2
            go_roundw
            case rel => exact ⟨k + 1, n, by omega, by go_num, rfl, Lib.hid (by rw [HT.out, ← HN.out, if_neg (fun h => HG.out h.2)]), by omega, hD⟩
            case measure => simp [intOf]; omega
        · have g3 : decide (n < r.length) = false := by simp; omega
          go_wp2
          refine wp_region_quiet_below (by kernel_rfl) (by kernel_rfl) ?_
          repeat (go_big_quiet_step (fail))
          refine wpQuiet_nil ?_
          intro w2 hw'regrown
          replace hD := ext_trans hD (below_of_regrown hw'regrown (Nat.le_refl _))
          clear hw'regrown m0
          go_wp2
          go_roundw
          case rel => exact ⟨k + 1, n, by omega, by go_num, rfl, Lib.hid (by rw [HT.out, ← HN.out, if_neg (fun h => hnr h.1)]), by omega, hD⟩
          case measure => simp [intOf]; omega
      · obtain rfl : k = r2.length := by omega
        have hnr : n = r.length := by
          have := HN.out
          rw [List.take_length, gr_sub HSUB.out] at this
          exact this
        have HNIL := Lib.hid (apBroken_nil many us)
        clear hlt hk
        subst hnr
        go_wp2_with fail
        refine (implBrokenRules_v (r := []) (has := []) HNIL.out rfl (hU.below hD) (RdL.nil _)).mono ?_
        rintro e w8 ⟨A8, c8, rfl, ho8, hb8⟩
        replace hD := ext_trans hD hb8
        go_wp2_with fail
        refine (alive_any _).mono ?_
        rintro e w9 ⟨rfl, hb9⟩
        go_wp2
        go_ret
        exact ⟨rfl, ext_trans (ext_trans hB hD) hb9⟩
end Go.Proofs.Ytbimcababidjgaa

/- Rules without those that never decide: plain. Dead rules never decide: the law, walked. -/
import Derived.Test.YtpmelhkhmichcaaDoorDeB
import Derived.Test.YtpmelhkhmichcaaDoorFrE
namespace Go.Proofs.YtpmelhkhmichcaaDoor
set_option linter.unusedSimpArgs false
set_option linter.unusedVariables false
open Go.RowKit

theorem cov_trans : ∀ (u v ws : Wd), covW u v = true → covW v ws = true → covW u ws = true
  | [], [], [], _, _ => rfl
  | [], [], _ :: _, _, h => by simp [covW] at h
  | [], _ :: _, _, h, _ => by simp [covW] at h
  | _ :: _, [], _, h, _ => by simp [covW] at h
  | _ :: _, _ :: _, [], _, h => by simp [covW] at h
  | x :: a, y :: b, z :: c, h, h2 => by
    simp only [covW, Bool.and_eq_true, decide_eq_true_eq] at h h2 ⊢
    refine ⟨?_, cov_trans a b c h.2 h2.2⟩
    rcases h.1 with e | e
    · exact .inl e
    · rcases h2.1 with e2 | e2
      · exact .inl (e.trans e2)
      · exact .inr (e.trans e2)
theorem fit_cov {path wide narrow : ByteArray} (h : pcB wide narrow = true) (hf : fitB path narrow = true) : fitB path wide = true := by
  simp only [pcB, fitB, Bool.and_eq_true] at h hf ⊢
  refine ⟨hf.1, h.1, ?_⟩
  have h1 := h.2.2
  have h2 := hf.2.2
  rw [covBy, List.any_eq_true] at h2 ⊢
  obtain ⟨v, hv, hc⟩ := h2
  rw [pcI, List.all_eq_true] at h1
  have h3 := h1 v hv
  rw [covBy, List.any_eq_true] at h3
  obtain ⟨u, hu, hd⟩ := h3
  exact ⟨u, hu, cov_trans _ _ _ hd hc⟩
/-- A dead rule is never the first one. -/
theorem dead_hit {l : RuL} {path : ByteArray} {act : Int} {k : Nat} (h : deadB l k = true) (ha : 0 ≤ act ∧ act ≤ 3) (hh : frHit l path act k = true) : ∃ j, j < k ∧ frHit l path act j = true := by
  obtain ⟨d, rfl⟩ := Int.eq_ofNat_of_zero_le ha.1
  rw [deadB, List.all_eq_true] at h
  have h1 := h d (List.mem_range.2 (by omega))
  simp only [frHit, Bool.and_eq_true] at hh
  have hb : bitB (ru1 l k) (d : Int) = true := hh.2
  rw [covA, hb, Bool.not_true, Bool.false_or, List.any_eq_true] at h1
  obtain ⟨j, hj, hc⟩ := h1
  simp only [covD, Bool.and_eq_true] at hc
  exact ⟨j, List.mem_range.1 hj, by simp only [frHit, Bool.and_eq_true]; exact ⟨fit_cov hc.2 hh.1, hc.1⟩⟩
def hitT (path : ByteArray) (act : Int) (t : ByteArray × Int × Bool) : Bool := fitB path t.1 && bitB t.2.1 act
def ruAt (l : RuL) (k : Nat) : ByteArray × Int × Bool := (ru0 l k, ru1 l k, ru2 l k)
theorem ru_range (l : RuL) : l = (List.range l.length).map (ruAt l) := by
  apply List.ext_getElem (by simp)
  intro k h1 h2
  rw [List.getElem_map, List.getElem_range]
  exact (ru_elem h1).symm
theorem ra_find {l : RuL} {path : ByteArray} {act : Int} {b : Bool} (h : RaP l path act b) (h1 : ruOk l = true) (h2 : inB act 0 3 = true) : b = ((l.find? (hitT path act)).map (fun t => t.2.2)).getD false := by
  obtain ⟨i, hi, rfl⟩ := h
  rcases hi.1 h1 h2 with ⟨rfl, h⟩ | ⟨k, rfl, hk, hp, hn⟩
  · have : l.find? (hitT path act) = none := by
      rw [List.find?_eq_none]
      intro x hx
      obtain ⟨j, hj, rfl⟩ := List.getElem_of_mem hx
      have := h j hj
      rw [← ru_elem hj]
      simp only [hitT]
      rw [frHit] at this
      rw [this]; simp
    rw [this]; rfl
  · have : l.find? (hitT path act) = some l[k] := by
      rw [List.find?_eq_some_iff_getElem]
      refine ⟨?_, k, hk, rfl, fun j hj => ?_⟩
      · rw [← ru_elem hk]; exact hp
      · have := hn j hj
        rw [← ru_elem (show j < l.length by omega)]
        rw [frHit] at this
        simp only [hitT]
        rw [this]; rfl
    rw [this, ← ru_elem hk]
    simp
/-- The rules that are left. -/
def restL (l : RuL) (n : Nat) : RuL := ((List.range n).filter (fun k => !deadB l k)).map (ruAt l)
theorem restL_succ (l : RuL) (n : Nat) : restL l (n + 1) = if deadB l n = true then restL l n else restL l n ++ [ruAt l n] := by
  rw [restL, List.range_succ, List.filter_append]
  by_cases h : deadB l n = true
  · rw [if_pos h]; simp [h, restL]
  · rw [if_neg h]; simp [h, restL]
theorem restL_len (l : RuL) (n : Nat) : (restL l n).length ≤ n := by
  rw [restL, List.length_map]
  have := List.length_filter_le (fun k => !deadB l k) (List.range n)
  simpa using this
theorem rest_mem {l : RuL} {k : Nat} (hk : k < (restL l l.length).length) : ∃ i, i < l.length ∧ ru0 (restL l l.length) k = ru0 l i ∧ ru1 (restL l l.length) k = ru1 l i ∧ ru2 (restL l l.length) k = ru2 l i := by
  have h := ru_elem hk
  have hm : (restL l l.length)[k] ∈ restL l l.length := List.getElem_mem hk
  rw [← h, restL, List.mem_map] at hm
  obtain ⟨i, hi, e⟩ := hm
  have hi2 := List.mem_range.1 (List.mem_filter.1 hi).1
  simp only [ruAt, Prod.mk.injEq] at e
  exact ⟨i, hi2, e.1.symm, e.2.1.symm, e.2.2.symm⟩
theorem rest_ok {l : RuL} (h : ruOk l = true) : ruOk (restL l l.length) = true := by
  have h0 := h
  simp only [ruOk, Bool.and_eq_true, decide_eq_true_eq] at h ⊢
  refine ⟨Nat.le_trans (restL_len _ _) h.1, fun k hk => ?_⟩
  obtain ⟨i, hi, e0, e1, _⟩ := rest_mem hk
  have := h.2 i hi
  rw [ruGood] at this ⊢
  rw [e0, e1]; exact this
theorem rest_few {l : RuL} (h : FewP l) : FewP (restL l l.length) := by
  intro k hk
  obtain ⟨i, hi, e0, _⟩ := rest_mem hk
  rw [e0]; exact h i hi
theorem rest_find {l : RuL} {path : ByteArray} {act : Int} (ha : 0 ≤ act ∧ act ≤ 3) : (restL l l.length).find? (hitT path act) = l.find? (hitT path act) := by
  have h0 : l.find? (hitT path act) = ((List.range l.length).map (ruAt l)).find? (hitT path act) := by rw [← ru_range]
  rw [h0, restL, List.find?_map, List.find?_map, List.find?_filter]
  congr 1
  have hc : (hitT path act ∘ ruAt l) = frHit l path act := rfl
  rw [hc]
  cases hf : (List.range l.length).find? (frHit l path act) with
  | none =>
    rw [List.find?_eq_none] at hf ⊢
    intro x hx
    have := hf x hx
    simp_all
  | some k =>
    rw [List.find?_range_eq_some] at hf ⊢
    obtain ⟨h1, h2, h3⟩ := hf
    have hd : deadB l k = false := by
      cases hd : deadB l k
      · rfl
      · obtain ⟨j, hj, hh⟩ := dead_hit hd ha h1
        have := h3 j hj
        rw [hh] at this; cases this
    refine ⟨by simp [hd, h1], h2, fun j hj => ?_⟩
    have := h3 j hj
    simp_all
theorem rest_same {l : RuL} {path : ByteArray} {act : Int} {b b' : Bool} (hok : ruOk l = true) (h : RaP (restL l l.length) path act b) (h' : RaP l path act b') : b = b' := by
  cases h2 : inB act 0 3
  · obtain ⟨i, hi, rfl⟩ := h
    obtain ⟨i', hi', rfl⟩ := h'
    rw [hi.2 (.inr h2), hi'.2 (.inr h2)]; rfl
  · rw [ra_find h (rest_ok hok) h2, ra_find h' hok h2, rest_find (inB_true.1 h2)]
theorem deadL_split (l : RuL) {n k : Nat} (hk : k < n) : ∃ T : List Int, deadL l n = deadL l k ++ ((if deadB l k = true then [(k : Int)] else []) ++ T) ∧ ∀ x ∈ T, (k : Int) < x := by
  refine ⟨((List.range' (k + 1) (n - k - 1)).filter (deadB l)).map (fun i : Nat => (i : Int)), ?_, ?_⟩
  · have e : List.range n = List.range k ++ (k :: List.range' (k + 1) (n - k - 1)) := by
      rw [List.range_eq_range', List.range_eq_range']
      have h1 : k :: List.range' (k + 1) (n - k - 1) = List.range' k (n - k) := by
        have : n - k = (n - k - 1) + 1 := by omega
        rw [this, List.range'_succ]
        simp
      rw [h1]
      have h2 := List.range'_append_1 (s := 0) (m := k) (n := n - k)
      rw [Nat.zero_add, Nat.add_sub_cancel' (Nat.le_of_lt hk)] at h2
      exact h2.symm
    rw [deadL, e, List.filter_append, List.map_append, List.filter_cons]
    by_cases h : deadB l k = true
    · rw [if_pos h, if_pos h]; rfl
    · rw [if_neg h, if_neg h]; rfl
  · intro x hx
    rw [List.mem_map] at hx
    obtain ⟨i, hi, rfl⟩ := hx
    have := List.mem_range'_1.1 (List.mem_filter.1 hi).1
    omega
theorem dead_at {l : RuL} {n k : Nat} (hk : k < n) (h : deadB l k = true) : (deadL l k).length < (deadL l n).length ∧ il0 (deadL l n) (deadL l k).length = k := by
  obtain ⟨T, e, _⟩ := deadL_split l hk
  rw [if_pos h] at e
  rw [e]
  constructor
  · simp
  · simp [il0]
theorem dead_not {l : RuL} {n k : Nat} (hk : k < n) (h : deadB l k = false) (hl : (deadL l k).length < (deadL l n).length) : ¬ il0 (deadL l n) (deadL l k).length = k := by
  obtain ⟨T, e, hT⟩ := deadL_split l hk
  rw [if_neg (by rw [h]; simp), List.nil_append] at e
  rw [e] at hl ⊢
  intro h1
  have hl2 : 0 < T.length := by simp at hl; exact hl
  have h2 : il0 (deadL l k ++ T) (deadL l k).length = T[0] := by
    simp [il0, List.getD_eq_getElem?_getD, List.getElem?_append_right, hl2]
  rw [h2] at h1
  have := hT _ (List.getElem_mem hl2)
  omega
theorem first_alive {l : RuL} {path : ByteArray} {act i : Int} {k : Nat} (h : FrP l path act i) (hd : deadB l k = true) : ¬ i = k := by
  intro e
  cases h1 : ruOk l
  · have := h.2 (.inl h1); omega
  · cases h2 : inB act 0 3
    · have := h.2 (.inr h2); omega
    · rcases h.1 h1 h2 with ⟨hm, _⟩ | ⟨k', hk, hkl, hp, hn⟩
      · omega
      · obtain rfl : k' = k := by omega
        obtain ⟨j, hj, hh⟩ := dead_hit hd (inB_true.1 h2) hp
        rw [hn j hj] at hh; cases hh
set_option maxHeartbeats 1000000 in
theorem sameInts_any {A A' : Option Addr} {us vs : List Int} {c c' : Nat} {w : World} (hU : ilR w A us) (hV : ilR w A' vs) :
    Calls Tryd.prog 36 #[.slice A us.length c, .slice A' vs.length c'] w fun e w' => e = .returned (.bool (sameB us vs)) ∧ Below w.heap.size w w' := by
  have hl := hU.len
  have hl' := hV.len
  by_cases hlen : us.length = vs.length
  · have HL := Lib.hid hlen
    have hlen1 : ((us.length : Int) != vs.length) = false := by simp [hlen]
    clear hlen
    go_enter Tryd.func36, Tryd.ntmps36
    go_wp2
    go_loopw [5] (fun i wr => ∃ k : Nat, k ≤ us.length ∧ i = .int .i64 k ∧ Below w.heap.size w wr ∧ (∀ j, j < k → il0 us j = il0 vs j)) (fun i _ => us.length - (intOf i).toNat)
    case atStart => exact ⟨0, Nat.zero_le _, rfl, Below.refl _ _, fun j h => by omega⟩
    case round =>
      obtain ⟨k, hk, rfl, hB, hgood⟩ := hrel
      have HG := Lib.hid hgood
      clear hgood
      by_cases hlt : k < us.length
      · have hlt' : k < vs.length := by rw [← HL.out]; exact hlt
        obtain ⟨b, off, rfl, hc⟩ := hU.cells (by omega)
        obtain ⟨b', off', rfl, hc'⟩ := hV.cells (by omega)
        have c1 := hc k hlt
        have d1 := hc' k hlt'
        have m1 := cell_regrown (below_cell hB c1)
        have n1 := cell_regrown (below_cell hB d1)
        clear c1 d1 hc hc'
        by_cases g : (il0 us k != il0 vs k) = true
        all_goals
          try simp only [Bool.not_eq_true] at g
          go_wp2
          refine wp_region_quiet_below (by kernel_rfl) (by kernel_rfl) ?_
          repeat (go_big_quiet_step (fail))
          refine wpQuiet_nil ?_
          intro w2 hw'regrown
          replace hB := ext_trans hB (below_of_regrown hw'regrown (Nat.le_refl _))
          clear hw'regrown
          go_wp2
        · go_ret
          exact ⟨ret_bool (il_differ hlt hlt' (by simpa using g)), hB⟩
        · go_roundw
          case rel => exact ⟨k + 1, by omega, by go_num, hB, all_succ HG.out (by simpa using g)⟩
          case measure => simp [intOf]; omega
      · obtain rfl : k = us.length := by omega
        go_wp2
        go_ret
        exact ⟨ret_bool (il_same HL.out HG.out), hB⟩
  · have hlen1 : ((us.length : Int) != vs.length) = true := by simp; omega
    have HL := Lib.hid hlen
    clear hlen
    go_enter Tryd.func36, Tryd.ntmps36
    go_wp2
    go_ret
    exact ⟨ret_bool (by rw [eq_comm, sameB_false]; rintro rfl; exact HL.out rfl), Below.refl _ _⟩
theorem CodeR.mono_ {w : World} {cb cb' : Nat} {A : Option Addr} {l : List Int} (h : CodeR w cb A l) (hb : cb ≤ cb') : CodeR w cb' A l :=
  ⟨h.1, fun hn => let ⟨b, off, e, hb0, hc⟩ := h.2 hn; ⟨b, off, e, Nat.lt_of_lt_of_le hb0 hb, hc⟩⟩
theorem drawDeadRules_fn : absFn (dConf Tryd.prog ruTab ruSto 0 100000 [l20RulesCon, l20PathCon]) Tryd.f34 20 (List.range 200) [.ck .code] (.pre 0) (.ck (.sl 5 0 6)) = true := by kernel_rfl
theorem DrawDeadRules_d {A : Option Addr} {l : List Int} {q : Nat} {w : World} (hC : CodeR w w.heap.size A l) (hq : l.length ≤ q) :
    Calls Tryd.prog 34 #[.slice A l.length q] w fun e w' => ∃ (us : RuL) (A1 : Option Addr) (c1 : Nat), e = .returned (.slice A1 us.length c1) ∧ us.length ≤ 6 ∧ FewP us ∧ ruR w' A1 us ∧ us.length ≤ c1 ∧ c1 ≤ 9223372036854775807 ∧ ((A1 = Option.none ∧ c1 = 0) ∨ ∃ b off, A1 = some ⟨b, off, Option.none⟩) ∧ Below w.heap.size w w' := by
  refine (draw_of (ru_good ru_cons) Tryd.func34 (by decide) drawDeadRules_fn hC hq).mono ?_
  rintro e w' ⟨v, c, rfl, _, h0, hb⟩
  obtain ⟨us, A1, c1, rfl, g1, g2, g3, g4, g5, g6⟩ := rus_of (by decide) h0
  exact ⟨us, A1, c1, rfl, g1, g2, g3, g4, g5, g6, hb⟩
set_option maxRecDepth 100000 in
set_option maxHeartbeats 8000000 in
theorem lawDeadRules {A A2 : Option Addr} {l l2 : List Int} {c c2 : Nat} {w : World} (hC : CodeR w w.heap.size A l) (hc : l.length ≤ c) (hC2 : CodeR w w.heap.size A2 l2) (hc2 : l2.length ≤ c2) :
    Calls Tryd.prog 10 #[.slice A l.length c, .slice A2 l2.length c2] w fun e w' => e = .returned (.bool true) ∧ Below w.heap.size w w' := by
  by_cases h : (1048576 : Int) < l.length
  · go_enter Tryd.func10, Tryd.ntmps10
    go_wp2
    go_ret
    exact ⟨rfl, Below.refl _ _⟩
  by_cases h2 : (1048576 : Int) < l2.length
  · go_enter Tryd.func10, Tryd.ntmps10
    go_wp2
    go_ret
    exact ⟨rfl, Below.refl _ _⟩
  go_enter Tryd.func10, Tryd.ntmps10
  go_wp2_with fail
  refine (DrawDeadRules_d hC hc).mono ?_
  rintro e w1 ⟨us, Au, cu, rfl, hn, hf, hU, hcu, hcu2, _, hB⟩
  have HF := Lib.hid hf
  clear hf
  obtain ⟨r, hr⟩ : ∃ r, r = deV us := ⟨_, rfl⟩
  have hrl : r.length ≤ us.length := by rw [hr, deV]; split; exact deadL_len _ _; exact Nat.zero_le _
  have HR := Lib.hid hr
  clear hr
  go_wp2_with fail
  refine (implDeadRules hU HF.out hcu).mono ?_
  rintro e w2 ⟨_, rfl, ⟨Ax, cx, rfl, hox⟩, hb⟩
  rw [← HR.out] at hox ⊢
  have hX : ilR w2 Ax r := ilR.own rfl (by omega) hox
  replace hB := ext_trans hB hb
  replace hU := hU.below hb
  clear hb hox
  go_wp2_with fail
  refine (specDeadRules hU HF.out).mono ?_
  rintro e w3 ⟨_, rfl, ⟨Ay, cy, rfl, hoy⟩, hb⟩
  rw [← HR.out] at hoy ⊢
  replace hB := ext_trans hB hb
  replace hU := hU.below hb
  replace hX := hX.below hb
  clear hb
  go_wp2_with fail
  refine (sameInts_any hX (ilR.own rfl (by omega) hoy)).mono ?_
  rintro e w4 ⟨rfl, hb⟩
  rw [sameB_self]
  replace hB := ext_trans hB hb
  replace hU := hU.below hb
  replace hX := hX.below hb
  clear hb hoy
  obtain ⟨ok, hok⟩ : ∃ ok, ruOk us = ok := ⟨_, rfl⟩
  have HOK := Lib.hid hok
  cases ok
  · have hr0 : r.length = 0 := by rw [HR.out, deV, hok]; rfl
    rw [hr0]
    go_wp2_with fail
    refine (implRulesValid_v hok hU HF.out).mono ?_
    rintro e w5 ⟨rfl, hb⟩
    replace hB := ext_trans hB hb
    clear hb
    go_wp2_with fail
    refine (alive_any _).mono ?_
    rintro e w6 ⟨rfl, hb⟩
    replace hB := ext_trans hB hb
    go_wp2
    go_ret
    exact ⟨rfl, hB⟩
  · have hrd : r = deadL us us.length := by rw [HR.out, deV, hok]; rfl
    have HRD := Lib.hid hrd
    clear hrd
    go_wp2_with fail
    refine (implRulesValid_v hok hU HF.out).mono ?_
    rintro e w5 ⟨rfl, hb⟩
    replace hB := ext_trans hB hb
    replace hU := hU.below hb
    replace hX := hX.below hb
    clear hb
    have hC3 : CodeR w5 w5.heap.size A2 l2 := CodeR.mono_ (hC2.below hB) hB.size
    go_wp2_with fail
    refine (DrawFirstRule_d hC3 hc2).mono ?_
    rintro e w6 ⟨_, path, act, _, _, rfl, _, _, hp, ⟨ha0, ha1⟩, _, _, _, _, hb⟩
    replace hB := ext_trans hB hb
    replace hU := hU.below hb
    replace hX := hX.below hb
    clear hb hC3
    go_wp2_with fail
    refine (implFirstRule hU HF.out (by omega)).mono ?_
    rintro e w7 ⟨n, rfl, hn1, hb⟩
    have HN := Lib.hid hn1
    have hnr := hn1.range
    replace hB := ext_trans hB hb
    replace hU := hU.below hb
    replace hX := hX.below hb
    have HB := Lib.hid hB
    clear hb hn1 hok hB
    go_wp2
    go_loopw [11, 12, 13] (fun rv av kv wr => ∃ k : Nat, k ≤ us.length ∧ kv = .int .i64 k ∧ av = .int .i64 ((deadL us k).length : Nat) ∧ OwnA w7.heap.size 25 3 ruEnc wr rv (restL us k) ∧ Below w7.heap.size w7 wr) (fun _ _ kv _ => us.length - (intOf kv).toNat)
    case atStart => exact ⟨0, Nat.zero_le _, rfl, rfl, OwnA.empty (Nat.le_refl _), by (repeat (first | exact Below.refl _ _ | refine ext_alloc ?_ _ | refine Below.setCell ?_ (by simp) _))⟩
    case round =>
      obtain ⟨k, hk, rfl, rfl, hO, hB⟩ := hrel
      have hdl := deadL_len us k
      by_cases hlt : k < us.length
      · cases hd : deadB us k
        · have hnot : (deadL us k).length < r.length → ¬ il0 r (deadL us k).length = k := by rw [HRD.out]; exact dead_not hlt hd
          have HS := Lib.hid (show restL us (k + 1) = restL us k ++ [ruAt us k] by rw [restL_succ, hd]; rfl)
          have HD := Lib.hid (show (deadL us (k + 1)).length = (deadL us k).length by rw [deadL_succ, hd]; rfl)
          obtain ⟨b, off, rfl, hcu⟩ := hU.cells (by omega)
          obtain ⟨c0, c1, c2⟩ := hcu k hlt
          replace c0 := below_cell hB c0
          replace c1 := below_cell hB c1
          replace c2 := below_cell hB c2
          have hrll := restL_len us k
          clear hcu hd
          by_cases hat : (deadL us k).length < r.length
          · have hne := hnot hat
            obtain ⟨b2, off2, rfl, hcx⟩ := hX.cells (by omega)
            have e0 := below_cell hB (hcx _ hat)
            have hbe : (il0 r (deadL us k).length == (k : Int)) = false := by simpa using hne
            clear hcx hnot
            go_wp2_with (at_builtin; go_must (refine wpList_push (enc := ruEnc) (ruAt us k) rfl (.tmp 74) (.tmp 79) 31 25 _ 3 32 rfl Tryd.underlying31 Tryd.infoRule rfl (by decide) (fun _ => rfl) ruEnc_one (hO.below (by (repeat (first | exact Below.refl _ _ | refine ext_alloc ?_ _ | refine Below.setCell ?_ (by simp) _)))) rfl (heap_alloc_at (by simp)) (by rfl) (by omega) (by omega) (Nat.le_trans hB.size (show Below _ _ _ by (repeat (first | exact Below.refl _ _ | refine ext_alloc ?_ _ | refine Below.setCell ?_ (by simp) _))).size) ?_); intro v_ wq1 ho_ hb_ hg_)
            replace hB := (ext_trans hB (by (repeat (first | exact Below.refl _ _ | refine ext_alloc ?_ _ | refine Below.setCell ?_ (by simp) _)))).trans hb_
            replace hO := ho_
            clear ho_ hb_ hg_
            go_wp2
            go_roundw
            case rel => exact ⟨k + 1, by omega, by go_num, by rw [HD.out], by rw [HS.out]; exact hO, hB⟩
            case measure => simp [intOf]; omega
          · clear hnot
            go_wp2_with (at_builtin; go_must (refine wpList_push (enc := ruEnc) (ruAt us k) rfl (.tmp 74) (.tmp 79) 31 25 _ 3 32 rfl Tryd.underlying31 Tryd.infoRule rfl (by decide) (fun _ => rfl) ruEnc_one (hO.below (by (repeat (first | exact Below.refl _ _ | refine ext_alloc ?_ _ | refine Below.setCell ?_ (by simp) _)))) rfl (heap_alloc_at (by simp)) (by rfl) (by omega) (by omega) (Nat.le_trans hB.size (show Below _ _ _ by (repeat (first | exact Below.refl _ _ | refine ext_alloc ?_ _ | refine Below.setCell ?_ (by simp) _))).size) ?_); intro v_ wq2 ho_ hb_ hg_)
            replace hB := (ext_trans hB (by (repeat (first | exact Below.refl _ _ | refine ext_alloc ?_ _ | refine Below.setCell ?_ (by simp) _)))).trans hb_
            replace hO := ho_
            clear ho_ hb_ hg_
            go_wp2
            go_roundw
            case rel => exact ⟨k + 1, by omega, by go_num, by rw [HD.out], by rw [HS.out]; exact hO, hB⟩
            case measure => simp [intOf]; omega
        · have hyes : (deadL us k).length < r.length ∧ il0 r (deadL us k).length = k := by rw [HRD.out]; exact dead_at hlt hd
          have hnk : (n == (k : Int)) = false := by simpa using first_alive HN.out hd
          have HS := Lib.hid (show restL us (k + 1) = restL us k by rw [restL_succ, if_pos hd])
          have HD := Lib.hid (show (deadL us (k + 1)).length = (deadL us k).length + 1 by rw [deadL_succ, if_pos hd]; simp)
          obtain ⟨b2, off2, rfl, hcx⟩ := hX.cells (by omega)
          have e0 := below_cell hB (hcx _ hyes.1)
          rw [hyes.2] at e0
          have hyl := hyes.1
          have HO := Lib.hid hO
          clear hcx hd hyes hO
          go_wp2
          go_roundw
          case rel => exact ⟨k + 1, by omega, by go_num, by rw [HD.out]; go_num, by rw [HS.out]; exact HO.out, hB⟩
          case measure => simp [intOf]; omega
      · obtain rfl : k = us.length := by omega
        have hrr : (deadL us us.length).length = r.length := by rw [HRD.out]
        obtain ⟨Ar, cr, rfl, hor⟩ := hO
        have hR : ruR wr Ar (restL us us.length) := ruR.own rfl (by have := restL_len us us.length; omega) hor
        have hFR := rest_few HF.out
        replace hU := hU.below hB
        replace hB := ext_trans HB.out hB
        have HFR := Lib.hid hFR
        rw [hrr]
        clear hor hFR hrr
        go_wp2_with fail
        refine (implRulesAllow hR HFR.out (by omega)).mono ?_
        rintro e w8 ⟨b1, rfl, h1, hb⟩
        replace hB := ext_trans hB hb
        replace hU := hU.below hb
        have H1 := Lib.hid h1
        clear hb h1
        go_wp2_with fail
        refine (implRulesAllow hU HF.out (by omega)).mono ?_
        rintro e w9 ⟨b2, rfl, h2, hb⟩
        replace hB := ext_trans hB hb
        obtain rfl := rest_same HOK.out H1.out h2
        clear hb h2
        go_wp2
        go_ret
        exact ⟨by simp, hB⟩
end Go.Proofs.YtpmelhkhmichcaaDoor

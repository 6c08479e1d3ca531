/- FnRefusedBy, walked. -/
import Derived.Test.YtdpiaiblpafglaaRcR
import Derived.Test.YtdpiaiblpafglaaAlv
namespace Go.Proofs.Ytdpiaiblpafglaa
set_option linter.unusedSimpArgs false
set_option linter.unusedVariables false
open Go.RowKit

def rcFew (l : RcL) (who : Int) : Int := ((l.filter (rcRefP who)).length : Int)
def rcSum (l : RcL) : Nat → Int
  | 0 => 0
  | k + 1 => rcSum l k + rcFew l k
def rcOff (l : RcL) (k : Nat) : Int := (((l.take k).filter (fun r => !ral r)).length : Int)
theorem rcFew_bounds (l : RcL) (who : Int) : 0 ≤ rcFew l who ∧ rcFew l who ≤ l.length := by
  unfold rcFew
  have := List.length_filter_le (rcRefP who) l
  omega
theorem rcSum_bounds (l : RcL) : ∀ k, 0 ≤ rcSum l k ∧ rcSum l k ≤ k * l.length
  | 0 => by simp [rcSum]
  | k + 1 => by
    have h1 := rcSum_bounds l k
    have h2 := rcFew_bounds l k
    have : ((k + 1 : Nat) : Int) * (l.length : Int) = (k : Int) * l.length + l.length := by rw [Int.natCast_add, Int.add_mul]; simp
    rw [rcSum]; omega
theorem rcOff_succ (l : RcL) {k : Nat} (hk : k < l.length) : rcOff l (k + 1) = if rc5 l k = false then rcOff l k + 1 else rcOff l k := by
  have e : (!ral l[k]) = !rc5 l k := by rw [← rcAt_eq hk]; rfl
  unfold rcOff
  rw [List.take_succ_eq_append_getElem hk, List.filter_append]
  cases h2 : rc5 l k <;> simp [List.filter_cons, e, h2]
theorem rcFew_cons (r : Rc) (l : RcL) (who : Int) : rcFew (r :: l) who = rcFew l who + if rcRefP who r then 1 else 0 := by
  unfold rcFew
  rw [List.filter_cons]
  split <;> simp
theorem rcSum_cons (r : Rc) (l : RcL) : ∀ k : Nat, rcSum (r :: l) k = rcSum l k + if ral r = false ∧ 0 ≤ rwho r ∧ rwho r < k then 1 else 0
  | 0 => by rw [rcSum, rcSum, if_neg (by omega)]; rfl
  | k + 1 => by
    rw [rcSum, rcSum, rcSum_cons r l k, rcFew_cons]
    have e : rcRefP k r = true ↔ (rwho r = k ∧ ral r = false) := by simp [rcRefP]
    by_cases h1 : ral r = false
    · by_cases h2 : rwho r = k
      · rw [if_pos (e.2 ⟨h2, h1⟩), if_neg (by omega), if_pos ⟨h1, by omega, by omega⟩]; omega
      · rw [if_neg (fun h => h2 (e.1 h).1)]
        by_cases h3 : 0 ≤ rwho r ∧ rwho r < k
        · rw [if_pos ⟨h1, h3.1, h3.2⟩, if_pos ⟨h1, h3.1, by omega⟩]; omega
        · rw [if_neg (fun h => h3 h.2), if_neg (fun h => h3 ⟨h.2.1, by omega⟩)]; omega
    · rw [if_neg (fun h => h1 (e.1 h).2), if_neg (fun h => h1 h.1), if_neg (fun h => h1 h.1)]; omega
theorem rcSum_all : ∀ (l : RcL), (∀ r ∈ l, 0 ≤ rwho r ∧ rwho r ≤ 6) → rcSum l 7 = rcOff l l.length
  | [], _ => rfl
  | r :: l, h => by
    have ih := rcSum_all l (fun x hx => h x (by simp [hx]))
    have hr := h r (by simp)
    rw [rcSum_cons, ih]
    unfold rcOff
    rw [List.take_length, List.take_length, List.filter_cons]
    cases h1 : ral r
    · rw [if_pos ⟨rfl, hr.1, by omega⟩]; simp
    · simp
theorem rcFew_le (l : RcL) (who : Int) : rcFew l who ≤ rcOff l l.length := by
  unfold rcFew rcOff
  rw [List.take_length]
  have : (l.filter (rcRefP who)).length ≤ (l.filter (fun r => !ral r)).length := by
    have e : l.filter (rcRefP who) = (l.filter (fun r => !ral r)).filter (fun r => decide (rwho r = who)) := by
      rw [List.filter_filter]; rfl
    rw [e]
    exact List.length_filter_le _ _
  omega
theorem rcRight_who {l : RcL} (h : rcRight l = -1) : ∀ r ∈ l, 0 ≤ rwho r ∧ rwho r ≤ 6 := by
  intro r hr
  obtain ⟨k, hk, rfl⟩ := List.getElem_of_mem hr
  have hf := rcRight_few h
  unfold rcRight at h
  rw [if_neg (by omega)] at h
  rcases firstOf_cases (p := rcBad l) l.length 0 with ⟨_, h2⟩ | h2
  · have h3 := h2 k (by omega) (by omega)
    have h4 : 0 ≤ sealAt l (k + 1) := by
      simp only [rcBad, rcGood, Bool.not_eq_false', Bool.and_eq_true, decide_eq_true_eq] at h3
      exact h3.1
    rw [sealAt_succ] at h4
    unfold rcSeal at h4
    split at h4
    · rename_i ho
      have := rcOk_bounds ho
      rw [← rcAt_eq hk]
      exact this.2.2.1
    · omega
  · omega
theorem implRefusedBy_v {A : Option Addr} {l : RcL} {c : Nat} {who v : Int} {w : World} (hv : rcRefBy l who = v) (hU : rcR w A l) :
    Calls Try.prog 22 #[.slice A l.length c, .int .i64 who] w fun e w' => e = .returned (.int .i64 v) ∧ Below w.heap.size w w' := by
  subst hv; exact implRefusedBy hU
theorem specRefusedBy_v {A : Option Addr} {l : RcL} {c : Nat} {who v : Int} {w : World} (hv : rcRefBy l who = v) (hU : rcR w A l) :
    Calls Try.prog 23 #[.slice A l.length c, .int .i64 who] w fun e w' => e = .returned (.int .i64 v) ∧ Below w.heap.size w w' := by
  subst hv; exact specRefusedBy hU
set_option maxRecDepth 100000 in
set_option maxHeartbeats 8000000 in
theorem lawRefusedBy {A : Option Addr} {l : List Int} {c : Nat} {w : World} (hC : CodeR w w.heap.size A l) (hc : l.length ≤ c) :
    Calls Try.prog 6 #[.slice A l.length c] w fun e w' => e = .returned (.bool true) ∧ Below w.heap.size w w' := by
  by_cases h : (1048576 : Int) < l.length
  · go_enter Try.func6, Try.ntmps6
    go_wp2
    go_ret
    exact ⟨rfl, Below.refl _ _⟩
  · go_enter Try.func6, Try.ntmps6
    go_wp2_with fail
    refine (DrawRefusedBy_d hC hc).mono ?_
    rintro e w1 ⟨us, Au, cu, who, rfl, ⟨hw0, hw1⟩, hn, hU, hB⟩
    by_cases hr : rcRight us = -1
    · have hv : ∀ who, rcRefBy us who = rcFew us who := fun who => by rw [rcRefBy, if_pos hr]; rfl
      have HV := Lib.hid hv
      have H20 := rcRight_few hr
      have HS := Lib.hid (rcSum_all us (rcRight_who hr))
      have HL := Lib.hid (rcFew_le us who)
      obtain ⟨n, hnv⟩ : ∃ n, rcFew us who = n := ⟨_, rfl⟩
      have hb := rcFew_bounds us who
      rw [hnv] at hb
      have HN : Hid (rcRefBy us who = n) := Lib.hid (by rw [hv, hnv])
      have HNV := Lib.hid hnv
      clear hv hr hnv
      go_wp2_with fail
      refine (implRefusedBy_v HN.out hU).mono ?_
      rintro e w2 ⟨rfl, hBc⟩
      replace hB := ext_trans hB hBc
      replace hU := hU.below hBc
      clear hBc
      go_wp2_with fail
      refine (specRefusedBy_v HN.out hU).mono ?_
      rintro e w3 ⟨rfl, hBc⟩
      replace hB := ext_trans hB hBc
      replace hU := hU.below hBc
      clear hBc
      have hn0 : ¬ n < 0 := by omega
      go_wp2
      obtain ⟨wo, hwo⟩ : ∃ wo : World, wo = w3 := ⟨_, rfl⟩
      subst hwo
      go_loopw [6, 8] (fun s i wr => ∃ (k : Nat) (sv : Int), k ≤ 7 ∧ i = .int .i64 k ∧ s = .int .i64 sv ∧ sv = rcSum us k ∧ (0 ≤ sv ∧ sv ≤ k * 20) ∧ Below wo.heap.size wo wr) (fun _ i _ => 7 - (intOf i).toNat)
      case atStart => exact ⟨0, 0, by omega, rfl, rfl, rfl, by omega, Below.refl _ _⟩
      case round =>
        obtain ⟨k, sv, hk, rfl, rfl, hsv, ⟨s0, s1⟩, hD⟩ := hrel
        have HK := Lib.hid hsv
        clear hsv
        have hU2 := hU.below hD
        by_cases hlt : k < 7
        · obtain ⟨m, hm⟩ : ∃ m, rcFew us k = m := ⟨_, rfl⟩
          have hmb := rcFew_bounds us k
          rw [hm] at hmb
          have HM : Hid (rcRefBy us k = m) := Lib.hid (by rw [HV.out, hm])
          have HM2 := Lib.hid hm
          clear hm
          go_wp2_with fail
          refine (implRefusedBy_v HM.out hU2).mono ?_
          rintro e w4 ⟨rfl, hBc⟩
          replace hD := ext_trans hD hBc
          go_wp2
          go_roundw
          case rel => exact ⟨k + 1, sv + m, by omega, by go_num, by go_num, by rw [rcSum, HK.out, HM2.out], by omega, hD⟩
          case measure => simp [intOf]; try omega
        · obtain rfl : k = 7 := by omega
          clear hk hlt
          have hsum : Hid (sv = rcOff us us.length) := Lib.hid (by rw [HK.out, HS.out])
          replace hB := ext_trans hB hD
          go_wp2
          obtain ⟨wo2, hwo2⟩ : ∃ wo2 : World, wo2 = wr := ⟨_, rfl⟩
          subst hwo2
          go_loopw [7, 9] (fun s i wr => ∃ (k : Nat) (rv : Int), k ≤ us.length ∧ i = .int .i64 k ∧ s = .int .i64 rv ∧ rv = rcOff us k ∧ (0 ≤ rv ∧ rv ≤ k) ∧ Below wo2.heap.size wo2 wr) (fun _ i _ => us.length - (intOf i).toNat)
          case atStart => exact ⟨0, 0, by omega, rfl, rfl, rfl, by omega, Below.refl _ _⟩
          case round =>
            obtain ⟨k, rv, hk, rfl, rfl, hrv, ⟨r0, r1⟩, hE⟩ := hrel
            have HK2 := Lib.hid hrv
            clear hrv
            by_cases hlt : k < us.length
            · have HST := Lib.hid (rcOff_succ us hlt)
              obtain ⟨bb, off, rfl, hc⟩ := hU2.cells (by omega)
              obtain ⟨A', c', _, c0, c1, c2, c3, c4, c5, c6⟩ := hc k hlt
              replace c5 := below_cell hE c5
              clear hc c0 c1 c2 c3 c4 c6
              rcases Bool.eq_false_or_eq_true (rc5 us k) with e | e
              · rw [e] at c5
                have HE := Lib.hid e
                clear e
                go_wp2
                go_roundw
                case rel => exact ⟨k + 1, rv, by omega, by go_num, rfl, by rw [HST.out, HE.out, HK2.out]; simp, by omega, hE⟩
                case measure => simp [intOf]; omega
              · rw [e] at c5
                have HE := Lib.hid e
                clear e
                go_wp2
                go_roundw
                case rel => exact ⟨k + 1, rv + 1, by omega, by go_num, by go_num, by rw [HST.out, HE.out, HK2.out]; simp, by omega, hE⟩
                case measure => simp [intOf]; omega
            · obtain rfl : k = us.length := by omega
              have e : sv = rv := by rw [hsum.out, HK2.out]
              have hle : n ≤ rv := by rw [HK2.out, ← HNV.out]; exact HL.out
              subst e
              clear hlt hk
              go_wp2
              go_ret
              exact ⟨ret_bool (by simp), ext_trans hB hE⟩
    · have hv : ∀ who, rcRefBy us who = -1 := fun who => by rw [rcRefBy, if_neg hr]
      have HN := Lib.hid (hv who)
      clear hv hr
      go_wp2_with fail
      refine (implRefusedBy_v HN.out hU).mono ?_
      rintro e w2 ⟨rfl, hBc⟩
      replace hB := ext_trans hB hBc
      replace hU := hU.below hBc
      clear hBc
      go_wp2_with fail
      refine (specRefusedBy_v HN.out hU).mono ?_
      rintro e w3 ⟨rfl, hBc⟩
      replace hB := ext_trans hB hBc
      replace hU := hU.below hBc
      clear hBc
      go_wp2_with fail
      refine (alive_any _).mono ?_
      rintro e w4 ⟨rfl, hBc⟩
      replace hB := ext_trans hB hBc
      replace hU := hU.below hBc
      clear hBc
      go_wp2
      go_ret
      exact ⟨rfl, hB⟩
end Go.Proofs.Ytdpiaiblpafglaa

/- Paths that fit patterns, by the reference. -/
import Derived.Test.YtpmelhkhmichcaaDoorPfD
namespace Go.Proofs.YtpmelhkhmichcaaDoor
set_option linter.unusedSimpArgs false
set_option linter.unusedVariables false
open Go.RowKit

set_option maxRecDepth 100000 in
set_option maxHeartbeats 4000000 in
theorem specPathValid {s : ByteArray} {w : World} (hs : s.size ≤ 2097152) :
    Calls Tryd.prog 83 #[.string s] w fun e w' => e = .returned (.bool (pathOk s)) ∧ Below w.heap.size w w' := by
  have hl := pws_len s
  go_enter Tryd.func83, Tryd.ntmps83
  go_wp2_with fail
  refine (l30Words_any hs).mono ?_
  rintro e w1 ⟨A, c, rfl, hown, hB1⟩
  have hU : sgR w1 A (pws s) := sgR.own rfl (by omega) hown
  have HB1 := Lib.hid hB1
  clear hown hB1
  go_wp2
  go_loopw [4] (fun iv wr => ∃ k : Nat, k ≤ (pws s).length ∧ iv = .int .i64 k ∧ Hid (∀ j, j < k → nmOk (sg0 (pws s) j) = true) ∧ Below w1.heap.size w1 wr) (fun iv _ => (pws s).length - (intOf iv).toNat)
  case atStart => exact ⟨0, Nat.zero_le _, rfl, Lib.hid (fun j h => by omega), Below.refl _ _⟩
  case round =>
    obtain ⟨k, hk, rfl, HG, hB⟩ := hrel
    by_cases hlt : k < (pws s).length
    · obtain ⟨b, off, rfl, hc⟩ := hU.cells (by omega)
      have c0 := below_cell hB (hc k hlt)
      have hxs := pws_size hlt
      clear hc
      obtain ⟨n, hn⟩ : ∃ n, nmOk (sg0 (pws s) k) = n := ⟨_, rfl⟩
      have HN := Lib.hid hn
      cases n
      · have HP := Lib.hid (pathOk_no hlt HN.out)
        go_wp2_with fail
        refine (specNameValid_v hn (by omega) _).mono ?_
        rintro e w2 ⟨rfl, hb⟩
        replace hB := ext_trans hB hb
        clear hb c0
        go_wp2
        go_ret
        exact ⟨by rw [HP.out]; rfl, ext_trans HB1.out hB⟩
      · go_wp2_with fail
        refine (specNameValid_v hn (by omega) _).mono ?_
        rintro e w2 ⟨rfl, hb⟩
        replace hB := ext_trans hB hb
        clear hb c0
        go_wp2
        go_roundw
        case rel => exact ⟨k + 1, by omega, by go_num, Lib.hid (all_succ HG.out HN.out), hB⟩
        case measure => simp [intOf]; omega
    · obtain rfl : k = (pws s).length := by omega
      have HY := Lib.hid (pathOk_yes HG.out)
      go_wp2
      go_ret
      exact ⟨by rw [HY.out]; rfl, ext_trans HB1.out hB⟩
theorem specPathValid_v {s : ByteArray} {b : Bool} (hb : pathOk s = b) (hs : s.size ≤ 2097152) (w : World) :
    Calls Tryd.prog 83 #[.string s] w fun e w' => e = .returned (.bool b) ∧ Below w.heap.size w w' := hb ▸ specPathValid hs
theorem specPatternValid_w {s : ByteArray} {b : Bool} (hb : patOk s = b) (hs : s.size ≤ 2097152) (w : World) :
    Calls Tryd.prog 61 #[.string s] w fun e w' => e = .returned (.bool b) ∧ Below w.heap.size w w' := hb ▸ specPatternValid hs
/-! ### Plain -/
theorem star2_bad : nmOk star2 = false := by
  have h : nmGood star2 0 = false := by decide
  exact (nmOk_no (s := star2) (k := 0) (by decide) h).symm
theorem goodW_of : ∀ {ws : Wd}, (∀ k, k + 1 < ws.length → sg0 ws k ≠ star2) → goodW ws
  | [], _ => trivial
  | [_], _ => trivial
  | y :: z :: b, h => ⟨h 0 (by simp), goodW_of (fun k hk => h (k + 1) (by simpa using hk))⟩
theorem patOk_good {s : ByteArray} (h : patOk s = true) : goodW (pws s) := by
  simp only [patOk, Bool.and_eq_true, decide_eq_true_eq] at h
  refine goodW_of (fun k hk e => ?_)
  have h1 := h.1 k (by omega)
  rw [pwOk, e, star2_bad, decide_eq_true hk, decide_eq_false (fun h => star_ne h.symm)] at h1
  simp at h1
def fitS (path pat : ByteArray) : Bool := pathOk path && (patOk pat && fitG (pws path) (pws pat))
theorem fit_same (p s : ByteArray) : fitB p s = fitS p s := by
  rw [fitB, fitS]
  cases h1 : pathOk p
  · rfl
  · cases h2 : patOk s
    · rfl
    · rw [fit_eq (patOk_good h2) (pathOk_len h1)]
theorem drop_at {l : Wd} {k : Nat} (hk : k < l.length) : l.drop k = sg0 l k :: l.drop (k + 1) := by
  rw [List.drop_eq_getElem_cons hk]
  congr 1
  exact (sg_elem hk).symm
theorem fit_short {a b : Wd} {k : Nat} (hk : k < b.length) (h : a.length ≤ k) : fitG (a.drop k) (b.drop k) = false := by
  rw [List.drop_eq_nil_of_le h, drop_at hk]
  rfl
theorem fit_two {a b : Wd} {k : Nat} (hk : k < b.length) (hk' : k < a.length) (h : sg0 b k = star2) : fitG (a.drop k) (b.drop k) = true := by
  rw [drop_at hk, drop_at hk', fitG, if_pos h]
theorem fit_bad {a b : Wd} {k : Nat} (hk : k < b.length) (hk' : k < a.length) (h : ¬ sg0 b k = star2) (h1 : ¬ sg0 b k = star1) (h2 : ¬ sg0 b k = sg0 a k) : fitG (a.drop k) (b.drop k) = false := by
  rw [drop_at hk, drop_at hk', fitG, if_neg h, if_pos ⟨h1, h2⟩]
theorem fit_go {a b : Wd} {k : Nat} (hk : k < b.length) (hk' : k < a.length) (h : ¬ sg0 b k = star2) (h1 : sg0 b k = star1 ∨ sg0 b k = sg0 a k) : fitG (a.drop k) (b.drop k) = fitG (a.drop (k + 1)) (b.drop (k + 1)) := by
  rw [drop_at hk, drop_at hk', fitG, if_neg h, if_neg (by rintro ⟨h3, h4⟩; rcases h1 with h1 | h1; exact h3 h1; exact h4 h1)]
theorem fit_end {a b : Wd} (h : b.length ≤ a.length) : fitG (a.drop b.length) (b.drop b.length) = ((a.length : Int) == b.length) := by
  rw [List.drop_length, fitG, Bool.eq_iff_iff, List.isEmpty_iff, List.drop_eq_nil_iff, beq_iff_eq]
  omega
set_option maxRecDepth 100000 in
set_option maxHeartbeats 4000000 in
theorem specPathFits {p s : ByteArray} {w : World} (hp : p.size ≤ 2097152) (hs : s.size ≤ 2097152) :
    Calls Tryd.prog 63 #[.string p, .string s] w fun e w' => e = .returned (.bool (fitS p s)) ∧ Below w.heap.size w w' := by
  have hl := pws_len p
  have hl' := pws_len s
  cases h1 : pathOk p
  · have HR : Hid (fitS p s = false) := Lib.hid (by rw [fitS, h1]; rfl)
    go_enter Tryd.func63, Tryd.ntmps63
    go_wp2_with fail
    refine (specPathValid_v h1 hp _).mono ?_
    rintro e w1 ⟨rfl, hB⟩
    go_wp2
    go_ret
    exact ⟨by rw [HR.out]; rfl, hB⟩
  · cases h2 : patOk s
    · have HR : Hid (fitS p s = false) := Lib.hid (by rw [fitS, h1, h2]; rfl)
      go_enter Tryd.func63, Tryd.ntmps63
      go_wp2_with fail
      refine (specPathValid_v h1 hp _).mono ?_
      rintro e w1 ⟨rfl, hB⟩
      go_wp2_with fail
      refine (specPatternValid_w h2 hs _).mono ?_
      rintro e w2 ⟨rfl, hb⟩
      replace hB := ext_trans hB hb
      go_wp2
      go_ret
      exact ⟨by rw [HR.out]; rfl, hB⟩
    · have HR : Hid (fitS p s = fitG (pws p) (pws s)) := Lib.hid (by rw [fitS, h1, h2]; rfl)
      go_enter Tryd.func63, Tryd.ntmps63
      go_wp2_with fail
      refine (specPathValid_v h1 hp _).mono ?_
      rintro e w1 ⟨rfl, hB⟩
      go_wp2_with fail
      refine (specPatternValid_w h2 hs _).mono ?_
      rintro e w2 ⟨rfl, hb⟩
      replace hB := ext_trans hB hb
      clear hb
      go_wp2_with fail
      refine (l30Words_any hp).mono ?_
      rintro e w3 ⟨A, c, rfl, hown, hb⟩
      replace hB := ext_trans hB hb
      have hU0 : sgR w3 A (pws p) := sgR.own rfl (by omega) hown
      clear hb hown
      go_wp2_with fail
      refine (l30Words_any hs).mono ?_
      rintro e w4 ⟨A', c', rfl, hown, hb⟩
      replace hB := ext_trans hB hb
      have hU := hU0.below hb
      have hV : sgR w4 A' (pws s) := sgR.own rfl (by omega) hown
      have HB4 := Lib.hid hB
      obtain ⟨a, ha⟩ : ∃ a, pws p = a := ⟨_, rfl⟩
      obtain ⟨b, hb'⟩ : ∃ b, pws s = b := ⟨_, rfl⟩
      rw [ha, hb'] at HR
      rw [ha] at hU hl ⊢
      rw [hb'] at hV hl' ⊢
      clear hb hown hB hU0 ha hb'
      go_wp2
      go_loopw [7] (fun iv wr => ∃ k : Nat, (k ≤ b.length ∧ k ≤ a.length) ∧ iv = .int .i64 k ∧ Hid (fitG a b = fitG (a.drop k) (b.drop k)) ∧ Below w4.heap.size w4 wr) (fun iv _ => b.length - (intOf iv).toNat)
      case atStart => exact ⟨0, ⟨Nat.zero_le _, Nat.zero_le _⟩, rfl, Lib.hid (by simp), Below.refl _ _⟩
      case round =>
        obtain ⟨k, ⟨hk, hk'⟩, rfl, HG, hB⟩ := hrel
        by_cases hlt : k < b.length
        · by_cases hlt' : k < a.length
          · obtain ⟨b1, o1, rfl, hc⟩ := hU.cells (by omega)
            obtain ⟨b2, o2, rfl, hc'⟩ := hV.cells (by omega)
            have c0 := below_cell hB (hc k hlt')
            have d0 := below_cell hB (hc' k hlt)
            clear hc hc'
            obtain ⟨x, hx⟩ : ∃ x, sg0 a k = x := ⟨_, rfl⟩
            obtain ⟨y, hy⟩ : ∃ x, sg0 b k = x := ⟨_, rfl⟩
            rw [hx] at c0
            rw [hy] at d0
            by_cases e2 : y = star2
            · have q2 : (y.toList == [42, 42]) = true := by rw [star2_beq]; simpa using e2
              have HH := Lib.hid (fit_two (a := a) hlt hlt' (hy.trans e2))
              clear e2 hx hy
              go_wp2
              go_ret
              exact ⟨by rw [HR.out, HG.out, HH.out]; rfl, ext_trans HB4.out hB⟩
            · have q2 : (y.toList == [42, 42]) = false := by rw [star2_beq]; simpa using e2
              have c1 := cell_regrown c0
              have d1 := cell_regrown d0
              by_cases e1 : y = star1
              · have q1 : (y.toList == [42]) = true := by rw [star1_beq]; simpa using e1
                have HH := Lib.hid (fit_go (a := a) hlt hlt' (fun h => e2 (hy.symm.trans h)) (.inl (hy.trans e1)))
                clear e1 e2 hx hy
                go_wp2
                refine wp_region_quiet_below (by kernel_rfl) (by kernel_rfl) ?_
                repeat (go_big_quiet_step (fail))
                refine wpQuiet_nil ?_
                intro w2 hw'regrown
                replace hB := ext_trans hB (below_of_regrown hw'regrown (Nat.le_refl _))
                clear hw'regrown c0 d0 c1 d1
                go_wp2
                go_roundw
                case rel => exact ⟨k + 1, ⟨by omega, by omega⟩, by go_num, Lib.hid (HG.out.trans HH.out), hB⟩
                case measure => simp [intOf]; omega
              · have q1 : (y.toList == [42]) = false := by rw [star1_beq]; simpa using e1
                by_cases e3 : y = x
                · have q3 : (y.toList == x.toList) = true := by rw [str_beq]; simpa using e3
                  have HH := Lib.hid (fit_go (a := a) hlt hlt' (fun h => e2 (hy.symm.trans h)) (.inr (by rw [hx, hy, e3])))
                  clear e1 e2 e3 hx hy
                  go_wp2
                  refine wp_region_quiet_below (by kernel_rfl) (by kernel_rfl) ?_
                  repeat (go_big_quiet_step (fail))
                  refine wpQuiet_nil ?_
                  intro w2 hw'regrown
                  replace hB := ext_trans hB (below_of_regrown hw'regrown (Nat.le_refl _))
                  clear hw'regrown c0 d0 c1 d1
                  go_wp2
                  go_roundw
                  case rel => exact ⟨k + 1, ⟨by omega, by omega⟩, by go_num, Lib.hid (HG.out.trans HH.out), hB⟩
                  case measure => simp [intOf]; omega
                · have q3 : (y.toList == x.toList) = false := by rw [str_beq]; simpa using e3
                  have HH := Lib.hid (fit_bad (a := a) hlt hlt' (fun h => e2 (hy.symm.trans h)) (fun h => e1 (hy.symm.trans h)) (fun h => e3 (by rw [← hx, ← hy, h])))
                  clear e1 e2 e3 hx hy
                  go_wp2
                  refine wp_region_quiet_below (by kernel_rfl) (by kernel_rfl) ?_
                  repeat (go_big_quiet_step (fail))
                  refine wpQuiet_nil ?_
                  intro w2 hw'regrown
                  replace hB := ext_trans hB (below_of_regrown hw'regrown (Nat.le_refl _))
                  clear hw'regrown c0 d0 c1 d1
                  go_wp2
                  go_ret
                  exact ⟨by rw [HR.out, HG.out, HH.out]; rfl, ext_trans HB4.out hB⟩
          · have HH := Lib.hid (fit_short (a := a) hlt (by omega))
            go_wp2
            go_ret
            exact ⟨by rw [HR.out, HG.out, HH.out]; rfl, ext_trans HB4.out hB⟩
        · obtain rfl : k = b.length := by omega
          have HH := Lib.hid (fit_end hk')
          go_wp2
          go_ret
          exact ⟨by rw [HR.out, HG.out, HH.out]; rfl, ext_trans HB4.out hB⟩
end Go.Proofs.YtpmelhkhmichcaaDoor

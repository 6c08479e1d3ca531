/- Paths: valid patterns, by the program and by the reference. -/
import Derived.Test.YtpmelhkhmichcaaDoorPaD
import Derived.Test.YtpmelhkhmichcaaDoorNmS
import Derived.Laws.Strings
namespace Go.Proofs.YtpmelhkhmichcaaDoor
set_option linter.unusedSimpArgs false
set_option linter.unusedVariables false
open Go.RowKit

theorem implNameValid_v {s : ByteArray} {b : Bool} (hb : nmOk s = b) (hs : s.size ≤ 9223372036854775807) (w : World) :
    Calls Tryd.prog 55 #[.string s] w fun e w' => e = .returned (.bool b) ∧ Below w.heap.size w w' := hb ▸ implNameValid s hs w
theorem lit_beq {x : ByteArray} {l : List UInt8} : (x.toList == l) = decide (x = bsOf l) := by
  rw [Bool.eq_iff_iff, beq_iff_eq, decide_eq_true_eq, Go.ByteArray.toList_eq]
  constructor
  · rintro rfl; exact (bsOf_data x).symm
  · rintro rfl; rfl
theorem star1_beq {x : ByteArray} : (x.toList == [42]) = decide (x = star1) := lit_beq
theorem star2_beq {x : ByteArray} : (x.toList == [42, 42]) = decide (x = star2) := lit_beq
theorem patOk_yesI {s : ByteArray} (h : ∀ k, k < (pws s).length → pwOk (pws s) k = true) : patOk s = decide (((pws s).length : Int) ≤ 5) := by
  rw [patOk_yes h]
  exact decide_eq_decide.2 (by omega)
theorem pwOk_of {ws : List ByteArray} {k : Nat} {n a b : Bool} (hn : nmOk (sg0 ws k) = n) (ha : decide (sg0 ws k = star1) = a) (hb : decide (sg0 ws k = star2) = b) : pwOk ws k = (n || (a || (b && !decide (k + 1 < ws.length)))) := by
  rw [pwOk, hn, ha, hb]
set_option maxRecDepth 100000 in
set_option maxHeartbeats 4000000 in
theorem implPatternValid {s : ByteArray} {w : World} (hs : s.size ≤ 2097152) :
    Calls Tryd.prog 59 #[.string s] w fun e w' => e = .returned (.bool (patOk s)) ∧ Below w.heap.size w w' := by
  have hl := pws_len s
  go_enter Tryd.func59, Tryd.ntmps59
  go_wp2_with fail
  refine (split_any hs).mono ?_
  rintro e w1 ⟨A, c, rfl, hown, hB1⟩
  have hU : sgR w1 A (pws s) := sgR.own rfl (by omega) hown
  have HB1 := Lib.hid hB1
  clear hown hB1
  go_wp2
  go_loopw [4, 5, 10] (fun _ _ iv wr => ∃ k : Nat, k ≤ (pws s).length ∧ iv = .int .i64 k ∧ Hid (∀ j, j < k → pwOk (pws s) j = true) ∧ Below w1.heap.size w1 wr) (fun _ _ iv _ => (pws s).length - (intOf iv).toNat)
  case atStart => exact ⟨0, Nat.zero_le _, rfl, Lib.hid (fun j h => by omega), Below.refl _ _⟩
  case round =>
    obtain ⟨k, hk, rfl, HG, hB⟩ := hrel
    by_cases hlt : k < (pws s).length
    · obtain ⟨b, off, rfl, hc⟩ := hU.cells (by omega)
      have c0 := below_cell hB (hc k hlt)
      have hxs := pws_size hlt
      obtain ⟨x, hx⟩ : ∃ x, sg0 (pws s) k = x := ⟨_, rfl⟩
      obtain ⟨n, hn⟩ : ∃ n, nmOk (sg0 (pws s) k) = n := ⟨_, rfl⟩
      obtain ⟨a1, ha1⟩ : ∃ n, decide (sg0 (pws s) k = star1) = n := ⟨_, rfl⟩
      obtain ⟨a2, ha2⟩ : ∃ n, decide (sg0 (pws s) k = star2) = n := ⟨_, rfl⟩
      have HPW := Lib.hid (pwOk_of hn ha1 ha2)
      rw [hx] at c0 hxs hn ha1 ha2
      clear hx hc
      cases n
      · have q1 : (x.toList == [42]) = a1 := by rw [← ha1, star1_beq]
        have q2 : (x.toList == [42, 42]) = a2 := by rw [← ha2, star2_beq]
        clear ha1 ha2
        cases a1
        · cases a2
          · have HN := Lib.hid (patOk_no hlt (by rw [HPW.out]; rfl))
            go_wp2_with fail
            refine (implNameValid_v hn (by omega) _).mono ?_
            rintro e w2 ⟨rfl, hb⟩
            replace hB := ext_trans hB hb
            clear hb c0
            go_wp2
            go_ret
            exact ⟨by rw [HN.out]; rfl, ext_trans HB1.out hB⟩
          · by_cases hla : k + 1 < (pws s).length
            · have HN := Lib.hid (patOk_no hlt (by rw [HPW.out, decide_eq_true hla]; rfl))
              go_wp2_with fail
              refine (implNameValid_v hn (by omega) _).mono ?_
              rintro e w2 ⟨rfl, hb⟩
              replace hB := ext_trans hB hb
              clear hb c0
              go_wp2
              go_ret
              exact ⟨by rw [HN.out]; rfl, ext_trans HB1.out hB⟩
            · have HN := Lib.hid (show pwOk (pws s) k = true by rw [HPW.out, decide_eq_false hla]; rfl)
              go_wp2_with fail
              refine (implNameValid_v hn (by omega) _).mono ?_
              rintro e w2 ⟨rfl, hb⟩
              replace hB := ext_trans hB hb
              clear hb c0
              go_wp2
              go_roundw
              case rel => exact ⟨k + 1, by omega, by go_num, Lib.hid (all_succ HG.out HN.out), hB⟩
              case measure => simp [intOf]; omega
        · go_wp2_with fail
          refine (implNameValid_v hn (by omega) _).mono ?_
          rintro e w2 ⟨rfl, hb⟩
          replace hB := ext_trans hB hb
          clear hb c0
          go_wp2
          go_roundw
          case rel => exact ⟨k + 1, by omega, by go_num, Lib.hid (all_succ HG.out (by rw [HPW.out]; rfl)), hB⟩
          case measure => simp [intOf]; omega
      · go_wp2_with fail
        refine (implNameValid_v hn (by omega) _).mono ?_
        rintro e w2 ⟨rfl, hb⟩
        replace hB := ext_trans hB hb
        clear hb c0
        go_wp2
        go_roundw
        case rel => exact ⟨k + 1, by omega, by go_num, Lib.hid (all_succ HG.out (by rw [HPW.out]; rfl)), hB⟩
        case measure => simp [intOf]; omega
    · obtain rfl : k = (pws s).length := by omega
      have HY := Lib.hid (patOk_yesI HG.out)
      go_wp2
      go_ret
      exact ⟨by rw [HY.out]; rfl, ext_trans HB1.out hB⟩
theorem specNameValid_v {s : ByteArray} {b : Bool} (hb : nmOk s = b) (hs : s.size ≤ 9223372036854775807) (w : World) :
    Calls Tryd.prog 82 #[.string s] w fun e w' => e = .returned (.bool b) ∧ Below w.heap.size w w' := hb ▸ specNameValid s hs w
set_option maxRecDepth 100000 in
set_option maxHeartbeats 4000000 in
theorem specPatternValid {s : ByteArray} {w : World} (hs : s.size ≤ 2097152) :
    Calls Tryd.prog 61 #[.string s] w fun e w' => e = .returned (.bool (patOk s)) ∧ Below w.heap.size w w' := by
  have hl := pws_len s
  go_enter Tryd.func61, Tryd.ntmps61
  go_wp2_with fail
  refine (l30Words_any hs).mono ?_
  rintro e w1 ⟨A, c, rfl, hown, hB1⟩
  have hU : sgR w1 A (pws s) := sgR.own rfl (by omega) hown
  have HB1 := Lib.hid hB1
  clear hown hB1
  go_wp2
  go_loopw [4] (fun iv wr => ∃ k : Nat, k ≤ (pws s).length ∧ iv = .int .i64 k ∧ Hid (∀ j, j < k → pwOk (pws s) j = true) ∧ Below w1.heap.size w1 wr) (fun iv _ => (pws s).length - (intOf iv).toNat)
  case atStart => exact ⟨0, Nat.zero_le _, rfl, Lib.hid (fun j h => by omega), Below.refl _ _⟩
  case round =>
    obtain ⟨k, hk, rfl, HG, hB⟩ := hrel
    by_cases hlt : k < (pws s).length
    · obtain ⟨b, off, rfl, hc⟩ := hU.cells (by omega)
      have c0 := below_cell hB (hc k hlt)
      have hxs := pws_size hlt
      obtain ⟨x, hx⟩ : ∃ x, sg0 (pws s) k = x := ⟨_, rfl⟩
      obtain ⟨n, hn⟩ : ∃ n, nmOk (sg0 (pws s) k) = n := ⟨_, rfl⟩
      obtain ⟨a1, ha1⟩ : ∃ n, decide (sg0 (pws s) k = star1) = n := ⟨_, rfl⟩
      obtain ⟨a2, ha2⟩ : ∃ n, decide (sg0 (pws s) k = star2) = n := ⟨_, rfl⟩
      have HPW := Lib.hid (pwOk_of hn ha1 ha2)
      rw [hx] at c0 hxs hn ha1 ha2
      clear hx hc
      cases n
      · have q1 : (x.toList == [42]) = a1 := by rw [← ha1, star1_beq]
        have q2 : (x.toList == [42, 42]) = a2 := by rw [← ha2, star2_beq]
        clear ha1 ha2
        cases a1
        · cases a2
          · have HN := Lib.hid (patOk_no hlt (by rw [HPW.out]; rfl))
            go_wp2_with fail
            refine (specNameValid_v hn (by omega) _).mono ?_
            rintro e w2 ⟨rfl, hb⟩
            replace hB := ext_trans hB hb
            replace c0 := below_cell hb c0
            clear hb
            go_wp2
            go_ret
            exact ⟨by rw [HN.out]; rfl, ext_trans HB1.out hB⟩
          · by_cases hla : k + 1 < (pws s).length
            · have HN := Lib.hid (patOk_no hlt (by rw [HPW.out, decide_eq_true hla]; rfl))
              go_wp2_with fail
              refine (specNameValid_v hn (by omega) _).mono ?_
              rintro e w2 ⟨rfl, hb⟩
              replace hB := ext_trans hB hb
              replace c0 := below_cell hb c0
              clear hb
              go_wp2
              go_ret
              exact ⟨by rw [HN.out]; rfl, ext_trans HB1.out hB⟩
            · have HN := Lib.hid (show pwOk (pws s) k = true by rw [HPW.out, decide_eq_false hla]; rfl)
              go_wp2_with fail
              refine (specNameValid_v hn (by omega) _).mono ?_
              rintro e w2 ⟨rfl, hb⟩
              replace hB := ext_trans hB hb
              replace c0 := below_cell hb c0
              clear hb
              go_wp2
              go_roundw
              case rel => exact ⟨k + 1, by omega, by go_num, Lib.hid (all_succ HG.out HN.out), hB⟩
              case measure => simp [intOf]; omega
        · go_wp2_with fail
          refine (specNameValid_v hn (by omega) _).mono ?_
          rintro e w2 ⟨rfl, hb⟩
          replace hB := ext_trans hB hb
          replace c0 := below_cell hb c0
          clear hb
          go_wp2
          go_roundw
          case rel => exact ⟨k + 1, by omega, by go_num, Lib.hid (all_succ HG.out (by rw [HPW.out]; rfl)), hB⟩
          case measure => simp [intOf]; omega
      · go_wp2_with fail
        refine (specNameValid_v hn (by omega) _).mono ?_
        rintro e w2 ⟨rfl, hb⟩
        replace hB := ext_trans hB hb
        replace c0 := below_cell hb c0
        clear hb
        go_wp2
        go_roundw
        case rel => exact ⟨k + 1, by omega, by go_num, Lib.hid (all_succ HG.out (by rw [HPW.out]; rfl)), hB⟩
        case measure => simp [intOf]; omega
    · obtain rfl : k = (pws s).length := by omega
      have HY := Lib.hid (patOk_yesI HG.out)
      go_wp2
      go_ret
      exact ⟨by rw [HY.out]; rfl, ext_trans HB1.out hB⟩
end Go.Proofs.YtpmelhkhmichcaaDoor

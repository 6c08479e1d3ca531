/- HoursOpen and NextOpen. -/
import Derived.Test.YticiggciigmhaaaHrC
namespace Go.Proofs.Yticiggciigmhaaa
open Go.RowKit

def hrCount (l : HrL) : Nat → Int
  | 0 => 0
  | k + 1 => hrCount l k + if hrOpen l ((k : Int) / 24) ((k : Int) % 24) = true then 1 else 0
def hrAll (l : HrL) : Int := if hrOk l then hrCount l 168 else -1
theorem hrCount_bounds (l : HrL) : ∀ k, 0 ≤ hrCount l k ∧ hrCount l k ≤ k
  | 0 => by simp [hrCount]
  | k + 1 => by have := hrCount_bounds l k; simp only [hrCount]; split <;> omega
theorem hrIn_open {l : HrL} {day hour : Int} (h : hrOk l = true) (h1 : 0 ≤ day) (h2 : day ≤ 6) (h3 : 0 ≤ hour) (h4 : hour ≤ 23) : hrIn l day hour = hrOpen l day hour := by
  simp [hrIn, h, inB_true.2 ⟨h1, h2⟩, inB_true.2 ⟨h3, h4⟩]

set_option maxRecDepth 100000 in
set_option maxHeartbeats 1000000 in
theorem implHoursOpen {A : Option Addr} {l : HrL} {c : Nat} {w : World} (hU : hrR w A l) :
    Calls Try.prog 22 #[.slice A l.length c] w fun e w' => e = .returned (.int .i64 (hrAll l)) ∧ Below w.heap.size w w' := by
  have hB := Below.refl w.heap.size w
  cases g1 : hrOk l
  · go_enter Try.func22, Try.ntmps22
    go_wp2_with fail
    refine (implHoursValid hU).mono ?_
    rintro e w1 ⟨rfl, hBc⟩
    replace hB := ext_trans hB hBc
    replace hU := hU.below hBc
    clear hBc
    go_wp2
    go_ret
    exact ⟨ret_int (by simp [hrAll, g1]), hB⟩
  · have HOK := Lib.hid g1
    go_enter Try.func22, Try.ntmps22
    go_wp2_with fail
    refine (implHoursValid hU).mono ?_
    rintro e w1 ⟨rfl, hBc⟩
    replace hB := ext_trans hB hBc
    replace hU := hU.below hBc
    clear hBc
    go_wp2
    clear g1
    obtain ⟨wo, hwo⟩ : ∃ wo : World, wo = w1 := ⟨_, rfl⟩
    subst hwo
    go_loopw [3, 8] (fun s i wr => ∃ k : Nat, k ≤ 168 ∧ i = .int .i64 k ∧ s = .int .i64 (hrCount l k) ∧ Below wo.heap.size wo wr) (fun _ i _ => 168 - (intOf i).toNat)
    case atStart => exact ⟨0, by omega, rfl, rfl, Below.refl _ _⟩
    case round =>
      obtain ⟨k, hk, rfl, rfl, hC⟩ := hrel
      have hU2 := hU.below hC
      obtain ⟨b1, b2⟩ := hrCount_bounds l k
      have hst : Hid (hrCount l (k + 1) = hrCount l k + if hrOpen l ((k : Int) / 24) ((k : Int) % 24) = true then 1 else 0) := Lib.hid rfl
      by_cases hlt : k < 168
      · cases g : hrOpen l ((k : Int) / 24) ((k : Int) % 24)
        all_goals go_wp2_with (go_at_call 36; refine (open_any hU2 HOK.out (by omega) (by omega)).mono ?_; rintro e w2 ⟨rfl, hb2⟩; replace hC := ext_trans hC hb2; clear hb2)
        · go_roundw
          case rel => exact ⟨k + 1, by omega, by go_num, by rw [hst.out, if_neg (by rw [g]; simp), Int.add_zero], hC⟩
          case measure => simp [intOf]; omega
        · go_roundw
          case rel => exact ⟨k + 1, by omega, by go_num, by rw [hst.out, if_pos g], hC⟩
          case measure => simp [intOf]; omega
      · have HK : Hid (hrCount l k = hrAll l) := Lib.hid (by rw [show k = 168 by omega, hrAll, if_pos HOK.out])
        go_wp2
        go_ret
        exact ⟨ret_int HK.out, ext_trans hB hC⟩

set_option maxRecDepth 100000 in
set_option maxHeartbeats 1000000 in
theorem specHoursOpen {A : Option Addr} {l : HrL} {c : Nat} {w : World} (hU : hrR w A l) :
    Calls Try.prog 21 #[.slice A l.length c] w fun e w' => e = .returned (.int .i64 (hrAll l)) ∧ Below w.heap.size w w' := by
  have hB := Below.refl w.heap.size w
  cases g1 : hrOk l
  · go_enter Try.func21, Try.ntmps21
    go_wp2_with fail
    refine (specHoursValid hU).mono ?_
    rintro e w1 ⟨rfl, hBc⟩
    replace hB := ext_trans hB hBc
    replace hU := hU.below hBc
    clear hBc
    go_wp2
    go_ret
    exact ⟨ret_int (by simp [hrAll, g1]), hB⟩
  · have HOK := Lib.hid g1
    go_enter Try.func21, Try.ntmps21
    go_wp2_with fail
    refine (specHoursValid hU).mono ?_
    rintro e w1 ⟨rfl, hBc⟩
    replace hB := ext_trans hB hBc
    replace hU := hU.below hBc
    clear hBc
    go_wp2
    clear g1
    obtain ⟨wo, hwo⟩ : ∃ wo : World, wo = w1 := ⟨_, rfl⟩
    subst hwo
    go_loopw [3, 4] (fun s i wr => ∃ k : Nat, k ≤ 168 ∧ i = .int .i64 k ∧ s = .int .i64 (hrCount l k) ∧ Below wo.heap.size wo wr) (fun _ i _ => 168 - (intOf i).toNat)
    case atStart => exact ⟨0, by omega, rfl, rfl, Below.refl _ _⟩
    case round =>
      obtain ⟨k, hk, rfl, rfl, hC⟩ := hrel
      have hU2 := hU.below hC
      obtain ⟨b1, b2⟩ := hrCount_bounds l k
      have hst : Hid (hrCount l (k + 1) = hrCount l k + if hrOpen l ((k : Int) / 24) ((k : Int) % 24) = true then 1 else 0) := Lib.hid rfl
      by_cases hlt : k < 168
      · have hio : Hid (hrIn l ((k : Int) / 24) ((k : Int) % 24) = hrOpen l ((k : Int) / 24) ((k : Int) % 24)) := Lib.hid (hrIn_open HOK.out (by omega) (by omega) (by omega) (by omega))
        cases g : hrOpen l ((k : Int) / 24) ((k : Int) % 24)
        all_goals go_wp2_with (go_at_call 18; refine (specInHours hU2).mono ?_; rintro e w2 ⟨rfl, hb2⟩; rw [hio.out]; replace hC := ext_trans hC hb2; clear hb2)
        · go_roundw
          case rel => exact ⟨k + 1, by omega, by go_num, by rw [hst.out, if_neg (by rw [g]; simp), Int.add_zero], hC⟩
          case measure => simp [intOf]; omega
        · go_roundw
          case rel => exact ⟨k + 1, by omega, by go_num, by rw [hst.out, if_pos g], hC⟩
          case measure => simp [intOf]; omega
      · have HK : Hid (hrCount l k = hrAll l) := Lib.hid (by rw [show k = 168 by omega, hrAll, if_pos HOK.out])
        go_wp2
        go_ret
        exact ⟨ret_int HK.out, ext_trans hB hC⟩

/-- The first number from i on, among so many, at which p holds. -/
def firstOf (p : Nat → Bool) : Nat → Nat → Int
  | 0, _ => -1
  | f + 1, i => if p i then (i : Int) else firstOf p f (i + 1)
def hrP (l : HrL) (day hour : Int) (n : Nat) : Bool := hrOpen l ((24 * day + hour + (n : Int)) % 168 / 24) ((24 * day + hour + (n : Int)) % 24)
def hrNext (l : HrL) (day hour : Int) : Int := if hrOk l && (inB day 0 6 && inB hour 0 23) then firstOf (hrP l day hour) 168 0 else -1
theorem firstOf_step {p : Nat → Bool} {k : Nat} (hk : k < 168) (h : firstOf p 168 0 = firstOf p (168 - k) k) : firstOf p 168 0 = if p k then (k : Int) else firstOf p (168 - (k + 1)) (k + 1) := by
  rw [h, show 168 - k = (168 - (k + 1)) + 1 by omega, firstOf]

set_option maxRecDepth 100000 in
set_option maxHeartbeats 1000000 in
theorem implNextOpen {A : Option Addr} {l : HrL} {c : Nat} {day hour : Int} {w : World} (hU : hrR w A l) :
    Calls Try.prog 24 #[.slice A l.length c, .int .i64 day, .int .i64 hour] w fun e w' => e = .returned (.int .i64 (hrNext l day hour)) ∧ Below w.heap.size w w' := by
  have hB := Below.refl w.heap.size w
  cases g1 : hrOk l
  · go_enter Try.func24, Try.ntmps24
    go_wp2_with fail
    refine (implHoursValid hU).mono ?_
    rintro e w1 ⟨rfl, hBc⟩
    replace hB := ext_trans hB hBc
    replace hU := hU.below hBc
    clear hBc
    go_wp2
    go_ret
    exact ⟨ret_int (by simp [hrNext, g1]), hB⟩
  · cases g2 : (inB day 0 6 && inB hour 0 23)
    · go_enter Try.func24, Try.ntmps24
      go_wp2_with fail
      refine (implHoursValid hU).mono ?_
      rintro e w1 ⟨rfl, hBc⟩
      replace hB := ext_trans hB hBc
      replace hU := hU.below hBc
      clear hBc
      go_wp2_with fail
      refine (isHour_any _ _ _).mono ?_
      rintro e w2 ⟨rfl, hBc⟩
      replace hB := ext_trans hB hBc
      replace hU := hU.below hBc
      clear hBc
      rw [g2]
      go_wp2
      go_ret
      exact ⟨ret_int (by simp only [hrNext, g2]; simp), hB⟩
    · have hd : (0 ≤ day ∧ day ≤ 6) ∧ 0 ≤ hour ∧ hour ≤ 23 := by simp only [Bool.and_eq_true] at g2; exact ⟨inB_true.1 g2.1, inB_true.1 g2.2⟩
      obtain ⟨⟨hd1, hd2⟩, hd3, hd4⟩ := hd
      have HG := Lib.hid g1
      have HG2 := Lib.hid g2
      clear g2
      go_enter Try.func24, Try.ntmps24
      go_wp2_with fail
      refine (implHoursValid hU).mono ?_
      rintro e w1 ⟨rfl, hBc⟩
      replace hB := ext_trans hB hBc
      replace hU := hU.below hBc
      clear hBc
      go_wp2_with fail
      refine (isHour_any _ _ _).mono ?_
      rintro e w2 ⟨rfl, hBc⟩
      replace hB := ext_trans hB hBc
      replace hU := hU.below hBc
      clear hBc
      rw [HG2.out]
      go_wp2
      clear g1
      obtain ⟨wo, hwo⟩ : ∃ wo : World, wo = w2 := ⟨_, rfl⟩
      subst hwo
      go_loopw [18] (fun i wr => ∃ k : Nat, k ≤ 168 ∧ i = .int .i64 k ∧ firstOf (hrP l day hour) 168 0 = firstOf (hrP l day hour) (168 - k) k ∧ Below wo.heap.size wo wr) (fun i _ => 168 - (intOf i).toNat)
      case atStart => exact ⟨0, by omega, rfl, rfl, Below.refl _ _⟩
      case round =>
        obtain ⟨k, hk, rfl, hf, hC⟩ := hrel
        have HF := Lib.hid hf
        clear hf
        have hU2 := hU.below hC
        by_cases hlt : k < 168
        · have hst : Hid _ := Lib.hid (firstOf_step hlt HF.out)
          have hp : Hid (hrP l day hour k = hrOpen l ((24 * day + hour + (k : Int)) % 168 / 24) ((24 * day + hour + (k : Int)) % 24)) := Lib.hid rfl
          cases g : hrOpen l ((24 * day + hour + (k : Int)) % 168 / 24) ((24 * day + hour + (k : Int)) % 24)
          all_goals go_wp2_with (go_at_call 36; refine (open_any hU2 HG.out (by omega) (by omega)).mono ?_; rintro e w2 ⟨rfl, hb2⟩; replace hC := ext_trans hC hb2; clear hb2)
          · go_roundw
            case rel => exact ⟨k + 1, by omega, by go_num, by rw [hst.out, hp.out, g]; simp, hC⟩
            case measure => simp [intOf]; omega
          · go_ret
            exact ⟨ret_int (by simp only [hrNext, HG.out, HG2.out]; rw [hst.out, hp.out, g]; simp), ext_trans hB hC⟩
        · have HK : Hid (-1 = hrNext l day hour) := Lib.hid (by rw [hrNext, HG.out, HG2.out, Bool.and_self, if_pos rfl, HF.out, show 168 - k = 0 by omega, firstOf])
          go_wp2
          go_ret
          exact ⟨ret_int HK.out, ext_trans hB hC⟩

set_option maxRecDepth 100000 in
set_option maxHeartbeats 1000000 in
theorem specNextOpen {A : Option Addr} {l : HrL} {c : Nat} {day hour : Int} {w : World} (hU : hrR w A l) :
    Calls Try.prog 23 #[.slice A l.length c, .int .i64 day, .int .i64 hour] w fun e w' => e = .returned (.int .i64 (hrNext l day hour)) ∧ Below w.heap.size w w' := by
  have hB := Below.refl w.heap.size w
  cases g1 : hrOk l
  · go_enter Try.func23, Try.ntmps23
    go_wp2_with fail
    refine (specHoursValid hU).mono ?_
    rintro e w1 ⟨rfl, hBc⟩
    replace hB := ext_trans hB hBc
    replace hU := hU.below hBc
    clear hBc
    go_wp2
    go_ret
    exact ⟨ret_int (by simp [hrNext, g1]), hB⟩
  · cases g2 : inB day 0 6
    · go_enter Try.func23, Try.ntmps23
      go_wp2_with fail
      refine (specHoursValid hU).mono ?_
      rintro e w1 ⟨rfl, hBc⟩
      replace hB := ext_trans hB hBc
      replace hU := hU.below hBc
      clear hBc
      go_wp2_with fail
      refine (l1In_any _ _ _ _).mono ?_
      rintro e w2 ⟨rfl, hBc⟩
      replace hB := ext_trans hB hBc
      replace hU := hU.below hBc
      clear hBc
      go_wp2
      go_ret
      exact ⟨ret_int (by simp [hrNext, g2]), hB⟩
    · cases g3 : inB hour 0 23
      · go_enter Try.func23, Try.ntmps23
        go_wp2_with fail
        refine (specHoursValid hU).mono ?_
        rintro e w1 ⟨rfl, hBc⟩
        replace hB := ext_trans hB hBc
        replace hU := hU.below hBc
        clear hBc
        go_wp2_with fail
        refine (l1In_any _ _ _ _).mono ?_
        rintro e w2 ⟨rfl, hBc⟩
        replace hB := ext_trans hB hBc
        replace hU := hU.below hBc
        clear hBc
        go_wp2_with fail
        refine (l1In_any _ _ _ _).mono ?_
        rintro e w3 ⟨rfl, hBc⟩
        replace hB := ext_trans hB hBc
        replace hU := hU.below hBc
        clear hBc
        go_wp2
        go_ret
        exact ⟨ret_int (by simp [hrNext, g3]), hB⟩
      · obtain ⟨hd1, hd2⟩ := inB_true.1 g2
        obtain ⟨hd3, hd4⟩ := inB_true.1 g3
        have HG := Lib.hid g1
        have HV : Hid (hrNext l day hour = firstOf (hrP l day hour) 168 0) := Lib.hid (by simp [hrNext, g1, g2, g3])
        go_enter Try.func23, Try.ntmps23
        go_wp2_with fail
        refine (specHoursValid hU).mono ?_
        rintro e w1 ⟨rfl, hBc⟩
        replace hB := ext_trans hB hBc
        replace hU := hU.below hBc
        clear hBc
        go_wp2_with fail
        refine (l1In_any _ _ _ _).mono ?_
        rintro e w2 ⟨rfl, hBc⟩
        replace hB := ext_trans hB hBc
        replace hU := hU.below hBc
        clear hBc
        go_wp2_with fail
        refine (l1In_any _ _ _ _).mono ?_
        rintro e w3 ⟨rfl, hBc⟩
        replace hB := ext_trans hB hBc
        replace hU := hU.below hBc
        clear hBc
        go_wp2
        clear g1 g2 g3
        obtain ⟨wo, hwo⟩ : ∃ wo : World, wo = w3 := ⟨_, rfl⟩
        subst hwo
        go_loopw [8] (fun i wr => ∃ k : Nat, k ≤ 168 ∧ i = .int .i64 k ∧ firstOf (hrP l day hour) 168 0 = firstOf (hrP l day hour) (168 - k) k ∧ Below wo.heap.size wo wr) (fun i _ => 168 - (intOf i).toNat)
        case atStart => exact ⟨0, by omega, rfl, rfl, Below.refl _ _⟩
        case round =>
          obtain ⟨k, hk, rfl, hf, hC⟩ := hrel
          have HF := Lib.hid hf
          clear hf
          have hU2 := hU.below hC
          by_cases hlt : k < 168
          · have hst : Hid _ := Lib.hid (firstOf_step hlt HF.out)
            have hp : Hid (hrIn l ((24 * day + hour + (k : Int)) / 24 % 7) ((24 * day + hour + (k : Int)) % 24) = hrP l day hour k) := Lib.hid (by
              rw [hrIn_open HG.out (by omega) (by omega) (by omega) (by omega), hrP]
              congr 1 <;> omega)
            cases g : hrP l day hour k
            all_goals go_wp2_with (go_at_call 18; refine (specInHours hU2).mono ?_; rintro e w2 ⟨rfl, hb2⟩; rw [hp.out]; replace hC := ext_trans hC hb2; clear hb2)
            · go_roundw
              case rel => exact ⟨k + 1, by omega, by go_num, by rw [hst.out, g]; simp, hC⟩
              case measure => simp [intOf]; omega
            · go_ret
              exact ⟨ret_int (by rw [HV.out, hst.out, g]; simp), ext_trans hB hC⟩
          · have HK : Hid (-1 = hrNext l day hour) := Lib.hid (by rw [HV.out, HF.out, show 168 - k = 0 by omega, firstOf])
            go_wp2
            go_ret
            exact ⟨ret_int HK.out, ext_trans hB hC⟩
end Go.Proofs.Yticiggciigmhaaa

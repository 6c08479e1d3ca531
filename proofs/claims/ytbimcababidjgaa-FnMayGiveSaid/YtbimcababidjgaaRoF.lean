/- Roles: l26Reach of the reference. -/
import Derived.Test.YtbimcababidjgaaRoD
import Derived.Test.YtbimcababidjgaaOne
namespace Go.Proofs.Ytbimcababidjgaa
set_option linter.unusedSimpArgs false
set_option linter.unusedVariables false
open Go.RowKit

theorem tb_lt {R i : Nat} (hR : R < 256) (h : R.testBit i = true) : i < 8 := by
  have h1 : 2 ^ i ≤ R := Nat.ge_two_pow_of_testBit h
  have h2 : 2 ^ i < 2 ^ 8 := by omega
  exact (Nat.pow_lt_pow_iff_right (by omega)).1 h2
theorem popc_lt {a b : Nat} (h : SubB a b) (hne : a ≠ b) (hb : b < 256) : popc a < popc b := by
  have hle : ∀ i, (a.testBit i).toNat ≤ (b.testBit i).toNat := fun i => by
    cases ha : a.testBit i
    · simp
    · rw [h i ha]; simp
  obtain ⟨i, h1, h2⟩ : ∃ i, b.testBit i = true ∧ a.testBit i = false := by
    apply Classical.byContradiction
    intro hh
    exact hne (h.eq (fun i hi => by
      cases ha : a.testBit i
      · exact absurd ⟨i, hi, ha⟩ hh
      · rfl))
  have h8 := tb_lt hb h1
  have hs : (a.testBit i).toNat < (b.testBit i).toNat := by rw [h1, h2]; decide
  have e0 := hle 0; have e1 := hle 1; have e2 := hle 2; have e3 := hle 3; have e4 := hle 4; have e5 := hle 5; have e6 := hle 6; have e7 := hle 7
  unfold popc
  have hc : i = 0 ∨ i = 1 ∨ i = 2 ∨ i = 3 ∨ i = 4 ∨ i = 5 ∨ i = 6 ∨ i = 7 := by omega
  rcases hc with rfl | rfl | rfl | rfl | rfl | rfl | rfl | rfl <;> omega
theorem tb_high {R k i : Nat} (hR : R < 2 ^ k) (h : k ≤ i) : R.testBit i = false := Nat.testBit_lt_two_pow (Nat.lt_of_lt_of_le hR (Nat.pow_le_pow_right (by omega) h))
theorem popc_le {R k : Nat} (hR : R < 2 ^ k) (hk : k ≤ 8) : popc R ≤ k := by
  have hb : ∀ i, (R.testBit i).toNat ≤ 1 := fun i => by cases R.testBit i <;> simp
  have hz : ∀ i, k ≤ i → (R.testBit i).toNat = 0 := fun i hi => by rw [tb_high hR hi]; rfl
  have e0 := hb 0; have e1 := hb 1; have e2 := hb 2; have e3 := hb 3; have e4 := hb 4; have e5 := hb 5; have e6 := hb 6; have e7 := hb 7
  have z0 := hz 0; have z1 := hz 1; have z2 := hz 2; have z3 := hz 3; have z4 := hz 4; have z5 := hz 5; have z6 := hz 6; have z7 := hz 7
  unfold popc
  omega
/-- A pass of the reference, from Rs on. -/
def StepS (l : RoL) (n Rs R k : Nat) : Prop := SubB Rs R ∧ (∀ R', R'.testBit n = true → Closed l R' → SubB R R') ∧ ∀ k', k' < k → k' < l.length → Rs.testBit k' = true → ∀ j, j < (ro2 l k').length → R.testBit (il0 (ro2 l k') j).toNat = true
theorem StepS.next {l : RoL} {n Rs R k : Nat} (h : StepS l n Rs R k) (ha : Rs.testBit k = true → ∀ j, j < (ro2 l k).length → R.testBit (il0 (ro2 l k) j).toNat = true) : StepS l n Rs R (k + 1) := ⟨h.1, h.2.1, fun i' h1 h2 h3 => by
  by_cases e : i' = k
  · subst e; exact ha h3
  · exact h.2.2 i' (by omega) h2 h3⟩
theorem StepS.add {l : RoL} {n Rs R k m : Nat} (h : StepS l n Rs R k) (hk : k < l.length) (hb : R.testBit k = true) {j : Nat} (hj : j < (ro2 l k).length) (hm : (il0 (ro2 l k) j).toNat = m) : StepS l n Rs (R ||| 2 ^ m) k := by
  refine ⟨h.1.trans (SubB.or_l _ _), fun R' h1 h2 => SubB.or (h.2.1 R' h1 h2) (SubB.two ?_), fun i' g1 g2 g3 j' g4 => SubB.or_l _ _ _ (h.2.2 i' g1 g2 g3 j' g4)⟩
  rw [← hm]
  exact h2 k hk (h.2.1 R' h1 h2 k hb) j hj
/-- So far: n is in, no more than must be; and it is closed, or has grown with each pass. -/
def PassS (l : RoL) (n R step : Nat) : Prop := R.testBit n = true ∧ (∀ R', R'.testBit n = true → Closed l R' → SubB R R') ∧ (Closed l R ∨ step + 1 ≤ popc R)
theorem PassS.next {l : RoL} {n Rs R step : Nat} (h : PassS l n Rs step) (hs : StepS l n Rs R l.length) (hR : R < 256) : PassS l n R (step + 1) := by
  refine ⟨hs.1 n h.1, hs.2.1, ?_⟩
  by_cases e : Rs = R
  · subst e
    exact .inl (fun i hi hb j hj => hs.2.2 i hi hi hb j hj)
  · rcases h.2.2 with hc | hc
    · exact absurd (hs.1.eq (hs.2.1 Rs h.1 hc)) e
    · have := popc_lt hs.1 e hR
      exact .inr (by omega)
theorem PassS.end {l : RoL} {n R : Nat} (h : PassS l n R l.length) (hok : roOk l = true) (hn : n < l.length) : Reach l n R := by
  refine ⟨h.1, ?_, h.2.1⟩
  rcases h.2.2 with hc | hc
  · exact hc
  · obtain ⟨h8, hg⟩ := roOk_good hok
    have hs := h.2.1 (2 ^ l.length - 1) (by rw [all_bits]; simpa using hn) (fun i hi _ j hj => by
      have := roGood_has (hg i hi) hi j hj
      rw [all_bits]; simp; omega)
    have hle := hs.le
    have hp := Nat.two_pow_pos l.length
    have := popc_le (R := R) (k := l.length) (by omega) h8
    omega
/-- The truths that stand for a set. -/
def blEnc (b : Bool) : List Value := [.bool b]
def blOf (R k : Nat) : List Bool := (List.range k).map R.testBit
theorem blOf_len (R k : Nat) : (blOf R k).length = k := by simp [blOf]
theorem blOf_at {R k i : Nat} (h : i < k) : (blOf R k)[i]? = some (R.testBit i) := by simp [blOf, h]
theorem blOf_set {R k m : Nat} (h : m < k) : (blOf R k).set m true = blOf (R ||| 2 ^ m) k := by
  apply List.ext_getElem?
  intro i
  by_cases hi : i < k
  · rw [blOf_at hi, List.getElem?_set]
    by_cases e : m = i
    · subst e
      rw [if_pos rfl, if_pos (by rw [blOf_len]; exact hi), Nat.testBit_or]
      simp [Nat.testBit_two_pow]
    · rw [if_neg e, blOf_at hi, Nat.testBit_or, Nat.testBit_two_pow]
      simp [e]
  · rw [List.getElem?_eq_none (by rw [List.length_set, blOf_len]; omega), List.getElem?_eq_none (by rw [blOf_len]; omega)]
theorem blOf_zero (k : Nat) : blOf 0 k = List.replicate k false := by
  apply List.ext_getElem?
  intro i
  by_cases hi : i < k
  · rw [blOf_at hi]; simp [List.getElem?_replicate, hi]
  · rw [List.getElem?_eq_none (by rw [blOf_len]; omega), List.getElem?_eq_none (by simp; omega)]
theorem bl_map (l : List Bool) : l.flatMap blEnc = l.map Value.bool := by
  induction l with
  | nil => rfl
  | cons a l ih => simp [blEnc, ih]
theorem bl_made {n : Nat} (hn : n ≤ 8) : (madeCells (Value.bool false).cells (n * 1)).toList = (blOf 0 n).flatMap blEnc := by
  rw [bl_map, blOf_zero, List.map_replicate, Nat.mul_one]
  have e : (madeCells (Value.bool false).cells n).toList = (List.range n).map (fun j => (Value.bool false).cells[j % (Value.bool false).cells.size]!) := by simp [madeCells]
  rw [e]
  refine List.eq_replicate_iff.2 ⟨by simp, fun b hb => ?_⟩
  obtain ⟨j, _, rfl⟩ := List.mem_map.1 hb
  have hz : j % (Value.bool false).cells.size = 0 := Nat.mod_one j
  rw [hz]
  rfl
theorem Try.infoBool : (Try.prog.info? 4).map (fun i => (i.zero, i.size, i.bytes)) = some (some (.bool false), 1, 1) := by kernel_rfl
section
variable {w : World} {B g n c R : Nat}
theorem own_setB {m : Nat} (h : w.ownsRow B 4 1 (.slice (some ⟨g, 0, none⟩) n c) n ((blOf R n).flatMap blEnc)) (hm : m < n) : (w.setCell ⟨g, m, none⟩ (.bool true)).ownsRow B 4 1 (.slice (some ⟨g, 0, none⟩) n c) n ((blOf (R ||| 2 ^ m) n).flatMap blEnc) := by
  have := own_put (enc := blEnc) true (fun _ => rfl) h (blOf_len R n) hm
  rw [blOf_set hm, Nat.mul_one] at this
  exact this
theorem own_getB {m : Nat} (h : w.ownsRow B 4 1 (.slice (some ⟨g, 0, none⟩) n c) n ((blOf R n).flatMap blEnc)) (hm : m < n) : w.cell? ⟨g, m, none⟩ = some (.bool (R.testBit m)) := by
  rw [h.cellAt m (by omega), bl_map, List.getElem?_map, blOf_at hm]; rfl
end
set_option maxRecDepth 100000 in
set_option maxHeartbeats 8000000 in
theorem l26Reach_any {A : Option Addr} {l : RoL} {c n : Nat} {w : World} (hU : roR w A l) (hok : roOk l = true) (hn : n < l.length) :
    Calls Try.prog 56 #[.slice A l.length c, .int .i64 (n : Int)] w fun e w' => e = .returned (.slice (some ⟨w.heap.size, 0, none⟩) l.length l.length) ∧
      w'.ownsRow w.heap.size 4 1 (.slice (some ⟨w.heap.size, 0, none⟩) l.length l.length) l.length ((blOf (roReach l n) l.length).flatMap blEnc) ∧ Below w.heap.size w w' := by
  obtain ⟨h8, hgood⟩ := roOk_good hok
  obtain ⟨i0, hi, hz0, hz1, hz2⟩ := info_parts Try.infoBool
  obtain ⟨wm, hmk, hown, hgr⟩ := run_make_full (P := Try.prog) w w.heap.size 82 4 i0 _ 1 Try.underlying82 hi hz0 hz1 .i64 .i64 l.length (by rw [hz2]; omega) (by simp only [maxLen]; omega) (Nat.le_refl _)
  have hBm : Below w.heap.size w wm := ext_grown (Below.refl _ _) hgr (by simp)
  clear hgr hi hz0 hz1 hz2
  rw [bl_made h8] at hown
  have HG := Lib.hid hgood
  have HK := Lib.hid hok
  clear hgood hok
  have hl := hU.len
  have hn8 : n < 8 := by omega
  have hcn := own_getB hown hn
  have hzn := hown.frozenAt n
  have HO1 := Lib.hid (own_setB hown hn)
  have HB1 := Lib.hid (show Below w.heap.size w (wm.setCell ⟨w.heap.size, n, none⟩ (.bool true)) from Below.setCell hBm (Nat.le_refl _) _)
  clear hown
  go_enter Try.func56, Try.ntmps56
  go_wp2
  clear hmk
  go_loopw [6] (fun sv wr => ∃ st R : Nat, st ≤ l.length ∧ sv = .int .i64 st ∧ R < 256 ∧ wr.ownsRow w.heap.size 4 1 (.slice (some ⟨w.heap.size, 0, none⟩) l.length l.length) l.length ((blOf R l.length).flatMap blEnc) ∧ Hid (PassS l n R st) ∧ Below w.heap.size w wr) (fun sv _ => l.length - (intOf sv).toNat)
  case atStart => exact ⟨0, 2 ^ n, Nat.zero_le _, rfl, two_lt hn8, by have := HO1.out; rwa [Nat.zero_or] at this, Lib.hid ⟨by rw [Nat.testBit_two_pow]; simp, fun R' h _ => SubB.two h, .inr (by
    have hp := Nat.two_pow_pos n
    have := popc_lt (a := 0) (b := 2 ^ n) (fun i h => by simp at h) (by omega) (two_lt hn8)
    omega)⟩, HB1.out⟩
  case round =>
    clear HO1 HB1 hcn hzn hBm
    obtain ⟨st, Rs, hst, rfl, hRs, hO, HP, hB⟩ := hrel
    by_cases hlt : st < l.length
    · go_wp2
      go_loopw [7] (fun kv wr => ∃ k R : Nat, k ≤ l.length ∧ kv = .int .i64 k ∧ R < 256 ∧ wr.ownsRow w.heap.size 4 1 (.slice (some ⟨w.heap.size, 0, none⟩) l.length l.length) l.length ((blOf R l.length).flatMap blEnc) ∧ Hid (StepS l n Rs R k) ∧ Below w.heap.size w wr) (fun kv _ => l.length - (intOf kv).toNat)
      case atStart => exact ⟨0, Rs, Nat.zero_le _, rfl, hRs, hO, Lib.hid ⟨SubB.refl _, HP.out.2.1, fun i h => by omega⟩, hB⟩
      case round =>
        clear hO hB
        obtain ⟨k, R, hk, rfl, hR, hO, HS, hB⟩ := hrel
        by_cases hltk : k < l.length
        · obtain ⟨b, off, rfl, hc⟩ := roR.cells hU (by omega)
          obtain ⟨A', c', hfd, c0, c1, c2⟩ := hc k hltk
          have hll := hfd.len
          have HR := Lib.hid (roGood_has (HG.out k hltk) hltk)
          clear hc c0 c1
          cases g : R.testBit k
          · have HGB := Lib.hid g
            clear g
            go_wp2
            go_loopw [8] (fun jv wr => jv = .int .i64 0 ∧ wr.ownsRow w.heap.size 4 1 (.slice (some ⟨w.heap.size, 0, none⟩) l.length l.length) l.length ((blOf R l.length).flatMap blEnc) ∧ Below w.heap.size w wr) (fun _ _ => 0)
            case atStart => exact ⟨rfl, hO, hB⟩
            case round =>
              clear hO hB
              obtain ⟨rfl, hO, hB⟩ := hrel
              have d2 := below_cell hB c2
              have x0 := own_getB hO hltk
              rw [HGB.out] at x0
              have HNX : Hid (StepS l n Rs R (k + 1)) := Lib.hid (HS.out.next (fun h => by have := HS.out.1 k h; rw [HGB.out] at this; cases this))
              rcases Nat.eq_zero_or_pos (ro2 l k).length with h0 | h0
              · have h0' : ((ro2 l k).length : Int) = 0 := by omega
                go_wp2
                go_roundw
                case rel => exact ⟨k + 1, R, by omega, by go_num, hR, hO, HNX, hB⟩
                case measure => simp [intOf]; omega
              · have h0' : (0 : Int) < (ro2 l k).length := by omega
                go_wp2
                go_roundw
                case rel => exact ⟨k + 1, R, by omega, by go_num, hR, hO, HNX, hB⟩
                case measure => simp [intOf]; omega
          · have HGB := Lib.hid g
            clear g
            go_wp2
            go_loopw [8] (fun jv wr => ∃ j x : Nat, j ≤ (ro2 l k).length ∧ jv = .int .i64 j ∧ x < 256 ∧ wr.ownsRow w.heap.size 4 1 (.slice (some ⟨w.heap.size, 0, none⟩) l.length l.length) l.length ((blOf x l.length).flatMap blEnc) ∧ Hid (StepS l n Rs x k ∧ x.testBit k = true ∧ ∀ j', j' < j → x.testBit (il0 (ro2 l k) j').toNat = true) ∧ Below w.heap.size w wr) (fun jv _ => (ro2 l k).length - (intOf jv).toNat)
            case atStart => exact ⟨0, R, Nat.zero_le _, rfl, hR, hO, Lib.hid ⟨HS.out, HGB.out, fun j h => by omega⟩, hB⟩
            case round =>
              clear hO hB
              obtain ⟨j, x, hj, rfl, hx, hO, HJ, hB⟩ := hrel
              have d2 := below_cell hB c2
              have x0 := own_getB hO hltk
              rw [HJ.out.2.1] at x0
              by_cases hltj : j < (ro2 l k).length
              · obtain ⟨b2, off2, rfl, hc2⟩ := hfd.cells (by omega)
                have m0 := below_cell hB (hc2 j hltj)
                obtain ⟨n0, n1⟩ := HR.out j hltj
                clear hc2
                obtain ⟨m, hm⟩ : ∃ m : Nat, il0 (ro2 l k) j = m := ⟨(il0 (ro2 l k) j).toNat, by omega⟩
                have hml : m < l.length := by omega
                have HM := Lib.hid hm
                rw [hm] at m0
                clear hm n0 n1
                have y0 := own_getB hO hml
                have z0 := hO.frozenAt m
                have HO2 := Lib.hid (own_setB hO hml)
                have HB2 := Lib.hid (show Below w.heap.size w (wr.setCell ⟨w.heap.size, m, none⟩ (.bool true)) from Below.setCell hB (Nat.le_refl _) _)
                have hm8 : m < 8 := by omega
                clear hO hB
                go_wp2
                go_roundw
                case rel => exact ⟨j + 1, x ||| 2 ^ m, by omega, by go_num, or_lt hx (two_lt hm8), HO2.out, Lib.hid ⟨HJ.out.1.add hltk HJ.out.2.1 hltj (by rw [HM.out]; rfl), SubB.or_l _ _ _ HJ.out.2.1, fun j' hj' => by
                  by_cases e : j' = j
                  · subst e
                    rw [Nat.testBit_or, HM.out]
                    simp [Nat.testBit_two_pow]
                  · exact SubB.or_l _ _ _ (HJ.out.2.2 j' (by omega))⟩, HB2.out⟩
                case measure => simp [intOf]; omega
              · obtain rfl : j = (ro2 l k).length := by omega
                go_wp2
                go_roundw
                case rel => exact ⟨k + 1, x, by omega, by go_num, hx, hO, Lib.hid (HJ.out.1.next (fun _ => HJ.out.2.2)), hB⟩
                case measure => simp [intOf]; omega
        · obtain rfl : k = l.length := by omega
          have HN := Lib.hid (HP.out.next HS.out hR)
          go_wp2
          go_roundw
          case rel => exact ⟨st + 1, R, by omega, by go_num, hR, hO, HN, hB⟩
          case measure => simp [intOf]; omega
    · obtain rfl : st = l.length := by omega
      have HE := Lib.hid (PassS.end HP.out HK.out hn).eq
      go_wp2
      go_ret
      exact ⟨rfl, by rw [HE.out]; exact hO, hB⟩
end Go.Proofs.Ytbimcababidjgaa

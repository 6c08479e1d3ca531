/- A bit of a small number, by halves; the first rule that fits, by the program. -/
import Derived.Test.YtpmelhkhmichcaaDoorBas
import Derived.Test.YtpmelhkhmichcaaDoorPfE
import Derived.Test.YtpmelhkhmichcaaDoorRuA
namespace Go.Proofs.YtpmelhkhmichcaaDoor
set_option linter.unusedSimpArgs false
set_option linter.unusedVariables false
open Go.RowKit

def halfN (a : Int) : Nat → Int
  | 0 => a
  | k + 1 => halfN a k / 2
def bitB (a : Int) (d : Int) : Bool := decide (halfN a d.toNat % 2 = 1)
theorem halfN_bounds {a : Int} (h : 0 ≤ a) : ∀ k, 0 ≤ halfN a k ∧ halfN a k ≤ a
  | 0 => ⟨h, Int.le_refl _⟩
  | k + 1 => by have := halfN_bounds h k; simp only [halfN]; omega

theorem halfN_nat (n : Nat) : ∀ k, halfN (n : Int) k = ((n / 2 ^ k : Nat) : Int)
  | 0 => by simp [halfN]
  | k + 1 => by
    simp only [halfN, halfN_nat n k]
    rw [Nat.pow_succ, ← Nat.div_div_eq_div_mul]
    omega
theorem and_one_i64 (n : Nat) (h : n < 9223372036854775808) : bits .and .i64 (n : Int) 1 = ((n % 2 : Nat) : Int) := by
  show IntKind.i64.wrap ((BitVec.ofInt 64 (n : Int) &&& BitVec.ofInt 64 ((1 : Nat) : Int)).toNat : Int) = _
  rw [BitVec.toNat_and, BitVec.ofInt_natCast, BitVec.ofInt_natCast, BitVec.toNat_ofNat, BitVec.toNat_ofNat, Nat.mod_eq_of_lt (by omega), Nat.mod_eq_of_lt (by omega), Nat.and_one_is_mod, IntKind.wrap_i64]
  omega
theorem bitB_eq {a : Int} (d : Int) (h0 : 0 ≤ a) (h1 : a ≤ 1000000) : (bits BinOp.and IntKind.i64 (a / 2 ^ d.toNat) 1 == 1) = bitB a d := by
  obtain ⟨n, rfl⟩ := Int.eq_ofNat_of_zero_le h0
  have e : ((n : Int) / 2 ^ d.toNat) = ((n / 2 ^ d.toNat : Nat) : Int) := by
    rw [Int.natCast_ediv]; congr 1
  have hlt : n / 2 ^ d.toNat ≤ n := Nat.div_le_self _ _
  rw [e, and_one_i64 _ (by omega), bitB, halfN_nat, Bool.eq_iff_iff]
  simp

set_option maxHeartbeats 400000 in
theorem l12Act_any {a d : Int} (w : World) (h0 : 0 ≤ a) (h1 : a ≤ 1000000) (h2 : 0 ≤ d) (h3 : d ≤ 1000000) :
    Calls Tryd.prog 64 #[.int .i64 a, .int .i64 d] w fun e w' => e = .returned (.bool (bitB a d)) ∧ Below w.heap.size w w' := by
  go_enter Tryd.func64, Tryd.ntmps64
  go_wp2
  go_loop [0, 5] (fun x i => ∃ k : Nat, (k : Int) ≤ d ∧ i = .int .i64 k ∧ x = .int .i64 (halfN a k)) (fun _ i => d.toNat - (intOf i).toNat)
  case atStart => exact ⟨0, by omega, rfl, rfl⟩
  case round =>
    obtain ⟨k, hk, rfl, rfl⟩ := hrel
    obtain ⟨b1, b2⟩ := halfN_bounds h0 k
    by_cases hlt : (k : Int) < d
    · go_wp2
      go_round
      case rel => exact ⟨k + 1, by omega, by go_num, rfl⟩
      case measure => simp [intOf]; omega
    · go_wp2
      go_ret
      have e : d.toNat = k := by omega
      exact ⟨ret_bool (by simp only [bitB, e]; rw [Bool.eq_iff_iff]; simp), Below.refl _ _⟩
theorem isAct_any (a : Int) (w : World) :
    Calls Tryd.prog 65 #[.int .i64 a] w fun e w' => e = .returned (.bool (inB a 0 3)) ∧ Below w.heap.size w w' := by
  go_enter Tryd.func65, Tryd.ntmps65
  go_wp2_with fail
  refine (in_any _ _ _ _).mono ?_
  rintro e w1 ⟨rfl, hB⟩
  go_wp2
  go_ret
  exact ⟨rfl, hB⟩
theorem isAct_v {a : Int} {b : Bool} (hb : inB a 0 3 = b) (w : World) :
    Calls Tryd.prog 65 #[.int .i64 a] w fun e w' => e = .returned (.bool b) ∧ Below w.heap.size w w' := hb ▸ isAct_any a w
/-- A rule fits a path and has an act. -/
def frHit (l : RuL) (path : ByteArray) (act : Int) (k : Nat) : Bool := fitB path (ru0 l k) && bitB (ru1 l k) act
theorem implPathFits_v {p s : ByteArray} {b : Bool} (hb : fitB p s = b) (hp : p.size ≤ 2097152) (hs : s.size ≤ 2097152) (w : World) :
    Calls Tryd.prog 29 #[.string p, .string s] w fun e w' => e = .returned (.bool b) ∧ Below w.heap.size w w' := hb ▸ implPathFits hp hs
theorem specPathFits_v {p s : ByteArray} {b : Bool} (hb : fitB p s = b) (hp : p.size ≤ 2097152) (hs : s.size ≤ 2097152) (w : World) :
    Calls Tryd.prog 63 #[.string p, .string s] w fun e w' => e = .returned (.bool b) ∧ Below w.heap.size w w' := by
  rw [← hb, fit_same]; exact specPathFits hp hs
set_option maxHeartbeats 2000000 in
theorem fr1_any {s path : ByteArray} {a act : Int} {al : Bool} {bp ba : Nat} {w : World} (hp : path.size ≤ 2097152) (hs : s.size ≤ 2097152) (h0 : 0 ≤ a) (h1 : a ≤ 1000000) (h2 : 0 ≤ act) (h3 : act ≤ 3)
    (b0 : w.cell? ⟨bp, 0, none⟩ = some (.string path)) (b1 : w.cell? ⟨ba, 0, none⟩ = some (.int .i64 act)) :
    Calls Tryd.prog 67 #[.agg #[.string s, .int .i64 a, .bool al], .pointer (some ⟨bp, 0, none⟩), .pointer (some ⟨ba, 0, none⟩)] w fun e w' => e = .returned (.bool (fitB path s && bitB a act)) ∧ Below w.heap.size w w' := by
  obtain ⟨W, hW⟩ : ∃ W, W = w.alloc (.cells #[.string s, .int .i64 a, .bool al] 25) := ⟨_, rfl⟩
  obtain ⟨gx, hgx⟩ : ∃ g, g = w.heap.size := ⟨_, rfl⟩
  have hB : Below w.heap.size w W := by rw [hW]; (repeat (first | exact Below.refl _ _ | refine ext_alloc ?_ _ | refine Below.setCell ?_ (by simp) _))
  have r0 : W.cell? ⟨gx, 0, none⟩ = some (.string s) := by rw [hW, hgx]; exact box_cell w _ _ 0 _ rfl
  have r1 : W.cell? ⟨gx, 1, none⟩ = some (.int .i64 a) := by rw [hW, hgx]; exact box_cell w _ _ 1 _ rfl
  have hbp := block_lt_of_cell b0
  have hba := block_lt_of_cell b1
  have d0 := below_cell hB b0
  have d1 := below_cell hB b1
  have HW := Lib.hid hW
  have HGX := Lib.hid hgx
  clear hW hgx
  cases hf : fitB path s
  · go_enter Tryd.func67, Tryd.ntmps67
    go_wp2_with fail
    rw [← HW.out, ← HGX.out]
    refine (implPathFits_v hf hp hs _).mono ?_
    rintro e w1 ⟨rfl, hb⟩
    rw [HGX.out]
    replace hB := ext_trans hB hb
    go_wp2
    go_ret
    exact ⟨rfl, hB⟩
  · have HBT := Lib.hid (bitB_eq act h0 h1)
    go_enter Tryd.func67, Tryd.ntmps67
    go_wp2_with fail
    rw [← HW.out, ← HGX.out]
    refine (implPathFits_v hf hp hs _).mono ?_
    rintro e w1 ⟨rfl, hb⟩
    replace r0 := below_cell hb r0
    replace r1 := below_cell hb r1
    replace d0 := below_cell hb d0
    replace d1 := below_cell hb d1
    replace hB := ext_trans hB hb
    clear hb b0 b1
    go_wp2
    rw [HGX.out]
    go_ret
    exact ⟨by rw [← HBT.out]; rfl, hB⟩
theorem enters_fr1 : ∀ args w, (callFunc 67 args).run Tryd.prog w = .ok (.enter 67 args) w := enters_of Tryd.func67 (by kernel_rfl) rfl
/-- What FirstRule gives. -/
def FrP (l : RuL) (path : ByteArray) (act : Int) (i : Int) : Prop := (ruOk l = true → inB act 0 3 = true → FirstP (frHit l path act) l.length i) ∧ (ruOk l = false ∨ inB act 0 3 = false → i = -1)
theorem FirstP.uniq {p : Nat → Bool} {n : Nat} {i i' : Int} (h : FirstP p n i) (h' : FirstP p n i') : i = i' := by
  rcases h with ⟨rfl, h⟩ | ⟨k, rfl, hk, h1, h2⟩
  · rcases h' with ⟨rfl, _⟩ | ⟨k', rfl, hk', h1', _⟩
    · rfl
    · rw [h k' hk'] at h1'; cases h1'
  · rcases h' with ⟨rfl, h'⟩ | ⟨k', rfl, hk', h1', h2'⟩
    · rw [h' k hk] at h1; cases h1
    · rcases Nat.lt_trichotomy k k' with hl | he | hl
      · rw [h2' k hl] at h1; cases h1
      · rw [he]
      · rw [h2 k' hl] at h1'; cases h1'
theorem FrP.uniq {l : RuL} {path : ByteArray} {act i i' : Int} (h : FrP l path act i) (h' : FrP l path act i') : i = i' := by
  cases h1 : ruOk l
  · rw [h.2 (.inl h1), h'.2 (.inl h1)]
  · cases h2 : inB act 0 3
    · rw [h.2 (.inr h2), h'.2 (.inr h2)]
    · exact (h.1 h1 h2).uniq (h'.1 h1 h2)
theorem ruOk_at {l : RuL} (h : ruOk l = true) {k : Nat} (hk : k < l.length) : patOk (ru0 l k) = true ∧ 1 ≤ ru1 l k ∧ ru1 l k ≤ 15 := by
  simp only [ruOk, Bool.and_eq_true, decide_eq_true_eq] at h
  have := h.2 k hk
  rw [ruGood, Bool.and_eq_true, inB_true] at this
  exact this
set_option maxHeartbeats 2000000 in
theorem implFirstRule {A : Option Addr} {l : RuL} {c : Nat} {path : ByteArray} {act : Int} {w : World} (hU : ruR w A l) (hf : FewP l) (hp : path.size ≤ 2097152) :
    Calls Tryd.prog 27 #[.slice A l.length c, .string path, .int .i64 act] w fun e w' => ∃ i : Int, e = .returned (.int .i64 i) ∧ FrP l path act i ∧ Below w.heap.size w w' := by
  have hlen := hU.len
  obtain ⟨W, hW⟩ : ∃ W, W = (w.alloc (.cells #[.string path] 9)).alloc (.cells #[.int .i64 act] 3) := ⟨_, rfl⟩
  have hB : Below w.heap.size w W := by rw [hW]; (repeat (first | exact Below.refl _ _ | refine ext_alloc ?_ _ | refine Below.setCell ?_ (by simp) _))
  have b0 : W.cell? ⟨w.heap.size, 0, none⟩ = some (.string path) := by rw [hW]; exact below_cell (below_alloc _ _) (box_cell w _ _ 0 _ rfl)
  have b1 : W.cell? ⟨w.heap.size + 1, 0, none⟩ = some (.int .i64 act) := by rw [hW]; exact box_cell_at (by simp) rfl
  have hUW := hU.below hB
  have HW := Lib.hid hW
  clear hW hU
  cases hok : ruOk l
  · have HF : Hid (FrP l path act (-1)) := Lib.hid ⟨fun h => (by rw [hok] at h; cases h), fun _ => rfl⟩
    go_enter Tryd.func27, Tryd.ntmps27
    go_wp2_with fail
    rw [← HW.out]
    refine (implRulesValid hUW hf).mono ?_
    rintro e w1 ⟨rfl, hb⟩
    rw [hok]
    replace hB := ext_trans hB hb
    go_wp2
    go_ret
    exact ⟨-1, rfl, HF.out, hB⟩
  · cases ha : inB act 0 3
    · have HF : Hid (FrP l path act (-1)) := Lib.hid ⟨fun _ h => (by rw [ha] at h; cases h), fun _ => rfl⟩
      go_enter Tryd.func27, Tryd.ntmps27
      go_wp2_with fail
      rw [← HW.out]
      refine (implRulesValid hUW hf).mono ?_
      rintro e w1 ⟨rfl, hb⟩
      rw [hok]
      replace hB := ext_trans hB hb
      replace b1 := below_cell hb b1
      clear hb
      go_wp2_with fail
      refine (isAct_v ha _).mono ?_
      rintro e w2 ⟨rfl, hb⟩
      replace hB := ext_trans hB hb
      go_wp2
      go_ret
      exact ⟨-1, rfl, HF.out, hB⟩
    · have HOK := Lib.hid hok
      have hact := inB_true.1 ha
      have HFW := Lib.hid hf
      go_enter Tryd.func27, Tryd.ntmps27
      go_wp2_with fail
      rw [← HW.out]
      refine (implRulesValid hUW hf).mono ?_
      rintro e w1 ⟨rfl, hb⟩
      rw [hok]
      replace hB := ext_trans hB hb
      replace b0 := below_cell hb b0
      replace b1 := below_cell hb b1
      replace hUW := hUW.below hb
      clear hb
      go_wp2_with fail
      refine (isAct_v ha _).mono ?_
      rintro e w2 ⟨rfl, hb⟩
      replace hB := ext_trans hB hb
      replace b0 := below_cell hb b0
      replace b1 := below_cell hb b1
      replace hUW := hUW.below hb
      clear hb
      have HC := Lib.hid (indexFunc_ru (c := c) (p := frHit l path act) (lb := #[.pointer (some ⟨w.heap.size, 0, none⟩), .pointer (some ⟨w.heap.size + 1, 0, none⟩)]) enters_fr1 hUW (fun k hk X hX => fr1_any (bp := w.heap.size) (ba := w.heap.size + 1) hp (by have := hf k hk; omega) (by have := ruOk_at HOK.out hk; omega) (by have := ruOk_at HOK.out hk; omega) hact.1 hact.2 (below_cell hX b0) (below_cell hX b1)))
      go_wp2_with fail
      refine HC.out.mono ?_
      rintro e w3 ⟨i, rfl, hi, hb⟩
      replace hB := ext_trans hB hb
      have HI := Lib.hid hi
      clear hi
      go_wp2
      go_ret
      exact ⟨i, rfl, ⟨fun _ _ => HI.out, fun h => by rcases h with h | h; rw [HOK.out] at h; cases h; rw [ha] at h; cases h⟩, hB⟩
end Go.Proofs.YtpmelhkhmichcaaDoor

/- Texts of rules, by the program and by the reference. -/
import Derived.Test.YtpmelhkhmichcaaDoorRtL
import Derived.Test.YtpmelhkhmichcaaDoorMkT
import Derived.Test.YtpmelhkhmichcaaDoorRuE
namespace Go.Proofs.YtpmelhkhmichcaaDoor
set_option linter.unusedSimpArgs false
set_option linter.unusedVariables false
open Go.RowKit

def l1Go : Nat → Int → ByteArray → ByteArray
  | 0, _, out => out
  | f + 1, k, out => if k ≤ 9 then out else l1Go f (k / 10) (⟨#[UInt8.ofNat (48 + k / 10 % 10).toNat]⟩ ++ out)
def l1N (k : Int) : ByteArray := l1Go k.toNat k ⟨#[UInt8.ofNat (48 + k % 10).toNat]⟩
theorem l1N_small : ∀ n : Fin 16, l1N (n.1 : Int) = ⟨(Lib.decDigits n.1).toArray⟩ := by decide +kernel
theorem l1N_size : ∀ n : Fin 16, (l1N (n.1 : Int)).size ≤ 2 := by decide +kernel
set_option maxRecDepth 100000 in
set_option maxHeartbeats 2000000 in
theorem l1Number_any {k : Int} (w : World) (h0 : 0 ≤ k) (hk : k ≤ 4611686018427387904) :
    Calls Tryd.prog 76 #[.int .i64 k] w fun e w' => e = .returned (.string (l1N k)) ∧ Below w.heap.size w w' := by
  have HD : Hid (l1N k = l1Go k.toNat k ⟨#[UInt8.ofNat (48 + k % 10).toNat]⟩) := Lib.hid rfl
  go_enter Tryd.func76, Tryd.ntmps76
  go_wp2
  rw [run_one_byte (by omega) (by omega)]
  go_wp2
  go_loopw [0, 3] (fun kv ov wr => ∃ (f : Nat) (m : Int) (out : ByteArray), kv = .int .i64 m ∧ ov = .string out ∧ 0 ≤ m ∧ m ≤ 4611686018427387904 ∧ (m.toNat ≤ f ∧ out.size + m.toNat ≤ 4611686018427387905) ∧ Hid (l1Go f m out = l1N k) ∧ Below w.heap.size w wr) (fun kv _ _ => (intOf kv).toNat)
  case atStart => exact ⟨k.toNat, k, _, rfl, rfl, by omega, hk, ⟨Nat.le_refl _, by show 1 + k.toNat ≤ _; omega⟩, Lib.hid HD.out.symm, by (repeat (first | exact Below.refl _ _ | refine ext_alloc ?_ _ | refine Below.setCell ?_ (by simp) _))⟩
  case round =>
    obtain ⟨f, m, out, rfl, rfl, hm, hm1, ⟨hf, hz⟩, HG, hB⟩ := hrel
    by_cases hlt : 9 < m
    · obtain ⟨f, rfl⟩ : ∃ g, f = g + 1 := ⟨f - 1, by omega⟩
      have HG1 : Hid (l1Go f (m / 10) (⟨#[UInt8.ofNat (48 + m / 10 % 10).toNat]⟩ ++ out) = l1N k) := Lib.hid (by rw [← HG.out, l1Go, if_neg (by omega)])
      have ez : (⟨#[UInt8.ofNat (48 + m / 10 % 10).toNat]⟩ ++ out : ByteArray).size = 1 + out.size := by rw [ByteArray.size_append]; rfl
      have HZ := Lib.hid ez
      clear ez
      go_wp2
      rw [run_one_byte (by omega) (by omega)]
      go_wp2
      go_roundw
      case rel => exact ⟨f, m / 10, _, rfl, rfl, by omega, by omega, ⟨by omega, by rw [HZ.out]; omega⟩, HG1, ext_alloc hB _⟩
      case measure => simp [intOf]; omega
    · have HE : Hid (l1Go f m out = out) := Lib.hid (by cases f <;> simp [l1Go]; omega)
      go_wp2
      go_ret
      exact ⟨by rw [← HG.out, HE.out]; rfl, hB⟩
theorem itoa_any {a : Int} (h0 : 0 ≤ a) (h1 : a ≤ 15) (w : World) :
    Calls Tryd.prog 56 #[.int .i64 a] w fun e w' => e = .returned (.string (l1N a)) ∧ Below w.heap.size w w' := by
  obtain ⟨n, rfl⟩ := Int.eq_ofNat_of_zero_le h0
  have h := Any.strconv_Itoa_small Tryd.lays171 n (by omega) w
  refine Calls.mono (show Calls Tryd.prog 56 #[.int .i64 (n : Int)] w _ from h) ?_
  rintro e w' ⟨rfl, rfl⟩
  exact ⟨by rw [l1N_small ⟨n, by omega⟩], Below.refl _ _⟩
def wAllow : ByteArray := ⟨#[97, 108, 108, 111, 119]⟩
def wDeny : ByteArray := ⟨#[100, 101, 110, 121]⟩
def wSp : ByteArray := ⟨#[32]⟩
/-- The text of a rule. -/
def rtV (p : ByteArray) (a : Int) (b : Bool) : ByteArray := if ruOk [(p, a, b)] = true then ((if b = true then wAllow else wDeny) ++ wSp) ++ p ++ wSp ++ l1N a else ByteArray.empty
theorem few_one {p : ByteArray} {a : Int} {b : Bool} (h : p.size ≤ 1048576) : FewP [(p, a, b)] := by
  intro k hk
  have hk0 : k = 0 := by simp at hk; exact hk
  subst hk0
  exact h
theorem l1N_len {a : Int} (h0 : 0 ≤ a) (h1 : a ≤ 15) : (l1N a).size ≤ 2 := by
  obtain ⟨n, rfl⟩ := Int.eq_ofNat_of_zero_le h0
  exact l1N_size ⟨n, by omega⟩
theorem alloc_sz (w : World) (o : Obj) : (w.alloc o).heap.size = w.heap.size + 1 := by simp
theorem ok_acts {p : ByteArray} {a : Int} {b : Bool} (h : ruOk [(p, a, b)] = true) : 1 ≤ a ∧ a ≤ 15 := by
  simp only [ruOk, Bool.and_eq_true, decide_eq_true_eq] at h
  have h1 := h.2 0 Nat.zero_lt_one
  simp only [ruGood, Bool.and_eq_true] at h1
  exact inB_true.1 h1.2
theorem one_own {p : ByteArray} {a : Int} {b : Bool} (W : World) : (W.alloc (.cells #[.string p, .int .i64 a, .bool b] 25)).ownsRow W.heap.size 25 3 (.slice (some ⟨W.heap.size, 0, Option.none⟩) 1 1) 1 [.string p, .int .i64 a, .bool b] := own_fresh (Nat.le_refl _) rfl (by decide)
theorem one_rd {p : ByteArray} {a : Int} {b : Bool} {W : World} {g : Nat} (hg : g = W.heap.size) : ruR (W.alloc (.cells #[.string p, .int .i64 a, .bool b] 25)) (some ⟨g, 0, Option.none⟩) [(p, a, b)] := by
  subst hg
  exact ruR.own (l := [(p, a, b)]) (n := 1) rfl (by decide) (one_own W)
theorem ok_one {p : ByteArray} {a : Int} {b ok : Bool} {W : World} {g : Nat} (hok : ruOk [(p, a, b)] = ok) (hg : g = W.heap.size) (hs : p.size ≤ 1048576) :
    Calls Tryd.prog 21 #[.slice (some ⟨g, 0, Option.none⟩) 1 1] (W.alloc (.cells #[.string p, .int .i64 a, .bool b] 25)) fun e w' => e = .returned (.bool ok) ∧ Below (W.heap.size + 1) (W.alloc (.cells #[.string p, .int .i64 a, .bool b] 25)) w' := by
  refine (implRulesValid_n (n := 1) rfl (one_rd hg) (few_one hs)).mono ?_
  rintro e w1 ⟨rfl, hb⟩
  rw [alloc_sz] at hb
  exact ⟨by rw [hok], hb⟩
theorem ok_one_s {p : ByteArray} {a : Int} {b ok : Bool} {W : World} {g : Nat} (hok : ruOk [(p, a, b)] = ok) (hg : g = W.heap.size) (hs : p.size ≤ 1048576) :
    Calls Tryd.prog 22 #[.slice (some ⟨g, 0, Option.none⟩) 1 1] (W.alloc (.cells #[.string p, .int .i64 a, .bool b] 25)) fun e w' => e = .returned (.bool ok) ∧ Below (W.heap.size + 1) (W.alloc (.cells #[.string p, .int .i64 a, .bool b] 25)) w' := by
  have h := specRulesValid (l := [(p, a, b)]) (c := 1) (one_rd hg) (few_one hs)
  refine Calls.mono (show Calls Tryd.prog 22 #[.slice (some ⟨g, 0, Option.none⟩) 1 1] (W.alloc (.cells #[.string p, .int .i64 a, .bool b] 25)) _ from h) ?_
  rintro e w1 ⟨rfl, hb⟩
  rw [alloc_sz] at hb
  exact ⟨by rw [hok], hb⟩
theorem below_two {w w' : World} {X Y : Obj} (h : Below ((w.alloc X).heap.size + 1) ((w.alloc X).alloc Y) w') : Below w.heap.size w w' :=
  ext_trans (show Below w.heap.size w ((w.alloc X).alloc Y) by (repeat (first | exact Below.refl _ _ | refine ext_alloc ?_ _ | refine Below.setCell ?_ (by simp) _))) (by rw [alloc_sz]; exact h)
theorem box_two {w w' : World} {p : ByteArray} {a : Int} {b : Bool} {t : TypeId} {Y : Obj} (h : Below ((w.alloc (.cells #[.string p, .int .i64 a, .bool b] t)).heap.size + 1) ((w.alloc (.cells #[.string p, .int .i64 a, .bool b] t)).alloc Y) w') :
    w'.cell? ⟨w.heap.size, 0, Option.none⟩ = some (.string p) ∧ w'.cell? ⟨w.heap.size, 1, Option.none⟩ = some (.int .i64 a) ∧ w'.cell? ⟨w.heap.size, 2, Option.none⟩ = some (.bool b) := by
  have h2 : Below ((w.alloc (.cells #[.string p, .int .i64 a, .bool b] t)).alloc Y).heap.size ((w.alloc (.cells #[.string p, .int .i64 a, .bool b] t)).alloc Y) w' := by rw [alloc_sz]; exact h
  have hb : Below (w.alloc (.cells #[.string p, .int .i64 a, .bool b] t)).heap.size (w.alloc (.cells #[.string p, .int .i64 a, .bool b] t)) w' := ext_trans (below_alloc _ _) h2
  exact ⟨below_cell hb (box_cell w _ _ 0 _ rfl), below_cell hb (box_cell w _ _ 1 _ rfl), below_cell hb (box_cell w _ _ 2 _ rfl)⟩
set_option maxRecDepth 100000 in
set_option maxHeartbeats 2000000 in
theorem implRuleText {p : ByteArray} {a : Int} {b : Bool} (w : World) (hs : p.size ≤ 1048576) :
    Calls Tryd.prog 19 #[.agg #[.string p, .int .i64 a, .bool b]] w fun e w' => e = .returned (.string (rtV p a b)) ∧ Below w.heap.size w w' := by
  obtain ⟨ok, hok⟩ : ∃ ok, ruOk [(p, a, b)] = ok := ⟨_, rfl⟩
  cases ok
  · have HD : Hid (rtV p a b = ByteArray.empty) := Lib.hid (by rw [rtV, hok]; rfl)
    go_enter Tryd.func19, Tryd.ntmps19
    go_wp2_with fail
    refine (ok_one hok (by simp) hs).mono ?_
    rintro e w1 ⟨rfl, hb⟩
    go_wp2
    go_ret
    exact ⟨by rw [HD.out]; rfl, below_two hb⟩
  · have ha : 1 ≤ a ∧ a ≤ 15 := ok_acts hok
    have HD : Hid (rtV p a b = ((if b = true then wAllow else wDeny) ++ wSp) ++ p ++ wSp ++ l1N a) := Lib.hid (by rw [rtV, if_pos hok])
    have HN := Lib.hid (l1N_len (show 0 ≤ a by omega) ha.2)
    cases b
    all_goals
      go_enter Tryd.func19, Tryd.ntmps19
      go_wp2_with fail
      refine (ok_one hok (by simp) hs).mono ?_
      rintro e w1 ⟨rfl, hb⟩
      have HB := Lib.hid (below_two hb)
      obtain ⟨r0, r1, r2⟩ := box_two hb
      clear hb hok
      have hgl := block_lt_of_cell r0
      have s0 := cell_regrown r0
      have s1 := cell_regrown r1
      have hN := HN.out
      go_wp2
      refine wp_region_quiet_below (by kernel_rfl) (by kernel_rfl) ?_
      repeat (go_big_quiet_step ((go_at_call 56; (with_reducible exact Calls.regrown_of (itoa_any (by omega) ha.2 _)))))
      refine wpQuiet_nil ?_
      intro w2 hw'regrown
      go_wp2
      go_ret
      exact ⟨by rw [HD.out]; rfl, ext_trans HB.out (below_of_regrown hw'regrown (Nat.le_refl _))⟩
set_option maxRecDepth 100000 in
set_option maxHeartbeats 2000000 in
theorem specRuleText {p : ByteArray} {a : Int} {b : Bool} (w : World) (hs : p.size ≤ 1048576) :
    Calls Tryd.prog 43 #[.agg #[.string p, .int .i64 a, .bool b]] w fun e w' => e = .returned (.string (rtV p a b)) ∧ Below w.heap.size w w' := by
  obtain ⟨ok, hok⟩ : ∃ ok, ruOk [(p, a, b)] = ok := ⟨_, rfl⟩
  cases ok
  · have HD : Hid (rtV p a b = ByteArray.empty) := Lib.hid (by rw [rtV, hok]; rfl)
    go_enter Tryd.func43, Tryd.ntmps43
    go_wp2_with fail
    refine (ok_one_s hok (by simp) hs).mono ?_
    rintro e w1 ⟨rfl, hb⟩
    go_wp2
    go_ret
    exact ⟨by rw [HD.out]; rfl, below_two hb⟩
  · have ha : 1 ≤ a ∧ a ≤ 15 := ok_acts hok
    have HD : Hid (rtV p a b = ((if b = true then wAllow else wDeny) ++ wSp) ++ p ++ wSp ++ l1N a) := Lib.hid (by rw [rtV, if_pos hok])
    have HN := Lib.hid (l1N_len (show 0 ≤ a by omega) ha.2)
    cases b
    all_goals
      go_enter Tryd.func43, Tryd.ntmps43
      go_wp2_with fail
      refine (ok_one_s hok (by simp) hs).mono ?_
      rintro e w1 ⟨rfl, hb⟩
      have HB := Lib.hid (below_two hb)
      obtain ⟨r0, r1, r2⟩ := box_two hb
      clear hb hok
      have hgl := block_lt_of_cell r0
      have s0 := cell_regrown r0
      have s1 := cell_regrown r1
      have hN := HN.out
      go_wp2
      refine wp_region_quiet_below (by kernel_rfl) (by kernel_rfl) ?_
      repeat (go_big_quiet_step ((go_at_call 76; (with_reducible exact Calls.regrown_of (l1Number_any _ (by omega) (by omega))))))
      refine wpQuiet_nil ?_
      intro w2 hw'regrown
      go_wp2
      go_ret
      exact ⟨by rw [HD.out]; rfl, ext_trans HB.out (below_of_regrown hw'regrown (Nat.le_refl _))⟩
end Go.Proofs.YtpmelhkhmichcaaDoor

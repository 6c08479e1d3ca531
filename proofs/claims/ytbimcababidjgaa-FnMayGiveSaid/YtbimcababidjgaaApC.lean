/- Rules on roles: those that a set of roles breaks. -/
import Derived.Test.YtbimcababidjgaaApB
import Derived.Test.YtbimcababidjgaaOne
import Derived.Test.YtbimcababidjgaaKi3
namespace Go.Proofs.Ytbimcababidjgaa
set_option linter.unusedSimpArgs false
set_option linter.unusedVariables false
open Go.RowKit

def apHit (S : Nat) (a : Ap) : Bool := decide (apf1 a < (cnt S (apf0 a) : Int))
def apBrk (S : Nat) (l : ApL) (k : Nat) : IL := ((List.range k).filter (fun i => apHit S (apAt l i))).map (fun (i : Nat) => (i : Int))
theorem apBrk_succ (S : Nat) (l : ApL) (k : Nat) : apBrk S l (k + 1) = if apHit S (apAt l k) = true then apBrk S l k ++ [(k : Int)] else apBrk S l k := by
  unfold apBrk
  rw [List.range_succ, List.filter_append]
  cases h : apHit S (apAt l k) <;> simp [List.filter_cons, h]
theorem apBrk_len (S : Nat) (l : ApL) (k : Nat) : (apBrk S l k).length ≤ k := by
  unfold apBrk
  rw [List.length_map]
  exact Nat.le_trans (List.length_filter_le _ _) (by simp)
/-- The set of the roles that someone has, as far as there are any. -/
def hasSet (many : Int) (has : IL) : Nat := setOf (has.filter (fun n => inB n 0 (many - 1)))
theorem hasSet_lt {many : Int} (hm : many ≤ 8) (has : IL) : hasSet many has < 256 := by
  refine setOf_lt _ (fun n hn => ?_)
  have := inB_true.1 (List.mem_filter.1 hn).2
  omega
theorem hasSet_bit {many n : Int} (has : IL) (h0 : 0 ≤ n) (h1 : n ≤ many - 1) : (hasSet many has).testBit n.toNat = decide (n ∈ has) := by
  rw [hasSet, setOf_testBit, Bool.eq_iff_iff, List.any_eq_true, decide_eq_true_eq]
  constructor
  · rintro ⟨m, hm, he⟩
    obtain ⟨h2, h3⟩ := List.mem_filter.1 hm
    have := inB_true.1 h3
    have e : m = n := by simp at he; omega
    rw [← e]; exact h2
  · intro h
    exact ⟨n, List.mem_filter.2 ⟨h, inB_true.2 ⟨h0, h1⟩⟩, by simp⟩
def apBroken (many : Int) (l : ApL) (has : IL) : IL := if apOk many l = true then apBrk (hasSet many has) l l.length else []
theorem apGood_bounds {many : Int} {a : Ap} (h : apGood many a = true) (hm : many ≤ 8) : ascB (apf0 a) (many - 1) = true ∧ (∀ j, j < (apf0 a).length → 0 ≤ il0 (apf0 a) j ∧ il0 (apf0 a) j ≤ many - 1) ∧ (1 ≤ apf1 a ∧ apf1 a ≤ (apf0 a).length - 1) := by
  simp only [apGood, Bool.and_eq_true] at h
  exact ⟨h.1, fun j hj => (ascAt_iff.1 (ascB_iff.1 h.1 j hj)).1, inB_true.1 h.2⟩
theorem apGood_at {many : Int} {l : ApL} {k : Nat} (h : apGood many (apAt l k) = true) (hm : many ≤ 8) : ascB (ap0 l k) (many - 1) = true ∧ (∀ j, j < (ap0 l k).length → 0 ≤ il0 (ap0 l k) j ∧ il0 (ap0 l k) j ≤ many - 1) ∧ (1 ≤ ap1 l k ∧ ap1 l k ≤ (ap0 l k).length - 1) := apGood_bounds h hm
theorem onesCount_v {n : Nat} {m : Int} {x : Int} (hn : n < 256) (hx : x = n) (hm : (popc n : Int) = m) (w : World) :
    Calls Try.prog 52 #[.int .u64 x] w fun e w' => e = .returned (.int .i64 m) ∧ Below w.heap.size w w' := by
  subst hx; subst hm; exact onesCount_any hn w
set_option maxRecDepth 100000 in
set_option maxHeartbeats 4000000 in
theorem broken_any {A : Option Addr} {l : ApL} {c S : Nat} {many : Int} {w : World} (hU : apR w A l) (hok : apOk many l = true) (hS : S < 256) :
    Calls Try.prog 33 #[.slice A l.length c, .int .i64 (S : Int)] w (SlPost 3 1 ilEnc w (apBrk S l l.length)) := by
  obtain ⟨⟨hm0, hm1⟩, h5, hgood⟩ := apOk_good hok
  have HG := Lib.hid hgood
  clear hgood hok
  have hl := hU.len
  go_enter Try.func33, Try.ntmps33
  go_wp2
  go_loopw [5, 13] (fun ov i wr => ∃ k : Nat, k ≤ l.length ∧ i = .int .i64 k ∧ OwnA w.heap.size 3 1 ilEnc wr ov (apBrk S l k) ∧ Below w.heap.size w wr) (fun _ i _ => l.length - (intOf i).toNat)
  case atStart => exact ⟨0, Nat.zero_le _, rfl, OwnA.nil, Below.refl _ _⟩
  case round =>
    obtain ⟨k, hk, rfl, hO, hB⟩ := hrel
    have hlk := apBrk_len S l k
    by_cases hlt : k < l.length
    · obtain ⟨b, off, rfl, hc⟩ := apR.cells hU (by omega)
      obtain ⟨A', c', hfd, c0, c1⟩ := hc k hlt
      obtain ⟨ha, hr, hq0, hq1⟩ := apGood_at (HG.out k hlt) hm1
      replace c0 := below_cell hB c0
      replace c1 := below_cell hB c1
      replace hfd := hfd.below hB
      have hll := hfd.len
      have HR := Lib.hid hr
      have HP : Hid (popc (setOf (ap0 l k) &&& S) = cnt S (ap0 l k)) := Lib.hid (popc_all S ha (by omega))
      have HH : Hid (apHit S (apAt l k) = decide (ap1 l k < (cnt S (ap0 l k) : Int))) := Lib.hid rfl
      have HL : Hid (setOf (ap0 l k) < 256) := Lib.hid (setOf_lt _ (fun n hn => by
        obtain ⟨j, hj, rfl⟩ := List.getElem_of_mem hn
        have := hr j hj
        rw [il_get hj] at this
        omega))
      clear hc ha hr
      have y0 := box_cell wr #[.slice A' (ap0 l k).length c', .int .i64 (ap1 l k)] 58 0 (.slice A' (ap0 l k).length c') rfl
      have y1 := box_cell wr #[.slice A' (ap0 l k).length c', .int .i64 (ap1 l k)] 58 1 (.int .i64 (ap1 l k)) rfl
      have hbl := below_alloc wr (.cells #[.slice A' (ap0 l k).length c', .int .i64 (ap1 l k)] 58)
      obtain ⟨X, hX⟩ : ∃ X, X = wr.alloc (.cells #[.slice A' (ap0 l k).length c', .int .i64 (ap1 l k)] 58) := ⟨_, rfl⟩
      obtain ⟨g, hg⟩ : ∃ g, g = wr.heap.size := ⟨_, rfl⟩
      rw [← hX] at y0 y1 hbl
      rw [← hg] at y0 y1
      replace hB := ext_trans hB hbl
      replace hfd := hfd.below hbl
      replace hO := hO.below hbl
      have HX := Lib.hid hX
      have HGG := Lib.hid hg
      clear hX hg hbl
      go_wp2_with fail
      rw [← HX.out, ← HGG.out]
      clear c0 c1
      go_loop [8, 21] (fun sv i => ∃ (j s : Nat), j ≤ (ap0 l k).length ∧ i = .int .i64 j ∧ sv = .int .i64 (s : Int) ∧ s = setOf ((ap0 l k).take j) ∧ s < 256) (fun _ i => (ap0 l k).length - (intOf i).toNat)
      case atStart => exact ⟨0, 0, Nat.zero_le _, rfl, rfl, rfl, by omega⟩
      case round =>
        obtain ⟨j, s, hj, rfl, rfl, hs, hsb⟩ := hrel
        have HS := Lib.hid hs
        clear hs
        by_cases hlt2 : j < (ap0 l k).length
        · obtain ⟨b2, off2, rfl, hc2⟩ := hfd.cells (by omega)
          have m0 := hc2 j hlt2
          obtain ⟨n0, n1⟩ := HR.out j hlt2
          clear hc2
          obtain ⟨n, hn⟩ : ∃ n : Nat, il0 (ap0 l k) j = n := ⟨(il0 (ap0 l k) j).toNat, by omega⟩
          have hn8 : n < 8 := by omega
          have HN := Lib.hid hn
          rw [hn] at m0
          clear hn n0 n1
          have hneg : ¬ (n : Int) < 0 := by omega
          have hb := bits_set hsb hn8
          have HB := Lib.hid hb
          clear hb
          go_wp2
          go_round
          case rel => exact ⟨j + 1, s ||| 2 ^ n, by omega, by go_num, by rw [HB.out], by rw [setOf_take _ hlt2, ← HS.out, HN.out]; rfl, or_lt hsb (two_lt hn8)⟩
          case measure => simp [intOf]; omega
        · obtain rfl : j = (ap0 l k).length := by omega
          have HC : Hid (popc (s &&& S) = cnt S (ap0 l k)) := Lib.hid (by rw [HS.out, List.take_length]; exact HP.out)
          have hA := bits_and64 hsb hS
          have hand := and_lt (t := S) hsb
          obtain ⟨m, hm⟩ : ∃ m : Nat, cnt S (ap0 l k) = m := ⟨_, rfl⟩
          obtain ⟨z, hz⟩ : ∃ z : Nat, s &&& S = z := ⟨_, rfl⟩
          rw [hz] at hA hand
          have HM : Hid ((popc z : Int) = m) := Lib.hid (by rw [← hz, HC.out, hm])
          have HMM := Lib.hid hm
          have hz64 : IntKind.u64.wrap (z : Int) = z := by
            simp only [IntKind.wrap, IntKind.bits, IntKind.signed]
            have : (z : Int) % 18446744073709551616 = z := Int.emod_eq_of_lt (by omega) (by omega)
            simp [this]
          have r1 := cell_regrown y1
          have r0 := cell_regrown y0
          have HSU := Lib.hid (apBrk_succ S l k)
          clear hm hz
          by_cases g1 : ap1 l k < (m : Int)
          · have HG := Lib.hid g1
            go_wp2
            refine wp_region_quiet_below (by kernel_rfl) (by kernel_rfl) ?_
            repeat (go_big_quiet_step ((go_at_call 52; (with_reducible exact Calls.regrown_of (onesCount_v hand rfl HM.out _)))))
            refine wpQuiet_nil ?_
            intro w2 hw'regrown
            replace hO := hO.below (below_of_regrown hw'regrown (Nat.le_refl _))
            replace hB := ext_trans hB (below_of_regrown hw'regrown (Nat.le_refl _))
            clear hw'regrown g1
            go_wp2_with (at_builtin; go_must (refine wpList_push (enc := ilEnc) ((k : Int)) rfl (.tmp 38) (.tmp 40) 24 3 _ 1 8 rfl Try.underlying24 Try.infoInt rfl (by decide) (fun _ => rfl) ilEnc_one (hO.below (by (repeat (first | exact Below.refl _ _ | refine ext_alloc ?_ _ | refine Below.setCell ?_ (by simp) _)))) rfl (heap_alloc_at (by simp)) (by rfl) (by omega) (by omega) (Nat.le_trans hB.size (show Below _ _ _ by (repeat (first | exact Below.refl _ _ | refine ext_alloc ?_ _ | refine Below.setCell ?_ (by simp) _))).size) ?_); intro v_ wq1 ho_ hb_ hg_)
            replace hB := (ext_trans hB (by (repeat (first | exact Below.refl _ _ | refine ext_alloc ?_ _ | refine Below.setCell ?_ (by simp) _)))).trans hb_
            replace hO := ho_
            clear ho_ hb_ hg_
            go_wp2
            go_roundw
            case rel => exact ⟨k + 1, by omega, by go_num, hO.eq (by rw [HSU.out, if_pos (by rw [HH.out, decide_eq_true_eq, HMM.out]; exact HG.out)]), hB⟩
            case measure => simp [intOf]; omega
          · have HG := Lib.hid g1
            go_wp2
            refine wp_region_quiet_below (by kernel_rfl) (by kernel_rfl) ?_
            repeat (go_big_quiet_step ((go_at_call 52; (with_reducible exact Calls.regrown_of (onesCount_v hand rfl HM.out _)))))
            refine wpQuiet_nil ?_
            intro w2 hw'regrown
            replace hO := hO.below (below_of_regrown hw'regrown (Nat.le_refl _))
            replace hB := ext_trans hB (below_of_regrown hw'regrown (Nat.le_refl _))
            clear hw'regrown
            go_wp2
            go_roundw
            case rel => exact ⟨k + 1, by omega, by go_num, hO.eq (by rw [HSU.out, if_neg (by rw [HH.out, decide_eq_true_eq, HMM.out]; have := HG.out; omega)]), hB⟩
            case measure => simp [intOf]; omega
    · obtain rfl : k = l.length := by omega
      go_wp2
      go_ret
      exact SlPost.of rfl hO hB
end Go.Proofs.Ytbimcababidjgaa

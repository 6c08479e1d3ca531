/- The first rule that fits, by the reference; whether rules allow. -/
import Derived.Test.YtpmelhkhmichcaaDoorFrA
namespace Go.Proofs.YtpmelhkhmichcaaDoor
set_option linter.unusedSimpArgs false
set_option linter.unusedVariables false
open Go.RowKit

theorem specRulesValid_v {A : Option Addr} {l : RuL} {c : Nat} {b : Bool} {w : World} (hb : ruOk l = b) (hU : ruR w A l) (hf : FewP l) :
    Calls Tryd.prog 22 #[.slice A l.length c] w fun e w' => e = .returned (.bool b) ∧ Below w.heap.size w w' := hb ▸ specRulesValid hU hf
theorem l12Act_v {a d : Int} {b : Bool} (hb : bitB a d = b) (w : World) (h0 : 0 ≤ a) (h1 : a ≤ 1000000) (h2 : 0 ≤ d) (h3 : d ≤ 1000000) :
    Calls Tryd.prog 64 #[.int .i64 a, .int .i64 d] w fun e w' => e = .returned (.bool b) ∧ Below w.heap.size w w' := hb ▸ l12Act_any w h0 h1 h2 h3
set_option maxRecDepth 100000 in
set_option maxHeartbeats 4000000 in
theorem specFirstRule {A : Option Addr} {l : RuL} {c : Nat} {path : ByteArray} {act : Int} {w : World} (hU : ruR w A l) (hf : FewP l) (hp : path.size ≤ 2097152) :
    Calls Tryd.prog 26 #[.slice A l.length c, .string path, .int .i64 act] w fun e w' => ∃ i : Int, e = .returned (.int .i64 i) ∧ FrP l path act i ∧ Below w.heap.size w w' := by
  have hlen := hU.len
  obtain ⟨ok, hok⟩ : ∃ b, ruOk l = b := ⟨_, rfl⟩
  obtain ⟨ia, hia⟩ : ∃ b, inB act 0 3 = b := ⟨_, rfl⟩
  have HOK := Lib.hid hok
  have HIA := Lib.hid hia
  go_enter Tryd.func26, Tryd.ntmps26
  go_wp2
  go_loopw [7] (fun iv wr => ∃ k : Nat, k ≤ l.length ∧ iv = .int .i64 k ∧ Hid (∀ j, j < k → frHit l path act j = false) ∧ Below w.heap.size w wr) (fun iv _ => l.length - (intOf iv).toNat)
  case atStart => exact ⟨0, Nat.zero_le _, rfl, Lib.hid (fun j h => by omega), Below.refl _ _⟩
  case round =>
    obtain ⟨k, hk, rfl, HG, hB⟩ := hrel
    by_cases hlt : k < l.length
    · obtain ⟨b, off, rfl, hc⟩ := hU.cells (by omega)
      obtain ⟨c0, c1, _⟩ := hc k hlt
      replace c0 := below_cell hB c0
      replace c1 := below_cell hB c1
      have hU2 := hU.below hB
      have hs := hf k hlt
      clear hc
      cases ok
      · have HF : Hid (FrP l path act (-1)) := Lib.hid ⟨fun h => (by rw [HOK.out] at h; cases h), fun _ => rfl⟩
        go_wp2_with fail
        refine (specRulesValid_v hok hU2 hf).mono ?_
        rintro e w1 ⟨rfl, hb⟩
        replace hB := ext_trans hB hb
        clear hb c0 c1 hU2
        go_wp2
        go_ret
        exact ⟨-1, rfl, HF.out, hB⟩
      · cases ia
        · have HF : Hid (FrP l path act (-1)) := Lib.hid ⟨fun _ h => (by rw [HIA.out] at h; cases h), fun _ => rfl⟩
          go_wp2_with fail
          refine (specRulesValid_v hok hU2 hf).mono ?_
          rintro e w1 ⟨rfl, hb⟩
          replace hB := ext_trans hB hb
          clear hb c0 c1 hU2
          go_wp2_with fail
          refine (l1In_v hia _).mono ?_
          rintro e w2 ⟨rfl, hb⟩
          replace hB := ext_trans hB hb
          clear hb
          go_wp2
          go_ret
          exact ⟨-1, rfl, HF.out, hB⟩
        · have hact := inB_true.1 hia
          have hat := ruOk_at hok hlt
          go_wp2_with fail
          refine (specRulesValid_v hok hU2 hf).mono ?_
          rintro e w1 ⟨rfl, hb⟩
          replace hB := ext_trans hB hb
          replace c0 := below_cell hb c0
          replace c1 := below_cell hb c1
          clear hb hU2
          go_wp2_with fail
          refine (l1In_v hia _).mono ?_
          rintro e w2 ⟨rfl, hb⟩
          replace hB := ext_trans hB hb
          replace c0 := below_cell hb c0
          replace c1 := below_cell hb c1
          clear hb
          cases hfit : fitB path (ru0 l k)
          · have HN := Lib.hid (show frHit l path act k = false by rw [frHit, hfit]; rfl)
            go_wp2_with fail
            refine (specPathFits_v hfit hp (by omega) _).mono ?_
            rintro e w3 ⟨rfl, hb⟩
            replace hB := ext_trans hB hb
            clear hb c0 c1
            go_wp2
            go_roundw
            case rel => exact ⟨k + 1, by omega, by go_num, Lib.hid (all_succ HG.out HN.out), hB⟩
            case measure => simp [intOf]; omega
          · cases hbit : bitB (ru1 l k) act
            · have HN := Lib.hid (show frHit l path act k = false by rw [frHit, hfit, hbit]; rfl)
              go_wp2_with fail
              refine (specPathFits_v hfit hp (by omega) _).mono ?_
              rintro e w3 ⟨rfl, hb⟩
              replace hB := ext_trans hB hb
              replace c1 := below_cell hb c1
              clear hb c0
              go_wp2_with fail
              refine (l12Act_v hbit _ (by omega) (by omega) (by omega) (by omega)).mono ?_
              rintro e w4 ⟨rfl, hb⟩
              replace hB := ext_trans hB hb
              clear hb c1
              go_wp2
              go_roundw
              case rel => exact ⟨k + 1, by omega, by go_num, Lib.hid (all_succ HG.out HN.out), hB⟩
              case measure => simp [intOf]; omega
            · have HF : Hid (FrP l path act (k : Int)) := Lib.hid ⟨fun _ _ => .inr ⟨k, rfl, hlt, (by rw [frHit, hfit, hbit]; rfl), HG.out⟩, fun h => by rcases h with h | h; rw [HOK.out] at h; cases h; rw [HIA.out] at h; cases h⟩
              go_wp2_with fail
              refine (specPathFits_v hfit hp (by omega) _).mono ?_
              rintro e w3 ⟨rfl, hb⟩
              replace hB := ext_trans hB hb
              replace c1 := below_cell hb c1
              clear hb c0
              go_wp2_with fail
              refine (l12Act_v hbit _ (by omega) (by omega) (by omega) (by omega)).mono ?_
              rintro e w4 ⟨rfl, hb⟩
              replace hB := ext_trans hB hb
              clear hb c1
              go_wp2
              go_ret
              exact ⟨k, rfl, HF.out, hB⟩
    · obtain rfl : k = l.length := by omega
      have HF : Hid (FrP l path act (-1)) := Lib.hid ⟨fun _ _ => .inl ⟨rfl, HG.out⟩, fun _ => rfl⟩
      go_wp2
      go_ret
      exact ⟨-1, rfl, HF.out, hB⟩
/-- What RulesAllow gives. -/
def RaP (l : RuL) (path : ByteArray) (act : Int) (b : Bool) : Prop := ∃ i : Int, FrP l path act i ∧ b = (decide (0 ≤ i) && ru2 l i.toNat)
theorem RaP.uniq {l : RuL} {path : ByteArray} {act : Int} {b b' : Bool} (h : RaP l path act b) (h' : RaP l path act b') : b = b' := by
  obtain ⟨i, h1, rfl⟩ := h
  obtain ⟨i', h2, rfl⟩ := h'
  rw [h1.uniq h2]
theorem FrP.range {l : RuL} {path : ByteArray} {act i : Int} (h : FrP l path act i) : i = -1 ∨ ∃ k : Nat, i = k ∧ k < l.length := by
  cases h1 : ruOk l
  · exact .inl (h.2 (.inl h1))
  · cases h2 : inB act 0 3
    · exact .inl (h.2 (.inr h2))
    · rcases h.1 h1 h2 with ⟨h3, _⟩ | ⟨k, h3, h4, _⟩
      · exact .inl h3
      · exact .inr ⟨k, h3, h4⟩
set_option maxHeartbeats 2000000 in
theorem implRulesAllow {A : Option Addr} {l : RuL} {c : Nat} {path : ByteArray} {act : Int} {w : World} (hU : ruR w A l) (hf : FewP l) (hp : path.size ≤ 2097152) :
    Calls Tryd.prog 31 #[.slice A l.length c, .string path, .int .i64 act] w fun e w' => ∃ b : Bool, e = .returned (.bool b) ∧ RaP l path act b ∧ Below w.heap.size w w' := by
  have hlen := hU.len
  go_enter Tryd.func31, Tryd.ntmps31
  go_wp2_with fail
  refine (implFirstRule hU hf hp).mono ?_
  rintro e w1 ⟨i, rfl, hi, hB⟩
  have HI := Lib.hid hi
  rcases hi.range with rfl | ⟨k, rfl, hk⟩
  · clear hi
    go_wp2
    go_ret
    exact ⟨false, rfl, ⟨-1, HI.out, rfl⟩, hB⟩
  · clear hi
    obtain ⟨b, off, rfl, hc⟩ := hU.cells (by omega)
    have c2 := below_cell hB (hc k hk).2.2
    clear hc
    go_wp2
    go_ret
    exact ⟨ru2 l k, rfl, ⟨k, HI.out, by simp⟩, hB⟩
set_option maxHeartbeats 2000000 in
theorem specRulesAllow {A : Option Addr} {l : RuL} {c : Nat} {path : ByteArray} {act : Int} {w : World} (hU : ruR w A l) (hf : FewP l) (hp : path.size ≤ 2097152) :
    Calls Tryd.prog 30 #[.slice A l.length c, .string path, .int .i64 act] w fun e w' => ∃ b : Bool, e = .returned (.bool b) ∧ RaP l path act b ∧ Below w.heap.size w w' := by
  have hlen := hU.len
  go_enter Tryd.func30, Tryd.ntmps30
  go_wp2_with fail
  refine (specFirstRule hU hf hp).mono ?_
  rintro e w1 ⟨i, rfl, hi, hB⟩
  have HI := Lib.hid hi
  rcases hi.range with rfl | ⟨k, rfl, hk⟩
  · clear hi
    go_wp2
    go_ret
    exact ⟨false, rfl, ⟨-1, HI.out, rfl⟩, hB⟩
  · clear hi
    obtain ⟨b, off, rfl, hc⟩ := hU.cells (by omega)
    have c2 := below_cell hB (hc k hk).2.2
    clear hc
    go_wp2
    go_ret
    exact ⟨ru2 l k, rfl, ⟨k, HI.out, by simp⟩, hB⟩
end Go.Proofs.YtpmelhkhmichcaaDoor

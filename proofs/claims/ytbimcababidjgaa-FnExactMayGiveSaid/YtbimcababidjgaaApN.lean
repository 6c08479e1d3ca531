/- The exact law of BrokenRules. -/
import Derived.Test.YtbimcababidjgaaApL
import Derived.Test.YtbimcababidjgaaApM
namespace Go.Proofs.Ytbimcababidjgaa
set_option linter.unusedSimpArgs false
set_option linter.unusedVariables false
open Go.RowKit

theorem ownAp_below {B : Nat} {w w' : World} {v : Value} {l : ApL} (h : OwnG (apO B) B 58 2 w v l) (hb : Below w.heap.size w w') : OwnG (apO B) B 58 2 w' v l := h.below hb (fun _ _ => Nst.O.below hb)
theorem hasR_of {w w' : World} {A : Option Addr} {l : IL} {lo : Nat} (h : ilR w A l) (hb : Below w.heap.size w w') : ilR w' A l := h.below hb
set_option maxRecDepth 100000 in
set_option maxHeartbeats 8000000 in
theorem lawExactBrokenRules {A A2 : Option Addr} {l : ApL} {has : IL} {c c2 : Nat} {many : Int} {w : World} (hU : apR w A l) (hV : ilR w A2 has) :
    Calls Try.prog 4 #[.int .i64 many, .slice A l.length c, .slice A2 has.length c2] w fun e w' => e = .returned (.bool true) ∧ Below w.heap.size w w' := by
  have hl := hU.len
  have hl2 := hV.len
  by_cases h : (1048576 : Int) < has.length
  · go_enter Try.func4, Try.ntmps4
    go_wp2
    go_ret
    exact ⟨rfl, Below.refl _ _⟩
  · go_enter Try.func4, Try.ntmps4
    go_wp2_with fail
    refine (szApartS_any (left := 1048576) hU (fun _ _ => trivial) (by omega) (by omega)).mono ?_
    rintro e w1 ⟨x, rfl, hx, hB⟩
    rcases hx with rfl | ⟨x0, x1, hf⟩
    · go_wp2
      go_ret
      exact ⟨rfl, hB⟩
    · obtain ⟨r, hr⟩ : ∃ r, apBroken many l has = r := ⟨_, rfl⟩
      have hrl := apBroken_len many l has
      rw [hr] at hrl
      have HR := Lib.hid hr
      have HF := Lib.hid hf
      have HM := Lib.hid hf.mem
      clear hr hf
      go_wp2_with fail
      refine (toApartS_any (hU.below hB) (by omega) HF.out).mono ?_
      rintro e w2 ⟨rfl, ho, hb⟩
      replace hB := ext_trans hB hb
      clear hb
      go_wp2_with fail
      refine (toIntS_any (hV.below hB) (by omega)).mono ?_
      rintro e w3 ⟨rfl, hoh, hb⟩
      replace hB := ext_trans hB hb
      replace ho := ownAp_below ho hb
      clear hb
      go_wp2_with fail
      refine (specBrokenRules_v HR.out rfl (Nst.rdl.own apN_good (by omega) HM.out ho) (ilR.own rfl (by omega) hoh)).mono ?_
      rintro e w4 ⟨Aw, cw, rfl, how, hb⟩
      replace hB := ext_trans hB hb
      clear hb ho hoh
      obtain ⟨lo, hlo⟩ : ∃ n, n = w4.heap.size := ⟨_, rfl⟩
      have HWL : Hid (∀ k, (Value.slice Aw r.length cw).ownBlock = some k → k < lo) := Lib.hid (fun k hk => by rw [hlo]; exact (how.lt k hk).2)
      have hwlo : w.heap.size ≤ lo := by rw [hlo]; exact hB.size
      go_wp2_with fail
      refine (toApartS_any (hU.below hB) (by omega) HF.out).mono ?_
      rintro e w5 ⟨rfl, ho, hb⟩
      rw [← hlo] at ho ⊢
      replace hB := ext_trans hB hb
      replace how := own_below how hb
      have hlo5 : lo ≤ w5.heap.size := by rw [hlo]; exact hb.size
      clear hb hlo
      obtain ⟨g2, hg2⟩ : ∃ n, n = w5.heap.size := ⟨_, rfl⟩
      go_wp2_with fail
      refine (toIntS_any (hV.below hB) (by omega)).mono ?_
      rintro e w6 ⟨rfl, hoh, hb⟩
      rw [← hg2] at hoh hlo5 ⊢
      replace hB := ext_trans hB hb
      replace ho := ownAp_below ho hb
      replace how := own_below how hb
      clear hb hg2
      obtain ⟨hi, hhi⟩ : ∃ n, n = w6.heap.size := ⟨_, rfl⟩
      have hAB : ApB lo hi w6 (some ⟨lo, 0, none⟩) l.length := ApB.own ho HF.out (by omega)
      have hIB : IntB lo hi w6 (some ⟨g2, 0, none⟩) has.length := IntB.own hoh (by omega) (by omega)
      have hg2l := (own_lt hoh).2
      have HG2 := Lib.hid (show g2 < hi by rw [hhi]; exact hg2l)
      go_wp2_with fail
      refine (implBrokenRules_v HR.out rfl (Nst.rdl.own apN_good (by omega) HM.out ho) (ilR.own rfl (by omega) hoh)).mono ?_
      rintro e w7 ⟨Ag, cg, rfl, hog, hb⟩
      have HGL : Hid (∀ k, (Value.slice Ag r.length cg).ownBlock = some k → hi ≤ k) := Lib.hid (fun k hk => by rw [hhi]; exact (hog.lt k hk).1)
      have hbh : Below hi w6 w7 := by rw [hhi]; exact hb
      have hh7 : hi ≤ w7.heap.size := by rw [hhi]; exact hb.size
      replace hB := ext_trans hB hb
      replace ho := ownAp_below ho hb
      replace hoh := own_below hoh hb
      replace how := own_below how hb
      replace hAB := hAB.below hbh
      replace hIB := hIB.below hbh
      clear hb hbh hhi hg2l
      go_wp2_with fail
      refine (eqIntS_any (ilR.own rfl (by omega) hog) (ilR.own rfl (by omega) how)).mono ?_
      rintro e w8 ⟨rfl, hb⟩
      rw [sameB_self]
      replace hB := ext_trans hB hb
      replace ho := ownAp_below ho hb
      replace hoh := own_below hoh hb
      replace how := own_below how hb
      replace hog := own_below hog hb
      replace hAB := hAB.below (hb.mono hh7)
      replace hIB := hIB.below (hb.mono hh7)
      replace hh7 := Nat.le_trans hh7 hb.size
      clear hb
      go_wp2_with fail
      refine (toApartS_any (hU.below hB) (by omega) HF.out).mono ?_
      rintro e w9 ⟨rfl, ho9, hb⟩
      replace hB := ext_trans hB hb
      replace ho := ownAp_below ho hb
      replace hoh := own_below hoh hb
      replace how := own_below how hb
      replace hog := own_below hog hb
      replace hAB := hAB.below (hb.mono hh7)
      replace hIB := hIB.below (hb.mono hh7)
      replace hh7 := Nat.le_trans hh7 hb.size
      clear hb
      go_wp2_with fail
      refine (eqApartS_any (Nst.rdl.own apN_good (by omega) HM.out ho) (Nst.rdl.own apN_good (by omega) HM.out ho9)).mono ?_
      rintro e w10 ⟨rfl, hb⟩
      rw [sameB_self]
      replace hB := ext_trans hB hb
      replace hoh := own_below hoh hb
      replace how := own_below how hb
      replace hog := own_below hog hb
      replace hAB := hAB.below (hb.mono hh7)
      replace hIB := hIB.below (hb.mono hh7)
      replace hh7 := Nat.le_trans hh7 hb.size
      clear hb ho ho9
      go_wp2_with fail
      refine (toIntS_any (hV.below hB) (by omega)).mono ?_
      rintro e w11 ⟨rfl, ho9, hb⟩
      replace hB := ext_trans hB hb
      replace hoh := own_below hoh hb
      replace how := own_below how hb
      replace hog := own_below hog hb
      replace hAB := hAB.below (hb.mono hh7)
      replace hIB := hIB.below (hb.mono hh7)
      replace hh7 := Nat.le_trans hh7 hb.size
      clear hb
      go_wp2_with fail
      refine (eqIntS_any (ilR.own rfl (by omega) hoh) (ilR.own rfl (by omega) ho9)).mono ?_
      rintro e w12 ⟨rfl, hb⟩
      rw [sameB_self]
      replace hB := ext_trans hB hb
      replace how := own_below how hb
      replace hog := own_below hog hb
      replace hAB := hAB.below (hb.mono hh7)
      replace hIB := hIB.below (hb.mono hh7)
      replace hh7 := Nat.le_trans hh7 hb.size
      clear hb hoh ho9
      go_wp2_with fail
      refine (markApartS_f hAB (by omega) (by omega) (by omega)).mono ?_
      rintro e w13 ⟨k1, rfl, ⟨k10, k11⟩, hm⟩
      replace hB := hB.trans (hm.below.mono hwlo)
      replace how := own_same how hm (fun k hk => .inl (HWL.out k hk))
      replace hog := own_same hog hm (fun k hk => .inr (HGL.out k hk))
      replace hIB := hIB.mk hm.ints
      clear hm hAB
      go_wp2_with fail
      refine (markIntS_f hIB (by omega) (by omega) (by omega)).mono ?_
      rintro e w14 ⟨rfl, hm⟩
      replace hB := hB.trans (hm.o.below.mono hwlo)
      replace how := own_same how hm.o (fun k hk => .inl (HWL.out k hk))
      replace hog := own_same hog hm.o (fun k hk => .inr (HGL.out k hk))
      clear hm hIB
      go_wp2_with fail
      refine (eqIntS_any (ilR.own rfl (by omega) hog) (ilR.own rfl (by omega) how)).mono ?_
      rintro e w15 ⟨rfl, hb⟩
      rw [sameB_self]
      replace hB := ext_trans hB hb
      replace how := own_below how hb
      replace hog := own_below hog hb
      clear hb
      go_wp2_with fail
      refine (markIntS_any hog (by omega) (by omega) (by omega)).mono ?_
      rintro e w16 ⟨rfl, hogm, hgm⟩
      replace how := own_apart_ how hgm (fun k hk e => by have := HWL.out k hk; have := HGL.out k e; have := HG2.out; omega)
      replace hB := hB.grown hgm hB.size (fun k hk => by have := HGL.out k hk; have := HG2.out; omega)
      clear hgm hog
      go_wp2_with fail
      refine (heldIntS_m (ilR.own (ilMark_length _ _) (by omega) hogm) (by omega) (by omega) (by omega)).mono ?_
      rintro e w17 ⟨rfl, hb⟩
      replace hB := ext_trans hB hb
      replace how := own_below how hb
      replace hogm := own_below hogm hb
      clear hb
      go_wp2_with fail
      refine (toApartS_any (hU.below hB) (by omega) HF.out).mono ?_
      rintro e w18 ⟨rfl, ho9, hb⟩
      replace hB := ext_trans hB hb
      replace how := own_below how hb
      replace hogm := own_below hogm hb
      clear hb
      go_wp2_with fail
      refine (toIntS_any (hV.below hB) (by omega)).mono ?_
      rintro e w19 ⟨rfl, ho8, hb⟩
      replace hB := ext_trans hB hb
      replace ho9 := ownAp_below ho9 hb
      replace how := own_below how hb
      replace hogm := own_below hogm hb
      clear hb
      go_wp2_with fail
      refine (implBrokenRules_v HR.out rfl (Nst.rdl.own apN_good (by omega) HM.out ho9) (ilR.own rfl (by omega) ho8)).mono ?_
      rintro e w20 ⟨Ah, ch, rfl, ho7, hb⟩
      replace hB := ext_trans hB hb
      replace how := own_below how hb
      replace hogm := own_below hogm hb
      clear hb ho8 ho9
      go_wp2_with fail
      refine (eqIntS_any (ilR.own rfl (by omega) ho7) (ilR.own rfl (by omega) how)).mono ?_
      rintro e w21 ⟨rfl, hb⟩
      rw [sameB_self]
      replace hB := ext_trans hB hb
      replace hogm := own_below hogm hb
      clear hb how ho7
      go_wp2_with fail
      refine (heldIntS_m (ilR.own (ilMark_length _ _) (by omega) hogm) (by omega) (by omega) (by omega)).mono ?_
      rintro e w22 ⟨rfl, hb⟩
      replace hB := ext_trans hB hb
      go_wp2
      go_ret
      exact ⟨rfl, hB⟩
end Go.Proofs.Ytbimcababidjgaa

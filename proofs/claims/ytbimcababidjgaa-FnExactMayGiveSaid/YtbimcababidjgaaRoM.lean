/- FnExactMayGive, walked. -/
import Derived.Test.YtbimcababidjgaaRoJ
import Derived.Test.YtbimcababidjgaaApN
import Derived.Test.YtbimcababidjgaaApO
namespace Go.Proofs.Ytbimcababidjgaa
set_option linter.unusedSimpArgs false
set_option linter.unusedVariables false
open Go.RowKit

theorem ownRo_below {B : Nat} {w w' : World} {v : Value} {l : RoL} (h : OwnG (roO B) B 73 3 w v l) (hb : Below w.heap.size w w') : OwnG (roO B) B 73 3 w' v l := h.below hb (fun _ _ => Nst.O.below hb)
set_option maxRecDepth 100000 in
set_option maxHeartbeats 8000000 in
theorem lawExactMayGive {A A1 A2 : Option Addr} {l : RoL} {list : ApL} {has : IL} {c c1 c2 : Nat} {role : Int} {w : World} (hU : roR w A l) (hw : WfRoL l) (hP : apR w A1 list) (hV : ilR w A2 has) :
    Calls Try.prog 6 #[.slice A l.length c, .slice A1 list.length c1, .slice A2 has.length c2, .int .i64 role] w fun e w' => e = .returned (.bool true) ∧ Below w.heap.size w w' := by
  have hl := hU.len
  have hl1 := hP.len
  have hl2 := hV.len
  by_cases h : (1048576 : Int) < has.length
  · go_enter Try.func6, Try.ntmps6
    go_wp2
    go_ret
    exact ⟨rfl, Below.refl _ _⟩
  · go_enter Try.func6, Try.ntmps6
    go_wp2_with fail
    refine (szRoleS_any (left := 1048576) hU hw (by omega) (by omega)).mono ?_
    rintro e w1 ⟨x, rfl, hx, hB⟩
    rcases hx with rfl | ⟨x0, x1, hf⟩
    · go_wp2
      go_ret
      exact ⟨rfl, hB⟩
    · have HF := Lib.hid hf
      have HM := Lib.hid hf.mem
      clear hf
      go_wp2_with fail
      refine (szApartS_any (left := x) (hP.below hB) (fun _ _ => trivial) (by omega) (by omega)).mono ?_
      rintro e w2 ⟨y, rfl, hy, hb⟩
      replace hB := ext_trans hB hb
      clear hb
      rcases hy with rfl | ⟨y0, y1, hg⟩
      · go_wp2
        go_ret
        exact ⟨rfl, hB⟩
      · have HG := Lib.hid hg
        have HMG := Lib.hid hg.mem
        clear hg
        obtain ⟨r, hr⟩ : ∃ r, mayG l list has role = r := ⟨_, rfl⟩
        have HR := Lib.hid hr
        clear hr
        go_wp2_with fail
        refine (toRoleS_any (hU.below hB) (by omega) HF.out).mono ?_
        rintro e w3 ⟨rfl, ho, hb⟩
        replace hB := ext_trans hB hb
        clear hb
        go_wp2_with fail
        refine (toApartS_any (hP.below hB) (by omega) HG.out).mono ?_
        rintro e w4 ⟨rfl, hoa, hb⟩
        replace hB := ext_trans hB hb
        replace ho := ownRo_below ho hb
        clear hb
        go_wp2_with fail
        refine (toIntS_any (hV.below hB) (by omega)).mono ?_
        rintro e w5 ⟨rfl, hoh, hb⟩
        replace hB := ext_trans hB hb
        replace ho := ownRo_below ho hb
        replace hoa := ownAp_below hoa hb
        clear hb
        go_wp2_with fail
        refine (specMayGive (Nst.rdl.own roN_good (by omega) HM.out ho) hw (by omega) (Nst.rdl.own apN_good (by omega) HMG.out hoa) (ilR.own rfl (by omega) hoh) (by omega)).mono ?_
        rintro e w6 ⟨rfl, hb⟩
        rw [HR.out]
        replace hB := ext_trans hB hb
        clear hb ho hoa hoh
        go_wp2_with fail
        refine (toRoleS_any (hU.below hB) (by omega) HF.out).mono ?_
        rintro e w7 ⟨rfl, ho, hb⟩
        replace hB := ext_trans hB hb
        clear hb
        go_wp2_with fail
        refine (toApartS_any (hP.below hB) (by omega) HG.out).mono ?_
        rintro e w8 ⟨rfl, hoa, hb⟩
        replace hB := ext_trans hB hb
        replace ho := ownRo_below ho hb
        clear hb
        go_wp2_with fail
        refine (toIntS_any (hV.below hB) (by omega)).mono ?_
        rintro e w9 ⟨rfl, hoh, hb⟩
        replace hB := ext_trans hB hb
        replace ho := ownRo_below ho hb
        replace hoa := ownAp_below hoa hb
        clear hb
        have hX := Nst.rdl.own roN_good (by omega) HM.out ho
        have hY := Nst.rdl.own apN_good (by omega) HMG.out hoa
        have hZ : ilR w9 (some ⟨w8.heap.size, 0, Option.none⟩) has := ilR.own rfl (by omega) hoh
        clear ho hoa hoh
        go_wp2_with fail
        refine (implMayGive hX hw (by omega) hY hZ).mono ?_
        rintro e w10 ⟨rfl, hb⟩
        rw [HR.out]
        replace hB := ext_trans hB hb
        replace hX := Nst.rdl.below hX hb
        replace hY := Nst.rdl.below hY hb
        replace hZ := ilR.below hZ hb
        clear hb
        have hrr : (r != r) = false := by simp
        go_wp2_with fail
        refine (toRoleS_any (hU.below hB) (by omega) HF.out).mono ?_
        rintro e w11 ⟨rfl, ho, hb⟩
        replace hB := ext_trans hB hb
        replace hX := Nst.rdl.below hX hb
        replace hY := Nst.rdl.below hY hb
        replace hZ := ilR.below hZ hb
        clear hb
        go_wp2_with fail
        refine (eqRoleS_any hX (Nst.rdl.own roN_good (by omega) HM.out ho)).mono ?_
        rintro e w12 ⟨rfl, hb⟩
        rw [sameB_self]
        replace hB := ext_trans hB hb
        replace hY := Nst.rdl.below hY hb
        replace hZ := ilR.below hZ hb
        clear hb ho hX
        go_wp2_with fail
        refine (toApartS_any (hP.below hB) (by omega) HG.out).mono ?_
        rintro e w13 ⟨rfl, ho, hb⟩
        replace hB := ext_trans hB hb
        replace hY := Nst.rdl.below hY hb
        replace hZ := ilR.below hZ hb
        clear hb
        go_wp2_with fail
        refine (eqApartS_any hY (Nst.rdl.own apN_good (by omega) HMG.out ho)).mono ?_
        rintro e w14 ⟨rfl, hb⟩
        rw [sameB_self]
        replace hB := ext_trans hB hb
        replace hZ := ilR.below hZ hb
        clear hb ho hY
        go_wp2_with fail
        refine (toIntS_any (hV.below hB) (by omega)).mono ?_
        rintro e w15 ⟨rfl, ho, hb⟩
        replace hB := ext_trans hB hb
        replace hZ := ilR.below hZ hb
        clear hb
        go_wp2_with fail
        refine (eqIntS_any hZ (ilR.own rfl (by omega) ho)).mono ?_
        rintro e w16 ⟨rfl, hb⟩
        rw [sameB_self]
        replace hB := ext_trans hB hb
        clear hb ho hZ
        go_wp2
        go_ret
        exact ⟨rfl, hB⟩
def RoW (w : World) (r : Ro) (cs : List Value) : Prop := ∃ A c, cs = roCells r (.slice A (rof2 r).length c) ∧ ilR w A (rof2 r) ∧ WfRo r
theorem opens_lRole : Opens Try.prog 72 3 RoW := by
  have h := opens_struct Try.underlying72 (by kernel_rfl) (from_cons rfl rfl (opens_str Try.underlying9) (by kernel_rfl) (from_cons rfl rfl (opens_int Try.underlying3) (by kernel_rfl) (from_cons rfl rfl opens_ints (by kernel_rfl) from_nil)))
  exact Opens.map h (fun a => (a.1, a.2.1, a.2.2.1)) (by rintro w ⟨a0, a1, a2, _⟩ cs ⟨c0, d0, rfl, ⟨rfl, hs⟩, ⟨c1, d1, rfl, ⟨rfl, _⟩, ⟨c2, d2, rfl, ⟨A, c, rfl, hr⟩, rfl⟩⟩⟩; exact ⟨A, c, rfl, hr, hs, trivial⟩)
theorem opens_lRoles : Opens Try.prog 44 1 (SliceR RoW 3) := opens_slice Try.underlying44 opens_lRole (by kernel_rfl) (by decide)
theorem rd_ro {w : World} {A : Option Addr} {l : RoL} (h : RdL RoW 3 w A l) : roR w A l ∧ WfRoL l := by
  constructor
  · refine ⟨h.1, fun hn => ?_⟩
    obtain ⟨b, off, e, hc⟩ := h.2 hn
    refine ⟨b, off, e, fun k hk => ?_⟩
    obtain ⟨cs, h1, ⟨A', c', h2, h4, _⟩, h3⟩ := hc k hk
    exact ⟨cs, h1, ⟨A', c', h2, h4, fun h0 a ha => rdl_lt (by decide) h4 h0 a ha⟩, h3⟩
  · intro v hv
    obtain ⟨k, hk, rfl⟩ := List.getElem_of_mem hv
    obtain ⟨b, off, e, hc⟩ := h.2 (by omega)
    obtain ⟨cs, h1, ⟨A', c', _, _, h2⟩, h3⟩ := hc k hk
    exact h2
end Go.Proofs.Ytbimcababidjgaa

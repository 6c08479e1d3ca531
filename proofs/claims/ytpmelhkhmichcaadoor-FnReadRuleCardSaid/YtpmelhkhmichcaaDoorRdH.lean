/- Texts of rules can be read; accepted texts are canonical: the laws, walked. -/
import Derived.Test.YtpmelhkhmichcaaDoorRdE
import Derived.Test.YtpmelhkhmichcaaDoorRtD
namespace Go.Proofs.YtpmelhkhmichcaaDoor
set_option linter.unusedSimpArgs false
set_option linter.unusedVariables false
open Go.RowKit

theorem rt_empty {p : ByteArray} {a : Int} {b : Bool} (h : ruOk [(p, a, b)] = false) : rtV p a b = ByteArray.empty := by rw [rtV, h]; rfl
theorem rt_full {p : ByteArray} {a : Int} {b : Bool} (h : ruOk [(p, a, b)] = true) : ((rtV p a b).toList == []) = false := by
  have hl := rt_list h
  rw [Go.ByteArray.toList_eq, hl]
  simp
set_option maxRecDepth 100000 in
set_option maxHeartbeats 4000000 in
theorem lawRuleText {A : Option Addr} {l : List Int} {c : Nat} {w : World} (hC : CodeR w w.heap.size A l) (hc : l.length ≤ c) (hE : EvW w) :
    Calls Tryd.prog 14 #[.slice A l.length c] w fun e w' => e = .returned (.bool true) ∧ Below w.heap.size w w' := by
  by_cases h : (1048576 : Int) < l.length
  · go_enter Tryd.func14, Tryd.ntmps14
    go_wp2
    go_ret
    exact ⟨rfl, Below.refl _ _⟩
  · go_enter Tryd.func14, Tryd.ntmps14
    go_wp2_with fail
    refine (DrawRuleText_d hC hc).mono ?_
    rintro e w1 ⟨p, a, b, rfl, hp, hB⟩
    replace hE := hE.below hB
    have HB := Lib.hid hB
    have hsz := rt_size (a := a) (b := b) hp
    clear hB
    go_wp2_with fail
    obtain ⟨X, hX⟩ : ∃ X, X = w1.alloc (.cells #[.string p, .int .i64 a, .bool b] 25) := ⟨_, rfl⟩
    obtain ⟨g, hg⟩ : ∃ g, g = w1.heap.size := ⟨_, rfl⟩
    have hBX : Below w1.heap.size w1 X := by rw [hX]; exact below_alloc _ _
    have x0 : X.cell? ⟨g, 0, none⟩ = some (.string p) := by rw [hX, hg]; exact box_cell w1 _ _ 0 _ rfl
    have x1 : X.cell? ⟨g, 1, none⟩ = some (.int .i64 a) := by rw [hX, hg]; exact box_cell w1 _ _ 1 _ rfl
    have x2 : X.cell? ⟨g, 2, none⟩ = some (.bool b) := by rw [hX, hg]; exact box_cell w1 _ _ 2 _ rfl
    rw [← hX, ← hg]
    replace hE := hE.below hBX
    have hB := ext_trans HB.out hBX
    clear hX hg hBX HB
    refine (implRuleText _ (by omega)).mono ?_
    rintro e w2 ⟨rfl, hb⟩
    replace hB := ext_trans hB hb
    replace hE := hE.below hb
    replace x0 := below_cell hb x0
    replace x1 := below_cell hb x1
    replace x2 := below_cell hb x2
    have hgl := block_lt_of_cell x0
    clear hb
    go_wp2_with fail
    refine (specRuleText _ (by omega)).mono ?_
    rintro e w3 ⟨rfl, hb⟩
    replace hB := ext_trans hB hb
    replace hE := hE.below hb
    replace x0 := below_cell hb x0
    replace x1 := below_cell hb x1
    replace x2 := below_cell hb x2
    have hgl := block_lt_of_cell x0
    clear hb
    obtain ⟨ok, hok⟩ : ∃ ok, ruOk [(p, a, b)] = ok := ⟨_, rfl⟩
    cases ok
    · have he := rt_empty hok
      rw [he]
      clear hE
      go_wp2_with fail
      refine (ok_one hok rfl (by omega)).mono ?_
      rintro e w4 ⟨rfl, hb⟩
      replace hB := ext_trans (ext_alloc hB _) (by rw [alloc_sz]; exact hb)
      clear hb
      go_wp2_with fail
      refine (alive_any _).mono ?_
      rintro e w5 ⟨rfl, hb⟩
      replace hB := ext_trans hB hb
      go_wp2
      go_ret
      exact ⟨rfl, hB⟩
    · have he := rt_full hok
      have HRD := Lib.hid (rt_read hok)
      clear hok
      go_wp2_with fail
      refine (implReadRule (by omega) hE).mono ?_
      rintro e w4 ⟨r, ok, rfl, hr, hb⟩
      obtain ⟨rfl, rfl⟩ := hr.uniq (.inl ⟨rfl, HRD.out⟩)
      replace hB := ext_trans hB hb
      replace x0 := below_cell hb x0
      replace x1 := below_cell hb x1
      replace x2 := below_cell hb x2
      have hgl := block_lt_of_cell x0
      clear hb hr
      go_wp2
      go_ret
      exact ⟨rfl, ext_alloc hB _⟩
set_option maxRecDepth 100000 in
set_option maxHeartbeats 4000000 in
theorem lawReadRule {A : Option Addr} {l : List Int} {c : Nat} {w : World} (hC : CodeR w w.heap.size A l) (hc : l.length ≤ c) (hE : EvW w) :
    Calls Tryd.prog 3 #[.slice A l.length c] w fun e w' => e = .returned (.bool true) ∧ Below w.heap.size w w' := by
  by_cases h : (1048576 : Int) < l.length
  · go_enter Tryd.func3, Tryd.ntmps3
    go_wp2
    go_ret
    exact ⟨rfl, Below.refl _ _⟩
  · go_enter Tryd.func3, Tryd.ntmps3
    go_wp2_with fail
    refine (DrawReadRule_d hC hc).mono ?_
    rintro e w1 ⟨s, rfl, hsz, hB⟩
    replace hE := hE.below hB
    go_wp2_with fail
    refine (implReadRule (by omega) hE).mono ?_
    rintro e w2 ⟨⟨p, a, b⟩, ok, rfl, hr, hb⟩
    replace hB := ext_trans hB hb
    replace hE := hE.below hb
    have HR := Lib.hid hr
    clear hb hr
    go_wp2_with fail
    obtain ⟨X, hX⟩ : ∃ X, X = w2.alloc (.cells #[.string p, .int .i64 a, .bool b] 25) := ⟨_, rfl⟩
    obtain ⟨g, hg⟩ : ∃ g, g = w2.heap.size := ⟨_, rfl⟩
    have hBX : Below w2.heap.size w2 X := by rw [hX]; exact below_alloc _ _
    have x0 : X.cell? ⟨g, 0, none⟩ = some (.string p) := by rw [hX, hg]; exact box_cell w2 _ _ 0 _ rfl
    have x1 : X.cell? ⟨g, 1, none⟩ = some (.int .i64 a) := by rw [hX, hg]; exact box_cell w2 _ _ 1 _ rfl
    have x2 : X.cell? ⟨g, 2, none⟩ = some (.bool b) := by rw [hX, hg]; exact box_cell w2 _ _ 2 _ rfl
    rw [← hX, ← hg]
    replace hE := hE.below hBX
    replace hB := ext_trans hB hBX
    clear hX hg hBX
    refine (specReadRule (by omega)).mono ?_
    rintro e w3 ⟨r, ok', rfl, hr, hb⟩
    obtain ⟨rfl, rfl⟩ := hr.uniq HR.out
    replace hB := ext_trans hB hb
    replace hE := hE.below hb
    replace x0 := below_cell hb x0
    replace x1 := below_cell hb x1
    replace x2 := below_cell hb x2
    have hgl := block_lt_of_cell x0
    clear hb hr
    rcases HR.out with ⟨rfl, hi⟩ | ⟨rfl, hz, _⟩
    · have hes : rtV p a b = s := hi.2.2.2
      have h3 := hi.1
      have HS := Lib.hid (rr_short (s := s ++ wSp) (by rw [sws_more, h3]; decide))
      have hpz : p.size ≤ 1048576 := by
        have := hi.2.1
        have h9 := sws_size (s := s) (k := 1) (by omega)
        rw [show p = sg0 (sws s) 1 from this]
        omega
      have hz2 : (s ++ wSp).size ≤ 1048576 := by rw [ByteArray.size_append]; show s.size + 1 ≤ _; omega
      have HES := Lib.hid hes
      clear hi h3 hes
      have y0 := below_cell (below_alloc w3 (.cells #[.string p, .int .i64 a, .bool b] 25)) x0
      obtain ⟨Y, hY⟩ : ∃ Y, Y = w3.alloc (.cells #[.string p, .int .i64 a, .bool b] 25) := ⟨_, rfl⟩
      have hBY : Below w3.heap.size w3 Y := by rw [hY]; exact below_alloc _ _
      have HY := Lib.hid hY
      clear hY y0
      go_wp2_with fail
      rw [← HY.out]
      refine (implReadRule (s := s ++ wSp) hz2 (hE.below hBY)).mono ?_
      rintro e w4 ⟨r2, ok2, rfl, hr2, hb⟩
      obtain ⟨rfl, rfl⟩ := hr2.uniq HS.out
      replace hb := ext_trans hBY hb
      replace hB := ext_trans hB hb
      replace x0 := below_cell hb x0
      replace x1 := below_cell hb x1
      replace x2 := below_cell hb x2
      have hgl := block_lt_of_cell x0
      clear hb hr2 hBY hE
      go_wp2_with fail
      refine (implRuleText _ hpz).mono ?_
      rintro e w5 ⟨rfl, hb⟩
      rw [HES.out]
      replace hB := ext_trans (ext_alloc hB _) hb
      clear hb
      go_wp2
      go_ret
      exact ⟨rfl, hB⟩
    · simp only [Prod.mk.injEq] at hz
      obtain ⟨rfl, rfl, rfl⟩ := hz
      clear hE
      go_wp2_with fail
      refine (alive_any _).mono ?_
      rintro e w4 ⟨rfl, hb⟩
      replace hB := ext_trans (ext_alloc hB _) hb
      go_wp2
      go_ret
      exact ⟨rfl, hB⟩
end Go.Proofs.YtpmelhkhmichcaaDoor

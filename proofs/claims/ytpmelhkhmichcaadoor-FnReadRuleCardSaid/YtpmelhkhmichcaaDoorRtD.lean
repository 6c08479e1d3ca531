/- Texts of rules: what is drawn. -/
import Derived.Test.YtpmelhkhmichcaaDoorRuD
import Derived.Test.YtpmelhkhmichcaaDoorRdB
namespace Go.Proofs.YtpmelhkhmichcaaDoor
set_option linter.unusedSimpArgs false
set_option linter.unusedVariables false
open Go.RowKit

theorem drawRuleText_fn : absFn (dConf Tryd.prog ruTab ruSto 1 100000 [l20RulesCon, l20PathCon]) Tryd.f46 20 (List.range 200) [.ck .code] (.pre 0) (.ag [.str 40, .int .i64 0 100, .bool none]) = true := by kernel_rfl
theorem DrawRuleText_d {A : Option Addr} {l : List Int} {q : Nat} {w : World} (hC : CodeR w w.heap.size A l) (hq : l.length ≤ q) :
    Calls Tryd.prog 46 #[.slice A l.length q] w fun e w' => ∃ (p : ByteArray) (a : Int) (b : Bool), e = .returned (.agg #[.string p, .int .i64 a, .bool b]) ∧ p.size ≤ 40 ∧ Below w.heap.size w w' := by
  refine (draw_of (ru_good ru_cons) Tryd.func46 (by decide) drawRuleText_fn hC hq).mono ?_
  rintro e w' ⟨v, c, rfl, _, h0, hb⟩
  obtain ⟨_, rfl, _, _, rfl, ⟨p, rfl, hp⟩, _, _, rfl, ⟨a, rfl, _⟩, _, _, rfl, ⟨b, rfl, _⟩, rfl⟩ := h0
  exact ⟨p, a, b, rfl, hp, hb⟩
theorem rt_size {p : ByteArray} {a : Int} {b : Bool} (hp : p.size ≤ 40) : (rtV p a b).size ≤ 60 := by
  cases hk : ruOk [(p, a, b)]
  · rw [rtV, hk]; show (ByteArray.empty).size ≤ 60; decide
  · have h1 := ok_acts hk
    have h2 := l1N_len (show 0 ≤ a by omega) h1.2
    rw [rtV, if_pos hk]
    simp only [ByteArray.size_append]
    have h3 : (if b = true then wAllow else wDeny).size ≤ 5 := by cases b <;> decide
    have h4 : wSp.size = 1 := rfl
    omega
def ruTab2 : Tab := (9, [.str 70]) :: ruTab
theorem ru_good2 {J lim : Nat} {cons : List Con} (hc : ∀ e ∈ cons, ConOk Tryd.prog ruTab2 e) : Good (dConf Tryd.prog ruTab2 ruSto J lim cons) := good_of (by kernel_rfl) (by kernel_rfl) hc
theorem l20Path_fn2 : absFn (dConf Tryd.prog ruTab2 ruSto 0 200 []) Tryd.f68 20 (List.range 200) [.ck .rdr, .ck (.bool none)] (.run 0) (.ck (.str 40)) = true := by kernel_rfl
theorem l20Path_con2 : ConOk Tryd.prog ruTab2 l20PathCon := con_of (T := dConf Tryd.prog ruTab2 ruSto 0 200 []) (ru_good2 cons_nil) Tryd.func68 (by kernel_rfl) (by kernel_rfl) l20Path_fn2
theorem l20Rules_fn2 : absFn (dConf Tryd.prog ruTab2 ruSto 0 30000 [l20PathCon]) Tryd.f48 20 (List.range 200) [.ck .rdr, .ck (.int .i64 0 100)] (.run 0) (.ck (.sl 5 0 6)) = true := by kernel_rfl
theorem l20Rules_con2 : ConOk Tryd.prog ruTab2 l20RulesCon := con_of (T := dConf Tryd.prog ruTab2 ruSto 0 30000 [l20PathCon]) (ru_good2 (cons_cons l20Path_con2 cons_nil)) Tryd.func48 (by kernel_rfl) (by kernel_rfl) l20Rules_fn2
def ruleTextCon : Con := ⟨43, [.ag [.str 40, .int .i64 0 100, .bool none]], .ck (.str 60), 0⟩
theorem ruleText_con : ConOk Tryd.prog ruTab2 ruleTextCon := by
  refine ⟨⟨_, _, Tryd.func43, by kernel_rfl, rfl⟩, fun c w N args hB hcb hR hN hA => ?_⟩
  match args, hA with
  | [v], hA =>
    obtain ⟨⟨_, rfl, _, _, rfl, ⟨p, rfl, hp⟩, _, _, rfl, ⟨a, rfl, _⟩, _, _, rfl, ⟨b, rfl, _⟩, rfl⟩, _⟩ := hA
    refine (specRuleText (p := p) (a := a) (b := b) w (Nat.le_trans hp (by decide))).mono ?_
    rintro e w' ⟨rfl, hb⟩
    exact ⟨_, rfl, ⟨_, rfl, rt_size hp⟩, hR.below hb, grown_of_below hb _⟩
theorem drawReadRule_fn : absFn (dConf Tryd.prog ruTab2 ruSto 0 100000 [ruleTextCon, l20RulesCon, l20PathCon]) Tryd.f15 20 (List.range 200) [.ck .code] (.pre 0) (.ck (.str 70)) = true := by kernel_rfl
theorem DrawReadRule_d {A : Option Addr} {l : List Int} {q : Nat} {w : World} (hC : CodeR w w.heap.size A l) (hq : l.length ≤ q) :
    Calls Tryd.prog 15 #[.slice A l.length q] w fun e w' => ∃ s : ByteArray, e = .returned (.string s) ∧ s.size ≤ 70 ∧ Below w.heap.size w w' := by
  refine (draw_of (ru_good2 (cons_cons ruleText_con (cons_cons l20Rules_con2 (cons_cons l20Path_con2 cons_nil)))) Tryd.func15 (by decide) drawReadRule_fn hC hq).mono ?_
  rintro e w' ⟨v, c, rfl, _, ⟨s, rfl, hs⟩, hb⟩
  exact ⟨s, rfl, hs, hb⟩
end Go.Proofs.YtpmelhkhmichcaaDoor

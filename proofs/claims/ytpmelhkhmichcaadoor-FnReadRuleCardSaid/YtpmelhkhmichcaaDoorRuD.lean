/- Rules of a list: what is drawn. -/
import Derived.Test.YtpmelhkhmichcaaDoorAih
import Derived.Test.YtpmelhkhmichcaaDoorAik
import Derived.Test.YtpmelhkhmichcaaDoorAij
import Derived.Test.YtpmelhkhmichcaaDoorRuS
namespace Go.Proofs.YtpmelhkhmichcaaDoor
set_option linter.unusedSimpArgs false
set_option linter.unusedVariables false
open Go.RowKit

def ruTab : Tab := [
  (25, [.str 40, .int .i64 0 100, .bool none]),
  (9, [.str 40]),
  (9, [.str 1]),
  (3, [.int .i64 0 100]),
  (3, [.int .i64 0 1]),
  (5, [.int .u8 0 255])]
def ruSto : Sto := [(25, 5), (5, 0)]
theorem ru_good {J lim : Nat} {cons : List Con} (hc : ∀ e ∈ cons, ConOk Tryd.prog ruTab e) : Good (dConf Tryd.prog ruTab ruSto J lim cons) := good_of (by kernel_rfl) (by kernel_rfl) hc
def l20PathCon : Con := ⟨68, [.ck .rdr, .ck (.bool none)], .ck (.str 40), 200⟩
theorem l20Path_fn : absFn (dConf Tryd.prog ruTab ruSto 0 200 []) Tryd.f68 20 (List.range 200) [.ck .rdr, .ck (.bool none)] (.run 0) (.ck (.str 40)) = true := by kernel_rfl
theorem l20Path_con : ConOk Tryd.prog ruTab l20PathCon := con_of (T := dConf Tryd.prog ruTab ruSto 0 200 []) (ru_good cons_nil) Tryd.func68 (by kernel_rfl) (by kernel_rfl) l20Path_fn
def l20RulesCon : Con := ⟨48, [.ck .rdr, .ck (.int .i64 0 100)], .ck (.sl 5 0 6), 30000⟩
theorem l20Rules_fn : absFn (dConf Tryd.prog ruTab ruSto 0 30000 [l20PathCon]) Tryd.f48 20 (List.range 200) [.ck .rdr, .ck (.int .i64 0 100)] (.run 0) (.ck (.sl 5 0 6)) = true := by kernel_rfl
theorem l20Rules_con : ConOk Tryd.prog ruTab l20RulesCon := con_of (T := dConf Tryd.prog ruTab ruSto 0 30000 [l20PathCon]) (ru_good (cons_cons l20Path_con cons_nil)) Tryd.func48 (by kernel_rfl) (by kernel_rfl) l20Rules_fn
theorem ru_cons : ∀ e ∈ [l20RulesCon, l20PathCon], ConOk Tryd.prog ruTab e := cons_cons l20Rules_con (cons_cons l20Path_con cons_nil)
theorem drawRulesValid_fn : absFn (dConf Tryd.prog ruTab ruSto 0 100000 [l20RulesCon, l20PathCon]) Tryd.f20 20 (List.range 200) [.ck .code] (.pre 0) (.ck (.sl 5 0 6)) = true := by kernel_rfl
def RuP (r : ByteArray × Int × Bool) : Prop := r.1.size ≤ 40
theorem ru_dec {c : Ctx} {w : World} (cs : List Value) (h : RowK ([CK.str 40, CK.int .i64 0 100, CK.bool none].map (cden c ruTab)) w cs) : ∃ r : ByteArray × Int × Bool, RuP r ∧ Flat ruEnc w r cs := by
  obtain ⟨_, _, rfl, ⟨s, rfl, hs⟩, _, _, rfl, ⟨n1, rfl, _⟩, _, _, rfl, ⟨b, rfl, _⟩, rfl⟩ := h
  exact ⟨(s, n1, b), hs, rfl⟩
theorem rus_of {c : Ctx} {w : World} {v : Value} {lo hi : Nat} (hh : hi ≤ 9223372036854775807) (h : cden c ruTab (.sl 5 lo hi) w v) : ∃ (l : RuL) (A : Option Addr) (q : Nat), v = .slice A l.length q ∧ l.length ≤ hi ∧ FewP l ∧ ruR w A l ∧ l.length ≤ q ∧ q ≤ 9223372036854775807 ∧ ((A = Option.none ∧ q = 0) ∨ ∃ b off, A = some ⟨b, off, Option.none⟩) := by
  obtain ⟨l, A, q, rfl, _, h2, h3, h4, h5, h6, h7, h8⟩ := sl_rd (R := Flat ruEnc) (P := RuP) (by kernel_rfl) ru_dec hh h
  refine ⟨l, A, q, rfl, h2, fun k hk => ?_, h4, h5, h6, ?_⟩
  · have h9 := h3 _ (List.getElem_mem hk)
    rw [← ru_elem hk] at h9
    exact Nat.le_trans h9 (by decide)
  · cases A with
    | none => exact .inl ⟨rfl, h8 rfl⟩
    | some a => obtain ⟨b, off, sp⟩ := a; obtain rfl : sp = Option.none := (h7 _ rfl).2; exact .inr ⟨b, off, rfl⟩
theorem DrawRulesValid_d {A : Option Addr} {l : List Int} {q : Nat} {w : World} (hC : CodeR w w.heap.size A l) (hq : l.length ≤ q) :
    Calls Tryd.prog 20 #[.slice A l.length q] w fun e w' => ∃ (us : RuL) (A1 : Option Addr) (c1 : Nat), e = .returned (.slice A1 us.length c1) ∧ us.length ≤ 6 ∧ FewP us ∧ ruR w' A1 us ∧ us.length ≤ c1 ∧ c1 ≤ 9223372036854775807 ∧ ((A1 = Option.none ∧ c1 = 0) ∨ ∃ b off, A1 = some ⟨b, off, Option.none⟩) ∧ Below w.heap.size w w' := by
  refine (draw_of (ru_good ru_cons) Tryd.func20 (by decide) drawRulesValid_fn hC hq).mono ?_
  rintro e w' ⟨v, c, rfl, _, h0, hb⟩
  obtain ⟨us, A1, c1, rfl, g1, g2, g3, g4, g5, g6⟩ := rus_of (by decide) h0
  exact ⟨us, A1, c1, rfl, g1, g2, g3, g4, g5, g6, hb⟩
end Go.Proofs.YtpmelhkhmichcaaDoor

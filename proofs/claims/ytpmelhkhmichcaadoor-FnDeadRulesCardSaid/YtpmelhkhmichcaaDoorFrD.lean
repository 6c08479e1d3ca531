/- Rules of a list, a path and an act: what is drawn. -/
import Derived.Test.YtpmelhkhmichcaaDoorRuD
namespace Go.Proofs.YtpmelhkhmichcaaDoor
set_option linter.unusedSimpArgs false
set_option linter.unusedVariables false
open Go.RowKit

def l20BadCon : Con := ⟨69, [.ck .rdr], .ck (.str 40), 100⟩
theorem l20Bad_fn : absFn (dConf Tryd.prog ruTab ruSto 0 100 []) Tryd.f69 20 (List.range 200) [.ck .rdr] (.run 0) (.ck (.str 40)) = true := by kernel_rfl
theorem l20Bad_con : ConOk Tryd.prog ruTab l20BadCon := con_of (T := dConf Tryd.prog ruTab ruSto 0 100 []) (ru_good cons_nil) Tryd.func69 (by kernel_rfl) (by kernel_rfl) l20Bad_fn
theorem fr_cons : ∀ e ∈ [l20RulesCon, l20PathCon, l20BadCon], ConOk Tryd.prog ruTab e := cons_cons l20Rules_con (cons_cons l20Path_con (cons_cons l20Bad_con cons_nil))
theorem drawFirstRule_fn : absFn (dConf Tryd.prog ruTab ruSto 0 100000 [l20RulesCon, l20PathCon, l20BadCon]) Tryd.f28 20 (List.range 200) [.ck .code] (.pre 0) (.tup [.c (.sl 5 0 6), .c (.str 40), .c (.int .i64 (-2) 5)]) = true := by kernel_rfl
theorem DrawFirstRule_d {A : Option Addr} {l : List Int} {q : Nat} {w : World} (hC : CodeR w w.heap.size A l) (hq : l.length ≤ q) :
    Calls Tryd.prog 28 #[.slice A l.length q] w fun e w' => ∃ (us : RuL) (path : ByteArray) (act : Int) (A1 : Option Addr) (c1 : Nat), e = .returned (.tuple #[.slice A1 us.length c1, .string path, .int .i64 act]) ∧ us.length ≤ 6 ∧ FewP us ∧ path.size ≤ 40 ∧ (-2 ≤ act ∧ act ≤ 5) ∧ ruR w' A1 us ∧ us.length ≤ c1 ∧ c1 ≤ 9223372036854775807 ∧ ((A1 = Option.none ∧ c1 = 0) ∨ ∃ b off, A1 = some ⟨b, off, Option.none⟩) ∧ Below w.heap.size w w' := by
  refine (draw_of (ru_good fr_cons) Tryd.func28 (by decide) drawFirstRule_fn hC hq).mono ?_
  rintro e w' ⟨v, c, rfl, _, ⟨_, rfl, _, _, rfl, h0, _, _, rfl, ⟨path, rfl, hps⟩, _, _, rfl, ⟨act, rfl, ha⟩, rfl⟩, hb⟩
  obtain ⟨us, A1, c1, rfl, g1, g2, g3, g4, g5, g6⟩ := rus_of (by decide) h0
  exact ⟨us, path, act, A1, c1, rfl, g1, g2, hps, ha, g3, g4, g5, g6, hb⟩
set_option maxHeartbeats 1000000 in
theorem DrawRulesAllow_d {A : Option Addr} {l : List Int} {q : Nat} {w : World} (hC : CodeR w w.heap.size A l) (hq : l.length ≤ q) :
    Calls Tryd.prog 32 #[.slice A l.length q] w fun e w' => ∃ (us : RuL) (path : ByteArray) (act : Int) (A1 : Option Addr) (c1 : Nat), e = .returned (.tuple #[.slice A1 us.length c1, .string path, .int .i64 act]) ∧ us.length ≤ 6 ∧ FewP us ∧ path.size ≤ 40 ∧ (-2 ≤ act ∧ act ≤ 5) ∧ ruR w' A1 us ∧ us.length ≤ c1 ∧ c1 ≤ 9223372036854775807 ∧ ((A1 = Option.none ∧ c1 = 0) ∨ ∃ b off, A1 = some ⟨b, off, Option.none⟩) ∧ Below w.heap.size w w' := by
  go_enter Tryd.func32, Tryd.ntmps32
  go_wp2_with fail
  refine (DrawFirstRule_d hC hq).mono ?_
  rintro e w1 ⟨us, path, act, A1, c1, rfl, h⟩
  have H := Lib.hid h
  clear h
  go_wp2
  go_ret3
  exact ⟨us, path, act, A1, c1, rfl, H.out⟩
end Go.Proofs.YtpmelhkhmichcaaDoor

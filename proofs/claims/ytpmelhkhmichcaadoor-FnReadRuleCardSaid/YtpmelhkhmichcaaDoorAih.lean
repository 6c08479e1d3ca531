/- Kinds at this program: the reader's three functions. -/
import Derived.Test.YtpmelhkhmichcaaDoorAig
import Derived.Test.YtpmelhkhmichcaaDoorDrk
namespace Go.Proofs.YtpmelhkhmichcaaDoor
set_option linter.unusedSimpArgs false
set_option linter.unusedVariables false
open Go.RowKit

/-- A configuration of this program. -/
abbrev dConf (P : Program) (tab : Tab) (S : Sto) (J lim : Nat) (cons : List Con) : Conf := { P := P, tab := tab, S := S, J := ⟨J, lim⟩, fu := 8, cons := cons, openF := 47, pickF := 49, oddF := 50 }
theorem enters_of {f : FuncId} {fn : Func} (hf : Tryd.prog.funcs[f]? = some fn) (hname : (fn.name == "runtime.NumGoroutine") = false) (hb : fn.body.isSome = true) : Enters Tryd.prog f := by
  obtain ⟨c, hc⟩ := Option.isSome_iff_exists.1 hb
  exact ⟨fn, c, hf, hname, hc⟩
theorem good_of {tab : Tab} {S : Sto} {J lim : Nat} {cons : List Con} (ht : okTab tab = true) (hS : okSto tab S = true) (hc : ∀ e ∈ cons, ConOk Tryd.prog tab e) : Good (dConf Tryd.prog tab S J lim cons) where
  tab := ht
  sto := hS
  mixed := by kernel_rfl
  cons := hc
  enterO := enters_of Tryd.func47 (by kernel_rfl) rfl
  enterP := enters_of Tryd.func49 (by kernel_rfl) rfl
  enterD := enters_of Tryd.func50 (by kernel_rfl) rfl
  openOk := fun A l c cb w h1 h2 h3 h4 => l20Open_any h1 h2 h3 h4
  pickOk := fun br cb N n w h1 h2 h3 h4 => pick_d h1 h2 h3 h4
  oddOk := fun br cb N n w h1 h2 h3 h4 => odd_d h1 h2 h3 h4
theorem cons_nil {tab : Tab} : ∀ e ∈ ([] : List Con), ConOk Tryd.prog tab e := fun _ h => absurd h (by simp)
theorem cons_cons {tab : Tab} {e : Con} {l : List Con} (h : ConOk Tryd.prog tab e) (h2 : ∀ e ∈ l, ConOk Tryd.prog tab e) : ∀ x ∈ e :: l, ConOk Tryd.prog tab x := fun x hx => by
  rcases List.mem_cons.1 hx with rfl | hx
  · exact h
  · exact h2 x hx
end Go.Proofs.YtpmelhkhmichcaaDoor

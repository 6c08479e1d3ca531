/- Expressions: goodness and validity, by the reference. Printed by gen_good.py. -/
import Derived.Test.YtodjokdaofefdaaGdC
import Derived.Test.YtodjokdaofefdaaGdD
import Derived.Test.YtodjokdaofefdaaGdE
import Derived.Test.YtodjokdaofefdaaGdF
import Derived.Test.YtodjokdaofefdaaGdG
import Derived.Test.YtodjokdaofefdaaGdH
import Derived.Test.YtodjokdaofefdaaGdI
namespace Go.Proofs.Ytodjokdaofefdaa
set_option linter.unusedSimpArgs false
set_option linter.unusedVariables false
open Go.RowKit

theorem goQ_of {d : Nat} (hQ : ∀ m, d = m + 1 → GoQ m) : GoQ d := by
  intro A r c w hU hs
  by_cases h1 : r.k = 1
  · exact goQ_1 hQ A r c w hU hs h1
  by_cases h2 : r.k = 2
  · exact goQ_2 hQ A r c w hU hs h2
  by_cases h3 : r.k = 3
  · exact goQ_3 hQ A r c w hU hs h3
  by_cases h7 : r.k = 7
  · exact goQ_7 hQ A r c w hU hs h7
  by_cases h8 : r.k = 8
  · exact goQ_8 hQ A r c w hU hs h8
  by_cases h9 : r.k = 9
  · exact goQ_9 hQ A r c w hU hs h9
  exact goQ_o hQ A r c w hU hs ⟨h1, h2, h3, h7, h8, h9⟩
theorem goQ_all : ∀ d, GoQ d
  | 0 => goQ_of (fun m h => by cases h)
  | d + 1 => goQ_of (fun m h => by cases h; exact goQ_all d)
end Go.Proofs.Ytodjokdaofefdaa

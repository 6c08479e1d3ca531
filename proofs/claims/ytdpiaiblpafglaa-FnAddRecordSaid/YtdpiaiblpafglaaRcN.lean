/- Records: what is drawn. -/
import Derived.Test.YtdpiaiblpafglaaAih
namespace Go.Proofs.Ytdpiaiblpafglaa
set_option linter.unusedSimpArgs false
set_option linter.unusedVariables false
open Go.RowKit

def rcTab : Tab := [
  (25, [.intx .i64, .intx .i64, .intx .i64, .sl 3 0 8]),
  (27, [.intx .i64, .intx .i64, .intx .i64, .intx .i64, .sl 3 0 8, .bool Option.none, .intx .i64]),
  (85, [.str 1000, .intx .i64, .intx .i64]),
  (3, [.int .i64 i64lo i64hi]),
  (3, [.int .i64 0 4]),
  (3, [.int .i64 0 2])]
def rcSto : Sto := [(27, 4), (25, 5)]
theorem rc_good {J lim : Nat} {cons : List Con} (hc : ∀ e ∈ cons, ConOk Try.prog rcTab e) : Good (dConf Try.prog rcTab rcSto J lim cons) := good_of (by kernel_rfl) (by kernel_rfl) hc
theorem drawRecordSeal_fn : absFn (dConf Try.prog rcTab rcSto 1 1000000 []) Try.f11 20 (List.range 200) [.ck .code] (.pre 0) (.tup [.c (.int .i64 i64lo i64hi), .agg [.intx .i64, .intx .i64, .intx .i64, .intx .i64, .sl 3 0 8, .bool Option.none, .intx .i64]]) = true := by kernel_rfl
end Go.Proofs.Ytdpiaiblpafglaa

/- Functions that are handed lists, and only read them. -/
import Derived.Test.YtogpbandlpjccaaGreatDoorRxG
set_option linter.unusedSimpArgs false
set_option linter.unusedVariables false
namespace Go.RX
open Go.RowKit
def El.cells (e : El) : List Value := [.int .i64 e.a, .int .i64 e.num, .int .i64 e.den]
end Go.RX

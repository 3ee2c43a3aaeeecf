/- Rows: an argument that is a struct of whole numbers, opened and shut. -/
import Derived.Test.YtogpbandlpjccaaGreatDoorRxF
import Derived.WalkKit
import Derived.ProofKit
import Derived.OpenShut
import Derived.ShutString
import Derived.ChangeOld
import Derived.SizedLaws
import Derived.ChangeArms
set_option linter.unusedSimpArgs false
set_option linter.unusedVariables false
namespace Go.RX
open Go.ChangeShapes Go.WideShapes Go.ChangeAt Go.RowKit
def In64 (n : Int) : Prop := -9223372036854775808 ≤ n ∧ n ≤ 9223372036854775807
end Go.RX
/- Functions that hand back a list. -/
set_option linter.unusedSimpArgs false
set_option linter.unusedVariables false

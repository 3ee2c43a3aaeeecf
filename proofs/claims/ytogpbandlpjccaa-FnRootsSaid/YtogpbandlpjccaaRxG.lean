/- Rows: an argument that is a struct of whole numbers, opened and shut. -/
import Derived.Test.YtogpbandlpjccaaRxF
import Derived.WalkKit
import Derived.ProofKit
import Derived.OpenShut
import Derived.ShutString
import Derived.ChangeOld
import Derived.SizedLaws
import Derived.ChangeArms
set_option linter.unusedSimpArgs false
set_option linter.unusedVariables false
namespace Go.RX
open Go.ChangeShapes Go.WideShapes Go.ChangeAt Go.RowKit
def In64 (n : Int) : Prop := -9223372036854775808 ≤ n ∧ n ≤ 9223372036854775807
end Go.RX
/- Functions that hand back a list. -/
set_option linter.unusedSimpArgs false
set_option linter.unusedVariables false
namespace Go.RX
open Go.RowKit
def rowIv (r : Value) : Iv := ⟨cI (r.cells.toList.headD undef), cI (r.cells.toList.tail.headD undef)⟩
def atIvN (rs : List Value) (g : Bool) (n : Nat) : Iv := rowIv (nthR rs g n)
def atIv (rs : List Value) (g : Bool) (i : Int) : Iv := rowIv (nthR rs g i.toNat)
end Go.RX

/- The machine walks these functions as the plain functions say; written by a program of this session out of the translation, with contracts of the library's functions of our own. -/
import Derived.Test.YtoncbpohjdackaaDoorProg
import Derived.Test.YtoncbpohjdackaaDoorOk
import Derived.Below
import Derived.Deep.Draws
import Derived.Deep.AppendLies
import Derived.Maps.AppendAt
import Derived.OwnWalk
import Derived.Laws.BytesArg
import Derived.Laws.MakeOwn
import Derived.Laws.OwnMore
import Derived.Deep.OwnRows
import Derived.Tactics
import Derived.Lib.ConvBytes
import Derived.Laws.Slices
import Derived.WalkKit
import Derived.KernelRfl
import Derived.RowKit3
import Derived.Deep.LoopGhost
import Derived.Deep.QuietTactic
import Derived.BigQuiet
import Derived.WideLaws
import Derived.Deep.DeepCutAuto
import Derived.Deep.CutBlock
import Derived.Deep.RegionHeld3
import Derived.Laws.Rows
import Derived.Lib.AppendStr
import Derived.ArgAppend
import Derived.Laws.IdiomCopy
import Derived.OrdersHeld
import Derived.Laws.BitsLemmas
import Derived.RowKit
import Derived.Test.YtoncbpohjdackaaDoorWWords
import Derived.Test.YtoncbpohjdackaaDoorWLast
import Derived.Test.YtoncbpohjdackaaDoorWTab
import Derived.Test.YtoncbpohjdackaaDoorWFour
import Derived.Test.YtoncbpohjdackaaDoorWQPut
import Derived.Test.YtoncbpohjdackaaDoorWApart
import Derived.Test.YtoncbpohjdackaaDoorWArr
import Derived.Test.YtoncbpohjdackaaDoorWZeros
import Derived.Test.YtoncbpohjdackaaDoorWFoot
import Derived.Test.YtoncbpohjdackaaDoorWKept
import Derived.Test.YtoncbpohjdackaaDoorWShare
import Derived.Test.YtoncbpohjdackaaDoorWN
import Derived.Test.YtoncbpohjdackaaDoorWFootNe
import Derived.Test.YtoncbpohjdackaaDoorWAt
import Derived.Test.YtoncbpohjdackaaDoorWEqStruct
import Derived.Test.YtoncbpohjdackaaDoorWRepsOne
import Derived.Test.YtoncbpohjdackaaDoorWInv
import Derived.Test.YtoncbpohjdackaaDoorWInvWords
import Derived.Test.YtoncbpohjdackaaDoorWGuard
import Derived.Test.YtoncbpohjdackaaDoorWNEv
import Derived.Test.YtoncbpohjdackaaDoorWMore
namespace Go.Proofs.YtoncbpohjdackaaDoor.TX
open Go.RowKit Go.Proofs.YtoncbpohjdackaaDoorW.PrintWords Go.Proofs.YtoncbpohjdackaaDoorW.PrintLast Go.Proofs.YtoncbpohjdackaaDoorW.PrintMore
attribute [local go_sem] max2_int min2_int max_two min_two max_three min_three max_four min_four   -- for this text's walks alone
set_option linter.unusedVariables false
set_option linter.unusedSimpArgs false



def errW : Option Int → Value
  | none => .nilIface
  | some c => .iface 0 (.int .i64 c)
theorem errW_none : errW none = .nilIface := rfl
theorem errW_some (c : Int) : errW (some c) = .iface 0 (.int .i64 c) := rfl

theorem info5 : (Tryd.prog.info? 5).map (fun i => (i.zero, i.size, i.bytes)) = some (some (.int .u8 0), 1, 1) := by kernel_rfl
theorem info9 : (Tryd.prog.info? 9).map (fun i => (i.zero, i.size, i.bytes)) = some (some (.string ⟨#[]⟩), 1, 16) := by kernel_rfl
-- the values' own types

end Go.Proofs.YtoncbpohjdackaaDoor.TX

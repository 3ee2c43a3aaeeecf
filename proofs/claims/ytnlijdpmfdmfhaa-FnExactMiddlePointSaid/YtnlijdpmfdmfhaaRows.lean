/-
  No cell of these rows narrows 'for every input' (looked for: loops, veiled, ifaces, maps, wideKeys, modest, calm, conditions, laid).
  DERIVED. THE GIVEN ROWS OF THIS SEAT. 11 by the template 'for every input the law returns true; each argument reads behind the call as it read before'; 0 by the template 'total and deterministic' (their statements: YtnlijdpmfdmfhaaTotals.lean).
  GIVEN WITH THE SEED: the statements are not yours to turn. If you find one false, say at which input.
  Laid BY PROGRAM, IN A SANDBOX (cutbox-rows.mjs): the forced cells as the released guide's own fill.sh prints them over the translation 148a50c845dee0ad… (all of the seat's roots in one cut). By AI agents, Wed Nov 11 2026. No macro, syntax, notation, axiom, sorry.
-/
import Derived.Test.YtnlijdpmfdmfhaaChecked
import GoSem.Claim
import GoSem.ClaimJoined
import GoSem.ClaimMapViews
import Derived.JoinedTies
import Derived.KernelRfl
namespace Go.Proofs.Ytnlijdpmfdmfhaa
/- THE CELL 'sum', in the pinned program and in every row, IS THE sha256 OF THE DUMP (.gsa) THAT YtnlijdpmfdmfhaaProg.lean LOADS. Nothing in Lean hashes anything: it is a label: what it is worth is what the hold of that sum in a sandbox is worth. -/
noncomputable def Try.pinned : Pinned := { name := "ytnlijdpmfdmfhaa", sum := "148a50c845dee0adc076b9e05c7dba060066619f7d776556b8b028a0969b9101", checked := Try.checked }
namespace Rows
def none {H : Type} : Left H := { results := [], args := [] }

/-- 'laws.FnExactEccI': WHATEVER THE INPUT: true; the input reads as it did. -/
def fnExactEccISpec : ChangeSpec := { name := "fnExactEccI", fn := fun _ => fun
  | [d] => { results := [.lit (.bool true)], args := [d] }
  | _ => none }
def fnExactEccIRow : OpenClaim := { program := "ytnlijdpmfdmfhaa", sum := "148a50c845dee0adc076b9e05c7dba060066619f7d776556b8b028a0969b9101", func := "loop.example/g00880/laws.FnExactEccI", spec := "fnExactEccI", inPlace := ["math/bits.Sub64", "math/bits.Add64"], unfollowed := true, recurses := true, named := ["math/bits.divideError", "math/bits.overflowError"], apart := false }
def FnExactEccISaid : Prop := fnExactEccIRow.holds Try.pinned (OpenSpec.ofChange fnExactEccISpec)

/-- ITS FALSE NEIGHBOUR: 'it returns false'. Refute it at one input. -/
def fnExactEccIWrong : ChangeSpec := { name := "fnExactEccI", fn := fun _ => fun
  | [d] => { results := [.lit (.bool false)], args := [d] }
  | _ => none }
def FnExactEccIWrongFalsely : Prop := fnExactEccIRow.holds Try.pinned (OpenSpec.ofChange fnExactEccIWrong)

/-- 'laws.FnExactSecondEccI': WHATEVER THE INPUT: true; the input reads as it did. -/
def fnExactSecondEccISpec : ChangeSpec := { name := "fnExactSecondEccI", fn := fun _ => fun
  | [d] => { results := [.lit (.bool true)], args := [d] }
  | _ => none }
def fnExactSecondEccIRow : OpenClaim := { program := "ytnlijdpmfdmfhaa", sum := "148a50c845dee0adc076b9e05c7dba060066619f7d776556b8b028a0969b9101", func := "loop.example/g00880/laws.FnExactSecondEccI", spec := "fnExactSecondEccI", inPlace := ["math/bits.Sub64", "math/bits.Add64"], unfollowed := true, recurses := true, named := ["math/bits.divideError", "math/bits.overflowError"], apart := false }
def FnExactSecondEccISaid : Prop := fnExactSecondEccIRow.holds Try.pinned (OpenSpec.ofChange fnExactSecondEccISpec)

/-- ITS FALSE NEIGHBOUR: 'it returns false'. Refute it at one input. -/
def fnExactSecondEccIWrong : ChangeSpec := { name := "fnExactSecondEccI", fn := fun _ => fun
  | [d] => { results := [.lit (.bool false)], args := [d] }
  | _ => none }
def FnExactSecondEccIWrongFalsely : Prop := fnExactSecondEccIRow.holds Try.pinned (OpenSpec.ofChange fnExactSecondEccIWrong)

/-- 'laws.FnExactLatOf': WHATEVER THE INPUT: true; the input reads as it did. -/
def fnExactLatOfSpec : ChangeSpec := { name := "fnExactLatOf", fn := fun _ => fun
  | [d] => { results := [.lit (.bool true)], args := [d] }
  | _ => none }
def fnExactLatOfRow : OpenClaim := { program := "ytnlijdpmfdmfhaa", sum := "148a50c845dee0adc076b9e05c7dba060066619f7d776556b8b028a0969b9101", func := "loop.example/g00880/laws.FnExactLatOf", spec := "fnExactLatOf", inPlace := ["math/bits.Sub64", "math/bits.Add64"], recurses := true, named := ["math/bits.divideError", "math/bits.overflowError"], apart := false }
def FnExactLatOfSaid : Prop := fnExactLatOfRow.holds Try.pinned (OpenSpec.ofChange fnExactLatOfSpec)

/-- ITS FALSE NEIGHBOUR: 'it returns false'. Refute it at one input. -/
def fnExactLatOfWrong : ChangeSpec := { name := "fnExactLatOf", fn := fun _ => fun
  | [d] => { results := [.lit (.bool false)], args := [d] }
  | _ => none }
def FnExactLatOfWrongFalsely : Prop := fnExactLatOfRow.holds Try.pinned (OpenSpec.ofChange fnExactLatOfWrong)

/-- 'laws.FnExactLonOf': WHATEVER THE INPUT: true; the input reads as it did. -/
def fnExactLonOfSpec : ChangeSpec := { name := "fnExactLonOf", fn := fun _ => fun
  | [d] => { results := [.lit (.bool true)], args := [d] }
  | _ => none }
def fnExactLonOfRow : OpenClaim := { program := "ytnlijdpmfdmfhaa", sum := "148a50c845dee0adc076b9e05c7dba060066619f7d776556b8b028a0969b9101", func := "loop.example/g00880/laws.FnExactLonOf", spec := "fnExactLonOf", inPlace := ["math/bits.Sub64", "math/bits.Add64"], recurses := true, named := ["math/bits.divideError", "math/bits.overflowError"], apart := false }
def FnExactLonOfSaid : Prop := fnExactLonOfRow.holds Try.pinned (OpenSpec.ofChange fnExactLonOfSpec)

/-- ITS FALSE NEIGHBOUR: 'it returns false'. Refute it at one input. -/
def fnExactLonOfWrong : ChangeSpec := { name := "fnExactLonOf", fn := fun _ => fun
  | [d] => { results := [.lit (.bool false)], args := [d] }
  | _ => none }
def FnExactLonOfWrongFalsely : Prop := fnExactLonOfRow.holds Try.pinned (OpenSpec.ofChange fnExactLonOfWrong)

/-- 'laws.FnExactMiddlePoint': WHATEVER THE INPUT: true; the input reads as it did. -/
def fnExactMiddlePointSpec : ChangeSpec := { name := "fnExactMiddlePoint", fn := fun _ => fun
  | [d1, d2] => { results := [.lit (.bool true)], args := [d1, d2] }
  | _ => none }
def fnExactMiddlePointRow : OpenClaim := { program := "ytnlijdpmfdmfhaa", sum := "148a50c845dee0adc076b9e05c7dba060066619f7d776556b8b028a0969b9101", func := "loop.example/g00880/laws.FnExactMiddlePoint", spec := "fnExactMiddlePoint", inPlace := ["math/bits.Sub64", "math/bits.Add64"], named := ["math/bits.divideError", "math/bits.overflowError"], apart := false }
def FnExactMiddlePointSaid : Prop := fnExactMiddlePointRow.holds Try.pinned (OpenSpec.ofChange fnExactMiddlePointSpec)

/-- ITS FALSE NEIGHBOUR: 'it returns false'. Refute it at one input. -/
def fnExactMiddlePointWrong : ChangeSpec := { name := "fnExactMiddlePoint", fn := fun _ => fun
  | [d1, d2] => { results := [.lit (.bool false)], args := [d1, d2] }
  | _ => none }
def FnExactMiddlePointWrongFalsely : Prop := fnExactMiddlePointRow.holds Try.pinned (OpenSpec.ofChange fnExactMiddlePointWrong)

/-- 'laws.FnExactAtPoint': WHATEVER THE INPUT: true; the input reads as it did. -/
def fnExactAtPointSpec : ChangeSpec := { name := "fnExactAtPoint", fn := fun _ => fun
  | [d1, d2, d3] => { results := [.lit (.bool true)], args := [d1, d2, d3] }
  | _ => none }
def fnExactAtPointRow : OpenClaim := { program := "ytnlijdpmfdmfhaa", sum := "148a50c845dee0adc076b9e05c7dba060066619f7d776556b8b028a0969b9101", func := "loop.example/g00880/laws.FnExactAtPoint", spec := "fnExactAtPoint", inPlace := ["math/bits.Sub64", "math/bits.Add64"], recurses := true, named := ["math/bits.divideError", "math/bits.overflowError"], apart := false }
def FnExactAtPointSaid : Prop := fnExactAtPointRow.holds Try.pinned (OpenSpec.ofChange fnExactAtPointSpec)

/-- ITS FALSE NEIGHBOUR: 'it returns false'. Refute it at one input. -/
def fnExactAtPointWrong : ChangeSpec := { name := "fnExactAtPoint", fn := fun _ => fun
  | [d1, d2, d3] => { results := [.lit (.bool false)], args := [d1, d2, d3] }
  | _ => none }
def FnExactAtPointWrongFalsely : Prop := fnExactAtPointRow.holds Try.pinned (OpenSpec.ofChange fnExactAtPointWrong)

/-- 'laws.FnExactSignChange': WHATEVER THE INPUT: true; the input reads as it did. -/
def fnExactSignChangeSpec : ChangeSpec := { name := "fnExactSignChange", fn := fun _ => fun
  | [d1, d2] => { results := [.lit (.bool true)], args := [d1, d2] }
  | _ => none }
def fnExactSignChangeRow : OpenClaim := { program := "ytnlijdpmfdmfhaa", sum := "148a50c845dee0adc076b9e05c7dba060066619f7d776556b8b028a0969b9101", func := "loop.example/g00880/laws.FnExactSignChange", spec := "fnExactSignChange", unfollowed := true, recurses := true, apart := false }
def FnExactSignChangeSaid : Prop := fnExactSignChangeRow.holds Try.pinned (OpenSpec.ofChange fnExactSignChangeSpec)

/-- ITS FALSE NEIGHBOUR: 'it returns false'. Refute it at one input. -/
def fnExactSignChangeWrong : ChangeSpec := { name := "fnExactSignChange", fn := fun _ => fun
  | [d1, d2] => { results := [.lit (.bool false)], args := [d1, d2] }
  | _ => none }
def FnExactSignChangeWrongFalsely : Prop := fnExactSignChangeRow.holds Try.pinned (OpenSpec.ofChange fnExactSignChangeWrong)

/-- 'laws.FnExactMulPolys': WHATEVER THE INPUT: true; the input reads as it did. -/
def fnExactMulPolysSpec : ChangeSpec := { name := "fnExactMulPolys", fn := fun _ => fun
  | [d1, d2] => { results := [.lit (.bool true)], args := [d1, d2] }
  | _ => none }
def fnExactMulPolysRow : OpenClaim := { program := "ytnlijdpmfdmfhaa", sum := "148a50c845dee0adc076b9e05c7dba060066619f7d776556b8b028a0969b9101", func := "loop.example/g00880/laws.FnExactMulPolys", spec := "fnExactMulPolys", unfollowed := true, recurses := true, apart := false }
def FnExactMulPolysSaid : Prop := fnExactMulPolysRow.holds Try.pinned (OpenSpec.ofChange fnExactMulPolysSpec)

/-- ITS FALSE NEIGHBOUR: 'it returns false'. Refute it at one input. -/
def fnExactMulPolysWrong : ChangeSpec := { name := "fnExactMulPolys", fn := fun _ => fun
  | [d1, d2] => { results := [.lit (.bool false)], args := [d1, d2] }
  | _ => none }
def FnExactMulPolysWrongFalsely : Prop := fnExactMulPolysRow.holds Try.pinned (OpenSpec.ofChange fnExactMulPolysWrong)

/-- 'laws.FnExactUniqueRoot': WHATEVER THE INPUT: true; the input reads as it did. -/
def fnExactUniqueRootSpec : ChangeSpec := { name := "fnExactUniqueRoot", fn := fun _ => fun
  | [d1, d2] => { results := [.lit (.bool true)], args := [d1, d2] }
  | _ => none }
def fnExactUniqueRootRow : OpenClaim := { program := "ytnlijdpmfdmfhaa", sum := "148a50c845dee0adc076b9e05c7dba060066619f7d776556b8b028a0969b9101", func := "loop.example/g00880/laws.FnExactUniqueRoot", spec := "fnExactUniqueRoot", unfollowed := true, recurses := true, apart := false }
def FnExactUniqueRootSaid : Prop := fnExactUniqueRootRow.holds Try.pinned (OpenSpec.ofChange fnExactUniqueRootSpec)

/-- ITS FALSE NEIGHBOUR: 'it returns false'. Refute it at one input. -/
def fnExactUniqueRootWrong : ChangeSpec := { name := "fnExactUniqueRoot", fn := fun _ => fun
  | [d1, d2] => { results := [.lit (.bool false)], args := [d1, d2] }
  | _ => none }
def FnExactUniqueRootWrongFalsely : Prop := fnExactUniqueRootRow.holds Try.pinned (OpenSpec.ofChange fnExactUniqueRootWrong)

/-- 'laws.FnExactBisectRoot': WHATEVER THE INPUT: true; the input reads as it did. -/
def fnExactBisectRootSpec : ChangeSpec := { name := "fnExactBisectRoot", fn := fun _ => fun
  | [d1, d2, d3] => { results := [.lit (.bool true)], args := [d1, d2, d3] }
  | _ => none }
def fnExactBisectRootRow : OpenClaim := { program := "ytnlijdpmfdmfhaa", sum := "148a50c845dee0adc076b9e05c7dba060066619f7d776556b8b028a0969b9101", func := "loop.example/g00880/laws.FnExactBisectRoot", spec := "fnExactBisectRoot", unfollowed := true, recurses := true, apart := false }
def FnExactBisectRootSaid : Prop := fnExactBisectRootRow.holds Try.pinned (OpenSpec.ofChange fnExactBisectRootSpec)

/-- ITS FALSE NEIGHBOUR: 'it returns false'. Refute it at one input. -/
def fnExactBisectRootWrong : ChangeSpec := { name := "fnExactBisectRoot", fn := fun _ => fun
  | [d1, d2, d3] => { results := [.lit (.bool false)], args := [d1, d2, d3] }
  | _ => none }
def FnExactBisectRootWrongFalsely : Prop := fnExactBisectRootRow.holds Try.pinned (OpenSpec.ofChange fnExactBisectRootWrong)

/-- 'laws.FnExactRootsIn': WHATEVER THE INPUT: true; the input reads as it did. -/
def fnExactRootsInSpec : ChangeSpec := { name := "fnExactRootsIn", fn := fun _ => fun
  | [d1, d2, d3] => { results := [.lit (.bool true)], args := [d1, d2, d3] }
  | _ => none }
def fnExactRootsInRow : OpenClaim := { program := "ytnlijdpmfdmfhaa", sum := "148a50c845dee0adc076b9e05c7dba060066619f7d776556b8b028a0969b9101", func := "loop.example/g00880/laws.FnExactRootsIn", spec := "fnExactRootsIn", unfollowed := true, recurses := true, apart := false }
def FnExactRootsInSaid : Prop := fnExactRootsInRow.holds Try.pinned (OpenSpec.ofChange fnExactRootsInSpec)

/-- ITS FALSE NEIGHBOUR: 'it returns false'. Refute it at one input. -/
def fnExactRootsInWrong : ChangeSpec := { name := "fnExactRootsIn", fn := fun _ => fun
  | [d1, d2, d3] => { results := [.lit (.bool false)], args := [d1, d2, d3] }
  | _ => none }
def FnExactRootsInWrongFalsely : Prop := fnExactRootsInRow.holds Try.pinned (OpenSpec.ofChange fnExactRootsInWrong)

/- THE SECOND FORM. 'bulk': how many values and letters a reading holds, each counted each time it is reached (what is shared counts as often as it is met; a slice's spare places count too). A statement '..UptoSaid' is the law's where the arguments, and the package variables that the reading takes, are together of bulk at most 1048576: NARROWER than '..Said'. Prove '..Said' where nothing that the law and all that it calls make is longer than what came in: it says more and counts as full. Else prove '..UptoSaid'. A law counts once. -/
mutual
def uptoBulk {H : Type} : DataW H → Nat
  | .lit (.string bytes) => bytes.length + 1
  | .lit _ => 1
  | .nil => 1
  | .ptr d => uptoBulk d + 1
  | .slice elems spare => uptoBulkAll elems + uptoBulkAll spare + 1
  | .agg parts => uptoBulkAll parts + 1
  | .iface _ d => uptoBulk d + 1
  | .map entries => uptoBulkEntries entries + 1
  | .held _ => 1
def uptoBulkAll {H : Type} : List (DataW H) → Nat
  | [] => 0
  | d :: r => uptoBulk d + uptoBulkAll r
def uptoBulkEntries {H : Type} : List (Lit × DataW H) → Nat
  | [] => 0
  | x :: r => uptoBulkEntry x + uptoBulkEntries r
def uptoBulkEntry {H : Type} : Lit × DataW H → Nat
  | (.string bytes, d) => bytes.length + uptoBulk d + 1
  | (_, d) => uptoBulk d + 1
 end
def uptoSmall : (H : Type) → List (DataW H) → Bool := fun _ ds => decide (uptoBulkAll ds ≤ 1048576)
def OpenSpec.upto (s : _root_.Go.ChangeSpec) : _root_.Go.OpenSpec := { _root_.Go.OpenSpec.ofChange s with cond := some uptoSmall }

/-- 'laws.FnExactEccI', WHERE WHAT IT READS IS OF BULK AT MOST 1048576: true; the input reads as it did. -/
def fnExactEccIUptoRow : OpenClaim := { program := "ytnlijdpmfdmfhaa", sum := "148a50c845dee0adc076b9e05c7dba060066619f7d776556b8b028a0969b9101", func := "loop.example/g00880/laws.FnExactEccI", spec := "fnExactEccI", inPlace := ["math/bits.Sub64", "math/bits.Add64"], unfollowed := true, recurses := true, named := ["math/bits.divideError", "math/bits.overflowError"], apart := false, narrowed := true }
def FnExactEccIUptoSaid : Prop := fnExactEccIUptoRow.holds Try.pinned (OpenSpec.upto fnExactEccISpec)

/-- 'laws.FnExactSecondEccI', WHERE WHAT IT READS IS OF BULK AT MOST 1048576: true; the input reads as it did. -/
def fnExactSecondEccIUptoRow : OpenClaim := { program := "ytnlijdpmfdmfhaa", sum := "148a50c845dee0adc076b9e05c7dba060066619f7d776556b8b028a0969b9101", func := "loop.example/g00880/laws.FnExactSecondEccI", spec := "fnExactSecondEccI", inPlace := ["math/bits.Sub64", "math/bits.Add64"], unfollowed := true, recurses := true, named := ["math/bits.divideError", "math/bits.overflowError"], apart := false, narrowed := true }
def FnExactSecondEccIUptoSaid : Prop := fnExactSecondEccIUptoRow.holds Try.pinned (OpenSpec.upto fnExactSecondEccISpec)

/-- 'laws.FnExactLatOf', WHERE WHAT IT READS IS OF BULK AT MOST 1048576: true; the input reads as it did. -/
def fnExactLatOfUptoRow : OpenClaim := { program := "ytnlijdpmfdmfhaa", sum := "148a50c845dee0adc076b9e05c7dba060066619f7d776556b8b028a0969b9101", func := "loop.example/g00880/laws.FnExactLatOf", spec := "fnExactLatOf", inPlace := ["math/bits.Sub64", "math/bits.Add64"], recurses := true, named := ["math/bits.divideError", "math/bits.overflowError"], apart := false, narrowed := true }
def FnExactLatOfUptoSaid : Prop := fnExactLatOfUptoRow.holds Try.pinned (OpenSpec.upto fnExactLatOfSpec)

/-- 'laws.FnExactLonOf', WHERE WHAT IT READS IS OF BULK AT MOST 1048576: true; the input reads as it did. -/
def fnExactLonOfUptoRow : OpenClaim := { program := "ytnlijdpmfdmfhaa", sum := "148a50c845dee0adc076b9e05c7dba060066619f7d776556b8b028a0969b9101", func := "loop.example/g00880/laws.FnExactLonOf", spec := "fnExactLonOf", inPlace := ["math/bits.Sub64", "math/bits.Add64"], recurses := true, named := ["math/bits.divideError", "math/bits.overflowError"], apart := false, narrowed := true }
def FnExactLonOfUptoSaid : Prop := fnExactLonOfUptoRow.holds Try.pinned (OpenSpec.upto fnExactLonOfSpec)

/-- 'laws.FnExactMiddlePoint', WHERE WHAT IT READS IS OF BULK AT MOST 1048576: true; the input reads as it did. -/
def fnExactMiddlePointUptoRow : OpenClaim := { program := "ytnlijdpmfdmfhaa", sum := "148a50c845dee0adc076b9e05c7dba060066619f7d776556b8b028a0969b9101", func := "loop.example/g00880/laws.FnExactMiddlePoint", spec := "fnExactMiddlePoint", inPlace := ["math/bits.Sub64", "math/bits.Add64"], named := ["math/bits.divideError", "math/bits.overflowError"], apart := false, narrowed := true }
def FnExactMiddlePointUptoSaid : Prop := fnExactMiddlePointUptoRow.holds Try.pinned (OpenSpec.upto fnExactMiddlePointSpec)

/-- 'laws.FnExactAtPoint', WHERE WHAT IT READS IS OF BULK AT MOST 1048576: true; the input reads as it did. -/
def fnExactAtPointUptoRow : OpenClaim := { program := "ytnlijdpmfdmfhaa", sum := "148a50c845dee0adc076b9e05c7dba060066619f7d776556b8b028a0969b9101", func := "loop.example/g00880/laws.FnExactAtPoint", spec := "fnExactAtPoint", inPlace := ["math/bits.Sub64", "math/bits.Add64"], recurses := true, named := ["math/bits.divideError", "math/bits.overflowError"], apart := false, narrowed := true }
def FnExactAtPointUptoSaid : Prop := fnExactAtPointUptoRow.holds Try.pinned (OpenSpec.upto fnExactAtPointSpec)

/-- 'laws.FnExactSignChange', WHERE WHAT IT READS IS OF BULK AT MOST 1048576: true; the input reads as it did. -/
def fnExactSignChangeUptoRow : OpenClaim := { program := "ytnlijdpmfdmfhaa", sum := "148a50c845dee0adc076b9e05c7dba060066619f7d776556b8b028a0969b9101", func := "loop.example/g00880/laws.FnExactSignChange", spec := "fnExactSignChange", unfollowed := true, recurses := true, apart := false, narrowed := true }
def FnExactSignChangeUptoSaid : Prop := fnExactSignChangeUptoRow.holds Try.pinned (OpenSpec.upto fnExactSignChangeSpec)

/-- 'laws.FnExactMulPolys', WHERE WHAT IT READS IS OF BULK AT MOST 1048576: true; the input reads as it did. -/
def fnExactMulPolysUptoRow : OpenClaim := { program := "ytnlijdpmfdmfhaa", sum := "148a50c845dee0adc076b9e05c7dba060066619f7d776556b8b028a0969b9101", func := "loop.example/g00880/laws.FnExactMulPolys", spec := "fnExactMulPolys", unfollowed := true, recurses := true, apart := false, narrowed := true }
def FnExactMulPolysUptoSaid : Prop := fnExactMulPolysUptoRow.holds Try.pinned (OpenSpec.upto fnExactMulPolysSpec)

/-- 'laws.FnExactUniqueRoot', WHERE WHAT IT READS IS OF BULK AT MOST 1048576: true; the input reads as it did. -/
def fnExactUniqueRootUptoRow : OpenClaim := { program := "ytnlijdpmfdmfhaa", sum := "148a50c845dee0adc076b9e05c7dba060066619f7d776556b8b028a0969b9101", func := "loop.example/g00880/laws.FnExactUniqueRoot", spec := "fnExactUniqueRoot", unfollowed := true, recurses := true, apart := false, narrowed := true }
def FnExactUniqueRootUptoSaid : Prop := fnExactUniqueRootUptoRow.holds Try.pinned (OpenSpec.upto fnExactUniqueRootSpec)

/-- 'laws.FnExactBisectRoot', WHERE WHAT IT READS IS OF BULK AT MOST 1048576: true; the input reads as it did. -/
def fnExactBisectRootUptoRow : OpenClaim := { program := "ytnlijdpmfdmfhaa", sum := "148a50c845dee0adc076b9e05c7dba060066619f7d776556b8b028a0969b9101", func := "loop.example/g00880/laws.FnExactBisectRoot", spec := "fnExactBisectRoot", unfollowed := true, recurses := true, apart := false, narrowed := true }
def FnExactBisectRootUptoSaid : Prop := fnExactBisectRootUptoRow.holds Try.pinned (OpenSpec.upto fnExactBisectRootSpec)

/-- 'laws.FnExactRootsIn', WHERE WHAT IT READS IS OF BULK AT MOST 1048576: true; the input reads as it did. -/
def fnExactRootsInUptoRow : OpenClaim := { program := "ytnlijdpmfdmfhaa", sum := "148a50c845dee0adc076b9e05c7dba060066619f7d776556b8b028a0969b9101", func := "loop.example/g00880/laws.FnExactRootsIn", spec := "fnExactRootsIn", unfollowed := true, recurses := true, apart := false, narrowed := true }
def FnExactRootsInUptoSaid : Prop := fnExactRootsInUptoRow.holds Try.pinned (OpenSpec.upto fnExactRootsInSpec)

end Rows
end Go.Proofs.Ytnlijdpmfdmfhaa

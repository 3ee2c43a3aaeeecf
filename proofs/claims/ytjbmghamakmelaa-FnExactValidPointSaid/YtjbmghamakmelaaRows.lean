/-
  No cell of these rows narrows 'for every input' (looked for: loops, veiled, ifaces, maps, wideKeys, modest, calm, conditions, laid).
  DERIVED. THE GIVEN ROWS OF THIS SEAT. 5 by the template 'for every input the law returns true; each argument reads behind the call as it read before'; 0 by the template 'total and deterministic' (their statements: YtjbmghamakmelaaTotals.lean).
  GIVEN WITH THE SEED: the statements are not yours to turn. If you find one false, say at which input.
  Laid BY PROGRAM, IN A SANDBOX (cutbox-rows.mjs): the forced cells as the released guide's own fill.sh prints them over the translation a830c5ee29bc8466… (all of the seat's roots in one cut). By AI agents, Wed Nov 11 2026. No macro, syntax, notation, axiom, sorry.
-/
import Derived.Test.YtjbmghamakmelaaChecked
import GoSem.Claim
import GoSem.ClaimJoined
import GoSem.ClaimMapViews
import Derived.JoinedTies
import Derived.KernelRfl
namespace Go.Proofs.Ytjbmghamakmelaa
/- THE CELL 'sum', in the pinned program and in every row, IS THE sha256 OF THE DUMP (.gsa) THAT YtjbmghamakmelaaProg.lean LOADS. Nothing in Lean hashes anything: it is a label: what it is worth is what the hold of that sum in a sandbox is worth. -/
noncomputable def Try.pinned : Pinned := { name := "ytjbmghamakmelaa", sum := "a830c5ee29bc8466c200548803522103c8f36badd79ec30f8ef4778d9d64f097", checked := Try.checked }
namespace Rows
def none {H : Type} : Left H := { results := [], args := [] }

/-- 'laws.FnExactSameVec': WHATEVER THE INPUT: true; the input reads as it did. -/
def fnExactSameVecSpec : ChangeSpec := { name := "fnExactSameVec", fn := fun _ => fun
  | [d1, d2] => { results := [.lit (.bool true)], args := [d1, d2] }
  | _ => none }
def fnExactSameVecRow : OpenClaim := { program := "ytjbmghamakmelaa", sum := "a830c5ee29bc8466c200548803522103c8f36badd79ec30f8ef4778d9d64f097", func := "loop.example/g00880/laws.FnExactSameVec", spec := "fnExactSameVec", apart := false }
def FnExactSameVecSaid : Prop := fnExactSameVecRow.holds Try.pinned (OpenSpec.ofChange fnExactSameVecSpec)

/-- ITS FALSE NEIGHBOUR: 'it returns false'. Refute it at one input. -/
def fnExactSameVecWrong : ChangeSpec := { name := "fnExactSameVec", fn := fun _ => fun
  | [d1, d2] => { results := [.lit (.bool false)], args := [d1, d2] }
  | _ => none }
def FnExactSameVecWrongFalsely : Prop := fnExactSameVecRow.holds Try.pinned (OpenSpec.ofChange fnExactSameVecWrong)

/-- 'laws.FnExactValidPoint': WHATEVER THE INPUT: true; the input reads as it did. -/
def fnExactValidPointSpec : ChangeSpec := { name := "fnExactValidPoint", fn := fun _ => fun
  | [d] => { results := [.lit (.bool true)], args := [d] }
  | _ => none }
def fnExactValidPointRow : OpenClaim := { program := "ytjbmghamakmelaa", sum := "a830c5ee29bc8466c200548803522103c8f36badd79ec30f8ef4778d9d64f097", func := "loop.example/g00880/laws.FnExactValidPoint", spec := "fnExactValidPoint", apart := false }
def FnExactValidPointSaid : Prop := fnExactValidPointRow.holds Try.pinned (OpenSpec.ofChange fnExactValidPointSpec)

/-- ITS FALSE NEIGHBOUR: 'it returns false'. Refute it at one input. -/
def fnExactValidPointWrong : ChangeSpec := { name := "fnExactValidPoint", fn := fun _ => fun
  | [d] => { results := [.lit (.bool false)], args := [d] }
  | _ => none }
def FnExactValidPointWrongFalsely : Prop := fnExactValidPointRow.holds Try.pinned (OpenSpec.ofChange fnExactValidPointWrong)

/-- 'laws.FnExactValidEllipsoid': WHATEVER THE INPUT: true; the input reads as it did. -/
def fnExactValidEllipsoidSpec : ChangeSpec := { name := "fnExactValidEllipsoid", fn := fun _ => fun
  | [d] => { results := [.lit (.bool true)], args := [d] }
  | _ => none }
def fnExactValidEllipsoidRow : OpenClaim := { program := "ytjbmghamakmelaa", sum := "a830c5ee29bc8466c200548803522103c8f36badd79ec30f8ef4778d9d64f097", func := "loop.example/g00880/laws.FnExactValidEllipsoid", spec := "fnExactValidEllipsoid", apart := false }
def FnExactValidEllipsoidSaid : Prop := fnExactValidEllipsoidRow.holds Try.pinned (OpenSpec.ofChange fnExactValidEllipsoidSpec)

/-- ITS FALSE NEIGHBOUR: 'it returns false'. Refute it at one input. -/
def fnExactValidEllipsoidWrong : ChangeSpec := { name := "fnExactValidEllipsoid", fn := fun _ => fun
  | [d] => { results := [.lit (.bool false)], args := [d] }
  | _ => none }
def FnExactValidEllipsoidWrongFalsely : Prop := fnExactValidEllipsoidRow.holds Try.pinned (OpenSpec.ofChange fnExactValidEllipsoidWrong)

/-- 'laws.FnExactWgs': WHATEVER THE INPUT: true; the input reads as it did. -/
def fnExactWgsSpec : ChangeSpec := { name := "fnExactWgs", fn := fun _ => fun
  | [] => { results := [.lit (.bool true)], args := [] }
  | _ => none }
def fnExactWgsRow : OpenClaim := { program := "ytjbmghamakmelaa", sum := "a830c5ee29bc8466c200548803522103c8f36badd79ec30f8ef4778d9d64f097", func := "loop.example/g00880/laws.FnExactWgs", spec := "fnExactWgs", apart := false }
def FnExactWgsSaid : Prop := fnExactWgsRow.holds Try.pinned (OpenSpec.ofChange fnExactWgsSpec)

/-- ITS FALSE NEIGHBOUR: 'it returns false'. Refute it at one input. -/
def fnExactWgsWrong : ChangeSpec := { name := "fnExactWgs", fn := fun _ => fun
  | [] => { results := [.lit (.bool false)], args := [] }
  | _ => none }
def FnExactWgsWrongFalsely : Prop := fnExactWgsRow.holds Try.pinned (OpenSpec.ofChange fnExactWgsWrong)

/-- 'laws.FnExactWrapLon': WHATEVER THE INPUT: true; the input reads as it did. -/
def fnExactWrapLonSpec : ChangeSpec := { name := "fnExactWrapLon", fn := fun _ => fun
  | [d] => { results := [.lit (.bool true)], args := [d] }
  | _ => none }
def fnExactWrapLonRow : OpenClaim := { program := "ytjbmghamakmelaa", sum := "a830c5ee29bc8466c200548803522103c8f36badd79ec30f8ef4778d9d64f097", func := "loop.example/g00880/laws.FnExactWrapLon", spec := "fnExactWrapLon", apart := false }
def FnExactWrapLonSaid : Prop := fnExactWrapLonRow.holds Try.pinned (OpenSpec.ofChange fnExactWrapLonSpec)

/-- ITS FALSE NEIGHBOUR: 'it returns false'. Refute it at one input. -/
def fnExactWrapLonWrong : ChangeSpec := { name := "fnExactWrapLon", fn := fun _ => fun
  | [d] => { results := [.lit (.bool false)], args := [d] }
  | _ => none }
def FnExactWrapLonWrongFalsely : Prop := fnExactWrapLonRow.holds Try.pinned (OpenSpec.ofChange fnExactWrapLonWrong)

/- THE SECOND FORM. 'bulk': how many values and letters a reading holds, each counted each time it is reached (what is shared counts as often as it is met; a slice's spare places count too). A statement '..UptoSaid' is the law's where the arguments, and the package variables that the reading takes, are together of bulk at most 1048576: NARROWER than '..Said'. Prove '..Said' where nothing that the law and all that it calls make is longer than what came in: it says more and counts as full. Else prove '..UptoSaid'. A law counts once. -/
mutual
def uptoBulk {H : Type} : DataW H → Nat
  | .lit (.string bytes) => bytes.length + 1
  | .lit _ => 1
  | .nil => 1
  | .ptr d => uptoBulk d + 1
  | .slice elems spare => uptoBulkAll elems + uptoBulkAll spare + 1
  | .agg parts => uptoBulkAll parts + 1
  | .iface _ d => uptoBulk d + 1
  | .map entries => uptoBulkEntries entries + 1
  | .held _ => 1
def uptoBulkAll {H : Type} : List (DataW H) → Nat
  | [] => 0
  | d :: r => uptoBulk d + uptoBulkAll r
def uptoBulkEntries {H : Type} : List (Lit × DataW H) → Nat
  | [] => 0
  | x :: r => uptoBulkEntry x + uptoBulkEntries r
def uptoBulkEntry {H : Type} : Lit × DataW H → Nat
  | (.string bytes, d) => bytes.length + uptoBulk d + 1
  | (_, d) => uptoBulk d + 1
 end
def uptoSmall : (H : Type) → List (DataW H) → Bool := fun _ ds => decide (uptoBulkAll ds ≤ 1048576)
def OpenSpec.upto (s : _root_.Go.ChangeSpec) : _root_.Go.OpenSpec := { _root_.Go.OpenSpec.ofChange s with cond := some uptoSmall }

/-- 'laws.FnExactSameVec', WHERE WHAT IT READS IS OF BULK AT MOST 1048576: true; the input reads as it did. -/
def fnExactSameVecUptoRow : OpenClaim := { program := "ytjbmghamakmelaa", sum := "a830c5ee29bc8466c200548803522103c8f36badd79ec30f8ef4778d9d64f097", func := "loop.example/g00880/laws.FnExactSameVec", spec := "fnExactSameVec", apart := false, narrowed := true }
def FnExactSameVecUptoSaid : Prop := fnExactSameVecUptoRow.holds Try.pinned (OpenSpec.upto fnExactSameVecSpec)

/-- 'laws.FnExactValidPoint', WHERE WHAT IT READS IS OF BULK AT MOST 1048576: true; the input reads as it did. -/
def fnExactValidPointUptoRow : OpenClaim := { program := "ytjbmghamakmelaa", sum := "a830c5ee29bc8466c200548803522103c8f36badd79ec30f8ef4778d9d64f097", func := "loop.example/g00880/laws.FnExactValidPoint", spec := "fnExactValidPoint", apart := false, narrowed := true }
def FnExactValidPointUptoSaid : Prop := fnExactValidPointUptoRow.holds Try.pinned (OpenSpec.upto fnExactValidPointSpec)

/-- 'laws.FnExactValidEllipsoid', WHERE WHAT IT READS IS OF BULK AT MOST 1048576: true; the input reads as it did. -/
def fnExactValidEllipsoidUptoRow : OpenClaim := { program := "ytjbmghamakmelaa", sum := "a830c5ee29bc8466c200548803522103c8f36badd79ec30f8ef4778d9d64f097", func := "loop.example/g00880/laws.FnExactValidEllipsoid", spec := "fnExactValidEllipsoid", apart := false, narrowed := true }
def FnExactValidEllipsoidUptoSaid : Prop := fnExactValidEllipsoidUptoRow.holds Try.pinned (OpenSpec.upto fnExactValidEllipsoidSpec)

/-- 'laws.FnExactWgs', WHERE WHAT IT READS IS OF BULK AT MOST 1048576: true; the input reads as it did. -/
def fnExactWgsUptoRow : OpenClaim := { program := "ytjbmghamakmelaa", sum := "a830c5ee29bc8466c200548803522103c8f36badd79ec30f8ef4778d9d64f097", func := "loop.example/g00880/laws.FnExactWgs", spec := "fnExactWgs", apart := false, narrowed := true }
def FnExactWgsUptoSaid : Prop := fnExactWgsUptoRow.holds Try.pinned (OpenSpec.upto fnExactWgsSpec)

/-- 'laws.FnExactWrapLon', WHERE WHAT IT READS IS OF BULK AT MOST 1048576: true; the input reads as it did. -/
def fnExactWrapLonUptoRow : OpenClaim := { program := "ytjbmghamakmelaa", sum := "a830c5ee29bc8466c200548803522103c8f36badd79ec30f8ef4778d9d64f097", func := "loop.example/g00880/laws.FnExactWrapLon", spec := "fnExactWrapLon", apart := false, narrowed := true }
def FnExactWrapLonUptoSaid : Prop := fnExactWrapLonUptoRow.holds Try.pinned (OpenSpec.upto fnExactWrapLonSpec)

end Rows
end Go.Proofs.Ytjbmghamakmelaa

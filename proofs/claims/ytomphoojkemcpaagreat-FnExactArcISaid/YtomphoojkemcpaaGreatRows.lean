/-
  No cell of these rows narrows 'for every input' (looked for: loops, veiled, ifaces, maps, wideKeys, modest, calm, conditions, laid).
  DERIVED. THE GIVEN ROWS OF THIS SEAT. 7 by the template 'for every input the law returns true; each argument reads behind the call as it read before'; 0 by the template 'total and deterministic' (their statements: YtomphoojkemcpaaGreatTotals.lean).
  GIVEN WITH THE SEED: the statements are not yours to turn. If you find one false, say at which input.
  Laid BY PROGRAM, IN A SANDBOX (cutbox-rows.mjs): the forced cells as the released guide's own fill.sh prints them over the translation 91e122ed393b60bf… (all of the seat's roots in one cut). By AI agents, Wed Nov 11 2026. No macro, syntax, notation, axiom, sorry.
-/
import Derived.Test.YtomphoojkemcpaaGreatChecked
import GoSem.Claim
import GoSem.ClaimJoined
import GoSem.ClaimMapViews
import Derived.JoinedTies
import Derived.KernelRfl
namespace Go.Proofs.YtomphoojkemcpaaGreat
/- THE CELL 'sum', in the pinned program and in every row, IS THE sha256 OF THE DUMP (.gsa) THAT YtomphoojkemcpaaGreatProg.lean LOADS. Nothing in Lean hashes anything: it is a label: what it is worth is what the hold of that sum in a sandbox is worth. -/
noncomputable def Tryz.pinned : Pinned := { name := "ytomphoojkemcpaagreat", sum := "91e122ed393b60bf8ea7c0c7f17e27d70e0a632f84b9ee81496119847f5d0a2e", checked := Tryz.checked }
namespace Rows
def none {H : Type} : Left H := { results := [], args := [] }

/-- 'laws.FnExactTurnX': WHATEVER THE INPUT: true; the input reads as it did. -/
def fnExactTurnXSpec : ChangeSpec := { name := "fnExactTurnX", fn := fun _ => fun
  | [d1, d2] => { results := [.lit (.bool true)], args := [d1, d2] }
  | _ => none }
def fnExactTurnXRow : OpenClaim := { program := "ytomphoojkemcpaagreat", sum := "91e122ed393b60bf8ea7c0c7f17e27d70e0a632f84b9ee81496119847f5d0a2e", func := "loop.example/g00880/laws.FnExactTurnX", spec := "fnExactTurnX", inPlace := ["math/bits.Sub64", "math/bits.Add64"], unfollowed := true, recurses := true, named := ["math/bits.divideError", "math/bits.overflowError"], apart := false }
def FnExactTurnXSaid : Prop := fnExactTurnXRow.holds Tryz.pinned (OpenSpec.ofChange fnExactTurnXSpec)

/-- ITS FALSE NEIGHBOUR: 'it returns false'. Refute it at one input. -/
def fnExactTurnXWrong : ChangeSpec := { name := "fnExactTurnX", fn := fun _ => fun
  | [d1, d2] => { results := [.lit (.bool false)], args := [d1, d2] }
  | _ => none }
def FnExactTurnXWrongFalsely : Prop := fnExactTurnXRow.holds Tryz.pinned (OpenSpec.ofChange fnExactTurnXWrong)

/-- 'laws.FnExactTurnY': WHATEVER THE INPUT: true; the input reads as it did. -/
def fnExactTurnYSpec : ChangeSpec := { name := "fnExactTurnY", fn := fun _ => fun
  | [d1, d2] => { results := [.lit (.bool true)], args := [d1, d2] }
  | _ => none }
def fnExactTurnYRow : OpenClaim := { program := "ytomphoojkemcpaagreat", sum := "91e122ed393b60bf8ea7c0c7f17e27d70e0a632f84b9ee81496119847f5d0a2e", func := "loop.example/g00880/laws.FnExactTurnY", spec := "fnExactTurnY", inPlace := ["math/bits.Sub64", "math/bits.Add64"], unfollowed := true, recurses := true, named := ["math/bits.divideError", "math/bits.overflowError"], apart := false }
def FnExactTurnYSaid : Prop := fnExactTurnYRow.holds Tryz.pinned (OpenSpec.ofChange fnExactTurnYSpec)

/-- ITS FALSE NEIGHBOUR: 'it returns false'. Refute it at one input. -/
def fnExactTurnYWrong : ChangeSpec := { name := "fnExactTurnY", fn := fun _ => fun
  | [d1, d2] => { results := [.lit (.bool false)], args := [d1, d2] }
  | _ => none }
def FnExactTurnYWrongFalsely : Prop := fnExactTurnYRow.holds Tryz.pinned (OpenSpec.ofChange fnExactTurnYWrong)

/-- 'laws.FnExactTurnZ': WHATEVER THE INPUT: true; the input reads as it did. -/
def fnExactTurnZSpec : ChangeSpec := { name := "fnExactTurnZ", fn := fun _ => fun
  | [d1, d2] => { results := [.lit (.bool true)], args := [d1, d2] }
  | _ => none }
def fnExactTurnZRow : OpenClaim := { program := "ytomphoojkemcpaagreat", sum := "91e122ed393b60bf8ea7c0c7f17e27d70e0a632f84b9ee81496119847f5d0a2e", func := "loop.example/g00880/laws.FnExactTurnZ", spec := "fnExactTurnZ", inPlace := ["math/bits.Sub64", "math/bits.Add64"], unfollowed := true, recurses := true, named := ["math/bits.divideError", "math/bits.overflowError"], apart := false }
def FnExactTurnZSaid : Prop := fnExactTurnZRow.holds Tryz.pinned (OpenSpec.ofChange fnExactTurnZSpec)

/-- ITS FALSE NEIGHBOUR: 'it returns false'. Refute it at one input. -/
def fnExactTurnZWrong : ChangeSpec := { name := "fnExactTurnZ", fn := fun _ => fun
  | [d1, d2] => { results := [.lit (.bool false)], args := [d1, d2] }
  | _ => none }
def FnExactTurnZWrongFalsely : Prop := fnExactTurnZRow.holds Tryz.pinned (OpenSpec.ofChange fnExactTurnZWrong)

/-- 'laws.FnExactArcI': WHATEVER THE INPUT: true; the input reads as it did. -/
def fnExactArcISpec : ChangeSpec := { name := "fnExactArcI", fn := fun _ => fun
  | [d1, d2] => { results := [.lit (.bool true)], args := [d1, d2] }
  | _ => none }
def fnExactArcIRow : OpenClaim := { program := "ytomphoojkemcpaagreat", sum := "91e122ed393b60bf8ea7c0c7f17e27d70e0a632f84b9ee81496119847f5d0a2e", func := "loop.example/g00880/laws.FnExactArcI", spec := "fnExactArcI", inPlace := ["math/bits.Sub64", "math/bits.Add64"], unfollowed := true, recurses := true, named := ["math/bits.divideError", "math/bits.overflowError"], apart := false }
def FnExactArcISaid : Prop := fnExactArcIRow.holds Tryz.pinned (OpenSpec.ofChange fnExactArcISpec)

/-- ITS FALSE NEIGHBOUR: 'it returns false'. Refute it at one input. -/
def fnExactArcIWrong : ChangeSpec := { name := "fnExactArcI", fn := fun _ => fun
  | [d1, d2] => { results := [.lit (.bool false)], args := [d1, d2] }
  | _ => none }
def FnExactArcIWrongFalsely : Prop := fnExactArcIRow.holds Tryz.pinned (OpenSpec.ofChange fnExactArcIWrong)

/-- 'laws.FnExactRadiusN': WHATEVER THE INPUT: true; the input reads as it did. -/
def fnExactRadiusNSpec : ChangeSpec := { name := "fnExactRadiusN", fn := fun _ => fun
  | [d1, d2] => { results := [.lit (.bool true)], args := [d1, d2] }
  | _ => none }
def fnExactRadiusNRow : OpenClaim := { program := "ytomphoojkemcpaagreat", sum := "91e122ed393b60bf8ea7c0c7f17e27d70e0a632f84b9ee81496119847f5d0a2e", func := "loop.example/g00880/laws.FnExactRadiusN", spec := "fnExactRadiusN", inPlace := ["math/bits.Sub64", "math/bits.Add64"], unfollowed := true, recurses := true, named := ["math/bits.divideError", "math/bits.overflowError"], apart := false }
def FnExactRadiusNSaid : Prop := fnExactRadiusNRow.holds Tryz.pinned (OpenSpec.ofChange fnExactRadiusNSpec)

/-- ITS FALSE NEIGHBOUR: 'it returns false'. Refute it at one input. -/
def fnExactRadiusNWrong : ChangeSpec := { name := "fnExactRadiusN", fn := fun _ => fun
  | [d1, d2] => { results := [.lit (.bool false)], args := [d1, d2] }
  | _ => none }
def FnExactRadiusNWrongFalsely : Prop := fnExactRadiusNRow.holds Tryz.pinned (OpenSpec.ofChange fnExactRadiusNWrong)

/-- 'laws.FnExactRadiusM': WHATEVER THE INPUT: true; the input reads as it did. -/
def fnExactRadiusMSpec : ChangeSpec := { name := "fnExactRadiusM", fn := fun _ => fun
  | [d1, d2] => { results := [.lit (.bool true)], args := [d1, d2] }
  | _ => none }
def fnExactRadiusMRow : OpenClaim := { program := "ytomphoojkemcpaagreat", sum := "91e122ed393b60bf8ea7c0c7f17e27d70e0a632f84b9ee81496119847f5d0a2e", func := "loop.example/g00880/laws.FnExactRadiusM", spec := "fnExactRadiusM", inPlace := ["math/bits.Sub64", "math/bits.Add64"], unfollowed := true, recurses := true, named := ["math/bits.divideError", "math/bits.overflowError"], apart := false }
def FnExactRadiusMSaid : Prop := fnExactRadiusMRow.holds Tryz.pinned (OpenSpec.ofChange fnExactRadiusMSpec)

/-- ITS FALSE NEIGHBOUR: 'it returns false'. Refute it at one input. -/
def fnExactRadiusMWrong : ChangeSpec := { name := "fnExactRadiusM", fn := fun _ => fun
  | [d1, d2] => { results := [.lit (.bool false)], args := [d1, d2] }
  | _ => none }
def FnExactRadiusMWrongFalsely : Prop := fnExactRadiusMRow.holds Tryz.pinned (OpenSpec.ofChange fnExactRadiusMWrong)

/-- 'laws.FnExactParallelI': WHATEVER THE INPUT: true; the input reads as it did. -/
def fnExactParallelISpec : ChangeSpec := { name := "fnExactParallelI", fn := fun _ => fun
  | [d1, d2] => { results := [.lit (.bool true)], args := [d1, d2] }
  | _ => none }
def fnExactParallelIRow : OpenClaim := { program := "ytomphoojkemcpaagreat", sum := "91e122ed393b60bf8ea7c0c7f17e27d70e0a632f84b9ee81496119847f5d0a2e", func := "loop.example/g00880/laws.FnExactParallelI", spec := "fnExactParallelI", inPlace := ["math/bits.Sub64", "math/bits.Add64"], unfollowed := true, recurses := true, named := ["math/bits.divideError", "math/bits.overflowError"], apart := false }
def FnExactParallelISaid : Prop := fnExactParallelIRow.holds Tryz.pinned (OpenSpec.ofChange fnExactParallelISpec)

/-- ITS FALSE NEIGHBOUR: 'it returns false'. Refute it at one input. -/
def fnExactParallelIWrong : ChangeSpec := { name := "fnExactParallelI", fn := fun _ => fun
  | [d1, d2] => { results := [.lit (.bool false)], args := [d1, d2] }
  | _ => none }
def FnExactParallelIWrongFalsely : Prop := fnExactParallelIRow.holds Tryz.pinned (OpenSpec.ofChange fnExactParallelIWrong)

/- THE SECOND FORM. 'bulk': how many values and letters a reading holds, each counted each time it is reached (what is shared counts as often as it is met; a slice's spare places count too). A statement '..UptoSaid' is the law's where the arguments, and the package variables that the reading takes, are together of bulk at most 1048576: NARROWER than '..Said'. Prove '..Said' where nothing that the law and all that it calls make is longer than what came in: it says more and counts as full. Else prove '..UptoSaid'. A law counts once. -/
mutual
def uptoBulk {H : Type} : DataW H → Nat
  | .lit (.string bytes) => bytes.length + 1
  | .lit _ => 1
  | .nil => 1
  | .ptr d => uptoBulk d + 1
  | .slice elems spare => uptoBulkAll elems + uptoBulkAll spare + 1
  | .agg parts => uptoBulkAll parts + 1
  | .iface _ d => uptoBulk d + 1
  | .map entries => uptoBulkEntries entries + 1
  | .held _ => 1
def uptoBulkAll {H : Type} : List (DataW H) → Nat
  | [] => 0
  | d :: r => uptoBulk d + uptoBulkAll r
def uptoBulkEntries {H : Type} : List (Lit × DataW H) → Nat
  | [] => 0
  | x :: r => uptoBulkEntry x + uptoBulkEntries r
def uptoBulkEntry {H : Type} : Lit × DataW H → Nat
  | (.string bytes, d) => bytes.length + uptoBulk d + 1
  | (_, d) => uptoBulk d + 1
 end
def uptoSmall : (H : Type) → List (DataW H) → Bool := fun _ ds => decide (uptoBulkAll ds ≤ 1048576)
def OpenSpec.upto (s : _root_.Go.ChangeSpec) : _root_.Go.OpenSpec := { _root_.Go.OpenSpec.ofChange s with cond := some uptoSmall }

/-- 'laws.FnExactTurnX', WHERE WHAT IT READS IS OF BULK AT MOST 1048576: true; the input reads as it did. -/
def fnExactTurnXUptoRow : OpenClaim := { program := "ytomphoojkemcpaagreat", sum := "91e122ed393b60bf8ea7c0c7f17e27d70e0a632f84b9ee81496119847f5d0a2e", func := "loop.example/g00880/laws.FnExactTurnX", spec := "fnExactTurnX", inPlace := ["math/bits.Sub64", "math/bits.Add64"], unfollowed := true, recurses := true, named := ["math/bits.divideError", "math/bits.overflowError"], apart := false, narrowed := true }
def FnExactTurnXUptoSaid : Prop := fnExactTurnXUptoRow.holds Tryz.pinned (OpenSpec.upto fnExactTurnXSpec)

/-- 'laws.FnExactTurnY', WHERE WHAT IT READS IS OF BULK AT MOST 1048576: true; the input reads as it did. -/
def fnExactTurnYUptoRow : OpenClaim := { program := "ytomphoojkemcpaagreat", sum := "91e122ed393b60bf8ea7c0c7f17e27d70e0a632f84b9ee81496119847f5d0a2e", func := "loop.example/g00880/laws.FnExactTurnY", spec := "fnExactTurnY", inPlace := ["math/bits.Sub64", "math/bits.Add64"], unfollowed := true, recurses := true, named := ["math/bits.divideError", "math/bits.overflowError"], apart := false, narrowed := true }
def FnExactTurnYUptoSaid : Prop := fnExactTurnYUptoRow.holds Tryz.pinned (OpenSpec.upto fnExactTurnYSpec)

/-- 'laws.FnExactTurnZ', WHERE WHAT IT READS IS OF BULK AT MOST 1048576: true; the input reads as it did. -/
def fnExactTurnZUptoRow : OpenClaim := { program := "ytomphoojkemcpaagreat", sum := "91e122ed393b60bf8ea7c0c7f17e27d70e0a632f84b9ee81496119847f5d0a2e", func := "loop.example/g00880/laws.FnExactTurnZ", spec := "fnExactTurnZ", inPlace := ["math/bits.Sub64", "math/bits.Add64"], unfollowed := true, recurses := true, named := ["math/bits.divideError", "math/bits.overflowError"], apart := false, narrowed := true }
def FnExactTurnZUptoSaid : Prop := fnExactTurnZUptoRow.holds Tryz.pinned (OpenSpec.upto fnExactTurnZSpec)

/-- 'laws.FnExactArcI', WHERE WHAT IT READS IS OF BULK AT MOST 1048576: true; the input reads as it did. -/
def fnExactArcIUptoRow : OpenClaim := { program := "ytomphoojkemcpaagreat", sum := "91e122ed393b60bf8ea7c0c7f17e27d70e0a632f84b9ee81496119847f5d0a2e", func := "loop.example/g00880/laws.FnExactArcI", spec := "fnExactArcI", inPlace := ["math/bits.Sub64", "math/bits.Add64"], unfollowed := true, recurses := true, named := ["math/bits.divideError", "math/bits.overflowError"], apart := false, narrowed := true }
def FnExactArcIUptoSaid : Prop := fnExactArcIUptoRow.holds Tryz.pinned (OpenSpec.upto fnExactArcISpec)

/-- 'laws.FnExactRadiusN', WHERE WHAT IT READS IS OF BULK AT MOST 1048576: true; the input reads as it did. -/
def fnExactRadiusNUptoRow : OpenClaim := { program := "ytomphoojkemcpaagreat", sum := "91e122ed393b60bf8ea7c0c7f17e27d70e0a632f84b9ee81496119847f5d0a2e", func := "loop.example/g00880/laws.FnExactRadiusN", spec := "fnExactRadiusN", inPlace := ["math/bits.Sub64", "math/bits.Add64"], unfollowed := true, recurses := true, named := ["math/bits.divideError", "math/bits.overflowError"], apart := false, narrowed := true }
def FnExactRadiusNUptoSaid : Prop := fnExactRadiusNUptoRow.holds Tryz.pinned (OpenSpec.upto fnExactRadiusNSpec)

/-- 'laws.FnExactRadiusM', WHERE WHAT IT READS IS OF BULK AT MOST 1048576: true; the input reads as it did. -/
def fnExactRadiusMUptoRow : OpenClaim := { program := "ytomphoojkemcpaagreat", sum := "91e122ed393b60bf8ea7c0c7f17e27d70e0a632f84b9ee81496119847f5d0a2e", func := "loop.example/g00880/laws.FnExactRadiusM", spec := "fnExactRadiusM", inPlace := ["math/bits.Sub64", "math/bits.Add64"], unfollowed := true, recurses := true, named := ["math/bits.divideError", "math/bits.overflowError"], apart := false, narrowed := true }
def FnExactRadiusMUptoSaid : Prop := fnExactRadiusMUptoRow.holds Tryz.pinned (OpenSpec.upto fnExactRadiusMSpec)

/-- 'laws.FnExactParallelI', WHERE WHAT IT READS IS OF BULK AT MOST 1048576: true; the input reads as it did. -/
def fnExactParallelIUptoRow : OpenClaim := { program := "ytomphoojkemcpaagreat", sum := "91e122ed393b60bf8ea7c0c7f17e27d70e0a632f84b9ee81496119847f5d0a2e", func := "loop.example/g00880/laws.FnExactParallelI", spec := "fnExactParallelI", inPlace := ["math/bits.Sub64", "math/bits.Add64"], unfollowed := true, recurses := true, named := ["math/bits.divideError", "math/bits.overflowError"], apart := false, narrowed := true }
def FnExactParallelIUptoSaid : Prop := fnExactParallelIUptoRow.holds Tryz.pinned (OpenSpec.upto fnExactParallelISpec)

end Rows
end Go.Proofs.YtomphoojkemcpaaGreat

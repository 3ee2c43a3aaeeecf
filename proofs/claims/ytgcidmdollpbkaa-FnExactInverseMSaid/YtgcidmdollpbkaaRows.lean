/-
  No cell of these rows narrows 'for every input' (looked for: loops, veiled, ifaces, maps, wideKeys, modest, calm, conditions, laid).
  DERIVED. THE GIVEN ROWS OF THIS SEAT. 12 by the template 'for every input the law returns true; each argument reads behind the call as it read before'; 0 by the template 'total and deterministic' (their statements: YtgcidmdollpbkaaTotals.lean).
  GIVEN WITH THE SEED: the statements are not yours to turn. If you find one false, say at which input.
  Laid BY PROGRAM, IN A SANDBOX (cutbox-rows.mjs): the forced cells as the released guide's own fill.sh prints them over the translation 81b30a6986a4b455… (all of the seat's roots in one cut). By AI agents, Wed Nov 11 2026. No macro, syntax, notation, axiom, sorry.
-/
import Derived.Test.YtgcidmdollpbkaaChecked
import GoSem.Claim
import GoSem.ClaimJoined
import GoSem.ClaimMapViews
import Derived.JoinedTies
import Derived.KernelRfl
namespace Go.Proofs.Ytgcidmdollpbkaa
/- THE CELL 'sum', in the pinned program and in every row, IS THE sha256 OF THE DUMP (.gsa) THAT YtgcidmdollpbkaaProg.lean LOADS. Nothing in Lean hashes anything: it is a label: what it is worth is what the hold of that sum in a sandbox is worth. -/
noncomputable def Try.pinned : Pinned := { name := "ytgcidmdollpbkaa", sum := "81b30a6986a4b4554178af7ce4333814bedb1cad821745a66bfd0d8bc620f459", checked := Try.checked }
namespace Rows
def none {H : Type} : Left H := { results := [], args := [] }

/-- 'laws.FnExactScaleV': WHATEVER THE INPUT: true; the input reads as it did. -/
def fnExactScaleVSpec : ChangeSpec := { name := "fnExactScaleV", fn := fun _ => fun
  | [d1, d2] => { results := [.lit (.bool true)], args := [d1, d2] }
  | _ => none }
def fnExactScaleVRow : OpenClaim := { program := "ytgcidmdollpbkaa", sum := "81b30a6986a4b4554178af7ce4333814bedb1cad821745a66bfd0d8bc620f459", func := "loop.example/g00880/laws.FnExactScaleV", spec := "fnExactScaleV", unfollowed := true, recurses := true, apart := false }
def FnExactScaleVSaid : Prop := fnExactScaleVRow.holds Try.pinned (OpenSpec.ofChange fnExactScaleVSpec)

/-- ITS FALSE NEIGHBOUR: 'it returns false'. Refute it at one input. -/
def fnExactScaleVWrong : ChangeSpec := { name := "fnExactScaleV", fn := fun _ => fun
  | [d1, d2] => { results := [.lit (.bool false)], args := [d1, d2] }
  | _ => none }
def FnExactScaleVWrongFalsely : Prop := fnExactScaleVRow.holds Try.pinned (OpenSpec.ofChange fnExactScaleVWrong)

/-- 'laws.FnExactDotV': WHATEVER THE INPUT: true; the input reads as it did. -/
def fnExactDotVSpec : ChangeSpec := { name := "fnExactDotV", fn := fun _ => fun
  | [d1, d2] => { results := [.lit (.bool true)], args := [d1, d2] }
  | _ => none }
def fnExactDotVRow : OpenClaim := { program := "ytgcidmdollpbkaa", sum := "81b30a6986a4b4554178af7ce4333814bedb1cad821745a66bfd0d8bc620f459", func := "loop.example/g00880/laws.FnExactDotV", spec := "fnExactDotV", unfollowed := true, recurses := true, apart := false }
def FnExactDotVSaid : Prop := fnExactDotVRow.holds Try.pinned (OpenSpec.ofChange fnExactDotVSpec)

/-- ITS FALSE NEIGHBOUR: 'it returns false'. Refute it at one input. -/
def fnExactDotVWrong : ChangeSpec := { name := "fnExactDotV", fn := fun _ => fun
  | [d1, d2] => { results := [.lit (.bool false)], args := [d1, d2] }
  | _ => none }
def FnExactDotVWrongFalsely : Prop := fnExactDotVRow.holds Try.pinned (OpenSpec.ofChange fnExactDotVWrong)

/-- 'laws.FnExactApplyM': WHATEVER THE INPUT: true; the input reads as it did. -/
def fnExactApplyMSpec : ChangeSpec := { name := "fnExactApplyM", fn := fun _ => fun
  | [d1, d2] => { results := [.lit (.bool true)], args := [d1, d2] }
  | _ => none }
def fnExactApplyMRow : OpenClaim := { program := "ytgcidmdollpbkaa", sum := "81b30a6986a4b4554178af7ce4333814bedb1cad821745a66bfd0d8bc620f459", func := "loop.example/g00880/laws.FnExactApplyM", spec := "fnExactApplyM", unfollowed := true, recurses := true, apart := false }
def FnExactApplyMSaid : Prop := fnExactApplyMRow.holds Try.pinned (OpenSpec.ofChange fnExactApplyMSpec)

/-- ITS FALSE NEIGHBOUR: 'it returns false'. Refute it at one input. -/
def fnExactApplyMWrong : ChangeSpec := { name := "fnExactApplyM", fn := fun _ => fun
  | [d1, d2] => { results := [.lit (.bool false)], args := [d1, d2] }
  | _ => none }
def FnExactApplyMWrongFalsely : Prop := fnExactApplyMRow.holds Try.pinned (OpenSpec.ofChange fnExactApplyMWrong)

/-- 'laws.FnExactCrossV': WHATEVER THE INPUT: true; the input reads as it did. -/
def fnExactCrossVSpec : ChangeSpec := { name := "fnExactCrossV", fn := fun _ => fun
  | [d1, d2] => { results := [.lit (.bool true)], args := [d1, d2] }
  | _ => none }
def fnExactCrossVRow : OpenClaim := { program := "ytgcidmdollpbkaa", sum := "81b30a6986a4b4554178af7ce4333814bedb1cad821745a66bfd0d8bc620f459", func := "loop.example/g00880/laws.FnExactCrossV", spec := "fnExactCrossV", unfollowed := true, recurses := true, apart := false }
def FnExactCrossVSaid : Prop := fnExactCrossVRow.holds Try.pinned (OpenSpec.ofChange fnExactCrossVSpec)

/-- ITS FALSE NEIGHBOUR: 'it returns false'. Refute it at one input. -/
def fnExactCrossVWrong : ChangeSpec := { name := "fnExactCrossV", fn := fun _ => fun
  | [d1, d2] => { results := [.lit (.bool false)], args := [d1, d2] }
  | _ => none }
def FnExactCrossVWrongFalsely : Prop := fnExactCrossVRow.holds Try.pinned (OpenSpec.ofChange fnExactCrossVWrong)

/-- 'laws.FnExactMulM': WHATEVER THE INPUT: true; the input reads as it did. -/
def fnExactMulMSpec : ChangeSpec := { name := "fnExactMulM", fn := fun _ => fun
  | [d1, d2] => { results := [.lit (.bool true)], args := [d1, d2] }
  | _ => none }
def fnExactMulMRow : OpenClaim := { program := "ytgcidmdollpbkaa", sum := "81b30a6986a4b4554178af7ce4333814bedb1cad821745a66bfd0d8bc620f459", func := "loop.example/g00880/laws.FnExactMulM", spec := "fnExactMulM", unfollowed := true, recurses := true, apart := false }
def FnExactMulMSaid : Prop := fnExactMulMRow.holds Try.pinned (OpenSpec.ofChange fnExactMulMSpec)

/-- ITS FALSE NEIGHBOUR: 'it returns false'. Refute it at one input. -/
def fnExactMulMWrong : ChangeSpec := { name := "fnExactMulM", fn := fun _ => fun
  | [d1, d2] => { results := [.lit (.bool false)], args := [d1, d2] }
  | _ => none }
def FnExactMulMWrongFalsely : Prop := fnExactMulMRow.holds Try.pinned (OpenSpec.ofChange fnExactMulMWrong)

/-- 'laws.FnExactNormV': WHATEVER THE INPUT: true; the input reads as it did. -/
def fnExactNormVSpec : ChangeSpec := { name := "fnExactNormV", fn := fun _ => fun
  | [d] => { results := [.lit (.bool true)], args := [d] }
  | _ => none }
def fnExactNormVRow : OpenClaim := { program := "ytgcidmdollpbkaa", sum := "81b30a6986a4b4554178af7ce4333814bedb1cad821745a66bfd0d8bc620f459", func := "loop.example/g00880/laws.FnExactNormV", spec := "fnExactNormV", inPlace := ["math/bits.Add64"], apart := false }
def FnExactNormVSaid : Prop := fnExactNormVRow.holds Try.pinned (OpenSpec.ofChange fnExactNormVSpec)

/-- ITS FALSE NEIGHBOUR: 'it returns false'. Refute it at one input. -/
def fnExactNormVWrong : ChangeSpec := { name := "fnExactNormV", fn := fun _ => fun
  | [d] => { results := [.lit (.bool false)], args := [d] }
  | _ => none }
def FnExactNormVWrongFalsely : Prop := fnExactNormVRow.holds Try.pinned (OpenSpec.ofChange fnExactNormVWrong)

/-- 'laws.FnExactUnitV': WHATEVER THE INPUT: true; the input reads as it did. -/
def fnExactUnitVSpec : ChangeSpec := { name := "fnExactUnitV", fn := fun _ => fun
  | [d] => { results := [.lit (.bool true)], args := [d] }
  | _ => none }
def fnExactUnitVRow : OpenClaim := { program := "ytgcidmdollpbkaa", sum := "81b30a6986a4b4554178af7ce4333814bedb1cad821745a66bfd0d8bc620f459", func := "loop.example/g00880/laws.FnExactUnitV", spec := "fnExactUnitV", inPlace := ["math/bits.Add64", "math/bits.Sub64"], unfollowed := true, recurses := true, named := ["math/bits.divideError", "math/bits.overflowError"], apart := false }
def FnExactUnitVSaid : Prop := fnExactUnitVRow.holds Try.pinned (OpenSpec.ofChange fnExactUnitVSpec)

/-- ITS FALSE NEIGHBOUR: 'it returns false'. Refute it at one input. -/
def fnExactUnitVWrong : ChangeSpec := { name := "fnExactUnitV", fn := fun _ => fun
  | [d] => { results := [.lit (.bool false)], args := [d] }
  | _ => none }
def FnExactUnitVWrongFalsely : Prop := fnExactUnitVRow.holds Try.pinned (OpenSpec.ofChange fnExactUnitVWrong)

/-- 'laws.FnExactInverseM': WHATEVER THE INPUT: true; the input reads as it did. -/
def fnExactInverseMSpec : ChangeSpec := { name := "fnExactInverseM", fn := fun _ => fun
  | [d] => { results := [.lit (.bool true)], args := [d] }
  | _ => none }
def fnExactInverseMRow : OpenClaim := { program := "ytgcidmdollpbkaa", sum := "81b30a6986a4b4554178af7ce4333814bedb1cad821745a66bfd0d8bc620f459", func := "loop.example/g00880/laws.FnExactInverseM", spec := "fnExactInverseM", inPlace := ["math/bits.Sub64", "math/bits.Add64"], unfollowed := true, recurses := true, named := ["math/bits.divideError", "math/bits.overflowError"], apart := false }
def FnExactInverseMSaid : Prop := fnExactInverseMRow.holds Try.pinned (OpenSpec.ofChange fnExactInverseMSpec)

/-- ITS FALSE NEIGHBOUR: 'it returns false'. Refute it at one input. -/
def fnExactInverseMWrong : ChangeSpec := { name := "fnExactInverseM", fn := fun _ => fun
  | [d] => { results := [.lit (.bool false)], args := [d] }
  | _ => none }
def FnExactInverseMWrongFalsely : Prop := fnExactInverseMRow.holds Try.pinned (OpenSpec.ofChange fnExactInverseMWrong)

/-- 'laws.FnExactFlatteningI': WHATEVER THE INPUT: true; the input reads as it did. -/
def fnExactFlatteningISpec : ChangeSpec := { name := "fnExactFlatteningI", fn := fun _ => fun
  | [d] => { results := [.lit (.bool true)], args := [d] }
  | _ => none }
def fnExactFlatteningIRow : OpenClaim := { program := "ytgcidmdollpbkaa", sum := "81b30a6986a4b4554178af7ce4333814bedb1cad821745a66bfd0d8bc620f459", func := "loop.example/g00880/laws.FnExactFlatteningI", spec := "fnExactFlatteningI", inPlace := ["math/bits.Sub64", "math/bits.Add64"], unfollowed := true, recurses := true, named := ["math/bits.divideError", "math/bits.overflowError"], apart := false }
def FnExactFlatteningISaid : Prop := fnExactFlatteningIRow.holds Try.pinned (OpenSpec.ofChange fnExactFlatteningISpec)

/-- ITS FALSE NEIGHBOUR: 'it returns false'. Refute it at one input. -/
def fnExactFlatteningIWrong : ChangeSpec := { name := "fnExactFlatteningI", fn := fun _ => fun
  | [d] => { results := [.lit (.bool false)], args := [d] }
  | _ => none }
def FnExactFlatteningIWrongFalsely : Prop := fnExactFlatteningIRow.holds Try.pinned (OpenSpec.ofChange fnExactFlatteningIWrong)

/-- 'laws.FnExactMajorI': WHATEVER THE INPUT: true; the input reads as it did. -/
def fnExactMajorISpec : ChangeSpec := { name := "fnExactMajorI", fn := fun _ => fun
  | [d] => { results := [.lit (.bool true)], args := [d] }
  | _ => none }
def fnExactMajorIRow : OpenClaim := { program := "ytgcidmdollpbkaa", sum := "81b30a6986a4b4554178af7ce4333814bedb1cad821745a66bfd0d8bc620f459", func := "loop.example/g00880/laws.FnExactMajorI", spec := "fnExactMajorI", inPlace := ["math/bits.Sub64", "math/bits.Add64"], unfollowed := true, recurses := true, named := ["math/bits.divideError", "math/bits.overflowError"], apart := false }
def FnExactMajorISaid : Prop := fnExactMajorIRow.holds Try.pinned (OpenSpec.ofChange fnExactMajorISpec)

/-- ITS FALSE NEIGHBOUR: 'it returns false'. Refute it at one input. -/
def fnExactMajorIWrong : ChangeSpec := { name := "fnExactMajorI", fn := fun _ => fun
  | [d] => { results := [.lit (.bool false)], args := [d] }
  | _ => none }
def FnExactMajorIWrongFalsely : Prop := fnExactMajorIRow.holds Try.pinned (OpenSpec.ofChange fnExactMajorIWrong)

/-- 'laws.FnExactThirdI': WHATEVER THE INPUT: true; the input reads as it did. -/
def fnExactThirdISpec : ChangeSpec := { name := "fnExactThirdI", fn := fun _ => fun
  | [d] => { results := [.lit (.bool true)], args := [d] }
  | _ => none }
def fnExactThirdIRow : OpenClaim := { program := "ytgcidmdollpbkaa", sum := "81b30a6986a4b4554178af7ce4333814bedb1cad821745a66bfd0d8bc620f459", func := "loop.example/g00880/laws.FnExactThirdI", spec := "fnExactThirdI", inPlace := ["math/bits.Sub64", "math/bits.Add64"], unfollowed := true, recurses := true, named := ["math/bits.divideError", "math/bits.overflowError"], apart := false }
def FnExactThirdISaid : Prop := fnExactThirdIRow.holds Try.pinned (OpenSpec.ofChange fnExactThirdISpec)

/-- ITS FALSE NEIGHBOUR: 'it returns false'. Refute it at one input. -/
def fnExactThirdIWrong : ChangeSpec := { name := "fnExactThirdI", fn := fun _ => fun
  | [d] => { results := [.lit (.bool false)], args := [d] }
  | _ => none }
def FnExactThirdIWrongFalsely : Prop := fnExactThirdIRow.holds Try.pinned (OpenSpec.ofChange fnExactThirdIWrong)

/-- 'laws.FnExactMinorI': WHATEVER THE INPUT: true; the input reads as it did. -/
def fnExactMinorISpec : ChangeSpec := { name := "fnExactMinorI", fn := fun _ => fun
  | [d] => { results := [.lit (.bool true)], args := [d] }
  | _ => none }
def fnExactMinorIRow : OpenClaim := { program := "ytgcidmdollpbkaa", sum := "81b30a6986a4b4554178af7ce4333814bedb1cad821745a66bfd0d8bc620f459", func := "loop.example/g00880/laws.FnExactMinorI", spec := "fnExactMinorI", inPlace := ["math/bits.Sub64", "math/bits.Add64"], unfollowed := true, recurses := true, named := ["math/bits.divideError", "math/bits.overflowError"], apart := false }
def FnExactMinorISaid : Prop := fnExactMinorIRow.holds Try.pinned (OpenSpec.ofChange fnExactMinorISpec)

/-- ITS FALSE NEIGHBOUR: 'it returns false'. Refute it at one input. -/
def fnExactMinorIWrong : ChangeSpec := { name := "fnExactMinorI", fn := fun _ => fun
  | [d] => { results := [.lit (.bool false)], args := [d] }
  | _ => none }
def FnExactMinorIWrongFalsely : Prop := fnExactMinorIRow.holds Try.pinned (OpenSpec.ofChange fnExactMinorIWrong)

/- THE SECOND FORM. 'bulk': how many values and letters a reading holds, each counted each time it is reached (what is shared counts as often as it is met; a slice's spare places count too). A statement '..UptoSaid' is the law's where the arguments, and the package variables that the reading takes, are together of bulk at most 1048576: NARROWER than '..Said'. Prove '..Said' where nothing that the law and all that it calls make is longer than what came in: it says more and counts as full. Else prove '..UptoSaid'. A law counts once. -/
mutual
def uptoBulk {H : Type} : DataW H → Nat
  | .lit (.string bytes) => bytes.length + 1
  | .lit _ => 1
  | .nil => 1
  | .ptr d => uptoBulk d + 1
  | .slice elems spare => uptoBulkAll elems + uptoBulkAll spare + 1
  | .agg parts => uptoBulkAll parts + 1
  | .iface _ d => uptoBulk d + 1
  | .map entries => uptoBulkEntries entries + 1
  | .held _ => 1
def uptoBulkAll {H : Type} : List (DataW H) → Nat
  | [] => 0
  | d :: r => uptoBulk d + uptoBulkAll r
def uptoBulkEntries {H : Type} : List (Lit × DataW H) → Nat
  | [] => 0
  | x :: r => uptoBulkEntry x + uptoBulkEntries r
def uptoBulkEntry {H : Type} : Lit × DataW H → Nat
  | (.string bytes, d) => bytes.length + uptoBulk d + 1
  | (_, d) => uptoBulk d + 1
 end
def uptoSmall : (H : Type) → List (DataW H) → Bool := fun _ ds => decide (uptoBulkAll ds ≤ 1048576)
def OpenSpec.upto (s : _root_.Go.ChangeSpec) : _root_.Go.OpenSpec := { _root_.Go.OpenSpec.ofChange s with cond := some uptoSmall }

/-- 'laws.FnExactScaleV', WHERE WHAT IT READS IS OF BULK AT MOST 1048576: true; the input reads as it did. -/
def fnExactScaleVUptoRow : OpenClaim := { program := "ytgcidmdollpbkaa", sum := "81b30a6986a4b4554178af7ce4333814bedb1cad821745a66bfd0d8bc620f459", func := "loop.example/g00880/laws.FnExactScaleV", spec := "fnExactScaleV", unfollowed := true, recurses := true, apart := false, narrowed := true }
def FnExactScaleVUptoSaid : Prop := fnExactScaleVUptoRow.holds Try.pinned (OpenSpec.upto fnExactScaleVSpec)

/-- 'laws.FnExactDotV', WHERE WHAT IT READS IS OF BULK AT MOST 1048576: true; the input reads as it did. -/
def fnExactDotVUptoRow : OpenClaim := { program := "ytgcidmdollpbkaa", sum := "81b30a6986a4b4554178af7ce4333814bedb1cad821745a66bfd0d8bc620f459", func := "loop.example/g00880/laws.FnExactDotV", spec := "fnExactDotV", unfollowed := true, recurses := true, apart := false, narrowed := true }
def FnExactDotVUptoSaid : Prop := fnExactDotVUptoRow.holds Try.pinned (OpenSpec.upto fnExactDotVSpec)

/-- 'laws.FnExactApplyM', WHERE WHAT IT READS IS OF BULK AT MOST 1048576: true; the input reads as it did. -/
def fnExactApplyMUptoRow : OpenClaim := { program := "ytgcidmdollpbkaa", sum := "81b30a6986a4b4554178af7ce4333814bedb1cad821745a66bfd0d8bc620f459", func := "loop.example/g00880/laws.FnExactApplyM", spec := "fnExactApplyM", unfollowed := true, recurses := true, apart := false, narrowed := true }
def FnExactApplyMUptoSaid : Prop := fnExactApplyMUptoRow.holds Try.pinned (OpenSpec.upto fnExactApplyMSpec)

/-- 'laws.FnExactCrossV', WHERE WHAT IT READS IS OF BULK AT MOST 1048576: true; the input reads as it did. -/
def fnExactCrossVUptoRow : OpenClaim := { program := "ytgcidmdollpbkaa", sum := "81b30a6986a4b4554178af7ce4333814bedb1cad821745a66bfd0d8bc620f459", func := "loop.example/g00880/laws.FnExactCrossV", spec := "fnExactCrossV", unfollowed := true, recurses := true, apart := false, narrowed := true }
def FnExactCrossVUptoSaid : Prop := fnExactCrossVUptoRow.holds Try.pinned (OpenSpec.upto fnExactCrossVSpec)

/-- 'laws.FnExactMulM', WHERE WHAT IT READS IS OF BULK AT MOST 1048576: true; the input reads as it did. -/
def fnExactMulMUptoRow : OpenClaim := { program := "ytgcidmdollpbkaa", sum := "81b30a6986a4b4554178af7ce4333814bedb1cad821745a66bfd0d8bc620f459", func := "loop.example/g00880/laws.FnExactMulM", spec := "fnExactMulM", unfollowed := true, recurses := true, apart := false, narrowed := true }
def FnExactMulMUptoSaid : Prop := fnExactMulMUptoRow.holds Try.pinned (OpenSpec.upto fnExactMulMSpec)

/-- 'laws.FnExactNormV', WHERE WHAT IT READS IS OF BULK AT MOST 1048576: true; the input reads as it did. -/
def fnExactNormVUptoRow : OpenClaim := { program := "ytgcidmdollpbkaa", sum := "81b30a6986a4b4554178af7ce4333814bedb1cad821745a66bfd0d8bc620f459", func := "loop.example/g00880/laws.FnExactNormV", spec := "fnExactNormV", inPlace := ["math/bits.Add64"], apart := false, narrowed := true }
def FnExactNormVUptoSaid : Prop := fnExactNormVUptoRow.holds Try.pinned (OpenSpec.upto fnExactNormVSpec)

/-- 'laws.FnExactUnitV', WHERE WHAT IT READS IS OF BULK AT MOST 1048576: true; the input reads as it did. -/
def fnExactUnitVUptoRow : OpenClaim := { program := "ytgcidmdollpbkaa", sum := "81b30a6986a4b4554178af7ce4333814bedb1cad821745a66bfd0d8bc620f459", func := "loop.example/g00880/laws.FnExactUnitV", spec := "fnExactUnitV", inPlace := ["math/bits.Add64", "math/bits.Sub64"], unfollowed := true, recurses := true, named := ["math/bits.divideError", "math/bits.overflowError"], apart := false, narrowed := true }
def FnExactUnitVUptoSaid : Prop := fnExactUnitVUptoRow.holds Try.pinned (OpenSpec.upto fnExactUnitVSpec)

/-- 'laws.FnExactInverseM', WHERE WHAT IT READS IS OF BULK AT MOST 1048576: true; the input reads as it did. -/
def fnExactInverseMUptoRow : OpenClaim := { program := "ytgcidmdollpbkaa", sum := "81b30a6986a4b4554178af7ce4333814bedb1cad821745a66bfd0d8bc620f459", func := "loop.example/g00880/laws.FnExactInverseM", spec := "fnExactInverseM", inPlace := ["math/bits.Sub64", "math/bits.Add64"], unfollowed := true, recurses := true, named := ["math/bits.divideError", "math/bits.overflowError"], apart := false, narrowed := true }
def FnExactInverseMUptoSaid : Prop := fnExactInverseMUptoRow.holds Try.pinned (OpenSpec.upto fnExactInverseMSpec)

/-- 'laws.FnExactFlatteningI', WHERE WHAT IT READS IS OF BULK AT MOST 1048576: true; the input reads as it did. -/
def fnExactFlatteningIUptoRow : OpenClaim := { program := "ytgcidmdollpbkaa", sum := "81b30a6986a4b4554178af7ce4333814bedb1cad821745a66bfd0d8bc620f459", func := "loop.example/g00880/laws.FnExactFlatteningI", spec := "fnExactFlatteningI", inPlace := ["math/bits.Sub64", "math/bits.Add64"], unfollowed := true, recurses := true, named := ["math/bits.divideError", "math/bits.overflowError"], apart := false, narrowed := true }
def FnExactFlatteningIUptoSaid : Prop := fnExactFlatteningIUptoRow.holds Try.pinned (OpenSpec.upto fnExactFlatteningISpec)

/-- 'laws.FnExactMajorI', WHERE WHAT IT READS IS OF BULK AT MOST 1048576: true; the input reads as it did. -/
def fnExactMajorIUptoRow : OpenClaim := { program := "ytgcidmdollpbkaa", sum := "81b30a6986a4b4554178af7ce4333814bedb1cad821745a66bfd0d8bc620f459", func := "loop.example/g00880/laws.FnExactMajorI", spec := "fnExactMajorI", inPlace := ["math/bits.Sub64", "math/bits.Add64"], unfollowed := true, recurses := true, named := ["math/bits.divideError", "math/bits.overflowError"], apart := false, narrowed := true }
def FnExactMajorIUptoSaid : Prop := fnExactMajorIUptoRow.holds Try.pinned (OpenSpec.upto fnExactMajorISpec)

/-- 'laws.FnExactThirdI', WHERE WHAT IT READS IS OF BULK AT MOST 1048576: true; the input reads as it did. -/
def fnExactThirdIUptoRow : OpenClaim := { program := "ytgcidmdollpbkaa", sum := "81b30a6986a4b4554178af7ce4333814bedb1cad821745a66bfd0d8bc620f459", func := "loop.example/g00880/laws.FnExactThirdI", spec := "fnExactThirdI", inPlace := ["math/bits.Sub64", "math/bits.Add64"], unfollowed := true, recurses := true, named := ["math/bits.divideError", "math/bits.overflowError"], apart := false, narrowed := true }
def FnExactThirdIUptoSaid : Prop := fnExactThirdIUptoRow.holds Try.pinned (OpenSpec.upto fnExactThirdISpec)

/-- 'laws.FnExactMinorI', WHERE WHAT IT READS IS OF BULK AT MOST 1048576: true; the input reads as it did. -/
def fnExactMinorIUptoRow : OpenClaim := { program := "ytgcidmdollpbkaa", sum := "81b30a6986a4b4554178af7ce4333814bedb1cad821745a66bfd0d8bc620f459", func := "loop.example/g00880/laws.FnExactMinorI", spec := "fnExactMinorI", inPlace := ["math/bits.Sub64", "math/bits.Add64"], unfollowed := true, recurses := true, named := ["math/bits.divideError", "math/bits.overflowError"], apart := false, narrowed := true }
def FnExactMinorIUptoSaid : Prop := fnExactMinorIUptoRow.holds Try.pinned (OpenSpec.upto fnExactMinorISpec)

end Rows
end Go.Proofs.Ytgcidmdollpbkaa

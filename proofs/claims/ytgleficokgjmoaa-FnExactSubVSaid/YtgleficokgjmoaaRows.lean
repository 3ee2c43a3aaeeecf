/-
  No cell of these rows narrows 'for every input' (looked for: loops, veiled, ifaces, maps, wideKeys, modest, calm, conditions, laid).
  DERIVED. THE GIVEN ROWS OF THIS SEAT. 7 by the template 'for every input the law returns true; each argument reads behind the call as it read before'; 0 by the template 'total and deterministic' (their statements: YtgleficokgjmoaaTotals.lean).
  GIVEN WITH THE SEED: the statements are not yours to turn. If you find one false, say at which input.
  Laid BY PROGRAM, IN A SANDBOX (cutbox-rows.mjs): the forced cells as the released guide's own fill.sh prints them over the translation 13be2b111ee523e3… (all of the seat's roots in one cut). By AI agents, Wed Nov 11 2026. No macro, syntax, notation, axiom, sorry.
-/
import Derived.Test.YtgleficokgjmoaaChecked
import GoSem.Claim
import GoSem.ClaimJoined
import GoSem.ClaimMapViews
import Derived.JoinedTies
import Derived.KernelRfl
namespace Go.Proofs.Ytgleficokgjmoaa
/- THE CELL 'sum', in the pinned program and in every row, IS THE sha256 OF THE DUMP (.gsa) THAT YtgleficokgjmoaaProg.lean LOADS. Nothing in Lean hashes anything: it is a label: what it is worth is what the hold of that sum in a sandbox is worth. -/
noncomputable def Try.pinned : Pinned := { name := "ytgleficokgjmoaa", sum := "13be2b111ee523e3f99119d8c512017b4d1fe0f3871ba6f60a368e7201fca806", checked := Try.checked }
namespace Rows
def none {H : Type} : Left H := { results := [], args := [] }

/-- 'laws.FnExactSphereOf': WHATEVER THE INPUT: true; the input reads as it did. -/
def fnExactSphereOfSpec : ChangeSpec := { name := "fnExactSphereOf", fn := fun _ => fun
  | [d] => { results := [.lit (.bool true)], args := [d] }
  | _ => none }
def fnExactSphereOfRow : OpenClaim := { program := "ytgleficokgjmoaa", sum := "13be2b111ee523e3f99119d8c512017b4d1fe0f3871ba6f60a368e7201fca806", func := "loop.example/g00880/laws.FnExactSphereOf", spec := "fnExactSphereOf", apart := false }
def FnExactSphereOfSaid : Prop := fnExactSphereOfRow.holds Try.pinned (OpenSpec.ofChange fnExactSphereOfSpec)

/-- ITS FALSE NEIGHBOUR: 'it returns false'. Refute it at one input. -/
def fnExactSphereOfWrong : ChangeSpec := { name := "fnExactSphereOf", fn := fun _ => fun
  | [d] => { results := [.lit (.bool false)], args := [d] }
  | _ => none }
def FnExactSphereOfWrongFalsely : Prop := fnExactSphereOfRow.holds Try.pinned (OpenSpec.ofChange fnExactSphereOfWrong)

/-- 'laws.FnExactSamePlace': WHATEVER THE INPUT: true; the input reads as it did. -/
def fnExactSamePlaceSpec : ChangeSpec := { name := "fnExactSamePlace", fn := fun _ => fun
  | [d1, d2] => { results := [.lit (.bool true)], args := [d1, d2] }
  | _ => none }
def fnExactSamePlaceRow : OpenClaim := { program := "ytgleficokgjmoaa", sum := "13be2b111ee523e3f99119d8c512017b4d1fe0f3871ba6f60a368e7201fca806", func := "loop.example/g00880/laws.FnExactSamePlace", spec := "fnExactSamePlace", apart := false }
def FnExactSamePlaceSaid : Prop := fnExactSamePlaceRow.holds Try.pinned (OpenSpec.ofChange fnExactSamePlaceSpec)

/-- ITS FALSE NEIGHBOUR: 'it returns false'. Refute it at one input. -/
def fnExactSamePlaceWrong : ChangeSpec := { name := "fnExactSamePlace", fn := fun _ => fun
  | [d1, d2] => { results := [.lit (.bool false)], args := [d1, d2] }
  | _ => none }
def FnExactSamePlaceWrongFalsely : Prop := fnExactSamePlaceRow.holds Try.pinned (OpenSpec.ofChange fnExactSamePlaceWrong)

/-- 'laws.FnExactLonBetween': WHATEVER THE INPUT: true; the input reads as it did. -/
def fnExactLonBetweenSpec : ChangeSpec := { name := "fnExactLonBetween", fn := fun _ => fun
  | [d1, d2] => { results := [.lit (.bool true)], args := [d1, d2] }
  | _ => none }
def fnExactLonBetweenRow : OpenClaim := { program := "ytgleficokgjmoaa", sum := "13be2b111ee523e3f99119d8c512017b4d1fe0f3871ba6f60a368e7201fca806", func := "loop.example/g00880/laws.FnExactLonBetween", spec := "fnExactLonBetween", apart := false }
def FnExactLonBetweenSaid : Prop := fnExactLonBetweenRow.holds Try.pinned (OpenSpec.ofChange fnExactLonBetweenSpec)

/-- ITS FALSE NEIGHBOUR: 'it returns false'. Refute it at one input. -/
def fnExactLonBetweenWrong : ChangeSpec := { name := "fnExactLonBetween", fn := fun _ => fun
  | [d1, d2] => { results := [.lit (.bool false)], args := [d1, d2] }
  | _ => none }
def FnExactLonBetweenWrongFalsely : Prop := fnExactLonBetweenRow.holds Try.pinned (OpenSpec.ofChange fnExactLonBetweenWrong)

/-- 'laws.FnExactAntipode': WHATEVER THE INPUT: true; the input reads as it did. -/
def fnExactAntipodeSpec : ChangeSpec := { name := "fnExactAntipode", fn := fun _ => fun
  | [d] => { results := [.lit (.bool true)], args := [d] }
  | _ => none }
def fnExactAntipodeRow : OpenClaim := { program := "ytgleficokgjmoaa", sum := "13be2b111ee523e3f99119d8c512017b4d1fe0f3871ba6f60a368e7201fca806", func := "loop.example/g00880/laws.FnExactAntipode", spec := "fnExactAntipode", apart := false }
def FnExactAntipodeSaid : Prop := fnExactAntipodeRow.holds Try.pinned (OpenSpec.ofChange fnExactAntipodeSpec)

/-- ITS FALSE NEIGHBOUR: 'it returns false'. Refute it at one input. -/
def fnExactAntipodeWrong : ChangeSpec := { name := "fnExactAntipode", fn := fun _ => fun
  | [d] => { results := [.lit (.bool false)], args := [d] }
  | _ => none }
def FnExactAntipodeWrongFalsely : Prop := fnExactAntipodeRow.holds Try.pinned (OpenSpec.ofChange fnExactAntipodeWrong)

/-- 'laws.FnExactAddV': WHATEVER THE INPUT: true; the input reads as it did. -/
def fnExactAddVSpec : ChangeSpec := { name := "fnExactAddV", fn := fun _ => fun
  | [d1, d2] => { results := [.lit (.bool true)], args := [d1, d2] }
  | _ => none }
def fnExactAddVRow : OpenClaim := { program := "ytgleficokgjmoaa", sum := "13be2b111ee523e3f99119d8c512017b4d1fe0f3871ba6f60a368e7201fca806", func := "loop.example/g00880/laws.FnExactAddV", spec := "fnExactAddV", apart := false }
def FnExactAddVSaid : Prop := fnExactAddVRow.holds Try.pinned (OpenSpec.ofChange fnExactAddVSpec)

/-- ITS FALSE NEIGHBOUR: 'it returns false'. Refute it at one input. -/
def fnExactAddVWrong : ChangeSpec := { name := "fnExactAddV", fn := fun _ => fun
  | [d1, d2] => { results := [.lit (.bool false)], args := [d1, d2] }
  | _ => none }
def FnExactAddVWrongFalsely : Prop := fnExactAddVRow.holds Try.pinned (OpenSpec.ofChange fnExactAddVWrong)

/-- 'laws.FnExactOverlapV': WHATEVER THE INPUT: true; the input reads as it did. -/
def fnExactOverlapVSpec : ChangeSpec := { name := "fnExactOverlapV", fn := fun _ => fun
  | [d1, d2] => { results := [.lit (.bool true)], args := [d1, d2] }
  | _ => none }
def fnExactOverlapVRow : OpenClaim := { program := "ytgleficokgjmoaa", sum := "13be2b111ee523e3f99119d8c512017b4d1fe0f3871ba6f60a368e7201fca806", func := "loop.example/g00880/laws.FnExactOverlapV", spec := "fnExactOverlapV", apart := false }
def FnExactOverlapVSaid : Prop := fnExactOverlapVRow.holds Try.pinned (OpenSpec.ofChange fnExactOverlapVSpec)

/-- ITS FALSE NEIGHBOUR: 'it returns false'. Refute it at one input. -/
def fnExactOverlapVWrong : ChangeSpec := { name := "fnExactOverlapV", fn := fun _ => fun
  | [d1, d2] => { results := [.lit (.bool false)], args := [d1, d2] }
  | _ => none }
def FnExactOverlapVWrongFalsely : Prop := fnExactOverlapVRow.holds Try.pinned (OpenSpec.ofChange fnExactOverlapVWrong)

/-- 'laws.FnExactSubV': WHATEVER THE INPUT: true; the input reads as it did. -/
def fnExactSubVSpec : ChangeSpec := { name := "fnExactSubV", fn := fun _ => fun
  | [d1, d2] => { results := [.lit (.bool true)], args := [d1, d2] }
  | _ => none }
def fnExactSubVRow : OpenClaim := { program := "ytgleficokgjmoaa", sum := "13be2b111ee523e3f99119d8c512017b4d1fe0f3871ba6f60a368e7201fca806", func := "loop.example/g00880/laws.FnExactSubV", spec := "fnExactSubV", apart := false }
def FnExactSubVSaid : Prop := fnExactSubVRow.holds Try.pinned (OpenSpec.ofChange fnExactSubVSpec)

/-- ITS FALSE NEIGHBOUR: 'it returns false'. Refute it at one input. -/
def fnExactSubVWrong : ChangeSpec := { name := "fnExactSubV", fn := fun _ => fun
  | [d1, d2] => { results := [.lit (.bool false)], args := [d1, d2] }
  | _ => none }
def FnExactSubVWrongFalsely : Prop := fnExactSubVRow.holds Try.pinned (OpenSpec.ofChange fnExactSubVWrong)

/- THE SECOND FORM. 'bulk': how many values and letters a reading holds, each counted each time it is reached (what is shared counts as often as it is met; a slice's spare places count too). A statement '..UptoSaid' is the law's where the arguments, and the package variables that the reading takes, are together of bulk at most 1048576: NARROWER than '..Said'. Prove '..Said' where nothing that the law and all that it calls make is longer than what came in: it says more and counts as full. Else prove '..UptoSaid'. A law counts once. -/
mutual
def uptoBulk {H : Type} : DataW H → Nat
  | .lit (.string bytes) => bytes.length + 1
  | .lit _ => 1
  | .nil => 1
  | .ptr d => uptoBulk d + 1
  | .slice elems spare => uptoBulkAll elems + uptoBulkAll spare + 1
  | .agg parts => uptoBulkAll parts + 1
  | .iface _ d => uptoBulk d + 1
  | .map entries => uptoBulkEntries entries + 1
  | .held _ => 1
def uptoBulkAll {H : Type} : List (DataW H) → Nat
  | [] => 0
  | d :: r => uptoBulk d + uptoBulkAll r
def uptoBulkEntries {H : Type} : List (Lit × DataW H) → Nat
  | [] => 0
  | x :: r => uptoBulkEntry x + uptoBulkEntries r
def uptoBulkEntry {H : Type} : Lit × DataW H → Nat
  | (.string bytes, d) => bytes.length + uptoBulk d + 1
  | (_, d) => uptoBulk d + 1
 end
def uptoSmall : (H : Type) → List (DataW H) → Bool := fun _ ds => decide (uptoBulkAll ds ≤ 1048576)
def OpenSpec.upto (s : _root_.Go.ChangeSpec) : _root_.Go.OpenSpec := { _root_.Go.OpenSpec.ofChange s with cond := some uptoSmall }

/-- 'laws.FnExactSphereOf', WHERE WHAT IT READS IS OF BULK AT MOST 1048576: true; the input reads as it did. -/
def fnExactSphereOfUptoRow : OpenClaim := { program := "ytgleficokgjmoaa", sum := "13be2b111ee523e3f99119d8c512017b4d1fe0f3871ba6f60a368e7201fca806", func := "loop.example/g00880/laws.FnExactSphereOf", spec := "fnExactSphereOf", apart := false, narrowed := true }
def FnExactSphereOfUptoSaid : Prop := fnExactSphereOfUptoRow.holds Try.pinned (OpenSpec.upto fnExactSphereOfSpec)

/-- 'laws.FnExactSamePlace', WHERE WHAT IT READS IS OF BULK AT MOST 1048576: true; the input reads as it did. -/
def fnExactSamePlaceUptoRow : OpenClaim := { program := "ytgleficokgjmoaa", sum := "13be2b111ee523e3f99119d8c512017b4d1fe0f3871ba6f60a368e7201fca806", func := "loop.example/g00880/laws.FnExactSamePlace", spec := "fnExactSamePlace", apart := false, narrowed := true }
def FnExactSamePlaceUptoSaid : Prop := fnExactSamePlaceUptoRow.holds Try.pinned (OpenSpec.upto fnExactSamePlaceSpec)

/-- 'laws.FnExactLonBetween', WHERE WHAT IT READS IS OF BULK AT MOST 1048576: true; the input reads as it did. -/
def fnExactLonBetweenUptoRow : OpenClaim := { program := "ytgleficokgjmoaa", sum := "13be2b111ee523e3f99119d8c512017b4d1fe0f3871ba6f60a368e7201fca806", func := "loop.example/g00880/laws.FnExactLonBetween", spec := "fnExactLonBetween", apart := false, narrowed := true }
def FnExactLonBetweenUptoSaid : Prop := fnExactLonBetweenUptoRow.holds Try.pinned (OpenSpec.upto fnExactLonBetweenSpec)

/-- 'laws.FnExactAntipode', WHERE WHAT IT READS IS OF BULK AT MOST 1048576: true; the input reads as it did. -/
def fnExactAntipodeUptoRow : OpenClaim := { program := "ytgleficokgjmoaa", sum := "13be2b111ee523e3f99119d8c512017b4d1fe0f3871ba6f60a368e7201fca806", func := "loop.example/g00880/laws.FnExactAntipode", spec := "fnExactAntipode", apart := false, narrowed := true }
def FnExactAntipodeUptoSaid : Prop := fnExactAntipodeUptoRow.holds Try.pinned (OpenSpec.upto fnExactAntipodeSpec)

/-- 'laws.FnExactAddV', WHERE WHAT IT READS IS OF BULK AT MOST 1048576: true; the input reads as it did. -/
def fnExactAddVUptoRow : OpenClaim := { program := "ytgleficokgjmoaa", sum := "13be2b111ee523e3f99119d8c512017b4d1fe0f3871ba6f60a368e7201fca806", func := "loop.example/g00880/laws.FnExactAddV", spec := "fnExactAddV", apart := false, narrowed := true }
def FnExactAddVUptoSaid : Prop := fnExactAddVUptoRow.holds Try.pinned (OpenSpec.upto fnExactAddVSpec)

/-- 'laws.FnExactOverlapV', WHERE WHAT IT READS IS OF BULK AT MOST 1048576: true; the input reads as it did. -/
def fnExactOverlapVUptoRow : OpenClaim := { program := "ytgleficokgjmoaa", sum := "13be2b111ee523e3f99119d8c512017b4d1fe0f3871ba6f60a368e7201fca806", func := "loop.example/g00880/laws.FnExactOverlapV", spec := "fnExactOverlapV", apart := false, narrowed := true }
def FnExactOverlapVUptoSaid : Prop := fnExactOverlapVUptoRow.holds Try.pinned (OpenSpec.upto fnExactOverlapVSpec)

/-- 'laws.FnExactSubV', WHERE WHAT IT READS IS OF BULK AT MOST 1048576: true; the input reads as it did. -/
def fnExactSubVUptoRow : OpenClaim := { program := "ytgleficokgjmoaa", sum := "13be2b111ee523e3f99119d8c512017b4d1fe0f3871ba6f60a368e7201fca806", func := "loop.example/g00880/laws.FnExactSubV", spec := "fnExactSubV", apart := false, narrowed := true }
def FnExactSubVUptoSaid : Prop := fnExactSubVUptoRow.holds Try.pinned (OpenSpec.upto fnExactSubVSpec)

end Rows
end Go.Proofs.Ytgleficokgjmoaa

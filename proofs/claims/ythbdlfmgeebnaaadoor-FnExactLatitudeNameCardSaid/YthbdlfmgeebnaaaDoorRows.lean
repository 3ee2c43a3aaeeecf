/-
  NARROWER THAN 'FOR EVERY INPUT', by the rows' own cells (each row's printed sentence says how): FnExactLatitudeName: laid · FnExactLatitudeNamed: laid.
  DERIVED. THE GIVEN ROWS OF THIS SEAT. 2 by the template 'for every input the law returns true; each argument reads behind the call as it read before'; 0 by the template 'total and deterministic' (their statements: YthbdlfmgeebnaaaDoorTotals.lean).
  GIVEN WITH THE SEED: the statements are not yours to turn. If you find one false, say at which input.
  Laid BY PROGRAM, IN A SANDBOX (cutbox-rows.mjs): the forced cells as the released guide's own fill.sh prints them over the translation de3eaf7aecec809d… (all of the seat's roots in one cut). By AI agents, Wed Nov 11 2026. No macro, syntax, notation, axiom, sorry.
-/
import Derived.Test.YthbdlfmgeebnaaaDoorChecked
import GoSem.Claim
import GoSem.ClaimJoined
import GoSem.ClaimMapViews
import Derived.JoinedTies
import Derived.KernelRfl
namespace Go.Proofs.YthbdlfmgeebnaaaDoor
/- THE CELL 'sum', in the pinned program and in every row, IS THE sha256 OF THE DUMP (.gsa) THAT YthbdlfmgeebnaaaDoorProg.lean LOADS. Nothing in Lean hashes anything: it is a label: what it is worth is what the hold of that sum in a sandbox is worth. -/
noncomputable def Tryd.pinned : Pinned := { name := "ythbdlfmgeebnaaadoor", sum := "de3eaf7aecec809d99a356376c4d1d700015dddc5e1f3a0a7407d74b15c49755", checked := Tryd.checked }
namespace Rows
def none {H : Type} : Left H := { results := [], args := [] }

/- WHAT THE LISTED PACKAGE-LEVEL VARIABLES READ AS WHEN THE CALL BEGINS. Each datum BY PROGRAM (the guide's laid-datum.mjs) off the statement by which the dump's own 'gosem.cut.vars' lays the variable. In a bare row this is a premise. The card (YthbdlfmgeebnaaaDoorCards.lean) ties it to the program's text. -/
def laid_loop_example_g00880_impl_latitudeNames {H : Type} : DataW H := .agg [.lit (.string []), .lit (.string [114, 101, 100, 117, 99, 101, 100]), .lit (.string [103, 101, 111, 99, 101, 110, 116, 114, 105, 99]), .lit (.string [99, 111, 110, 102, 111, 114, 109, 97, 108]), .lit (.string [97, 117, 116, 104, 97, 108, 105, 99]), .lit (.string [114, 101, 99, 116, 105, 102, 121, 105, 110, 103]), .lit (.string [105, 115, 111, 109, 101, 116, 114, 105, 99])]

/-- 'laws.FnExactLatitudeName': WHATEVER THE INPUT: true; the input reads as it did. -/
def fnExactLatitudeNameSpec : ChangeSpec := { name := "fnExactLatitudeName", vars := ["loop.example/g00880/impl.latitudeNames"], fn := fun _ => fun
  | [d, g1] => { results := [.lit (.bool true)], args := [d], vars := [g1] }
  | _ => none }
def fnExactLatitudeNameRow : OpenClaim := { program := "ythbdlfmgeebnaaadoor", sum := "de3eaf7aecec809d99a356376c4d1d700015dddc5e1f3a0a7407d74b15c49755", func := "loop.example/g00880/laws.FnExactLatitudeName", spec := "fnExactLatitudeName", named := ["loop.example/g00880/impl.latitudeNames"], apart := false, laid := [("loop.example/g00880/impl.latitudeNames", laid_loop_example_g00880_impl_latitudeNames)] }
def FnExactLatitudeNameSaid : Prop := fnExactLatitudeNameRow.holds Tryd.pinned (OpenSpec.ofChange fnExactLatitudeNameSpec)

/-- ITS FALSE NEIGHBOUR: 'it returns false'. Refute it at one input. -/
def fnExactLatitudeNameWrong : ChangeSpec := { name := "fnExactLatitudeName", vars := ["loop.example/g00880/impl.latitudeNames"], fn := fun _ => fun
  | [d, g1] => { results := [.lit (.bool false)], args := [d], vars := [g1] }
  | _ => none }
def FnExactLatitudeNameWrongFalsely : Prop := fnExactLatitudeNameRow.holds Tryd.pinned (OpenSpec.ofChange fnExactLatitudeNameWrong)

/-- 'laws.FnExactLatitudeNamed': WHATEVER THE INPUT: true; the input reads as it did. -/
def fnExactLatitudeNamedSpec : ChangeSpec := { name := "fnExactLatitudeNamed", vars := ["loop.example/g00880/impl.latitudeNames"], fn := fun _ => fun
  | [d, g1] => { results := [.lit (.bool true)], args := [d], vars := [g1] }
  | _ => none }
def fnExactLatitudeNamedRow : OpenClaim := { program := "ythbdlfmgeebnaaadoor", sum := "de3eaf7aecec809d99a356376c4d1d700015dddc5e1f3a0a7407d74b15c49755", func := "loop.example/g00880/laws.FnExactLatitudeNamed", spec := "fnExactLatitudeNamed", named := ["loop.example/g00880/impl.latitudeNames"], apart := false, laid := [("loop.example/g00880/impl.latitudeNames", laid_loop_example_g00880_impl_latitudeNames)] }
def FnExactLatitudeNamedSaid : Prop := fnExactLatitudeNamedRow.holds Tryd.pinned (OpenSpec.ofChange fnExactLatitudeNamedSpec)

/-- ITS FALSE NEIGHBOUR: 'it returns false'. Refute it at one input. -/
def fnExactLatitudeNamedWrong : ChangeSpec := { name := "fnExactLatitudeNamed", vars := ["loop.example/g00880/impl.latitudeNames"], fn := fun _ => fun
  | [d, g1] => { results := [.lit (.bool false)], args := [d], vars := [g1] }
  | _ => none }
def FnExactLatitudeNamedWrongFalsely : Prop := fnExactLatitudeNamedRow.holds Tryd.pinned (OpenSpec.ofChange fnExactLatitudeNamedWrong)

/- THE SECOND FORM. 'bulk': how many values and letters a reading holds, each counted each time it is reached (what is shared counts as often as it is met; a slice's spare places count too). A statement '..UptoSaid' is the law's where the arguments, and the package variables that the reading takes, are together of bulk at most 1048576: NARROWER than '..Said'. Prove '..Said' where nothing that the law and all that it calls make is longer than what came in: it says more and counts as full. Else prove '..UptoSaid'. A law counts once. -/
mutual
def uptoBulk {H : Type} : DataW H → Nat
  | .lit (.string bytes) => bytes.length + 1
  | .lit _ => 1
  | .nil => 1
  | .ptr d => uptoBulk d + 1
  | .slice elems spare => uptoBulkAll elems + uptoBulkAll spare + 1
  | .agg parts => uptoBulkAll parts + 1
  | .iface _ d => uptoBulk d + 1
  | .map entries => uptoBulkEntries entries + 1
  | .held _ => 1
def uptoBulkAll {H : Type} : List (DataW H) → Nat
  | [] => 0
  | d :: r => uptoBulk d + uptoBulkAll r
def uptoBulkEntries {H : Type} : List (Lit × DataW H) → Nat
  | [] => 0
  | x :: r => uptoBulkEntry x + uptoBulkEntries r
def uptoBulkEntry {H : Type} : Lit × DataW H → Nat
  | (.string bytes, d) => bytes.length + uptoBulk d + 1
  | (_, d) => uptoBulk d + 1
 end
def uptoSmall : (H : Type) → List (DataW H) → Bool := fun _ ds => decide (uptoBulkAll ds ≤ 1048576)
def OpenSpec.upto (s : _root_.Go.ChangeSpec) : _root_.Go.OpenSpec := { _root_.Go.OpenSpec.ofChange s with cond := some uptoSmall }

/-- 'laws.FnExactLatitudeName', WHERE WHAT IT READS IS OF BULK AT MOST 1048576: true; the input reads as it did. -/
def fnExactLatitudeNameUptoRow : OpenClaim := { program := "ythbdlfmgeebnaaadoor", sum := "de3eaf7aecec809d99a356376c4d1d700015dddc5e1f3a0a7407d74b15c49755", func := "loop.example/g00880/laws.FnExactLatitudeName", spec := "fnExactLatitudeName", named := ["loop.example/g00880/impl.latitudeNames"], apart := false, laid := [("loop.example/g00880/impl.latitudeNames", laid_loop_example_g00880_impl_latitudeNames)], narrowed := true }
def FnExactLatitudeNameUptoSaid : Prop := fnExactLatitudeNameUptoRow.holds Tryd.pinned (OpenSpec.upto fnExactLatitudeNameSpec)

/-- 'laws.FnExactLatitudeNamed', WHERE WHAT IT READS IS OF BULK AT MOST 1048576: true; the input reads as it did. -/
def fnExactLatitudeNamedUptoRow : OpenClaim := { program := "ythbdlfmgeebnaaadoor", sum := "de3eaf7aecec809d99a356376c4d1d700015dddc5e1f3a0a7407d74b15c49755", func := "loop.example/g00880/laws.FnExactLatitudeNamed", spec := "fnExactLatitudeNamed", named := ["loop.example/g00880/impl.latitudeNames"], apart := false, laid := [("loop.example/g00880/impl.latitudeNames", laid_loop_example_g00880_impl_latitudeNames)], narrowed := true }
def FnExactLatitudeNamedUptoSaid : Prop := fnExactLatitudeNamedUptoRow.holds Tryd.pinned (OpenSpec.upto fnExactLatitudeNamedSpec)

end Rows
end Go.Proofs.YthbdlfmgeebnaaaDoor

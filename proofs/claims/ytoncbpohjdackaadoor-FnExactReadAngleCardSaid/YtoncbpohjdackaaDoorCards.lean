/-
  DERIVED. GIVEN WITH THE SEED: THE CARDS: each row of YtoncbpohjdackaaDoorRows.lean that lists a variable, with what it lists TIED to the program's text (the seventh form; the later family's looks); each row that meets fmt, with fmt's text TOLD by the authors' own Lean function (tested against real Go, not proved from fmt's source: count such statements apart). THE CARD IS WHAT COUNTS. Prove the row's statement (the work); the ties are given (YtoncbpohjdackaaDoorTie.lean); close each card by the builder's one call (the guide's Derived/Test/ToyasCard.lean, 'card_holds'). Laid BY PROGRAM, IN A SANDBOX (cutbox-door.mjs). By AI agents, Wed Nov 11 2026. No macro, syntax, notation, axiom, sorry.
-/
import Derived.Test.YtoncbpohjdackaaDoorRows
import GoSem.ClaimSeven
namespace Go.Proofs.YtoncbpohjdackaaDoor
namespace Rows

/-- THE TIED CARD OF 'laws.FnExactEllipsoidText'. -/
def fnExactEllipsoidTextCard : Claim7 := { stood := { row := fnExactEllipsoidTextRow, standIns := [], harness := (true, "85a449c576d7ad4a19425396b134294e9d303428f5954405ff65bd5db3b243d4"), looks := true }, kinds := [], alts := [], laidByText := true, laidKinds := [.data, .data, .data], laidTests := true, laidLooks := .later }
def FnExactEllipsoidTextCardSaid : Prop := Claim7.holds Tryd.pinned (.plain (OpenSpec.ofChange fnExactEllipsoidTextSpec)) fnExactEllipsoidTextCard

/-- THE TIED CARD OF 'laws.FnExactAngleText'. -/
def fnExactAngleTextCard : Claim7 := { stood := { row := fnExactAngleTextRow, standIns := [], harness := (true, "85a449c576d7ad4a19425396b134294e9d303428f5954405ff65bd5db3b243d4"), looks := true }, kinds := [], alts := [], laidByText := true, laidKinds := [.data, .data, .data], laidTests := true, laidLooks := .later }
def FnExactAngleTextCardSaid : Prop := Claim7.holds Tryd.pinned (.plain (OpenSpec.ofChange fnExactAngleTextSpec)) fnExactAngleTextCard

/-- THE TIED CARD OF 'laws.FnExactPointText'. -/
def fnExactPointTextCard : Claim7 := { stood := { row := fnExactPointTextRow, standIns := [], harness := (true, "85a449c576d7ad4a19425396b134294e9d303428f5954405ff65bd5db3b243d4"), looks := true }, kinds := [], alts := [], laidByText := true, laidKinds := [.data, .data, .data], laidTests := true, laidLooks := .later }
def FnExactPointTextCardSaid : Prop := Claim7.holds Tryd.pinned (.plain (OpenSpec.ofChange fnExactPointTextSpec)) fnExactPointTextCard

/-- THE TIED CARD OF 'laws.FnExactReadEllipsoid'. -/
def fnExactReadEllipsoidCard : Claim7 := { stood := { row := fnExactReadEllipsoidRow, standIns := [], harness := (true, "85a449c576d7ad4a19425396b134294e9d303428f5954405ff65bd5db3b243d4"), looks := true }, kinds := [], alts := [], laidByText := true, laidKinds := [.data, .data, .data, .sentinel, .sentinel], laidTests := true, laidLooks := .later }
def FnExactReadEllipsoidCardSaid : Prop := Claim7.holds Tryd.pinned (.plain (OpenSpec.ofChange fnExactReadEllipsoidSpec)) fnExactReadEllipsoidCard

/-- THE TIED CARD OF 'laws.FnExactReadAngle'. -/
def fnExactReadAngleCard : Claim7 := { stood := { row := fnExactReadAngleRow, standIns := [], harness := (true, "85a449c576d7ad4a19425396b134294e9d303428f5954405ff65bd5db3b243d4"), looks := true }, kinds := [], alts := [], laidByText := true, laidKinds := [.data, .data, .data, .data, .pinned], laidTests := true, laidLooks := .later }
def FnExactReadAngleCardSaid : Prop := Claim7.holds Tryd.pinned (.plain (OpenSpec.ofChange fnExactReadAngleSpec)) fnExactReadAngleCard

/-- THE TIED CARD OF 'laws.FnExactReadPoint'. -/
def fnExactReadPointCard : Claim7 := { stood := { row := fnExactReadPointRow, standIns := [], harness := (true, "85a449c576d7ad4a19425396b134294e9d303428f5954405ff65bd5db3b243d4"), looks := true }, kinds := [], alts := [], laidByText := true, laidKinds := [.data, .data, .data, .data, .pinned], laidTests := true, laidLooks := .later }
def FnExactReadPointCardSaid : Prop := Claim7.holds Tryd.pinned (.plain (OpenSpec.ofChange fnExactReadPointSpec)) fnExactReadPointCard

/-- THE SECOND FORM's CARD OF 'laws.FnExactEllipsoidText'. -/
def fnExactEllipsoidTextUptoCard : Claim7 := { stood := { row := fnExactEllipsoidTextUptoRow, standIns := [], harness := (true, "85a449c576d7ad4a19425396b134294e9d303428f5954405ff65bd5db3b243d4"), looks := true }, kinds := [], alts := [], laidByText := true, laidKinds := [.data, .data, .data], laidTests := true, laidLooks := .later }
def FnExactEllipsoidTextUptoCardSaid : Prop := Claim7.holds Tryd.pinned (.plain (OpenSpec.upto fnExactEllipsoidTextSpec)) fnExactEllipsoidTextUptoCard

/-- THE SECOND FORM's CARD OF 'laws.FnExactAngleText'. -/
def fnExactAngleTextUptoCard : Claim7 := { stood := { row := fnExactAngleTextUptoRow, standIns := [], harness := (true, "85a449c576d7ad4a19425396b134294e9d303428f5954405ff65bd5db3b243d4"), looks := true }, kinds := [], alts := [], laidByText := true, laidKinds := [.data, .data, .data], laidTests := true, laidLooks := .later }
def FnExactAngleTextUptoCardSaid : Prop := Claim7.holds Tryd.pinned (.plain (OpenSpec.upto fnExactAngleTextSpec)) fnExactAngleTextUptoCard

/-- THE SECOND FORM's CARD OF 'laws.FnExactPointText'. -/
def fnExactPointTextUptoCard : Claim7 := { stood := { row := fnExactPointTextUptoRow, standIns := [], harness := (true, "85a449c576d7ad4a19425396b134294e9d303428f5954405ff65bd5db3b243d4"), looks := true }, kinds := [], alts := [], laidByText := true, laidKinds := [.data, .data, .data], laidTests := true, laidLooks := .later }
def FnExactPointTextUptoCardSaid : Prop := Claim7.holds Tryd.pinned (.plain (OpenSpec.upto fnExactPointTextSpec)) fnExactPointTextUptoCard

/-- THE SECOND FORM's CARD OF 'laws.FnExactReadEllipsoid'. -/
def fnExactReadEllipsoidUptoCard : Claim7 := { stood := { row := fnExactReadEllipsoidUptoRow, standIns := [], harness := (true, "85a449c576d7ad4a19425396b134294e9d303428f5954405ff65bd5db3b243d4"), looks := true }, kinds := [], alts := [], laidByText := true, laidKinds := [.data, .data, .data, .sentinel, .sentinel], laidTests := true, laidLooks := .later }
def FnExactReadEllipsoidUptoCardSaid : Prop := Claim7.holds Tryd.pinned (.plain (OpenSpec.upto fnExactReadEllipsoidSpec)) fnExactReadEllipsoidUptoCard

/-- THE SECOND FORM's CARD OF 'laws.FnExactReadAngle'. -/
def fnExactReadAngleUptoCard : Claim7 := { stood := { row := fnExactReadAngleUptoRow, standIns := [], harness := (true, "85a449c576d7ad4a19425396b134294e9d303428f5954405ff65bd5db3b243d4"), looks := true }, kinds := [], alts := [], laidByText := true, laidKinds := [.data, .data, .data, .data, .pinned], laidTests := true, laidLooks := .later }
def FnExactReadAngleUptoCardSaid : Prop := Claim7.holds Tryd.pinned (.plain (OpenSpec.upto fnExactReadAngleSpec)) fnExactReadAngleUptoCard

/-- THE SECOND FORM's CARD OF 'laws.FnExactReadPoint'. -/
def fnExactReadPointUptoCard : Claim7 := { stood := { row := fnExactReadPointUptoRow, standIns := [], harness := (true, "85a449c576d7ad4a19425396b134294e9d303428f5954405ff65bd5db3b243d4"), looks := true }, kinds := [], alts := [], laidByText := true, laidKinds := [.data, .data, .data, .data, .pinned], laidTests := true, laidLooks := .later }
def FnExactReadPointUptoCardSaid : Prop := Claim7.holds Tryd.pinned (.plain (OpenSpec.upto fnExactReadPointSpec)) fnExactReadPointUptoCard
end Rows
end Go.Proofs.YtoncbpohjdackaaDoor

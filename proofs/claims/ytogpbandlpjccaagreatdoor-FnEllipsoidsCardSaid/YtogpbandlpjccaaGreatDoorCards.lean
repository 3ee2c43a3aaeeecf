/-
  DERIVED. GIVEN WITH THE SEED: THE CARDS: each row of YtogpbandlpjccaaGreatDoorRows.lean that lists a variable, with what it lists TIED to the program's text (the seventh form; the later family's looks); each row that meets fmt, with fmt's text TOLD by the authors' own Lean function (tested against real Go, not proved from fmt's source: count such statements apart). THE CARD IS WHAT COUNTS. Prove the row's statement (the work); the ties are given (YtogpbandlpjccaaGreatDoorTie.lean); close each card by the builder's one call (the guide's Derived/Test/ToyasCard.lean, 'card_holds'). Laid BY PROGRAM, IN A SANDBOX (cutbox-door.mjs). By AI agents, Wed Nov 11 2026. No macro, syntax, notation, axiom, sorry.
-/
import Derived.Test.YtogpbandlpjccaaGreatDoorRows
import GoSem.ClaimSeven
namespace Go.Proofs.YtogpbandlpjccaaGreatDoor
namespace Rows

/-- THE TIED CARD OF 'laws.FnLatitudes'. -/
def fnLatitudesCard : Claim7 := { stood := { row := fnLatitudesRow, standIns := [], harness := (true, "7126aaff38339a7bbe7637724bfdd5afed46376b17e9f3f16c5ea093ae6dd054"), looks := true }, kinds := [], alts := [], laidByText := true, laidKinds := [.widerDeep], laidTests := true, laidLooks := .later }
def FnLatitudesCardSaid : Prop := Claim7.holds Tryz.pinned (.plain (OpenSpec.ofChange fnLatitudesSpec)) fnLatitudesCard

/-- THE TIED CARD OF 'laws.FnPoints'. -/
def fnPointsCard : Claim7 := { stood := { row := fnPointsRow, standIns := [], harness := (true, "7126aaff38339a7bbe7637724bfdd5afed46376b17e9f3f16c5ea093ae6dd054"), looks := true }, kinds := [], alts := [], laidByText := true, laidKinds := [.data, .data, .data, .data, .pinned], laidTests := true, laidLooks := .later }
def FnPointsCardSaid : Prop := Claim7.holds Tryz.pinned (.plain (OpenSpec.ofChange fnPointsSpec)) fnPointsCard

/-- THE TIED CARD OF 'laws.FnEllipsoids'. -/
def fnEllipsoidsCard : Claim7 := { stood := { row := fnEllipsoidsRow, standIns := [], harness := (true, "7126aaff38339a7bbe7637724bfdd5afed46376b17e9f3f16c5ea093ae6dd054"), looks := true }, kinds := [], alts := [], laidByText := true, laidKinds := [.data, .data, .data, .sentinel, .sentinel], laidTests := true, laidLooks := .later }
def FnEllipsoidsCardSaid : Prop := Claim7.holds Tryz.pinned (.plain (OpenSpec.ofChange fnEllipsoidsSpec)) fnEllipsoidsCard

/-- THE SECOND FORM's CARD OF 'laws.FnLatitudes'. -/
def fnLatitudesUptoCard : Claim7 := { stood := { row := fnLatitudesUptoRow, standIns := [], harness := (true, "7126aaff38339a7bbe7637724bfdd5afed46376b17e9f3f16c5ea093ae6dd054"), looks := true }, kinds := [], alts := [], laidByText := true, laidKinds := [.widerDeep], laidTests := true, laidLooks := .later }
def FnLatitudesUptoCardSaid : Prop := Claim7.holds Tryz.pinned (.plain (OpenSpec.upto fnLatitudesSpec)) fnLatitudesUptoCard

/-- THE SECOND FORM's CARD OF 'laws.FnPoints'. -/
def fnPointsUptoCard : Claim7 := { stood := { row := fnPointsUptoRow, standIns := [], harness := (true, "7126aaff38339a7bbe7637724bfdd5afed46376b17e9f3f16c5ea093ae6dd054"), looks := true }, kinds := [], alts := [], laidByText := true, laidKinds := [.data, .data, .data, .data, .pinned], laidTests := true, laidLooks := .later }
def FnPointsUptoCardSaid : Prop := Claim7.holds Tryz.pinned (.plain (OpenSpec.upto fnPointsSpec)) fnPointsUptoCard

/-- THE SECOND FORM's CARD OF 'laws.FnEllipsoids'. -/
def fnEllipsoidsUptoCard : Claim7 := { stood := { row := fnEllipsoidsUptoRow, standIns := [], harness := (true, "7126aaff38339a7bbe7637724bfdd5afed46376b17e9f3f16c5ea093ae6dd054"), looks := true }, kinds := [], alts := [], laidByText := true, laidKinds := [.data, .data, .data, .sentinel, .sentinel], laidTests := true, laidLooks := .later }
def FnEllipsoidsUptoCardSaid : Prop := Claim7.holds Tryz.pinned (.plain (OpenSpec.upto fnEllipsoidsSpec)) fnEllipsoidsUptoCard
end Rows
end Go.Proofs.YtogpbandlpjccaaGreatDoor

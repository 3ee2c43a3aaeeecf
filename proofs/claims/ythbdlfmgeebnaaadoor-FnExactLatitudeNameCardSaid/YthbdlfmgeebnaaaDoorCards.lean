/-
  DERIVED. GIVEN WITH THE SEED: THE CARDS: each row of YthbdlfmgeebnaaaDoorRows.lean that lists a variable, with what it lists TIED to the program's text (the seventh form; the later family's looks); each row that meets fmt, with fmt's text TOLD by the authors' own Lean function (tested against real Go, not proved from fmt's source: count such statements apart). THE CARD IS WHAT COUNTS. Prove the row's statement (the work); the ties are given (YthbdlfmgeebnaaaDoorTie.lean); close each card by the builder's one call (the guide's Derived/Test/ToyasCard.lean, 'card_holds'). Laid BY PROGRAM, IN A SANDBOX (cutbox-door.mjs). By AI agents, Wed Nov 11 2026. No macro, syntax, notation, axiom, sorry.
-/
import Derived.Test.YthbdlfmgeebnaaaDoorRows
import GoSem.ClaimSeven
namespace Go.Proofs.YthbdlfmgeebnaaaDoor
namespace Rows

/-- THE TIED CARD OF 'laws.FnExactLatitudeName'. -/
def fnExactLatitudeNameCard : Claim7 := { stood := { row := fnExactLatitudeNameRow, standIns := [], harness := (true, "42b079e14dba304f59617502358b7189173207d00a7f56a01e162020e13f29e1"), looks := false }, kinds := [], alts := [], laidByText := true, laidKinds := [.widerDeep], laidTests := true, laidLooks := .later }
def FnExactLatitudeNameCardSaid : Prop := Claim7.holds Tryd.pinned (.plain (OpenSpec.ofChange fnExactLatitudeNameSpec)) fnExactLatitudeNameCard

/-- THE TIED CARD OF 'laws.FnExactLatitudeNamed'. -/
def fnExactLatitudeNamedCard : Claim7 := { stood := { row := fnExactLatitudeNamedRow, standIns := [], harness := (true, "42b079e14dba304f59617502358b7189173207d00a7f56a01e162020e13f29e1"), looks := false }, kinds := [], alts := [], laidByText := true, laidKinds := [.widerDeep], laidTests := true, laidLooks := .later }
def FnExactLatitudeNamedCardSaid : Prop := Claim7.holds Tryd.pinned (.plain (OpenSpec.ofChange fnExactLatitudeNamedSpec)) fnExactLatitudeNamedCard

/-- THE SECOND FORM's CARD OF 'laws.FnExactLatitudeName'. -/
def fnExactLatitudeNameUptoCard : Claim7 := { stood := { row := fnExactLatitudeNameUptoRow, standIns := [], harness := (true, "42b079e14dba304f59617502358b7189173207d00a7f56a01e162020e13f29e1"), looks := false }, kinds := [], alts := [], laidByText := true, laidKinds := [.widerDeep], laidTests := true, laidLooks := .later }
def FnExactLatitudeNameUptoCardSaid : Prop := Claim7.holds Tryd.pinned (.plain (OpenSpec.upto fnExactLatitudeNameSpec)) fnExactLatitudeNameUptoCard

/-- THE SECOND FORM's CARD OF 'laws.FnExactLatitudeNamed'. -/
def fnExactLatitudeNamedUptoCard : Claim7 := { stood := { row := fnExactLatitudeNamedUptoRow, standIns := [], harness := (true, "42b079e14dba304f59617502358b7189173207d00a7f56a01e162020e13f29e1"), looks := false }, kinds := [], alts := [], laidByText := true, laidKinds := [.widerDeep], laidTests := true, laidLooks := .later }
def FnExactLatitudeNamedUptoCardSaid : Prop := Claim7.holds Tryd.pinned (.plain (OpenSpec.upto fnExactLatitudeNamedSpec)) fnExactLatitudeNamedUptoCard
end Rows
end Go.Proofs.YthbdlfmgeebnaaaDoor

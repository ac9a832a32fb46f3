/-
  DERIVED. GIVEN WITH THE SEED: THE CARDS: each row of YteilijfligofdaaGreatDoorRows.lean that lists a variable, with what it lists TIED to the program's text (the seventh form; the later family's looks); each row that meets fmt, with fmt's text TOLD by the authors' own Lean function (tested against real Go, not proved from fmt's source: count such statements apart). THE CARD IS WHAT COUNTS. Prove the row's statement (the work); the ties are given (YteilijfligofdaaGreatDoorTie.lean); close each card by the builder's one call (the guide's Derived/Test/ToyasCard.lean, 'card_holds'). Laid BY PROGRAM, IN A SANDBOX (cutbox-door.mjs). By AI agents, Wed Nov 11 2026. No macro, syntax, notation, axiom, sorry.
-/
import Derived.Test.YteilijfligofdaaGreatDoorRows
import GoSem.ClaimSeven
namespace Go.Proofs.YteilijfligofdaaGreatDoor
namespace Rows

/-- THE TIED CARD OF 'laws.FnExp'. -/
def fnExpCard : Claim7 := { stood := { row := fnExpRow, standIns := [], harness := (true, "9313e0e47b907ff7fbe083c26c8a953d73a6ed8feb6e5e62face660d460dbc99"), looks := true }, kinds := [], alts := [], laidByText := true, laidKinds := [.data, .data, .data, .sentinel, .sentinel], laidTests := true, laidLooks := .later }
def FnExpCardSaid : Prop := Claim7.holds Tryz.pinned (.plain (OpenSpec.ofChange fnExpSpec)) fnExpCard

/-- THE TIED CARD OF 'laws.FnPrinted'. -/
def fnPrintedCard : Claim7 := { stood := { row := fnPrintedRow, standIns := [], harness := (true, "9313e0e47b907ff7fbe083c26c8a953d73a6ed8feb6e5e62face660d460dbc99"), looks := true }, kinds := [], alts := [], laidByText := true, laidKinds := [.data, .data, .data, .sentinel, .sentinel], laidTests := true, laidLooks := .later }
def FnPrintedCardSaid : Prop := Claim7.holds Tryz.pinned (.plain (OpenSpec.ofChange fnPrintedSpec)) fnPrintedCard

/-- THE SECOND FORM's CARD OF 'laws.FnExp'. -/
def fnExpUptoCard : Claim7 := { stood := { row := fnExpUptoRow, standIns := [], harness := (true, "9313e0e47b907ff7fbe083c26c8a953d73a6ed8feb6e5e62face660d460dbc99"), looks := true }, kinds := [], alts := [], laidByText := true, laidKinds := [.data, .data, .data, .sentinel, .sentinel], laidTests := true, laidLooks := .later }
def FnExpUptoCardSaid : Prop := Claim7.holds Tryz.pinned (.plain (OpenSpec.upto fnExpSpec)) fnExpUptoCard

/-- THE SECOND FORM's CARD OF 'laws.FnPrinted'. -/
def fnPrintedUptoCard : Claim7 := { stood := { row := fnPrintedUptoRow, standIns := [], harness := (true, "9313e0e47b907ff7fbe083c26c8a953d73a6ed8feb6e5e62face660d460dbc99"), looks := true }, kinds := [], alts := [], laidByText := true, laidKinds := [.data, .data, .data, .sentinel, .sentinel], laidTests := true, laidLooks := .later }
def FnPrintedUptoCardSaid : Prop := Claim7.holds Tryz.pinned (.plain (OpenSpec.upto fnPrintedSpec)) fnPrintedUptoCard
end Rows
end Go.Proofs.YteilijfligofdaaGreatDoor

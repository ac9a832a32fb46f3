/-
  DERIVED. GIVEN WITH THE SEED: THE CARDS: each row of YtghcmccjchdgeaaGreatDoorRows.lean that lists a variable, with what it lists TIED to the program's text (the seventh form; the later family's looks); each row that meets fmt, with fmt's text TOLD by the authors' own Lean function (tested against real Go, not proved from fmt's source: count such statements apart). THE CARD IS WHAT COUNTS. Prove the row's statement (the work); the ties are given (YtghcmccjchdgeaaGreatDoorTie.lean); close each card by the builder's one call (the guide's Derived/Test/ToyasCard.lean, 'card_holds'). Laid BY PROGRAM, IN A SANDBOX (cutbox-door.mjs). By AI agents, Wed Nov 11 2026. No macro, syntax, notation, axiom, sorry.
-/
import Derived.Test.YtghcmccjchdgeaaGreatDoorRows
import GoSem.ClaimSeven
namespace Go.Proofs.YtghcmccjchdgeaaGreatDoor
namespace Rows

/-- THE TIED CARD OF 'laws.FnExactParseExp'. -/
def fnExactParseExpCard : Claim7 := { stood := { row := fnExactParseExpRow, standIns := [], harness := (true, "e61cb0a5463726e11866f42843fa4fca442201f050edd9d7534a2ddb65df076a"), looks := true }, kinds := [], alts := [], laidByText := true, laidKinds := [.data, .data, .data, .sentinel, .sentinel], laidTests := true, laidLooks := .later }
def FnExactParseExpCardSaid : Prop := Claim7.holds Tryz.pinned (.plain (OpenSpec.ofChange fnExactParseExpSpec)) fnExactParseExpCard

/-- THE TIED CARD OF 'laws.FnExactParse'. -/
def fnExactParseCard : Claim7 := { stood := { row := fnExactParseRow, standIns := [], harness := (true, "e61cb0a5463726e11866f42843fa4fca442201f050edd9d7534a2ddb65df076a"), looks := true }, kinds := [], alts := [], laidByText := true, laidKinds := [.data, .data, .data, .sentinel, .sentinel], laidTests := true, laidLooks := .later }
def FnExactParseCardSaid : Prop := Claim7.holds Tryz.pinned (.plain (OpenSpec.ofChange fnExactParseSpec)) fnExactParseCard

/-- THE TIED CARD OF 'laws.FnExactFormat'. -/
def fnExactFormatCard : Claim7 := { stood := { row := fnExactFormatRow, standIns := [], harness := (true, "e61cb0a5463726e11866f42843fa4fca442201f050edd9d7534a2ddb65df076a"), looks := true }, kinds := [], alts := [], laidByText := true, laidKinds := [.data, .data, .data, .sentinel, .sentinel], laidTests := true, laidLooks := .later }
def FnExactFormatCardSaid : Prop := Claim7.holds Tryz.pinned (.plain (OpenSpec.ofChange fnExactFormatSpec)) fnExactFormatCard

/-- THE TIED CARD OF 'laws.FnExactNest'. -/
def fnExactNestCard : Claim7 := { stood := { row := fnExactNestRow, standIns := [], harness := (true, "e61cb0a5463726e11866f42843fa4fca442201f050edd9d7534a2ddb65df076a"), looks := true }, kinds := [], alts := [], laidByText := true, laidKinds := [.data, .data, .data, .sentinel, .sentinel], laidTests := true, laidLooks := .later }
def FnExactNestCardSaid : Prop := Claim7.holds Tryz.pinned (.plain (OpenSpec.ofChange fnExactNestSpec)) fnExactNestCard

/-- THE SECOND FORM's CARD OF 'laws.FnExactParseExp'. -/
def fnExactParseExpUptoCard : Claim7 := { stood := { row := fnExactParseExpUptoRow, standIns := [], harness := (true, "e61cb0a5463726e11866f42843fa4fca442201f050edd9d7534a2ddb65df076a"), looks := true }, kinds := [], alts := [], laidByText := true, laidKinds := [.data, .data, .data, .sentinel, .sentinel], laidTests := true, laidLooks := .later }
def FnExactParseExpUptoCardSaid : Prop := Claim7.holds Tryz.pinned (.plain (OpenSpec.upto fnExactParseExpSpec)) fnExactParseExpUptoCard

/-- THE SECOND FORM's CARD OF 'laws.FnExactParse'. -/
def fnExactParseUptoCard : Claim7 := { stood := { row := fnExactParseUptoRow, standIns := [], harness := (true, "e61cb0a5463726e11866f42843fa4fca442201f050edd9d7534a2ddb65df076a"), looks := true }, kinds := [], alts := [], laidByText := true, laidKinds := [.data, .data, .data, .sentinel, .sentinel], laidTests := true, laidLooks := .later }
def FnExactParseUptoCardSaid : Prop := Claim7.holds Tryz.pinned (.plain (OpenSpec.upto fnExactParseSpec)) fnExactParseUptoCard

/-- THE SECOND FORM's CARD OF 'laws.FnExactFormat'. -/
def fnExactFormatUptoCard : Claim7 := { stood := { row := fnExactFormatUptoRow, standIns := [], harness := (true, "e61cb0a5463726e11866f42843fa4fca442201f050edd9d7534a2ddb65df076a"), looks := true }, kinds := [], alts := [], laidByText := true, laidKinds := [.data, .data, .data, .sentinel, .sentinel], laidTests := true, laidLooks := .later }
def FnExactFormatUptoCardSaid : Prop := Claim7.holds Tryz.pinned (.plain (OpenSpec.upto fnExactFormatSpec)) fnExactFormatUptoCard

/-- THE SECOND FORM's CARD OF 'laws.FnExactNest'. -/
def fnExactNestUptoCard : Claim7 := { stood := { row := fnExactNestUptoRow, standIns := [], harness := (true, "e61cb0a5463726e11866f42843fa4fca442201f050edd9d7534a2ddb65df076a"), looks := true }, kinds := [], alts := [], laidByText := true, laidKinds := [.data, .data, .data, .sentinel, .sentinel], laidTests := true, laidLooks := .later }
def FnExactNestUptoCardSaid : Prop := Claim7.holds Tryz.pinned (.plain (OpenSpec.upto fnExactNestSpec)) fnExactNestUptoCard
end Rows
end Go.Proofs.YtghcmccjchdgeaaGreatDoor

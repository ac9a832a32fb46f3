/-
  DERIVED. GIVEN WITH THE SEED: THE CARDS: each row of YtjkbbnfdbfcebaaGreatDoorRows.lean that lists a variable, with what it lists TIED to the program's text (the seventh form; the later family's looks); each row that meets fmt, with fmt's text TOLD by the authors' own Lean function (tested against real Go, not proved from fmt's source: count such statements apart). THE CARD IS WHAT COUNTS. Prove the row's statement (the work); the ties are given (YtjkbbnfdbfcebaaGreatDoorTie.lean); close each card by the builder's one call (the guide's Derived/Test/ToyasCard.lean, 'card_holds'). Laid BY PROGRAM, IN A SANDBOX (cutbox-door.mjs). By AI agents, Wed Nov 11 2026. No macro, syntax, notation, axiom, sorry.
-/
import Derived.Test.YtjkbbnfdbfcebaaGreatDoorRows
import GoSem.ClaimSeven
namespace Go.Proofs.YtjkbbnfdbfcebaaGreatDoor
namespace Rows

/-- THE TIED CARD OF 'laws.FnExactNest'. -/
def fnExactNestCard : Claim7 := { stood := { row := fnExactNestRow, standIns := [], harness := (true, "4424a5ab3d476dc9dc51453033bbd79a41e029a5e8e04f17995c3241e6c5af1d"), looks := true }, kinds := [], alts := [], laidByText := true, laidKinds := [.data, .data, .data, .sentinel, .sentinel], laidTests := true, laidLooks := .later }
def FnExactNestCardSaid : Prop := Claim7.holds Tryz.pinned (.plain (OpenSpec.ofChange fnExactNestSpec)) fnExactNestCard

/-- THE SECOND FORM's CARD OF 'laws.FnExactNest'. -/
def fnExactNestUptoCard : Claim7 := { stood := { row := fnExactNestUptoRow, standIns := [], harness := (true, "4424a5ab3d476dc9dc51453033bbd79a41e029a5e8e04f17995c3241e6c5af1d"), looks := true }, kinds := [], alts := [], laidByText := true, laidKinds := [.data, .data, .data, .sentinel, .sentinel], laidTests := true, laidLooks := .later }
def FnExactNestUptoCardSaid : Prop := Claim7.holds Tryz.pinned (.plain (OpenSpec.upto fnExactNestSpec)) fnExactNestUptoCard
end Rows
end Go.Proofs.YtjkbbnfdbfcebaaGreatDoor

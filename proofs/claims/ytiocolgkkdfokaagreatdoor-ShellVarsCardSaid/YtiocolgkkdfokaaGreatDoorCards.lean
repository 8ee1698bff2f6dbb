/-
  DERIVED. GIVEN WITH THE SEED: THE CARDS: each row of YtiocolgkkdfokaaGreatDoorRows.lean that lists a variable, with what it lists TIED to the program's text (the seventh form; the later family's looks); each row that meets fmt, with fmt's text TOLD by the authors' own Lean function (tested against real Go, not proved from fmt's source: count such statements apart). THE CARD IS WHAT COUNTS. Prove the row's statement (the work); the ties are given (YtiocolgkkdfokaaGreatDoorTie.lean); close each card by the builder's one call (the guide's Derived/Test/ToyasCard.lean, 'card_holds'). Laid BY PROGRAM, IN A SANDBOX (cutbox-door.mjs). By AI agents, Wed Nov 11 2026. No macro, syntax, notation, axiom, sorry.
-/
import Derived.Test.YtiocolgkkdfokaaGreatDoorRows
import GoSem.ClaimSeven
namespace Go.Proofs.YtiocolgkkdfokaaGreatDoor
namespace Rows

/-- THE TIED CARD OF 'milllaw16.ShellVars'. -/
def shellVarsCard : Claim7 := { stood := { row := shellVarsRow, standIns := [], harness := (true, "7983fc8fdd21f657328f2ccbdcc68e47452337d162b6f033bb67185353e7e35b"), looks := true }, kinds := [], alts := [], goes := true, laidByText := true, laidKinds := [.data, .data, .data, .data, .data, .data, .data, .data, .data, .widerDeep, .data, .widerDeep, .pinned], laidTests := true, laidLooks := .later }
def ShellVarsCardSaid : Prop := Claim7.holds Tryz.pinned (.plain (OpenSpec.ofChange shellVarsSpec)) shellVarsCard

/-- THE TIED CARD OF 'milllaw16.ShellNothing'. -/
def shellNothingCard : Claim7 := { stood := { row := shellNothingRow, standIns := [], harness := (true, "7983fc8fdd21f657328f2ccbdcc68e47452337d162b6f033bb67185353e7e35b"), looks := true }, kinds := [], alts := [], goes := true, laidByText := true, laidKinds := [.data, .data, .data, .data, .data, .data, .data, .data, .data, .widerDeep, .data, .widerDeep, .pinned], laidTests := true, laidLooks := .later }
def ShellNothingCardSaid : Prop := Claim7.holds Tryz.pinned (.plain (OpenSpec.ofChange shellNothingSpec)) shellNothingCard
end Rows
end Go.Proofs.YtiocolgkkdfokaaGreatDoor

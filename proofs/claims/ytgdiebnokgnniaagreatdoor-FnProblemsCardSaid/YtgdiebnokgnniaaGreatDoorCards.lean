/-
  DERIVED. GIVEN WITH THE SEED: THE CARDS: each row of YtgdiebnokgnniaaGreatDoorRows.lean that lists a variable, with what it lists TIED to the program's text (the seventh form; the later family's looks); each row that meets fmt, with fmt's text TOLD by the authors' own Lean function (tested against real Go, not proved from fmt's source: count such statements apart). THE CARD IS WHAT COUNTS. Prove the row's statement (the work); the ties are given (YtgdiebnokgnniaaGreatDoorTie.lean); close each card by the builder's one call (the guide's Derived/Test/ToyasCard.lean, 'card_holds'). Laid BY PROGRAM, IN A SANDBOX (cutbox-door.mjs). By AI agents, Wed Nov 11 2026. No macro, syntax, notation, axiom, sorry.
-/
import Derived.Test.YtgdiebnokgnniaaGreatDoorRows
import GoSem.ClaimSeven
namespace Go.Proofs.YtgdiebnokgnniaaGreatDoor
namespace Rows

/-- THE TIED CARD OF 'laws.FnProblems'. -/
def fnProblemsCard : Claim7 := { stood := { row := fnProblemsRow, standIns := [], harness := (true, "3e8d2e05560fc55200e16d22ccde3f977f872278d2ef81e968c61e3c6ad62099"), looks := true }, kinds := [], alts := [], laidByText := true, laidKinds := [.data, .data, .data, .data, .sentinel, .sentinel, .pinned], laidTests := true, laidLooks := .later }
def FnProblemsCardSaid : Prop := Claim7.holds Tryz.pinned (.plain (OpenSpec.ofChange fnProblemsSpec)) fnProblemsCard

/-- THE SECOND FORM's CARD OF 'laws.FnProblems'. -/
def fnProblemsUptoCard : Claim7 := { stood := { row := fnProblemsUptoRow, standIns := [], harness := (true, "3e8d2e05560fc55200e16d22ccde3f977f872278d2ef81e968c61e3c6ad62099"), looks := true }, kinds := [], alts := [], laidByText := true, laidKinds := [.data, .data, .data, .data, .sentinel, .sentinel, .pinned], laidTests := true, laidLooks := .later }
def FnProblemsUptoCardSaid : Prop := Claim7.holds Tryz.pinned (.plain (OpenSpec.upto fnProblemsSpec)) fnProblemsUptoCard
end Rows
end Go.Proofs.YtgdiebnokgnniaaGreatDoor

/-
  DERIVED. GIVEN WITH THE SEED: THE CARDS: each row of YtgadojhdajmidaaGreatDoorRows.lean that lists a variable, with what it lists TIED to the program's text (the seventh form; the later family's looks); each row that meets fmt, with fmt's text TOLD by the authors' own Lean function (tested against real Go, not proved from fmt's source: count such statements apart). THE CARD IS WHAT COUNTS. Prove the row's statement (the work); the ties are given (YtgadojhdajmidaaGreatDoorTie.lean); close each card by the builder's one call (the guide's Derived/Test/ToyasCard.lean, 'card_holds'). Laid BY PROGRAM, IN A SANDBOX (cutbox-door.mjs). By AI agents, Wed Nov 11 2026. No macro, syntax, notation, axiom, sorry.
-/
import Derived.Test.YtgadojhdajmidaaGreatDoorRows
import GoSem.ClaimSeven
namespace Go.Proofs.YtgadojhdajmidaaGreatDoor
namespace Rows

/-- THE TIED CARD OF 'regletlaw24.ToldNames'. -/
def toldNamesCard : Claim7 := { stood := { row := toldNamesRow, standIns := [], harness := (true, "e2d334343e772fa87fe170ef9e57054e7d0adf666c2782cb2fe8a4a0c4e02e27"), looks := true }, kinds := [], alts := [], laidByText := true, laidKinds := [.data, .data, .data, .data, .pinned], laidTests := true, laidLooks := .later }
def ToldNamesCardSaid : Prop := Claim7.holds Tryz.pinned (.plain (OpenSpec.ofChange toldNamesSpec)) toldNamesCard

/-- THE SECOND FORM's CARD OF 'regletlaw24.ToldNames'. -/
def toldNamesUptoCard : Claim7 := { stood := { row := toldNamesUptoRow, standIns := [], harness := (true, "e2d334343e772fa87fe170ef9e57054e7d0adf666c2782cb2fe8a4a0c4e02e27"), looks := true }, kinds := [], alts := [], laidByText := true, laidKinds := [.data, .data, .data, .data, .pinned], laidTests := true, laidLooks := .later }
def ToldNamesUptoCardSaid : Prop := Claim7.holds Tryz.pinned (.plain (OpenSpec.upto toldNamesSpec)) toldNamesUptoCard
end Rows
end Go.Proofs.YtgadojhdajmidaaGreatDoor

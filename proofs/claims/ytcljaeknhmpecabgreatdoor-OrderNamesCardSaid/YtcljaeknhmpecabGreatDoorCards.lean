/-
  DERIVED. GIVEN WITH THE SEED: THE CARDS: each row of YtcljaeknhmpecabGreatDoorRows.lean that lists a variable, with what it lists TIED to the program's text (the seventh form; the later family's looks); each row that meets fmt, with fmt's text TOLD by the authors' own Lean function (tested against real Go, not proved from fmt's source: count such statements apart). THE CARD IS WHAT COUNTS. Prove the row's statement (the work); the ties are given (YtcljaeknhmpecabGreatDoorTie.lean); close each card by the builder's one call (the guide's Derived/Test/ToyasCard.lean, 'card_holds'). Laid BY PROGRAM, IN A SANDBOX (cutbox-door.mjs). By AI agents, Wed Nov 11 2026. No macro, syntax, notation, axiom, sorry.
-/
import Derived.Test.YtcljaeknhmpecabGreatDoorRows
import GoSem.ClaimSeven
namespace Go.Proofs.YtcljaeknhmpecabGreatDoor
namespace Rows

/-- THE TIED CARD OF 'dripstonelaw03.OrderNames'. -/
def orderNamesCard : Claim7 := { stood := { row := orderNamesRow, standIns := [], harness := (true, "e7f7cf9d227bdeea55f21451bf79ee2a0393e3b9922daa3b76af1a3c5a673d22"), looks := false }, kinds := [], alts := [], laidByText := true, laidKinds := [.data, .pinned], laidTests := true, laidLooks := .later }
def OrderNamesCardSaid : Prop := Claim7.holds Tryz.pinned (.plain (OpenSpec.ofChange orderNamesSpec)) orderNamesCard

/-- THE SECOND FORM's CARD OF 'dripstonelaw03.OrderNames'. -/
def orderNamesUptoCard : Claim7 := { stood := { row := orderNamesUptoRow, standIns := [], harness := (true, "e7f7cf9d227bdeea55f21451bf79ee2a0393e3b9922daa3b76af1a3c5a673d22"), looks := false }, kinds := [], alts := [], laidByText := true, laidKinds := [.data, .pinned], laidTests := true, laidLooks := .later }
def OrderNamesUptoCardSaid : Prop := Claim7.holds Tryz.pinned (.plain (OpenSpec.upto orderNamesSpec)) orderNamesUptoCard
end Rows
end Go.Proofs.YtcljaeknhmpecabGreatDoor

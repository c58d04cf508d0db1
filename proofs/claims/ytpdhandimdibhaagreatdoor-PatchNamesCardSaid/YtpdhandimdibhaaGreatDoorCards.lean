/-
  DERIVED. GIVEN WITH THE SEED: THE CARDS: each row of YtpdhandimdibhaaGreatDoorRows.lean that lists a variable, with what it lists TIED to the program's text (the seventh form; the later family's looks); each row that meets fmt, with fmt's text TOLD by the authors' own Lean function (tested against real Go, not proved from fmt's source: count such statements apart). THE CARD IS WHAT COUNTS. Prove the row's statement (the work); the ties are given (YtpdhandimdibhaaGreatDoorTie.lean); close each card by the builder's one call (the guide's Derived/Test/ToyasCard.lean, 'card_holds'). Laid BY PROGRAM, IN A SANDBOX (cutbox-door.mjs). By AI agents, Wed Nov 11 2026. No macro, syntax, notation, axiom, sorry.
-/
import Derived.Test.YtpdhandimdibhaaGreatDoorRows
import GoSem.ClaimSeven
namespace Go.Proofs.YtpdhandimdibhaaGreatDoor
namespace Rows

/-- THE TIED CARD OF 'wordbooklaw17.PatchNames'. -/
def patchNamesCard : Claim7 := { stood := { row := patchNamesRow, standIns := [], harness := (true, "d473d13f83be3ba8ac4dc3585d5c1461b5cb07ec160fd27faa15effd267df8de"), looks := false }, kinds := [], alts := [], laidByText := true, laidKinds := [.data], laidTests := true, laidLooks := .later }
def PatchNamesCardSaid : Prop := Claim7.holds Tryz.pinned (.plain (OpenSpec.ofChange patchNamesSpec)) patchNamesCard

/-- THE SECOND FORM's CARD OF 'wordbooklaw17.PatchNames'. -/
def patchNamesUptoCard : Claim7 := { stood := { row := patchNamesUptoRow, standIns := [], harness := (true, "d473d13f83be3ba8ac4dc3585d5c1461b5cb07ec160fd27faa15effd267df8de"), looks := false }, kinds := [], alts := [], laidByText := true, laidKinds := [.data], laidTests := true, laidLooks := .later }
def PatchNamesUptoCardSaid : Prop := Claim7.holds Tryz.pinned (.plain (OpenSpec.upto patchNamesSpec)) patchNamesUptoCard
end Rows
end Go.Proofs.YtpdhandimdibhaaGreatDoor

/-
  DERIVED. GIVEN WITH THE SEED: THE CARDS: each row of YtoeckfegggongaaGreatDoorRows.lean that lists a variable, with what it lists TIED to the program's text (the seventh form; the later family's looks); each row that meets fmt, with fmt's text TOLD by the authors' own Lean function (tested against real Go, not proved from fmt's source: count such statements apart). THE CARD IS WHAT COUNTS. Prove the row's statement (the work); the ties are given (YtoeckfegggongaaGreatDoorTie.lean); close each card by the builder's one call (the guide's Derived/Test/ToyasCard.lean, 'card_holds'). Laid BY PROGRAM, IN A SANDBOX (cutbox-door.mjs). By AI agents, Wed Nov 11 2026. No macro, syntax, notation, axiom, sorry.
-/
import Derived.Test.YtoeckfegggongaaGreatDoorRows
import GoSem.ClaimSeven
namespace Go.Proofs.YtoeckfegggongaaGreatDoor
namespace Rows

/-- THE TIED CARD OF 'wordbooklaw17.PatchValid'. -/
def patchValidCard : Claim7 := { stood := { row := patchValidRow, standIns := [], harness := (true, "e91bf45215bbe9914f8eb7b096f27b466e115d5c112655232bc52bcbd3439893"), looks := false }, kinds := [], alts := [], laidByText := true, laidKinds := [.data], laidTests := true, laidLooks := .later }
def PatchValidCardSaid : Prop := Claim7.holds Tryz.pinned (.plain (OpenSpec.ofChange patchValidSpec)) patchValidCard

/-- THE TIED CARD OF 'wordbooklaw17.PatchEncodes'. -/
def patchEncodesCard : Claim7 := { stood := { row := patchEncodesRow, standIns := [], harness := (true, "e91bf45215bbe9914f8eb7b096f27b466e115d5c112655232bc52bcbd3439893"), looks := false }, kinds := [], alts := [], laidByText := true, laidKinds := [.data], laidTests := true, laidLooks := .later }
def PatchEncodesCardSaid : Prop := Claim7.holds Tryz.pinned (.plain (OpenSpec.ofChange patchEncodesSpec)) patchEncodesCard

/-- THE SECOND FORM's CARD OF 'wordbooklaw17.PatchValid'. -/
def patchValidUptoCard : Claim7 := { stood := { row := patchValidUptoRow, standIns := [], harness := (true, "e91bf45215bbe9914f8eb7b096f27b466e115d5c112655232bc52bcbd3439893"), looks := false }, kinds := [], alts := [], laidByText := true, laidKinds := [.data], laidTests := true, laidLooks := .later }
def PatchValidUptoCardSaid : Prop := Claim7.holds Tryz.pinned (.plain (OpenSpec.upto patchValidSpec)) patchValidUptoCard

/-- THE SECOND FORM's CARD OF 'wordbooklaw17.PatchEncodes'. -/
def patchEncodesUptoCard : Claim7 := { stood := { row := patchEncodesUptoRow, standIns := [], harness := (true, "e91bf45215bbe9914f8eb7b096f27b466e115d5c112655232bc52bcbd3439893"), looks := false }, kinds := [], alts := [], laidByText := true, laidKinds := [.data], laidTests := true, laidLooks := .later }
def PatchEncodesUptoCardSaid : Prop := Claim7.holds Tryz.pinned (.plain (OpenSpec.upto patchEncodesSpec)) patchEncodesUptoCard
end Rows
end Go.Proofs.YtoeckfegggongaaGreatDoor

/-
  DERIVED. GIVEN WITH THE SEED: THE CARDS: each row of YtoeckfegggongaaDoorRows.lean that lists a variable, with what it lists TIED to the program's text (the seventh form; the later family's looks); each row that meets fmt, with fmt's text TOLD by the authors' own Lean function (tested against real Go, not proved from fmt's source: count such statements apart). THE CARD IS WHAT COUNTS. Prove the row's statement (the work); the ties are given (YtoeckfegggongaaDoorTie.lean); close each card by the builder's one call (the guide's Derived/Test/ToyasCard.lean, 'card_holds'). Laid BY PROGRAM, IN A SANDBOX (cutbox-door.mjs). By AI agents, Wed Nov 11 2026. No macro, syntax, notation, axiom, sorry.
-/
import Derived.Test.YtoeckfegggongaaDoorRows
import GoSem.ClaimSeven
namespace Go.Proofs.YtoeckfegggongaaDoor
namespace Rows

/-- THE TIED CARD OF 'wordbooklaw17.PatchRoundTrip'. -/
def patchRoundTripCard : Claim7 := { stood := { row := patchRoundTripRow, standIns := [], harness := (true, "dc5613fe6d77948b770a360f294e652841172df86a8c60e0a3e281a72861b035"), looks := false }, kinds := [], alts := [], laidByText := true, laidKinds := [.data], laidTests := true, laidLooks := .later }
def PatchRoundTripCardSaid : Prop := Claim7.holds Tryd.pinned (.plain (OpenSpec.ofChange patchRoundTripSpec)) patchRoundTripCard

/-- THE SECOND FORM's CARD OF 'wordbooklaw17.PatchRoundTrip'. -/
def patchRoundTripUptoCard : Claim7 := { stood := { row := patchRoundTripUptoRow, standIns := [], harness := (true, "dc5613fe6d77948b770a360f294e652841172df86a8c60e0a3e281a72861b035"), looks := false }, kinds := [], alts := [], laidByText := true, laidKinds := [.data], laidTests := true, laidLooks := .later }
def PatchRoundTripUptoCardSaid : Prop := Claim7.holds Tryd.pinned (.plain (OpenSpec.upto patchRoundTripSpec)) patchRoundTripUptoCard
end Rows
end Go.Proofs.YtoeckfegggongaaDoor

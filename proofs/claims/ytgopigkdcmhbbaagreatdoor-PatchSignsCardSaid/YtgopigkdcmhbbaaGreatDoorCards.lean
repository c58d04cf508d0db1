/-
  DERIVED. GIVEN WITH THE SEED: THE CARDS: each row of YtgopigkdcmhbbaaGreatDoorRows.lean that lists a variable, with what it lists TIED to the program's text (the seventh form; the later family's looks); each row that meets fmt, with fmt's text TOLD by the authors' own Lean function (tested against real Go, not proved from fmt's source: count such statements apart). THE CARD IS WHAT COUNTS. Prove the row's statement (the work); the ties are given (YtgopigkdcmhbbaaGreatDoorTie.lean); close each card by the builder's one call (the guide's Derived/Test/ToyasCard.lean, 'card_holds'). Laid BY PROGRAM, IN A SANDBOX (cutbox-door.mjs). By AI agents, Wed Nov 11 2026. No macro, syntax, notation, axiom, sorry.
-/
import Derived.Test.YtgopigkdcmhbbaaGreatDoorRows
import GoSem.ClaimSeven
namespace Go.Proofs.YtgopigkdcmhbbaaGreatDoor
namespace Rows

/-- THE TIED CARD OF 'wordbooklaw17.PatchKeys'. -/
def patchKeysCard : Claim7 := { stood := { row := patchKeysRow, standIns := [], harness := (true, "64d9e5976f1f7cef861ac7958ba5c0ce04d7cee822a3a7026b747aec0c6beb15"), looks := false }, kinds := [], alts := [], laidByText := true, laidKinds := [.data, .data], laidTests := true, laidLooks := .later }
def PatchKeysCardSaid : Prop := Claim7.holds Tryz.pinned (.plain (OpenSpec.ofChange patchKeysSpec)) patchKeysCard

/-- THE TIED CARD OF 'wordbooklaw17.PatchSigns'. -/
def patchSignsCard : Claim7 := { stood := { row := patchSignsRow, standIns := [], harness := (true, "64d9e5976f1f7cef861ac7958ba5c0ce04d7cee822a3a7026b747aec0c6beb15"), looks := false }, kinds := [], alts := [], laidByText := true, laidKinds := [.data, .data], laidTests := true, laidLooks := .later }
def PatchSignsCardSaid : Prop := Claim7.holds Tryz.pinned (.plain (OpenSpec.ofChange patchSignsSpec)) patchSignsCard

/-- THE TIED CARD OF 'wordbooklaw17.PatchSealed'. -/
def patchSealedCard : Claim7 := { stood := { row := patchSealedRow, standIns := [], harness := (true, "64d9e5976f1f7cef861ac7958ba5c0ce04d7cee822a3a7026b747aec0c6beb15"), looks := false }, kinds := [], alts := [], laidByText := true, laidKinds := [.data, .data], laidTests := true, laidLooks := .later }
def PatchSealedCardSaid : Prop := Claim7.holds Tryz.pinned (.plain (OpenSpec.ofChange patchSealedSpec)) patchSealedCard

/-- THE SECOND FORM's CARD OF 'wordbooklaw17.PatchKeys'. -/
def patchKeysUptoCard : Claim7 := { stood := { row := patchKeysUptoRow, standIns := [], harness := (true, "64d9e5976f1f7cef861ac7958ba5c0ce04d7cee822a3a7026b747aec0c6beb15"), looks := false }, kinds := [], alts := [], laidByText := true, laidKinds := [.data, .data], laidTests := true, laidLooks := .later }
def PatchKeysUptoCardSaid : Prop := Claim7.holds Tryz.pinned (.plain (OpenSpec.upto patchKeysSpec)) patchKeysUptoCard

/-- THE SECOND FORM's CARD OF 'wordbooklaw17.PatchSigns'. -/
def patchSignsUptoCard : Claim7 := { stood := { row := patchSignsUptoRow, standIns := [], harness := (true, "64d9e5976f1f7cef861ac7958ba5c0ce04d7cee822a3a7026b747aec0c6beb15"), looks := false }, kinds := [], alts := [], laidByText := true, laidKinds := [.data, .data], laidTests := true, laidLooks := .later }
def PatchSignsUptoCardSaid : Prop := Claim7.holds Tryz.pinned (.plain (OpenSpec.upto patchSignsSpec)) patchSignsUptoCard

/-- THE SECOND FORM's CARD OF 'wordbooklaw17.PatchSealed'. -/
def patchSealedUptoCard : Claim7 := { stood := { row := patchSealedUptoRow, standIns := [], harness := (true, "64d9e5976f1f7cef861ac7958ba5c0ce04d7cee822a3a7026b747aec0c6beb15"), looks := false }, kinds := [], alts := [], laidByText := true, laidKinds := [.data, .data], laidTests := true, laidLooks := .later }
def PatchSealedUptoCardSaid : Prop := Claim7.holds Tryz.pinned (.plain (OpenSpec.upto patchSealedSpec)) patchSealedUptoCard
end Rows
end Go.Proofs.YtgopigkdcmhbbaaGreatDoor

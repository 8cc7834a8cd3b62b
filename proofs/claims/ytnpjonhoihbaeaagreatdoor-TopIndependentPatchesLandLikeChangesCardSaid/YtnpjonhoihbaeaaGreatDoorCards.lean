/-
  DERIVED. GIVEN WITH THE SEED: THE CARDS: each row of YtnpjonhoihbaeaaGreatDoorRows.lean that lists a variable, with what it lists TIED to the program's text (the seventh form; the later family's looks); each row that meets fmt, with fmt's text TOLD by the authors' own Lean function (tested against real Go, not proved from fmt's source: count such statements apart). THE CARD IS WHAT COUNTS. Prove the row's statement (the work); the ties are given (YtnpjonhoihbaeaaGreatDoorTie.lean); close each card by the builder's one call (the guide's Derived/Test/ToyasCard.lean, 'card_holds'). Laid BY PROGRAM, IN A SANDBOX (cutbox-door.mjs). By AI agents, Wed Nov 11 2026. No macro, syntax, notation, axiom, sorry.
-/
import Derived.Test.YtnpjonhoihbaeaaGreatDoorRows
import GoSem.ClaimSeven
namespace Go.Proofs.YtnpjonhoihbaeaaGreatDoor
namespace Rows

/-- THE TIED CARD OF 'changeforgetop.TopIndependentPatchesLandLikeChanges'. -/
def topIndependentPatchesLandLikeChangesCard : Claim7 := { stood := { row := topIndependentPatchesLandLikeChangesRow, standIns := [], harness := (true, "e5ae9fbcf8d33b5cfecd07b361ea4fd2a9e0dbadf743cb65d830734e604890a3"), looks := false }, kinds := [], alts := [], laidByText := true, laidKinds := [.data, .pinned], laidTests := true, laidLooks := .later }
def TopIndependentPatchesLandLikeChangesCardSaid : Prop := Claim7.holds Tryz.pinned (.plain (OpenSpec.ofChange topIndependentPatchesLandLikeChangesSpec)) topIndependentPatchesLandLikeChangesCard

/-- THE SECOND FORM's CARD OF 'changeforgetop.TopIndependentPatchesLandLikeChanges'. -/
def topIndependentPatchesLandLikeChangesUptoCard : Claim7 := { stood := { row := topIndependentPatchesLandLikeChangesUptoRow, standIns := [], harness := (true, "e5ae9fbcf8d33b5cfecd07b361ea4fd2a9e0dbadf743cb65d830734e604890a3"), looks := false }, kinds := [], alts := [], laidByText := true, laidKinds := [.data, .pinned], laidTests := true, laidLooks := .later }
def TopIndependentPatchesLandLikeChangesUptoCardSaid : Prop := Claim7.holds Tryz.pinned (.plain (OpenSpec.upto topIndependentPatchesLandLikeChangesSpec)) topIndependentPatchesLandLikeChangesUptoCard
end Rows
end Go.Proofs.YtnpjonhoihbaeaaGreatDoor

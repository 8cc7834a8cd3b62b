/-
  DERIVED. GIVEN WITH THE SEED: THE CARDS: each row of YtkpplfghhciacaaDoorRows.lean that lists a variable, with what it lists TIED to the program's text (the seventh form; the later family's looks); each row that meets fmt, with fmt's text TOLD by the authors' own Lean function (tested against real Go, not proved from fmt's source: count such statements apart). THE CARD IS WHAT COUNTS. Prove the row's statement (the work); the ties are given (YtkpplfghhciacaaDoorTie.lean); close each card by the builder's one call (the guide's Derived/Test/ToyasCard.lean, 'card_holds'). Laid BY PROGRAM, IN A SANDBOX (cutbox-door.mjs). By AI agents, Wed Nov 11 2026. No macro, syntax, notation, axiom, sorry.
-/
import Derived.Test.YtkpplfghhciacaaDoorRows
import GoSem.ClaimSeven
namespace Go.Proofs.YtkpplfghhciacaaDoor
namespace Rows

/-- THE TIED CARD OF 'changeforgetop.TopStackVersions'. -/
def topStackVersionsCard : Claim7 := { stood := { row := topStackVersionsRow, standIns := [], harness := (true, "c730edaa6fcadab92a3268725b98728bdd51ff68515c82eafde6bb6e46d1e04e"), looks := false }, kinds := [], alts := [], laidByText := true, laidKinds := [.data, .pinned], laidTests := true, laidLooks := .later }
def TopStackVersionsCardSaid : Prop := Claim7.holds Tryd.pinned (.plain (OpenSpec.ofChange topStackVersionsSpec)) topStackVersionsCard

/-- THE TIED CARD OF 'changeforgetop.TopPatchDigestsAgree'. -/
def topPatchDigestsAgreeCard : Claim7 := { stood := { row := topPatchDigestsAgreeRow, standIns := [], harness := (true, "c730edaa6fcadab92a3268725b98728bdd51ff68515c82eafde6bb6e46d1e04e"), looks := false }, kinds := [], alts := [], laidByText := true, laidKinds := [.data, .pinned], laidTests := true, laidLooks := .later }
def TopPatchDigestsAgreeCardSaid : Prop := Claim7.holds Tryd.pinned (.plain (OpenSpec.ofChange topPatchDigestsAgreeSpec)) topPatchDigestsAgreeCard

/-- THE SECOND FORM's CARD OF 'changeforgetop.TopStackVersions'. -/
def topStackVersionsUptoCard : Claim7 := { stood := { row := topStackVersionsUptoRow, standIns := [], harness := (true, "c730edaa6fcadab92a3268725b98728bdd51ff68515c82eafde6bb6e46d1e04e"), looks := false }, kinds := [], alts := [], laidByText := true, laidKinds := [.data, .pinned], laidTests := true, laidLooks := .later }
def TopStackVersionsUptoCardSaid : Prop := Claim7.holds Tryd.pinned (.plain (OpenSpec.upto topStackVersionsSpec)) topStackVersionsUptoCard

/-- THE SECOND FORM's CARD OF 'changeforgetop.TopPatchDigestsAgree'. -/
def topPatchDigestsAgreeUptoCard : Claim7 := { stood := { row := topPatchDigestsAgreeUptoRow, standIns := [], harness := (true, "c730edaa6fcadab92a3268725b98728bdd51ff68515c82eafde6bb6e46d1e04e"), looks := false }, kinds := [], alts := [], laidByText := true, laidKinds := [.data, .pinned], laidTests := true, laidLooks := .later }
def TopPatchDigestsAgreeUptoCardSaid : Prop := Claim7.holds Tryd.pinned (.plain (OpenSpec.upto topPatchDigestsAgreeSpec)) topPatchDigestsAgreeUptoCard
end Rows
end Go.Proofs.YtkpplfghhciacaaDoor

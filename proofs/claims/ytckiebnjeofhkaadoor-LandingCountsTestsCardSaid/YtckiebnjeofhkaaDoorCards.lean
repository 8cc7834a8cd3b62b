/-
  DERIVED. GIVEN WITH THE SEED: THE CARDS: each row of YtckiebnjeofhkaaDoorRows.lean that lists a variable, with what it lists TIED to the program's text (the seventh form; the later family's looks); each row that meets fmt, with fmt's text TOLD by the authors' own Lean function (tested against real Go, not proved from fmt's source: count such statements apart). THE CARD IS WHAT COUNTS. Prove the row's statement (the work); the ties are given (YtckiebnjeofhkaaDoorTie.lean); close each card by the builder's one call (the guide's Derived/Test/ToyasCard.lean, 'card_holds'). Laid BY PROGRAM, IN A SANDBOX (cutbox-door.mjs). By AI agents, Wed Nov 11 2026. No macro, syntax, notation, axiom, sorry.
-/
import Derived.Test.YtckiebnjeofhkaaDoorRows
import GoSem.ClaimSeven
namespace Go.Proofs.YtckiebnjeofhkaaDoor
namespace Rows

/-- THE TIED CARD OF 'changeforgelaw8.LandingLandMatchesSpec'. -/
def landingLandMatchesSpecCard : Claim7 := { stood := { row := landingLandMatchesSpecRow, standIns := [], harness := (true, "b4161449f5ad9276d0a426fe88d0f3b724b26b43fc87622f1063aab7404e04f4"), looks := false }, kinds := [], alts := [], laidByText := true, laidKinds := [.data, .pinned], laidTests := true, laidLooks := .later }
def LandingLandMatchesSpecCardSaid : Prop := Claim7.holds Tryd.pinned (.plain (OpenSpec.ofChange landingLandMatchesSpecSpec)) landingLandMatchesSpecCard

/-- THE TIED CARD OF 'changeforgelaw8.LandingBatchesAgree'. -/
def landingBatchesAgreeCard : Claim7 := { stood := { row := landingBatchesAgreeRow, standIns := [], harness := (true, "b4161449f5ad9276d0a426fe88d0f3b724b26b43fc87622f1063aab7404e04f4"), looks := false }, kinds := [], alts := [], laidByText := true, laidKinds := [.data, .pinned], laidTests := true, laidLooks := .later }
def LandingBatchesAgreeCardSaid : Prop := Claim7.holds Tryd.pinned (.plain (OpenSpec.ofChange landingBatchesAgreeSpec)) landingBatchesAgreeCard

/-- THE TIED CARD OF 'changeforgelaw8.LandingReplays'. -/
def landingReplaysCard : Claim7 := { stood := { row := landingReplaysRow, standIns := [], harness := (true, "b4161449f5ad9276d0a426fe88d0f3b724b26b43fc87622f1063aab7404e04f4"), looks := false }, kinds := [], alts := [], laidByText := true, laidKinds := [.data, .pinned], laidTests := true, laidLooks := .later }
def LandingReplaysCardSaid : Prop := Claim7.holds Tryd.pinned (.plain (OpenSpec.ofChange landingReplaysSpec)) landingReplaysCard

/-- THE TIED CARD OF 'changeforgelaw8.LandingCountsTests'. -/
def landingCountsTestsCard : Claim7 := { stood := { row := landingCountsTestsRow, standIns := [], harness := (true, "b4161449f5ad9276d0a426fe88d0f3b724b26b43fc87622f1063aab7404e04f4"), looks := false }, kinds := [], alts := [], laidByText := true, laidKinds := [.data, .pinned], laidTests := true, laidLooks := .later }
def LandingCountsTestsCardSaid : Prop := Claim7.holds Tryd.pinned (.plain (OpenSpec.ofChange landingCountsTestsSpec)) landingCountsTestsCard

/-- THE TIED CARD OF 'changeforgelaw8.LandingMainLinePasses'. -/
def landingMainLinePassesCard : Claim7 := { stood := { row := landingMainLinePassesRow, standIns := [], harness := (true, "b4161449f5ad9276d0a426fe88d0f3b724b26b43fc87622f1063aab7404e04f4"), looks := false }, kinds := [], alts := [], laidByText := true, laidKinds := [.data, .pinned], laidTests := true, laidLooks := .later }
def LandingMainLinePassesCardSaid : Prop := Claim7.holds Tryd.pinned (.plain (OpenSpec.ofChange landingMainLinePassesSpec)) landingMainLinePassesCard

/-- THE SECOND FORM's CARD OF 'changeforgelaw8.LandingLandMatchesSpec'. -/
def landingLandMatchesSpecUptoCard : Claim7 := { stood := { row := landingLandMatchesSpecUptoRow, standIns := [], harness := (true, "b4161449f5ad9276d0a426fe88d0f3b724b26b43fc87622f1063aab7404e04f4"), looks := false }, kinds := [], alts := [], laidByText := true, laidKinds := [.data, .pinned], laidTests := true, laidLooks := .later }
def LandingLandMatchesSpecUptoCardSaid : Prop := Claim7.holds Tryd.pinned (.plain (OpenSpec.upto landingLandMatchesSpecSpec)) landingLandMatchesSpecUptoCard

/-- THE SECOND FORM's CARD OF 'changeforgelaw8.LandingBatchesAgree'. -/
def landingBatchesAgreeUptoCard : Claim7 := { stood := { row := landingBatchesAgreeUptoRow, standIns := [], harness := (true, "b4161449f5ad9276d0a426fe88d0f3b724b26b43fc87622f1063aab7404e04f4"), looks := false }, kinds := [], alts := [], laidByText := true, laidKinds := [.data, .pinned], laidTests := true, laidLooks := .later }
def LandingBatchesAgreeUptoCardSaid : Prop := Claim7.holds Tryd.pinned (.plain (OpenSpec.upto landingBatchesAgreeSpec)) landingBatchesAgreeUptoCard

/-- THE SECOND FORM's CARD OF 'changeforgelaw8.LandingReplays'. -/
def landingReplaysUptoCard : Claim7 := { stood := { row := landingReplaysUptoRow, standIns := [], harness := (true, "b4161449f5ad9276d0a426fe88d0f3b724b26b43fc87622f1063aab7404e04f4"), looks := false }, kinds := [], alts := [], laidByText := true, laidKinds := [.data, .pinned], laidTests := true, laidLooks := .later }
def LandingReplaysUptoCardSaid : Prop := Claim7.holds Tryd.pinned (.plain (OpenSpec.upto landingReplaysSpec)) landingReplaysUptoCard

/-- THE SECOND FORM's CARD OF 'changeforgelaw8.LandingCountsTests'. -/
def landingCountsTestsUptoCard : Claim7 := { stood := { row := landingCountsTestsUptoRow, standIns := [], harness := (true, "b4161449f5ad9276d0a426fe88d0f3b724b26b43fc87622f1063aab7404e04f4"), looks := false }, kinds := [], alts := [], laidByText := true, laidKinds := [.data, .pinned], laidTests := true, laidLooks := .later }
def LandingCountsTestsUptoCardSaid : Prop := Claim7.holds Tryd.pinned (.plain (OpenSpec.upto landingCountsTestsSpec)) landingCountsTestsUptoCard

/-- THE SECOND FORM's CARD OF 'changeforgelaw8.LandingMainLinePasses'. -/
def landingMainLinePassesUptoCard : Claim7 := { stood := { row := landingMainLinePassesUptoRow, standIns := [], harness := (true, "b4161449f5ad9276d0a426fe88d0f3b724b26b43fc87622f1063aab7404e04f4"), looks := false }, kinds := [], alts := [], laidByText := true, laidKinds := [.data, .pinned], laidTests := true, laidLooks := .later }
def LandingMainLinePassesUptoCardSaid : Prop := Claim7.holds Tryd.pinned (.plain (OpenSpec.upto landingMainLinePassesSpec)) landingMainLinePassesUptoCard
end Rows
end Go.Proofs.YtckiebnjeofhkaaDoor

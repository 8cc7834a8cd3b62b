/-
  NARROWER THAN 'FOR EVERY INPUT', by the rows' own cells (each row's printed sentence says how): LandingLandMatchesSpec: laid · LandingBatchesAgree: laid · LandingReplays: laid · LandingCountsTests: laid · LandingMainLinePasses: laid.
  DERIVED. THE GIVEN ROWS OF THIS SEAT. 5 by the template 'for every input the law returns true; each argument reads behind the call as it read before'; 0 by the template 'total and deterministic' (their statements: YtckiebnjeofhkaaDoorTotals.lean).
  GIVEN WITH THE SEED: the statements are not yours to turn. If you find one false, say at which input.
  Laid BY PROGRAM, IN A SANDBOX (cutbox-rows.mjs): the forced cells as the released guide's own fill.sh prints them over the translation e73340ff0c77e081… (all of the seat's roots in one cut). By AI agents, Wed Nov 11 2026. No macro, syntax, notation, axiom, sorry.
-/
import Derived.Test.YtckiebnjeofhkaaDoorChecked
import GoSem.PinnedTables
import GoSem.Claim
import GoSem.ClaimJoined
import GoSem.ClaimMapViews
import Derived.JoinedTies
import Derived.KernelRfl
namespace Go.Proofs.YtckiebnjeofhkaaDoor
/- THE CELL 'sum', in the pinned program and in every row, IS THE sha256 OF THE DUMP (.gsa) THAT YtckiebnjeofhkaaDoorProg.lean LOADS. Nothing in Lean hashes anything: it is a label: what it is worth is what the hold of that sum in a sandbox is worth. -/
noncomputable def Tryd.pinned : Pinned := { name := "ytckiebnjeofhkaadoor", sum := "e73340ff0c77e08111d66f5306944fe0d20f708a39aa651922cda02667ef4da2", checked := Tryd.checked }
namespace Rows
def none {H : Type} : Left H := { results := [], args := [] }

/- WHAT THE LISTED PACKAGE-LEVEL VARIABLES READ AS WHEN THE CALL BEGINS. Each datum BY PROGRAM (the guide's laid-datum.mjs) off the statement by which the dump's own 'gosem.cut.vars' lays the variable. In a bare row this is a premise. The card (YtckiebnjeofhkaaDoorCards.lean) ties it to the program's text. -/
def laid_unicode_utf8_acceptRanges {H : Type} : DataW H := .agg [.agg [.lit (.int .u8 128), .lit (.int .u8 191)], .agg [.lit (.int .u8 160), .lit (.int .u8 191)], .agg [.lit (.int .u8 128), .lit (.int .u8 159)], .agg [.lit (.int .u8 144), .lit (.int .u8 191)], .agg [.lit (.int .u8 128), .lit (.int .u8 143)], .agg [.lit (.int .u8 0), .lit (.int .u8 0)], .agg [.lit (.int .u8 0), .lit (.int .u8 0)], .agg [.lit (.int .u8 0), .lit (.int .u8 0)], .agg [.lit (.int .u8 0), .lit (.int .u8 0)], .agg [.lit (.int .u8 0), .lit (.int .u8 0)], .agg [.lit (.int .u8 0), .lit (.int .u8 0)], .agg [.lit (.int .u8 0), .lit (.int .u8 0)], .agg [.lit (.int .u8 0), .lit (.int .u8 0)], .agg [.lit (.int .u8 0), .lit (.int .u8 0)], .agg [.lit (.int .u8 0), .lit (.int .u8 0)], .agg [.lit (.int .u8 0), .lit (.int .u8 0)]]
/-- One of Go's own tables, pinned by name: the form's constant. -/
def laid_unicode_utf8_first : DataW Unit := Go.Pinned.utf8First

/-- 'changeforgelaw8.LandingLandMatchesSpec': WHATEVER THE INPUT: true; the input reads as it did. -/
def landingLandMatchesSpecSpec : ChangeSpec := { name := "landingLandMatchesSpec", fn := fun _ => fun
  | [d1, d2, d3] => { results := [.lit (.bool true)], args := [d1, d2, d3] }
  | _ => none }
def landingLandMatchesSpecRow : OpenClaim := { program := "ytckiebnjeofhkaadoor", sum := "e73340ff0c77e08111d66f5306944fe0d20f708a39aa651922cda02667ef4da2", func := "changeforge/changeforgelaw8.LandingLandMatchesSpec", spec := "landingLandMatchesSpec", inPlace := ["internal/bytealg.IndexByteString", "internal/bytealg.IndexString", "internal/bytealg.abigen_runtime_cmpstring", "slices.overlaps[changeforge/api.File]"], unfollowed := true, recurses := true, named := ["unicode/utf8.first", "unicode/utf8.acceptRanges", "internal/bytealg.MaxLen"], apart := false, laid := [("unicode/utf8.acceptRanges", laid_unicode_utf8_acceptRanges), ("unicode/utf8.first", laid_unicode_utf8_first)] }
def LandingLandMatchesSpecSaid : Prop := landingLandMatchesSpecRow.holds Tryd.pinned (OpenSpec.ofChange landingLandMatchesSpecSpec)

/-- ITS FALSE NEIGHBOUR: 'it returns false'. Refute it at one input. -/
def landingLandMatchesSpecWrong : ChangeSpec := { name := "landingLandMatchesSpec", fn := fun _ => fun
  | [d1, d2, d3] => { results := [.lit (.bool false)], args := [d1, d2, d3] }
  | _ => none }
def LandingLandMatchesSpecWrongFalsely : Prop := landingLandMatchesSpecRow.holds Tryd.pinned (OpenSpec.ofChange landingLandMatchesSpecWrong)

/-- 'changeforgelaw8.LandingBatchesAgree': WHATEVER THE INPUT: true; the input reads as it did. -/
def landingBatchesAgreeSpec : ChangeSpec := { name := "landingBatchesAgree", fn := fun _ => fun
  | [d1, d2, d3, d4] => { results := [.lit (.bool true)], args := [d1, d2, d3, d4] }
  | _ => none }
def landingBatchesAgreeRow : OpenClaim := { program := "ytckiebnjeofhkaadoor", sum := "e73340ff0c77e08111d66f5306944fe0d20f708a39aa651922cda02667ef4da2", func := "changeforge/changeforgelaw8.LandingBatchesAgree", spec := "landingBatchesAgree", inPlace := ["internal/bytealg.IndexByteString", "internal/bytealg.IndexString", "internal/bytealg.abigen_runtime_cmpstring", "slices.overlaps[changeforge/api.File]"], unfollowed := true, recurses := true, named := ["unicode/utf8.first", "unicode/utf8.acceptRanges", "internal/bytealg.MaxLen"], apart := false, laid := [("unicode/utf8.acceptRanges", laid_unicode_utf8_acceptRanges), ("unicode/utf8.first", laid_unicode_utf8_first)] }
def LandingBatchesAgreeSaid : Prop := landingBatchesAgreeRow.holds Tryd.pinned (OpenSpec.ofChange landingBatchesAgreeSpec)

/-- ITS FALSE NEIGHBOUR: 'it returns false'. Refute it at one input. -/
def landingBatchesAgreeWrong : ChangeSpec := { name := "landingBatchesAgree", fn := fun _ => fun
  | [d1, d2, d3, d4] => { results := [.lit (.bool false)], args := [d1, d2, d3, d4] }
  | _ => none }
def LandingBatchesAgreeWrongFalsely : Prop := landingBatchesAgreeRow.holds Tryd.pinned (OpenSpec.ofChange landingBatchesAgreeWrong)

/-- 'changeforgelaw8.LandingReplays': WHATEVER THE INPUT: true; the input reads as it did. -/
def landingReplaysSpec : ChangeSpec := { name := "landingReplays", fn := fun _ => fun
  | [d1, d2, d3] => { results := [.lit (.bool true)], args := [d1, d2, d3] }
  | _ => none }
def landingReplaysRow : OpenClaim := { program := "ytckiebnjeofhkaadoor", sum := "e73340ff0c77e08111d66f5306944fe0d20f708a39aa651922cda02667ef4da2", func := "changeforge/changeforgelaw8.LandingReplays", spec := "landingReplays", inPlace := ["internal/bytealg.IndexByteString", "internal/bytealg.IndexString", "internal/bytealg.abigen_runtime_cmpstring", "slices.overlaps[changeforge/api.File]"], unfollowed := true, recurses := true, named := ["unicode/utf8.first", "unicode/utf8.acceptRanges", "internal/bytealg.MaxLen"], apart := false, laid := [("unicode/utf8.acceptRanges", laid_unicode_utf8_acceptRanges), ("unicode/utf8.first", laid_unicode_utf8_first)] }
def LandingReplaysSaid : Prop := landingReplaysRow.holds Tryd.pinned (OpenSpec.ofChange landingReplaysSpec)

/-- ITS FALSE NEIGHBOUR: 'it returns false'. Refute it at one input. -/
def landingReplaysWrong : ChangeSpec := { name := "landingReplays", fn := fun _ => fun
  | [d1, d2, d3] => { results := [.lit (.bool false)], args := [d1, d2, d3] }
  | _ => none }
def LandingReplaysWrongFalsely : Prop := landingReplaysRow.holds Tryd.pinned (OpenSpec.ofChange landingReplaysWrong)

/-- 'changeforgelaw8.LandingCountsTests': WHATEVER THE INPUT: true; the input reads as it did. -/
def landingCountsTestsSpec : ChangeSpec := { name := "landingCountsTests", fn := fun _ => fun
  | [d1, d2, d3, d4] => { results := [.lit (.bool true)], args := [d1, d2, d3, d4] }
  | _ => none }
def landingCountsTestsRow : OpenClaim := { program := "ytckiebnjeofhkaadoor", sum := "e73340ff0c77e08111d66f5306944fe0d20f708a39aa651922cda02667ef4da2", func := "changeforge/changeforgelaw8.LandingCountsTests", spec := "landingCountsTests", inPlace := ["internal/bytealg.IndexByteString", "internal/bytealg.IndexString", "internal/bytealg.abigen_runtime_cmpstring", "slices.overlaps[changeforge/api.File]"], unfollowed := true, recurses := true, named := ["unicode/utf8.first", "unicode/utf8.acceptRanges", "internal/bytealg.MaxLen"], apart := false, laid := [("unicode/utf8.acceptRanges", laid_unicode_utf8_acceptRanges), ("unicode/utf8.first", laid_unicode_utf8_first)] }
def LandingCountsTestsSaid : Prop := landingCountsTestsRow.holds Tryd.pinned (OpenSpec.ofChange landingCountsTestsSpec)

/-- ITS FALSE NEIGHBOUR: 'it returns false'. Refute it at one input. -/
def landingCountsTestsWrong : ChangeSpec := { name := "landingCountsTests", fn := fun _ => fun
  | [d1, d2, d3, d4] => { results := [.lit (.bool false)], args := [d1, d2, d3, d4] }
  | _ => none }
def LandingCountsTestsWrongFalsely : Prop := landingCountsTestsRow.holds Tryd.pinned (OpenSpec.ofChange landingCountsTestsWrong)

/-- 'changeforgelaw8.LandingMainLinePasses': WHATEVER THE INPUT: true; the input reads as it did. -/
def landingMainLinePassesSpec : ChangeSpec := { name := "landingMainLinePasses", fn := fun _ => fun
  | [d1, d2, d3] => { results := [.lit (.bool true)], args := [d1, d2, d3] }
  | _ => none }
def landingMainLinePassesRow : OpenClaim := { program := "ytckiebnjeofhkaadoor", sum := "e73340ff0c77e08111d66f5306944fe0d20f708a39aa651922cda02667ef4da2", func := "changeforge/changeforgelaw8.LandingMainLinePasses", spec := "landingMainLinePasses", inPlace := ["internal/bytealg.IndexByteString", "internal/bytealg.IndexString", "internal/bytealg.abigen_runtime_cmpstring", "slices.overlaps[changeforge/api.File]"], unfollowed := true, recurses := true, named := ["unicode/utf8.first", "unicode/utf8.acceptRanges", "internal/bytealg.MaxLen"], apart := false, laid := [("unicode/utf8.acceptRanges", laid_unicode_utf8_acceptRanges), ("unicode/utf8.first", laid_unicode_utf8_first)] }
def LandingMainLinePassesSaid : Prop := landingMainLinePassesRow.holds Tryd.pinned (OpenSpec.ofChange landingMainLinePassesSpec)

/-- ITS FALSE NEIGHBOUR: 'it returns false'. Refute it at one input. -/
def landingMainLinePassesWrong : ChangeSpec := { name := "landingMainLinePasses", fn := fun _ => fun
  | [d1, d2, d3] => { results := [.lit (.bool false)], args := [d1, d2, d3] }
  | _ => none }
def LandingMainLinePassesWrongFalsely : Prop := landingMainLinePassesRow.holds Tryd.pinned (OpenSpec.ofChange landingMainLinePassesWrong)

/- THE SECOND FORM. 'bulk': how many values and letters a reading holds, each counted each time it is reached (what is shared counts as often as it is met; a slice's spare places count too). A statement '..UptoSaid' is the law's where the arguments, and the package variables that the reading takes, are together of bulk at most 1048576: NARROWER than '..Said'. Prove '..Said' where nothing that the law and all that it calls make is longer than what came in: it says more and counts as full. Else prove '..UptoSaid'. A law counts once. -/
mutual
def uptoBulk {H : Type} : DataW H → Nat
  | .lit (.string bytes) => bytes.length + 1
  | .lit _ => 1
  | .nil => 1
  | .ptr d => uptoBulk d + 1
  | .slice elems spare => uptoBulkAll elems + uptoBulkAll spare + 1
  | .agg parts => uptoBulkAll parts + 1
  | .iface _ d => uptoBulk d + 1
  | .map entries => uptoBulkEntries entries + 1
  | .held _ => 1
def uptoBulkAll {H : Type} : List (DataW H) → Nat
  | [] => 0
  | d :: r => uptoBulk d + uptoBulkAll r
def uptoBulkEntries {H : Type} : List (Lit × DataW H) → Nat
  | [] => 0
  | x :: r => uptoBulkEntry x + uptoBulkEntries r
def uptoBulkEntry {H : Type} : Lit × DataW H → Nat
  | (.string bytes, d) => bytes.length + uptoBulk d + 1
  | (_, d) => uptoBulk d + 1
 end
def uptoSmall : (H : Type) → List (DataW H) → Bool := fun _ ds => decide (uptoBulkAll ds ≤ 1048576)
def OpenSpec.upto (s : _root_.Go.ChangeSpec) : _root_.Go.OpenSpec := { _root_.Go.OpenSpec.ofChange s with cond := some uptoSmall }

/-- 'changeforgelaw8.LandingLandMatchesSpec', WHERE WHAT IT READS IS OF BULK AT MOST 1048576: true; the input reads as it did. -/
def landingLandMatchesSpecUptoRow : OpenClaim := { program := "ytckiebnjeofhkaadoor", sum := "e73340ff0c77e08111d66f5306944fe0d20f708a39aa651922cda02667ef4da2", func := "changeforge/changeforgelaw8.LandingLandMatchesSpec", spec := "landingLandMatchesSpec", inPlace := ["internal/bytealg.IndexByteString", "internal/bytealg.IndexString", "internal/bytealg.abigen_runtime_cmpstring", "slices.overlaps[changeforge/api.File]"], unfollowed := true, recurses := true, named := ["unicode/utf8.first", "unicode/utf8.acceptRanges", "internal/bytealg.MaxLen"], apart := false, laid := [("unicode/utf8.acceptRanges", laid_unicode_utf8_acceptRanges), ("unicode/utf8.first", laid_unicode_utf8_first)], narrowed := true }
def LandingLandMatchesSpecUptoSaid : Prop := landingLandMatchesSpecUptoRow.holds Tryd.pinned (OpenSpec.upto landingLandMatchesSpecSpec)

/-- 'changeforgelaw8.LandingBatchesAgree', WHERE WHAT IT READS IS OF BULK AT MOST 1048576: true; the input reads as it did. -/
def landingBatchesAgreeUptoRow : OpenClaim := { program := "ytckiebnjeofhkaadoor", sum := "e73340ff0c77e08111d66f5306944fe0d20f708a39aa651922cda02667ef4da2", func := "changeforge/changeforgelaw8.LandingBatchesAgree", spec := "landingBatchesAgree", inPlace := ["internal/bytealg.IndexByteString", "internal/bytealg.IndexString", "internal/bytealg.abigen_runtime_cmpstring", "slices.overlaps[changeforge/api.File]"], unfollowed := true, recurses := true, named := ["unicode/utf8.first", "unicode/utf8.acceptRanges", "internal/bytealg.MaxLen"], apart := false, laid := [("unicode/utf8.acceptRanges", laid_unicode_utf8_acceptRanges), ("unicode/utf8.first", laid_unicode_utf8_first)], narrowed := true }
def LandingBatchesAgreeUptoSaid : Prop := landingBatchesAgreeUptoRow.holds Tryd.pinned (OpenSpec.upto landingBatchesAgreeSpec)

/-- 'changeforgelaw8.LandingReplays', WHERE WHAT IT READS IS OF BULK AT MOST 1048576: true; the input reads as it did. -/
def landingReplaysUptoRow : OpenClaim := { program := "ytckiebnjeofhkaadoor", sum := "e73340ff0c77e08111d66f5306944fe0d20f708a39aa651922cda02667ef4da2", func := "changeforge/changeforgelaw8.LandingReplays", spec := "landingReplays", inPlace := ["internal/bytealg.IndexByteString", "internal/bytealg.IndexString", "internal/bytealg.abigen_runtime_cmpstring", "slices.overlaps[changeforge/api.File]"], unfollowed := true, recurses := true, named := ["unicode/utf8.first", "unicode/utf8.acceptRanges", "internal/bytealg.MaxLen"], apart := false, laid := [("unicode/utf8.acceptRanges", laid_unicode_utf8_acceptRanges), ("unicode/utf8.first", laid_unicode_utf8_first)], narrowed := true }
def LandingReplaysUptoSaid : Prop := landingReplaysUptoRow.holds Tryd.pinned (OpenSpec.upto landingReplaysSpec)

/-- 'changeforgelaw8.LandingCountsTests', WHERE WHAT IT READS IS OF BULK AT MOST 1048576: true; the input reads as it did. -/
def landingCountsTestsUptoRow : OpenClaim := { program := "ytckiebnjeofhkaadoor", sum := "e73340ff0c77e08111d66f5306944fe0d20f708a39aa651922cda02667ef4da2", func := "changeforge/changeforgelaw8.LandingCountsTests", spec := "landingCountsTests", inPlace := ["internal/bytealg.IndexByteString", "internal/bytealg.IndexString", "internal/bytealg.abigen_runtime_cmpstring", "slices.overlaps[changeforge/api.File]"], unfollowed := true, recurses := true, named := ["unicode/utf8.first", "unicode/utf8.acceptRanges", "internal/bytealg.MaxLen"], apart := false, laid := [("unicode/utf8.acceptRanges", laid_unicode_utf8_acceptRanges), ("unicode/utf8.first", laid_unicode_utf8_first)], narrowed := true }
def LandingCountsTestsUptoSaid : Prop := landingCountsTestsUptoRow.holds Tryd.pinned (OpenSpec.upto landingCountsTestsSpec)

/-- 'changeforgelaw8.LandingMainLinePasses', WHERE WHAT IT READS IS OF BULK AT MOST 1048576: true; the input reads as it did. -/
def landingMainLinePassesUptoRow : OpenClaim := { program := "ytckiebnjeofhkaadoor", sum := "e73340ff0c77e08111d66f5306944fe0d20f708a39aa651922cda02667ef4da2", func := "changeforge/changeforgelaw8.LandingMainLinePasses", spec := "landingMainLinePasses", inPlace := ["internal/bytealg.IndexByteString", "internal/bytealg.IndexString", "internal/bytealg.abigen_runtime_cmpstring", "slices.overlaps[changeforge/api.File]"], unfollowed := true, recurses := true, named := ["unicode/utf8.first", "unicode/utf8.acceptRanges", "internal/bytealg.MaxLen"], apart := false, laid := [("unicode/utf8.acceptRanges", laid_unicode_utf8_acceptRanges), ("unicode/utf8.first", laid_unicode_utf8_first)], narrowed := true }
def LandingMainLinePassesUptoSaid : Prop := landingMainLinePassesUptoRow.holds Tryd.pinned (OpenSpec.upto landingMainLinePassesSpec)

end Rows
end Go.Proofs.YtckiebnjeofhkaaDoor

/-
  No cell of these rows narrows 'for every input' (looked for: loops, veiled, ifaces, maps, wideKeys, modest, calm, conditions, laid).
  DERIVED. THE GIVEN ROWS OF THIS SEAT. 5 by the template 'for every input the law returns true; each argument reads behind the call as it read before'; 0 by the template 'total and deterministic' (their statements: YtpfcgenmgddgpaaTotals.lean).
  GIVEN WITH THE SEED: the statements are not yours to turn. If you find one false, say at which input.
  Laid BY PROGRAM, IN A SANDBOX (cutbox-rows.mjs): the forced cells as the released guide's own fill.sh prints them over the translation 01fcbc1af5313550… (all of the seat's roots in one cut). By AI agents, Wed Nov 11 2026. No macro, syntax, notation, axiom, sorry.
-/
import Derived.Test.YtpfcgenmgddgpaaChecked
import GoSem.Claim
import GoSem.ClaimJoined
import GoSem.ClaimMapViews
import Derived.JoinedTies
import Derived.KernelRfl
namespace Go.Proofs.Ytpfcgenmgddgpaa
/- THE CELL 'sum', in the pinned program and in every row, IS THE sha256 OF THE DUMP (.gsa) THAT YtpfcgenmgddgpaaProg.lean LOADS. Nothing in Lean hashes anything: it is a label: what it is worth is what the hold of that sum in a sandbox is worth. -/
noncomputable def Try.pinned : Pinned := { name := "ytpfcgenmgddgpaa", sum := "01fcbc1af5313550030f20a771b0c56249520c3a632291755bad5e1316f711e7", checked := Try.checked }
namespace Rows
def none {H : Type} : Left H := { results := [], args := [] }

/-- 'changeforgelaw8.MergequeueFunctionsMatchSpec': WHATEVER THE INPUT: true; the input reads as it did. -/
def mergequeueFunctionsMatchSpecSpec : ChangeSpec := { name := "mergequeueFunctionsMatchSpec", fn := fun _ => fun
  | [d1, d2, d3] => { results := [.lit (.bool true)], args := [d1, d2, d3] }
  | _ => none }
def mergequeueFunctionsMatchSpecRow : OpenClaim := { program := "ytpfcgenmgddgpaa", sum := "01fcbc1af5313550030f20a771b0c56249520c3a632291755bad5e1316f711e7", func := "changeforge/changeforgelaw8.MergequeueFunctionsMatchSpec", spec := "mergequeueFunctionsMatchSpec", inPlace := ["slices.overlaps[changeforge/api.QueueEntry]"], unfollowed := true, recurses := true, apart := false }
def MergequeueFunctionsMatchSpecSaid : Prop := mergequeueFunctionsMatchSpecRow.holds Try.pinned (OpenSpec.ofChange mergequeueFunctionsMatchSpecSpec)

/-- ITS FALSE NEIGHBOUR: 'it returns false'. Refute it at one input. -/
def mergequeueFunctionsMatchSpecWrong : ChangeSpec := { name := "mergequeueFunctionsMatchSpec", fn := fun _ => fun
  | [d1, d2, d3] => { results := [.lit (.bool false)], args := [d1, d2, d3] }
  | _ => none }
def MergequeueFunctionsMatchSpecWrongFalsely : Prop := mergequeueFunctionsMatchSpecRow.holds Try.pinned (OpenSpec.ofChange mergequeueFunctionsMatchSpecWrong)

/-- 'changeforgelaw8.MergequeueNothingIsLost': WHATEVER THE INPUT: true; the input reads as it did. -/
def mergequeueNothingIsLostSpec : ChangeSpec := { name := "mergequeueNothingIsLost", fn := fun _ => fun
  | [d1, d2] => { results := [.lit (.bool true)], args := [d1, d2] }
  | _ => none }
def mergequeueNothingIsLostRow : OpenClaim := { program := "ytpfcgenmgddgpaa", sum := "01fcbc1af5313550030f20a771b0c56249520c3a632291755bad5e1316f711e7", func := "changeforge/changeforgelaw8.MergequeueNothingIsLost", spec := "mergequeueNothingIsLost", inPlace := ["slices.overlaps[changeforge/api.QueueEntry]"], unfollowed := true, recurses := true, apart := false }
def MergequeueNothingIsLostSaid : Prop := mergequeueNothingIsLostRow.holds Try.pinned (OpenSpec.ofChange mergequeueNothingIsLostSpec)

/-- ITS FALSE NEIGHBOUR: 'it returns false'. Refute it at one input. -/
def mergequeueNothingIsLostWrong : ChangeSpec := { name := "mergequeueNothingIsLost", fn := fun _ => fun
  | [d1, d2] => { results := [.lit (.bool false)], args := [d1, d2] }
  | _ => none }
def MergequeueNothingIsLostWrongFalsely : Prop := mergequeueNothingIsLostRow.holds Try.pinned (OpenSpec.ofChange mergequeueNothingIsLostWrong)

/-- 'changeforgelaw8.MergequeueTestsWhatLands': WHATEVER THE INPUT: true; the input reads as it did. -/
def mergequeueTestsWhatLandsSpec : ChangeSpec := { name := "mergequeueTestsWhatLands", fn := fun _ => fun
  | [d1, d2] => { results := [.lit (.bool true)], args := [d1, d2] }
  | _ => none }
def mergequeueTestsWhatLandsRow : OpenClaim := { program := "ytpfcgenmgddgpaa", sum := "01fcbc1af5313550030f20a771b0c56249520c3a632291755bad5e1316f711e7", func := "changeforge/changeforgelaw8.MergequeueTestsWhatLands", spec := "mergequeueTestsWhatLands", inPlace := ["slices.overlaps[changeforge/api.QueueEntry]"], unfollowed := true, recurses := true, apart := false }
def MergequeueTestsWhatLandsSaid : Prop := mergequeueTestsWhatLandsRow.holds Try.pinned (OpenSpec.ofChange mergequeueTestsWhatLandsSpec)

/-- ITS FALSE NEIGHBOUR: 'it returns false'. Refute it at one input. -/
def mergequeueTestsWhatLandsWrong : ChangeSpec := { name := "mergequeueTestsWhatLands", fn := fun _ => fun
  | [d1, d2] => { results := [.lit (.bool false)], args := [d1, d2] }
  | _ => none }
def MergequeueTestsWhatLandsWrongFalsely : Prop := mergequeueTestsWhatLandsRow.holds Try.pinned (OpenSpec.ofChange mergequeueTestsWhatLandsWrong)

/-- 'changeforgelaw8.MergequeueMainLineOnlyGrows': WHATEVER THE INPUT: true; the input reads as it did. -/
def mergequeueMainLineOnlyGrowsSpec : ChangeSpec := { name := "mergequeueMainLineOnlyGrows", fn := fun _ => fun
  | [d1, d2, d3] => { results := [.lit (.bool true)], args := [d1, d2, d3] }
  | _ => none }
def mergequeueMainLineOnlyGrowsRow : OpenClaim := { program := "ytpfcgenmgddgpaa", sum := "01fcbc1af5313550030f20a771b0c56249520c3a632291755bad5e1316f711e7", func := "changeforge/changeforgelaw8.MergequeueMainLineOnlyGrows", spec := "mergequeueMainLineOnlyGrows", inPlace := ["slices.overlaps[changeforge/api.QueueEntry]"], unfollowed := true, recurses := true, apart := false }
def MergequeueMainLineOnlyGrowsSaid : Prop := mergequeueMainLineOnlyGrowsRow.holds Try.pinned (OpenSpec.ofChange mergequeueMainLineOnlyGrowsSpec)

/-- ITS FALSE NEIGHBOUR: 'it returns false'. Refute it at one input. -/
def mergequeueMainLineOnlyGrowsWrong : ChangeSpec := { name := "mergequeueMainLineOnlyGrows", fn := fun _ => fun
  | [d1, d2, d3] => { results := [.lit (.bool false)], args := [d1, d2, d3] }
  | _ => none }
def MergequeueMainLineOnlyGrowsWrongFalsely : Prop := mergequeueMainLineOnlyGrowsRow.holds Try.pinned (OpenSpec.ofChange mergequeueMainLineOnlyGrowsWrong)

/-- 'changeforgelaw8.MergequeueGoodChangesLandInOrder': WHATEVER THE INPUT: true; the input reads as it did. -/
def mergequeueGoodChangesLandInOrderSpec : ChangeSpec := { name := "mergequeueGoodChangesLandInOrder", fn := fun _ => fun
  | [d1, d2] => { results := [.lit (.bool true)], args := [d1, d2] }
  | _ => none }
def mergequeueGoodChangesLandInOrderRow : OpenClaim := { program := "ytpfcgenmgddgpaa", sum := "01fcbc1af5313550030f20a771b0c56249520c3a632291755bad5e1316f711e7", func := "changeforge/changeforgelaw8.MergequeueGoodChangesLandInOrder", spec := "mergequeueGoodChangesLandInOrder", inPlace := ["slices.overlaps[changeforge/api.QueueEntry]"], unfollowed := true, recurses := true, apart := false }
def MergequeueGoodChangesLandInOrderSaid : Prop := mergequeueGoodChangesLandInOrderRow.holds Try.pinned (OpenSpec.ofChange mergequeueGoodChangesLandInOrderSpec)

/-- ITS FALSE NEIGHBOUR: 'it returns false'. Refute it at one input. -/
def mergequeueGoodChangesLandInOrderWrong : ChangeSpec := { name := "mergequeueGoodChangesLandInOrder", fn := fun _ => fun
  | [d1, d2] => { results := [.lit (.bool false)], args := [d1, d2] }
  | _ => none }
def MergequeueGoodChangesLandInOrderWrongFalsely : Prop := mergequeueGoodChangesLandInOrderRow.holds Try.pinned (OpenSpec.ofChange mergequeueGoodChangesLandInOrderWrong)

/- THE SECOND FORM. 'bulk': how many values and letters a reading holds, each counted each time it is reached (what is shared counts as often as it is met; a slice's spare places count too). A statement '..UptoSaid' is the law's where the arguments, and the package variables that the reading takes, are together of bulk at most 1048576: NARROWER than '..Said'. Prove '..Said' where nothing that the law and all that it calls make is longer than what came in: it says more and counts as full. Else prove '..UptoSaid'. A law counts once. -/
mutual
def uptoBulk {H : Type} : DataW H → Nat
  | .lit (.string bytes) => bytes.length + 1
  | .lit _ => 1
  | .nil => 1
  | .ptr d => uptoBulk d + 1
  | .slice elems spare => uptoBulkAll elems + uptoBulkAll spare + 1
  | .agg parts => uptoBulkAll parts + 1
  | .iface _ d => uptoBulk d + 1
  | .map entries => uptoBulkEntries entries + 1
  | .held _ => 1
def uptoBulkAll {H : Type} : List (DataW H) → Nat
  | [] => 0
  | d :: r => uptoBulk d + uptoBulkAll r
def uptoBulkEntries {H : Type} : List (Lit × DataW H) → Nat
  | [] => 0
  | x :: r => uptoBulkEntry x + uptoBulkEntries r
def uptoBulkEntry {H : Type} : Lit × DataW H → Nat
  | (.string bytes, d) => bytes.length + uptoBulk d + 1
  | (_, d) => uptoBulk d + 1
 end
def uptoSmall : (H : Type) → List (DataW H) → Bool := fun _ ds => decide (uptoBulkAll ds ≤ 1048576)
def OpenSpec.upto (s : _root_.Go.ChangeSpec) : _root_.Go.OpenSpec := { _root_.Go.OpenSpec.ofChange s with cond := some uptoSmall }

/-- 'changeforgelaw8.MergequeueFunctionsMatchSpec', WHERE WHAT IT READS IS OF BULK AT MOST 1048576: true; the input reads as it did. -/
def mergequeueFunctionsMatchSpecUptoRow : OpenClaim := { program := "ytpfcgenmgddgpaa", sum := "01fcbc1af5313550030f20a771b0c56249520c3a632291755bad5e1316f711e7", func := "changeforge/changeforgelaw8.MergequeueFunctionsMatchSpec", spec := "mergequeueFunctionsMatchSpec", inPlace := ["slices.overlaps[changeforge/api.QueueEntry]"], unfollowed := true, recurses := true, apart := false, narrowed := true }
def MergequeueFunctionsMatchSpecUptoSaid : Prop := mergequeueFunctionsMatchSpecUptoRow.holds Try.pinned (OpenSpec.upto mergequeueFunctionsMatchSpecSpec)

/-- 'changeforgelaw8.MergequeueNothingIsLost', WHERE WHAT IT READS IS OF BULK AT MOST 1048576: true; the input reads as it did. -/
def mergequeueNothingIsLostUptoRow : OpenClaim := { program := "ytpfcgenmgddgpaa", sum := "01fcbc1af5313550030f20a771b0c56249520c3a632291755bad5e1316f711e7", func := "changeforge/changeforgelaw8.MergequeueNothingIsLost", spec := "mergequeueNothingIsLost", inPlace := ["slices.overlaps[changeforge/api.QueueEntry]"], unfollowed := true, recurses := true, apart := false, narrowed := true }
def MergequeueNothingIsLostUptoSaid : Prop := mergequeueNothingIsLostUptoRow.holds Try.pinned (OpenSpec.upto mergequeueNothingIsLostSpec)

/-- 'changeforgelaw8.MergequeueTestsWhatLands', WHERE WHAT IT READS IS OF BULK AT MOST 1048576: true; the input reads as it did. -/
def mergequeueTestsWhatLandsUptoRow : OpenClaim := { program := "ytpfcgenmgddgpaa", sum := "01fcbc1af5313550030f20a771b0c56249520c3a632291755bad5e1316f711e7", func := "changeforge/changeforgelaw8.MergequeueTestsWhatLands", spec := "mergequeueTestsWhatLands", inPlace := ["slices.overlaps[changeforge/api.QueueEntry]"], unfollowed := true, recurses := true, apart := false, narrowed := true }
def MergequeueTestsWhatLandsUptoSaid : Prop := mergequeueTestsWhatLandsUptoRow.holds Try.pinned (OpenSpec.upto mergequeueTestsWhatLandsSpec)

/-- 'changeforgelaw8.MergequeueMainLineOnlyGrows', WHERE WHAT IT READS IS OF BULK AT MOST 1048576: true; the input reads as it did. -/
def mergequeueMainLineOnlyGrowsUptoRow : OpenClaim := { program := "ytpfcgenmgddgpaa", sum := "01fcbc1af5313550030f20a771b0c56249520c3a632291755bad5e1316f711e7", func := "changeforge/changeforgelaw8.MergequeueMainLineOnlyGrows", spec := "mergequeueMainLineOnlyGrows", inPlace := ["slices.overlaps[changeforge/api.QueueEntry]"], unfollowed := true, recurses := true, apart := false, narrowed := true }
def MergequeueMainLineOnlyGrowsUptoSaid : Prop := mergequeueMainLineOnlyGrowsUptoRow.holds Try.pinned (OpenSpec.upto mergequeueMainLineOnlyGrowsSpec)

/-- 'changeforgelaw8.MergequeueGoodChangesLandInOrder', WHERE WHAT IT READS IS OF BULK AT MOST 1048576: true; the input reads as it did. -/
def mergequeueGoodChangesLandInOrderUptoRow : OpenClaim := { program := "ytpfcgenmgddgpaa", sum := "01fcbc1af5313550030f20a771b0c56249520c3a632291755bad5e1316f711e7", func := "changeforge/changeforgelaw8.MergequeueGoodChangesLandInOrder", spec := "mergequeueGoodChangesLandInOrder", inPlace := ["slices.overlaps[changeforge/api.QueueEntry]"], unfollowed := true, recurses := true, apart := false, narrowed := true }
def MergequeueGoodChangesLandInOrderUptoSaid : Prop := mergequeueGoodChangesLandInOrderUptoRow.holds Try.pinned (OpenSpec.upto mergequeueGoodChangesLandInOrderSpec)

end Rows
end Go.Proofs.Ytpfcgenmgddgpaa

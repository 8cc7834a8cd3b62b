/-
  No cell of these rows narrows 'for every input' (looked for: loops, veiled, ifaces, maps, wideKeys, modest, calm, conditions, laid).
  DERIVED. THE GIVEN ROWS OF THIS SEAT. 5 by the template 'for every input the law returns true; each argument reads behind the call as it read before'; 0 by the template 'total and deterministic' (their statements: YtfkhdfmnhkndeaaTotals.lean).
  GIVEN WITH THE SEED: the statements are not yours to turn. If you find one false, say at which input.
  Laid BY PROGRAM, IN A SANDBOX (cutbox-rows.mjs): the forced cells as the released guide's own fill.sh prints them over the translation 498c6b22db17df00… (all of the seat's roots in one cut). By AI agents, Wed Nov 11 2026. No macro, syntax, notation, axiom, sorry.
-/
import Derived.Test.YtfkhdfmnhkndeaaChecked
import GoSem.Claim
import GoSem.ClaimJoined
import GoSem.ClaimMapViews
import Derived.JoinedTies
import Derived.KernelRfl
namespace Go.Proofs.Ytfkhdfmnhkndeaa
/- THE CELL 'sum', in the pinned program and in every row, IS THE sha256 OF THE DUMP (.gsa) THAT YtfkhdfmnhkndeaaProg.lean LOADS. Nothing in Lean hashes anything: it is a label: what it is worth is what the hold of that sum in a sandbox is worth. -/
noncomputable def Try.pinned : Pinned := { name := "ytfkhdfmnhkndeaa", sum := "498c6b22db17df00a87325a4952e3d222ea6bd14585f419eaa955a9127717136", checked := Try.checked }
namespace Rows
def none {H : Type} : Left H := { results := [], args := [] }

/-- 'changeforgelaw8.DeadlineFunctionsMatchSpec': WHATEVER THE INPUT: true; the input reads as it did. -/
def deadlineFunctionsMatchSpecSpec : ChangeSpec := { name := "deadlineFunctionsMatchSpec", fn := fun _ => fun
  | [d1, d2, d3] => { results := [.lit (.bool true)], args := [d1, d2, d3] }
  | _ => none }
def deadlineFunctionsMatchSpecRow : OpenClaim := { program := "ytfkhdfmnhkndeaa", sum := "498c6b22db17df00a87325a4952e3d222ea6bd14585f419eaa955a9127717136", func := "changeforge/changeforgelaw8.DeadlineFunctionsMatchSpec", spec := "deadlineFunctionsMatchSpec", unfollowed := true, recurses := true, apart := false }
def DeadlineFunctionsMatchSpecSaid : Prop := deadlineFunctionsMatchSpecRow.holds Try.pinned (OpenSpec.ofChange deadlineFunctionsMatchSpecSpec)

/-- ITS FALSE NEIGHBOUR: 'it returns false'. Refute it at one input. -/
def deadlineFunctionsMatchSpecWrong : ChangeSpec := { name := "deadlineFunctionsMatchSpec", fn := fun _ => fun
  | [d1, d2, d3] => { results := [.lit (.bool false)], args := [d1, d2, d3] }
  | _ => none }
def DeadlineFunctionsMatchSpecWrongFalsely : Prop := deadlineFunctionsMatchSpecRow.holds Try.pinned (OpenSpec.ofChange deadlineFunctionsMatchSpecWrong)

/-- 'changeforgelaw8.DeadlineChannelsAreQueues': WHATEVER THE INPUT: true; the input reads as it did. -/
def deadlineChannelsAreQueuesSpec : ChangeSpec := { name := "deadlineChannelsAreQueues", fn := fun _ => fun
  | [d1, d2, d3] => { results := [.lit (.bool true)], args := [d1, d2, d3] }
  | _ => none }
def deadlineChannelsAreQueuesRow : OpenClaim := { program := "ytfkhdfmnhkndeaa", sum := "498c6b22db17df00a87325a4952e3d222ea6bd14585f419eaa955a9127717136", func := "changeforge/changeforgelaw8.DeadlineChannelsAreQueues", spec := "deadlineChannelsAreQueues", unfollowed := true, recurses := true, apart := false }
def DeadlineChannelsAreQueuesSaid : Prop := deadlineChannelsAreQueuesRow.holds Try.pinned (OpenSpec.ofChange deadlineChannelsAreQueuesSpec)

/-- ITS FALSE NEIGHBOUR: 'it returns false'. Refute it at one input. -/
def deadlineChannelsAreQueuesWrong : ChangeSpec := { name := "deadlineChannelsAreQueues", fn := fun _ => fun
  | [d1, d2, d3] => { results := [.lit (.bool false)], args := [d1, d2, d3] }
  | _ => none }
def DeadlineChannelsAreQueuesWrongFalsely : Prop := deadlineChannelsAreQueuesRow.holds Try.pinned (OpenSpec.ofChange deadlineChannelsAreQueuesWrong)

/-- 'changeforgelaw8.DeadlineTimeGoesOn': WHATEVER THE INPUT: true; the input reads as it did. -/
def deadlineTimeGoesOnSpec : ChangeSpec := { name := "deadlineTimeGoesOn", fn := fun _ => fun
  | [d1, d2, d3, d4] => { results := [.lit (.bool true)], args := [d1, d2, d3, d4] }
  | _ => none }
def deadlineTimeGoesOnRow : OpenClaim := { program := "ytfkhdfmnhkndeaa", sum := "498c6b22db17df00a87325a4952e3d222ea6bd14585f419eaa955a9127717136", func := "changeforge/changeforgelaw8.DeadlineTimeGoesOn", spec := "deadlineTimeGoesOn", unfollowed := true, recurses := true, apart := false }
def DeadlineTimeGoesOnSaid : Prop := deadlineTimeGoesOnRow.holds Try.pinned (OpenSpec.ofChange deadlineTimeGoesOnSpec)

/-- ITS FALSE NEIGHBOUR: 'it returns false'. Refute it at one input. -/
def deadlineTimeGoesOnWrong : ChangeSpec := { name := "deadlineTimeGoesOn", fn := fun _ => fun
  | [d1, d2, d3, d4] => { results := [.lit (.bool false)], args := [d1, d2, d3, d4] }
  | _ => none }
def DeadlineTimeGoesOnWrongFalsely : Prop := deadlineTimeGoesOnRow.holds Try.pinned (OpenSpec.ofChange deadlineTimeGoesOnWrong)

/-- 'changeforgelaw8.DeadlineOperationsAddUp': WHATEVER THE INPUT: true; the input reads as it did. -/
def deadlineOperationsAddUpSpec : ChangeSpec := { name := "deadlineOperationsAddUp", fn := fun _ => fun
  | [d1, d2, d3] => { results := [.lit (.bool true)], args := [d1, d2, d3] }
  | _ => none }
def deadlineOperationsAddUpRow : OpenClaim := { program := "ytfkhdfmnhkndeaa", sum := "498c6b22db17df00a87325a4952e3d222ea6bd14585f419eaa955a9127717136", func := "changeforge/changeforgelaw8.DeadlineOperationsAddUp", spec := "deadlineOperationsAddUp", unfollowed := true, recurses := true, apart := false }
def DeadlineOperationsAddUpSaid : Prop := deadlineOperationsAddUpRow.holds Try.pinned (OpenSpec.ofChange deadlineOperationsAddUpSpec)

/-- ITS FALSE NEIGHBOUR: 'it returns false'. Refute it at one input. -/
def deadlineOperationsAddUpWrong : ChangeSpec := { name := "deadlineOperationsAddUp", fn := fun _ => fun
  | [d1, d2, d3] => { results := [.lit (.bool false)], args := [d1, d2, d3] }
  | _ => none }
def DeadlineOperationsAddUpWrongFalsely : Prop := deadlineOperationsAddUpRow.holds Try.pinned (OpenSpec.ofChange deadlineOperationsAddUpWrong)

/-- 'changeforgelaw8.DeadlineTimeoutsWait': WHATEVER THE INPUT: true; the input reads as it did. -/
def deadlineTimeoutsWaitSpec : ChangeSpec := { name := "deadlineTimeoutsWait", fn := fun _ => fun
  | [d1, d2, d3] => { results := [.lit (.bool true)], args := [d1, d2, d3] }
  | _ => none }
def deadlineTimeoutsWaitRow : OpenClaim := { program := "ytfkhdfmnhkndeaa", sum := "498c6b22db17df00a87325a4952e3d222ea6bd14585f419eaa955a9127717136", func := "changeforge/changeforgelaw8.DeadlineTimeoutsWait", spec := "deadlineTimeoutsWait", unfollowed := true, recurses := true, apart := false }
def DeadlineTimeoutsWaitSaid : Prop := deadlineTimeoutsWaitRow.holds Try.pinned (OpenSpec.ofChange deadlineTimeoutsWaitSpec)

/-- ITS FALSE NEIGHBOUR: 'it returns false'. Refute it at one input. -/
def deadlineTimeoutsWaitWrong : ChangeSpec := { name := "deadlineTimeoutsWait", fn := fun _ => fun
  | [d1, d2, d3] => { results := [.lit (.bool false)], args := [d1, d2, d3] }
  | _ => none }
def DeadlineTimeoutsWaitWrongFalsely : Prop := deadlineTimeoutsWaitRow.holds Try.pinned (OpenSpec.ofChange deadlineTimeoutsWaitWrong)

/- THE SECOND FORM. 'bulk': how many values and letters a reading holds, each counted each time it is reached (what is shared counts as often as it is met; a slice's spare places count too). A statement '..UptoSaid' is the law's where the arguments, and the package variables that the reading takes, are together of bulk at most 1048576: NARROWER than '..Said'. Prove '..Said' where nothing that the law and all that it calls make is longer than what came in: it says more and counts as full. Else prove '..UptoSaid'. A law counts once. -/
mutual
def uptoBulk {H : Type} : DataW H → Nat
  | .lit (.string bytes) => bytes.length + 1
  | .lit _ => 1
  | .nil => 1
  | .ptr d => uptoBulk d + 1
  | .slice elems spare => uptoBulkAll elems + uptoBulkAll spare + 1
  | .agg parts => uptoBulkAll parts + 1
  | .iface _ d => uptoBulk d + 1
  | .map entries => uptoBulkEntries entries + 1
  | .held _ => 1
def uptoBulkAll {H : Type} : List (DataW H) → Nat
  | [] => 0
  | d :: r => uptoBulk d + uptoBulkAll r
def uptoBulkEntries {H : Type} : List (Lit × DataW H) → Nat
  | [] => 0
  | x :: r => uptoBulkEntry x + uptoBulkEntries r
def uptoBulkEntry {H : Type} : Lit × DataW H → Nat
  | (.string bytes, d) => bytes.length + uptoBulk d + 1
  | (_, d) => uptoBulk d + 1
 end
def uptoSmall : (H : Type) → List (DataW H) → Bool := fun _ ds => decide (uptoBulkAll ds ≤ 1048576)
def OpenSpec.upto (s : _root_.Go.ChangeSpec) : _root_.Go.OpenSpec := { _root_.Go.OpenSpec.ofChange s with cond := some uptoSmall }

/-- 'changeforgelaw8.DeadlineFunctionsMatchSpec', WHERE WHAT IT READS IS OF BULK AT MOST 1048576: true; the input reads as it did. -/
def deadlineFunctionsMatchSpecUptoRow : OpenClaim := { program := "ytfkhdfmnhkndeaa", sum := "498c6b22db17df00a87325a4952e3d222ea6bd14585f419eaa955a9127717136", func := "changeforge/changeforgelaw8.DeadlineFunctionsMatchSpec", spec := "deadlineFunctionsMatchSpec", unfollowed := true, recurses := true, apart := false, narrowed := true }
def DeadlineFunctionsMatchSpecUptoSaid : Prop := deadlineFunctionsMatchSpecUptoRow.holds Try.pinned (OpenSpec.upto deadlineFunctionsMatchSpecSpec)

/-- 'changeforgelaw8.DeadlineChannelsAreQueues', WHERE WHAT IT READS IS OF BULK AT MOST 1048576: true; the input reads as it did. -/
def deadlineChannelsAreQueuesUptoRow : OpenClaim := { program := "ytfkhdfmnhkndeaa", sum := "498c6b22db17df00a87325a4952e3d222ea6bd14585f419eaa955a9127717136", func := "changeforge/changeforgelaw8.DeadlineChannelsAreQueues", spec := "deadlineChannelsAreQueues", unfollowed := true, recurses := true, apart := false, narrowed := true }
def DeadlineChannelsAreQueuesUptoSaid : Prop := deadlineChannelsAreQueuesUptoRow.holds Try.pinned (OpenSpec.upto deadlineChannelsAreQueuesSpec)

/-- 'changeforgelaw8.DeadlineTimeGoesOn', WHERE WHAT IT READS IS OF BULK AT MOST 1048576: true; the input reads as it did. -/
def deadlineTimeGoesOnUptoRow : OpenClaim := { program := "ytfkhdfmnhkndeaa", sum := "498c6b22db17df00a87325a4952e3d222ea6bd14585f419eaa955a9127717136", func := "changeforge/changeforgelaw8.DeadlineTimeGoesOn", spec := "deadlineTimeGoesOn", unfollowed := true, recurses := true, apart := false, narrowed := true }
def DeadlineTimeGoesOnUptoSaid : Prop := deadlineTimeGoesOnUptoRow.holds Try.pinned (OpenSpec.upto deadlineTimeGoesOnSpec)

/-- 'changeforgelaw8.DeadlineOperationsAddUp', WHERE WHAT IT READS IS OF BULK AT MOST 1048576: true; the input reads as it did. -/
def deadlineOperationsAddUpUptoRow : OpenClaim := { program := "ytfkhdfmnhkndeaa", sum := "498c6b22db17df00a87325a4952e3d222ea6bd14585f419eaa955a9127717136", func := "changeforge/changeforgelaw8.DeadlineOperationsAddUp", spec := "deadlineOperationsAddUp", unfollowed := true, recurses := true, apart := false, narrowed := true }
def DeadlineOperationsAddUpUptoSaid : Prop := deadlineOperationsAddUpUptoRow.holds Try.pinned (OpenSpec.upto deadlineOperationsAddUpSpec)

/-- 'changeforgelaw8.DeadlineTimeoutsWait', WHERE WHAT IT READS IS OF BULK AT MOST 1048576: true; the input reads as it did. -/
def deadlineTimeoutsWaitUptoRow : OpenClaim := { program := "ytfkhdfmnhkndeaa", sum := "498c6b22db17df00a87325a4952e3d222ea6bd14585f419eaa955a9127717136", func := "changeforge/changeforgelaw8.DeadlineTimeoutsWait", spec := "deadlineTimeoutsWait", unfollowed := true, recurses := true, apart := false, narrowed := true }
def DeadlineTimeoutsWaitUptoSaid : Prop := deadlineTimeoutsWaitUptoRow.holds Try.pinned (OpenSpec.upto deadlineTimeoutsWaitSpec)

end Rows
end Go.Proofs.Ytfkhdfmnhkndeaa

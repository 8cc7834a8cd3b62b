/-
  No cell of these rows narrows 'for every input' (looked for: loops, veiled, ifaces, maps, wideKeys, modest, calm, conditions, laid).
  DERIVED. THE GIVEN ROWS OF THIS SEAT. 6 by the template 'for every input the law returns true; each argument reads behind the call as it read before'; 0 by the template 'total and deterministic' (their statements: YtopibmbmlifkmaaTotals.lean).
  GIVEN WITH THE SEED: the statements are not yours to turn. If you find one false, say at which input.
  Laid BY PROGRAM, IN A SANDBOX (cutbox-rows.mjs): the forced cells as the released guide's own fill.sh prints them over the translation ed34a9edd9246eb4… (all of the seat's roots in one cut). By AI agents, Wed Nov 11 2026. No macro, syntax, notation, axiom, sorry.
-/
import Derived.Test.YtopibmbmlifkmaaChecked
import GoSem.Claim
import GoSem.ClaimJoined
import GoSem.ClaimMapViews
import Derived.JoinedTies
import Derived.KernelRfl
namespace Go.Proofs.Ytopibmbmlifkmaa
/- THE CELL 'sum', in the pinned program and in every row, IS THE sha256 OF THE DUMP (.gsa) THAT YtopibmbmlifkmaaProg.lean LOADS. Nothing in Lean hashes anything: it is a label: what it is worth is what the hold of that sum in a sandbox is worth. -/
noncomputable def Try.pinned : Pinned := { name := "ytopibmbmlifkmaa", sum := "ed34a9edd9246eb46d2b5a3b17677aaf0a5b85635da0ef379a551d6c63de1e31", checked := Try.checked }
namespace Rows
def none {H : Type} : Left H := { results := [], args := [] }

/-- 'changeforgelaw8.AuditFunctionsMatchSpec': WHATEVER THE INPUT: true; the input reads as it did. -/
def auditFunctionsMatchSpecSpec : ChangeSpec := { name := "auditFunctionsMatchSpec", fn := fun _ => fun
  | [d1, d2, d3, d4, d5] => { results := [.lit (.bool true)], args := [d1, d2, d3, d4, d5] }
  | _ => none }
def auditFunctionsMatchSpecRow : OpenClaim := { program := "ytopibmbmlifkmaa", sum := "ed34a9edd9246eb46d2b5a3b17677aaf0a5b85635da0ef379a551d6c63de1e31", func := "changeforge/changeforgelaw8.AuditFunctionsMatchSpec", spec := "auditFunctionsMatchSpec", recurses := true, apart := false }
def AuditFunctionsMatchSpecSaid : Prop := auditFunctionsMatchSpecRow.holds Try.pinned (OpenSpec.ofChange auditFunctionsMatchSpecSpec)

/-- ITS FALSE NEIGHBOUR: 'it returns false'. Refute it at one input. -/
def auditFunctionsMatchSpecWrong : ChangeSpec := { name := "auditFunctionsMatchSpec", fn := fun _ => fun
  | [d1, d2, d3, d4, d5] => { results := [.lit (.bool false)], args := [d1, d2, d3, d4, d5] }
  | _ => none }
def AuditFunctionsMatchSpecWrongFalsely : Prop := auditFunctionsMatchSpecRow.holds Try.pinned (OpenSpec.ofChange auditFunctionsMatchSpecWrong)

/-- 'changeforgelaw8.AuditAppendExtends': WHATEVER THE INPUT: true; the input reads as it did. -/
def auditAppendExtendsSpec : ChangeSpec := { name := "auditAppendExtends", fn := fun _ => fun
  | [d1, d2, d3, d4] => { results := [.lit (.bool true)], args := [d1, d2, d3, d4] }
  | _ => none }
def auditAppendExtendsRow : OpenClaim := { program := "ytopibmbmlifkmaa", sum := "ed34a9edd9246eb46d2b5a3b17677aaf0a5b85635da0ef379a551d6c63de1e31", func := "changeforge/changeforgelaw8.AuditAppendExtends", spec := "auditAppendExtends", recurses := true, apart := false }
def AuditAppendExtendsSaid : Prop := auditAppendExtendsRow.holds Try.pinned (OpenSpec.ofChange auditAppendExtendsSpec)

/-- ITS FALSE NEIGHBOUR: 'it returns false'. Refute it at one input. -/
def auditAppendExtendsWrong : ChangeSpec := { name := "auditAppendExtends", fn := fun _ => fun
  | [d1, d2, d3, d4] => { results := [.lit (.bool false)], args := [d1, d2, d3, d4] }
  | _ => none }
def AuditAppendExtendsWrongFalsely : Prop := auditAppendExtendsRow.holds Try.pinned (OpenSpec.ofChange auditAppendExtendsWrong)

/-- 'changeforgelaw8.AuditTamperingIsDetected': WHATEVER THE INPUT: true; the input reads as it did. -/
def auditTamperingIsDetectedSpec : ChangeSpec := { name := "auditTamperingIsDetected", fn := fun _ => fun
  | [d1, d2, d3] => { results := [.lit (.bool true)], args := [d1, d2, d3] }
  | _ => none }
def auditTamperingIsDetectedRow : OpenClaim := { program := "ytopibmbmlifkmaa", sum := "ed34a9edd9246eb46d2b5a3b17677aaf0a5b85635da0ef379a551d6c63de1e31", func := "changeforge/changeforgelaw8.AuditTamperingIsDetected", spec := "auditTamperingIsDetected", recurses := true, apart := false }
def AuditTamperingIsDetectedSaid : Prop := auditTamperingIsDetectedRow.holds Try.pinned (OpenSpec.ofChange auditTamperingIsDetectedSpec)

/-- ITS FALSE NEIGHBOUR: 'it returns false'. Refute it at one input. -/
def auditTamperingIsDetectedWrong : ChangeSpec := { name := "auditTamperingIsDetected", fn := fun _ => fun
  | [d1, d2, d3] => { results := [.lit (.bool false)], args := [d1, d2, d3] }
  | _ => none }
def AuditTamperingIsDetectedWrongFalsely : Prop := auditTamperingIsDetectedRow.holds Try.pinned (OpenSpec.ofChange auditTamperingIsDetectedWrong)

/-- 'changeforgelaw8.AuditQueriesPartition': WHATEVER THE INPUT: true; the input reads as it did. -/
def auditQueriesPartitionSpec : ChangeSpec := { name := "auditQueriesPartition", fn := fun _ => fun
  | [d1, d2, d3, d4] => { results := [.lit (.bool true)], args := [d1, d2, d3, d4] }
  | _ => none }
def auditQueriesPartitionRow : OpenClaim := { program := "ytopibmbmlifkmaa", sum := "ed34a9edd9246eb46d2b5a3b17677aaf0a5b85635da0ef379a551d6c63de1e31", func := "changeforge/changeforgelaw8.AuditQueriesPartition", spec := "auditQueriesPartition", recurses := true, apart := false }
def AuditQueriesPartitionSaid : Prop := auditQueriesPartitionRow.holds Try.pinned (OpenSpec.ofChange auditQueriesPartitionSpec)

/-- ITS FALSE NEIGHBOUR: 'it returns false'. Refute it at one input. -/
def auditQueriesPartitionWrong : ChangeSpec := { name := "auditQueriesPartition", fn := fun _ => fun
  | [d1, d2, d3, d4] => { results := [.lit (.bool false)], args := [d1, d2, d3, d4] }
  | _ => none }
def AuditQueriesPartitionWrongFalsely : Prop := auditQueriesPartitionRow.holds Try.pinned (OpenSpec.ofChange auditQueriesPartitionWrong)

/-- 'changeforgelaw8.AuditProofsMatchSpec': WHATEVER THE INPUT: true; the input reads as it did. -/
def auditProofsMatchSpecSpec : ChangeSpec := { name := "auditProofsMatchSpec", fn := fun _ => fun
  | [d1, d2, d3, d4, d5, d6, d7] => { results := [.lit (.bool true)], args := [d1, d2, d3, d4, d5, d6, d7] }
  | _ => none }
def auditProofsMatchSpecRow : OpenClaim := { program := "ytopibmbmlifkmaa", sum := "ed34a9edd9246eb46d2b5a3b17677aaf0a5b85635da0ef379a551d6c63de1e31", func := "changeforge/changeforgelaw8.AuditProofsMatchSpec", spec := "auditProofsMatchSpec", recurses := true, apart := false }
def AuditProofsMatchSpecSaid : Prop := auditProofsMatchSpecRow.holds Try.pinned (OpenSpec.ofChange auditProofsMatchSpecSpec)

/-- ITS FALSE NEIGHBOUR: 'it returns false'. Refute it at one input. -/
def auditProofsMatchSpecWrong : ChangeSpec := { name := "auditProofsMatchSpec", fn := fun _ => fun
  | [d1, d2, d3, d4, d5, d6, d7] => { results := [.lit (.bool false)], args := [d1, d2, d3, d4, d5, d6, d7] }
  | _ => none }
def AuditProofsMatchSpecWrongFalsely : Prop := auditProofsMatchSpecRow.holds Try.pinned (OpenSpec.ofChange auditProofsMatchSpecWrong)

/-- 'changeforgelaw8.AuditProofsConvince': WHATEVER THE INPUT: true; the input reads as it did. -/
def auditProofsConvinceSpec : ChangeSpec := { name := "auditProofsConvince", fn := fun _ => fun
  | [d1, d2] => { results := [.lit (.bool true)], args := [d1, d2] }
  | _ => none }
def auditProofsConvinceRow : OpenClaim := { program := "ytopibmbmlifkmaa", sum := "ed34a9edd9246eb46d2b5a3b17677aaf0a5b85635da0ef379a551d6c63de1e31", func := "changeforge/changeforgelaw8.AuditProofsConvince", spec := "auditProofsConvince", recurses := true, apart := false }
def AuditProofsConvinceSaid : Prop := auditProofsConvinceRow.holds Try.pinned (OpenSpec.ofChange auditProofsConvinceSpec)

/-- ITS FALSE NEIGHBOUR: 'it returns false'. Refute it at one input. -/
def auditProofsConvinceWrong : ChangeSpec := { name := "auditProofsConvince", fn := fun _ => fun
  | [d1, d2] => { results := [.lit (.bool false)], args := [d1, d2] }
  | _ => none }
def AuditProofsConvinceWrongFalsely : Prop := auditProofsConvinceRow.holds Try.pinned (OpenSpec.ofChange auditProofsConvinceWrong)

/- THE SECOND FORM. 'bulk': how many values and letters a reading holds, each counted each time it is reached (what is shared counts as often as it is met; a slice's spare places count too). A statement '..UptoSaid' is the law's where the arguments, and the package variables that the reading takes, are together of bulk at most 1048576: NARROWER than '..Said'. Prove '..Said' where nothing that the law and all that it calls make is longer than what came in: it says more and counts as full. Else prove '..UptoSaid'. A law counts once. -/
mutual
def uptoBulk {H : Type} : DataW H → Nat
  | .lit (.string bytes) => bytes.length + 1
  | .lit _ => 1
  | .nil => 1
  | .ptr d => uptoBulk d + 1
  | .slice elems spare => uptoBulkAll elems + uptoBulkAll spare + 1
  | .agg parts => uptoBulkAll parts + 1
  | .iface _ d => uptoBulk d + 1
  | .map entries => uptoBulkEntries entries + 1
  | .held _ => 1
def uptoBulkAll {H : Type} : List (DataW H) → Nat
  | [] => 0
  | d :: r => uptoBulk d + uptoBulkAll r
def uptoBulkEntries {H : Type} : List (Lit × DataW H) → Nat
  | [] => 0
  | x :: r => uptoBulkEntry x + uptoBulkEntries r
def uptoBulkEntry {H : Type} : Lit × DataW H → Nat
  | (.string bytes, d) => bytes.length + uptoBulk d + 1
  | (_, d) => uptoBulk d + 1
 end
def uptoSmall : (H : Type) → List (DataW H) → Bool := fun _ ds => decide (uptoBulkAll ds ≤ 1048576)
def OpenSpec.upto (s : _root_.Go.ChangeSpec) : _root_.Go.OpenSpec := { _root_.Go.OpenSpec.ofChange s with cond := some uptoSmall }

/-- 'changeforgelaw8.AuditFunctionsMatchSpec', WHERE WHAT IT READS IS OF BULK AT MOST 1048576: true; the input reads as it did. -/
def auditFunctionsMatchSpecUptoRow : OpenClaim := { program := "ytopibmbmlifkmaa", sum := "ed34a9edd9246eb46d2b5a3b17677aaf0a5b85635da0ef379a551d6c63de1e31", func := "changeforge/changeforgelaw8.AuditFunctionsMatchSpec", spec := "auditFunctionsMatchSpec", recurses := true, apart := false, narrowed := true }
def AuditFunctionsMatchSpecUptoSaid : Prop := auditFunctionsMatchSpecUptoRow.holds Try.pinned (OpenSpec.upto auditFunctionsMatchSpecSpec)

/-- 'changeforgelaw8.AuditAppendExtends', WHERE WHAT IT READS IS OF BULK AT MOST 1048576: true; the input reads as it did. -/
def auditAppendExtendsUptoRow : OpenClaim := { program := "ytopibmbmlifkmaa", sum := "ed34a9edd9246eb46d2b5a3b17677aaf0a5b85635da0ef379a551d6c63de1e31", func := "changeforge/changeforgelaw8.AuditAppendExtends", spec := "auditAppendExtends", recurses := true, apart := false, narrowed := true }
def AuditAppendExtendsUptoSaid : Prop := auditAppendExtendsUptoRow.holds Try.pinned (OpenSpec.upto auditAppendExtendsSpec)

/-- 'changeforgelaw8.AuditTamperingIsDetected', WHERE WHAT IT READS IS OF BULK AT MOST 1048576: true; the input reads as it did. -/
def auditTamperingIsDetectedUptoRow : OpenClaim := { program := "ytopibmbmlifkmaa", sum := "ed34a9edd9246eb46d2b5a3b17677aaf0a5b85635da0ef379a551d6c63de1e31", func := "changeforge/changeforgelaw8.AuditTamperingIsDetected", spec := "auditTamperingIsDetected", recurses := true, apart := false, narrowed := true }
def AuditTamperingIsDetectedUptoSaid : Prop := auditTamperingIsDetectedUptoRow.holds Try.pinned (OpenSpec.upto auditTamperingIsDetectedSpec)

/-- 'changeforgelaw8.AuditQueriesPartition', WHERE WHAT IT READS IS OF BULK AT MOST 1048576: true; the input reads as it did. -/
def auditQueriesPartitionUptoRow : OpenClaim := { program := "ytopibmbmlifkmaa", sum := "ed34a9edd9246eb46d2b5a3b17677aaf0a5b85635da0ef379a551d6c63de1e31", func := "changeforge/changeforgelaw8.AuditQueriesPartition", spec := "auditQueriesPartition", recurses := true, apart := false, narrowed := true }
def AuditQueriesPartitionUptoSaid : Prop := auditQueriesPartitionUptoRow.holds Try.pinned (OpenSpec.upto auditQueriesPartitionSpec)

/-- 'changeforgelaw8.AuditProofsMatchSpec', WHERE WHAT IT READS IS OF BULK AT MOST 1048576: true; the input reads as it did. -/
def auditProofsMatchSpecUptoRow : OpenClaim := { program := "ytopibmbmlifkmaa", sum := "ed34a9edd9246eb46d2b5a3b17677aaf0a5b85635da0ef379a551d6c63de1e31", func := "changeforge/changeforgelaw8.AuditProofsMatchSpec", spec := "auditProofsMatchSpec", recurses := true, apart := false, narrowed := true }
def AuditProofsMatchSpecUptoSaid : Prop := auditProofsMatchSpecUptoRow.holds Try.pinned (OpenSpec.upto auditProofsMatchSpecSpec)

/-- 'changeforgelaw8.AuditProofsConvince', WHERE WHAT IT READS IS OF BULK AT MOST 1048576: true; the input reads as it did. -/
def auditProofsConvinceUptoRow : OpenClaim := { program := "ytopibmbmlifkmaa", sum := "ed34a9edd9246eb46d2b5a3b17677aaf0a5b85635da0ef379a551d6c63de1e31", func := "changeforge/changeforgelaw8.AuditProofsConvince", spec := "auditProofsConvince", recurses := true, apart := false, narrowed := true }
def AuditProofsConvinceUptoSaid : Prop := auditProofsConvinceUptoRow.holds Try.pinned (OpenSpec.upto auditProofsConvinceSpec)

end Rows
end Go.Proofs.Ytopibmbmlifkmaa

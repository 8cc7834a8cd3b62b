/-
  No cell of these rows narrows 'for every input' (looked for: loops, veiled, ifaces, maps, wideKeys, modest, calm, conditions, laid).
  DERIVED. THE GIVEN ROWS OF THIS SEAT. 5 by the template 'for every input the law returns true; each argument reads behind the call as it read before'; 0 by the template 'total and deterministic' (their statements: YtiffkkebibddbaaTotals.lean).
  GIVEN WITH THE SEED: the statements are not yours to turn. If you find one false, say at which input.
  Laid BY PROGRAM, IN A SANDBOX (cutbox-rows.mjs): the forced cells as the released guide's own fill.sh prints them over the translation 6b4cf204431b736a… (all of the seat's roots in one cut). By AI agents, Wed Nov 11 2026. No macro, syntax, notation, axiom, sorry.
-/
import Derived.Test.YtiffkkebibddbaaChecked
import GoSem.Claim
import GoSem.ClaimJoined
import GoSem.ClaimMapViews
import Derived.JoinedTies
import Derived.KernelRfl
namespace Go.Proofs.Ytiffkkebibddbaa
/- THE CELL 'sum', in the pinned program and in every row, IS THE sha256 OF THE DUMP (.gsa) THAT YtiffkkebibddbaaProg.lean LOADS. Nothing in Lean hashes anything: it is a label: what it is worth is what the hold of that sum in a sandbox is worth. -/
noncomputable def Try.pinned : Pinned := { name := "ytiffkkebibddbaa", sum := "6b4cf204431b736ac81378478a5fed6aa1eccb0933389b3ae0a9c37e3009514e", checked := Try.checked }
namespace Rows
def none {H : Type} : Left H := { results := [], args := [] }

/-- 'changeforgelaw8.CanaryFunctionsMatchSpec': WHATEVER THE INPUT: true; the input reads as it did. -/
def canaryFunctionsMatchSpecSpec : ChangeSpec := { name := "canaryFunctionsMatchSpec", fn := fun _ => fun
  | [d1, d2, d3, d4] => { results := [.lit (.bool true)], args := [d1, d2, d3, d4] }
  | _ => none }
def canaryFunctionsMatchSpecRow : OpenClaim := { program := "ytiffkkebibddbaa", sum := "6b4cf204431b736ac81378478a5fed6aa1eccb0933389b3ae0a9c37e3009514e", func := "changeforge/changeforgelaw8.CanaryFunctionsMatchSpec", spec := "canaryFunctionsMatchSpec", apart := false }
def CanaryFunctionsMatchSpecSaid : Prop := canaryFunctionsMatchSpecRow.holds Try.pinned (OpenSpec.ofChange canaryFunctionsMatchSpecSpec)

/-- ITS FALSE NEIGHBOUR: 'it returns false'. Refute it at one input. -/
def canaryFunctionsMatchSpecWrong : ChangeSpec := { name := "canaryFunctionsMatchSpec", fn := fun _ => fun
  | [d1, d2, d3, d4] => { results := [.lit (.bool false)], args := [d1, d2, d3, d4] }
  | _ => none }
def CanaryFunctionsMatchSpecWrongFalsely : Prop := canaryFunctionsMatchSpecRow.holds Try.pinned (OpenSpec.ofChange canaryFunctionsMatchSpecWrong)

/-- 'changeforgelaw8.CanaryWorseIsLessProbable': WHATEVER THE INPUT: true; the input reads as it did. -/
def canaryWorseIsLessProbableSpec : ChangeSpec := { name := "canaryWorseIsLessProbable", fn := fun _ => fun
  | [d1, d2] => { results := [.lit (.bool true)], args := [d1, d2] }
  | _ => none }
def canaryWorseIsLessProbableRow : OpenClaim := { program := "ytiffkkebibddbaa", sum := "6b4cf204431b736ac81378478a5fed6aa1eccb0933389b3ae0a9c37e3009514e", func := "changeforge/changeforgelaw8.CanaryWorseIsLessProbable", spec := "canaryWorseIsLessProbable", apart := false }
def CanaryWorseIsLessProbableSaid : Prop := canaryWorseIsLessProbableRow.holds Try.pinned (OpenSpec.ofChange canaryWorseIsLessProbableSpec)

/-- ITS FALSE NEIGHBOUR: 'it returns false'. Refute it at one input. -/
def canaryWorseIsLessProbableWrong : ChangeSpec := { name := "canaryWorseIsLessProbable", fn := fun _ => fun
  | [d1, d2] => { results := [.lit (.bool false)], args := [d1, d2] }
  | _ => none }
def CanaryWorseIsLessProbableWrongFalsely : Prop := canaryWorseIsLessProbableRow.holds Try.pinned (OpenSpec.ofChange canaryWorseIsLessProbableWrong)

/-- 'changeforgelaw8.CanarySidesAreSymmetric': WHATEVER THE INPUT: true; the input reads as it did. -/
def canarySidesAreSymmetricSpec : ChangeSpec := { name := "canarySidesAreSymmetric", fn := fun _ => fun
  | [d1, d2] => { results := [.lit (.bool true)], args := [d1, d2] }
  | _ => none }
def canarySidesAreSymmetricRow : OpenClaim := { program := "ytiffkkebibddbaa", sum := "6b4cf204431b736ac81378478a5fed6aa1eccb0933389b3ae0a9c37e3009514e", func := "changeforge/changeforgelaw8.CanarySidesAreSymmetric", spec := "canarySidesAreSymmetric", apart := false }
def CanarySidesAreSymmetricSaid : Prop := canarySidesAreSymmetricRow.holds Try.pinned (OpenSpec.ofChange canarySidesAreSymmetricSpec)

/-- ITS FALSE NEIGHBOUR: 'it returns false'. Refute it at one input. -/
def canarySidesAreSymmetricWrong : ChangeSpec := { name := "canarySidesAreSymmetric", fn := fun _ => fun
  | [d1, d2] => { results := [.lit (.bool false)], args := [d1, d2] }
  | _ => none }
def CanarySidesAreSymmetricWrongFalsely : Prop := canarySidesAreSymmetricRow.holds Try.pinned (OpenSpec.ofChange canarySidesAreSymmetricWrong)

/-- 'changeforgelaw8.CanaryToleranceIsExact': WHATEVER THE INPUT: true; the input reads as it did. -/
def canaryToleranceIsExactSpec : ChangeSpec := { name := "canaryToleranceIsExact", fn := fun _ => fun
  | [d1, d2, d3, d4] => { results := [.lit (.bool true)], args := [d1, d2, d3, d4] }
  | _ => none }
def canaryToleranceIsExactRow : OpenClaim := { program := "ytiffkkebibddbaa", sum := "6b4cf204431b736ac81378478a5fed6aa1eccb0933389b3ae0a9c37e3009514e", func := "changeforge/changeforgelaw8.CanaryToleranceIsExact", spec := "canaryToleranceIsExact", apart := false }
def CanaryToleranceIsExactSaid : Prop := canaryToleranceIsExactRow.holds Try.pinned (OpenSpec.ofChange canaryToleranceIsExactSpec)

/-- ITS FALSE NEIGHBOUR: 'it returns false'. Refute it at one input. -/
def canaryToleranceIsExactWrong : ChangeSpec := { name := "canaryToleranceIsExact", fn := fun _ => fun
  | [d1, d2, d3, d4] => { results := [.lit (.bool false)], args := [d1, d2, d3, d4] }
  | _ => none }
def CanaryToleranceIsExactWrongFalsely : Prop := canaryToleranceIsExactRow.holds Try.pinned (OpenSpec.ofChange canaryToleranceIsExactWrong)

/-- 'changeforgelaw8.CanaryStricterToleratesLess': WHATEVER THE INPUT: true; the input reads as it did. -/
def canaryStricterToleratesLessSpec : ChangeSpec := { name := "canaryStricterToleratesLess", fn := fun _ => fun
  | [d1, d2, d3, d4] => { results := [.lit (.bool true)], args := [d1, d2, d3, d4] }
  | _ => none }
def canaryStricterToleratesLessRow : OpenClaim := { program := "ytiffkkebibddbaa", sum := "6b4cf204431b736ac81378478a5fed6aa1eccb0933389b3ae0a9c37e3009514e", func := "changeforge/changeforgelaw8.CanaryStricterToleratesLess", spec := "canaryStricterToleratesLess", apart := false }
def CanaryStricterToleratesLessSaid : Prop := canaryStricterToleratesLessRow.holds Try.pinned (OpenSpec.ofChange canaryStricterToleratesLessSpec)

/-- ITS FALSE NEIGHBOUR: 'it returns false'. Refute it at one input. -/
def canaryStricterToleratesLessWrong : ChangeSpec := { name := "canaryStricterToleratesLess", fn := fun _ => fun
  | [d1, d2, d3, d4] => { results := [.lit (.bool false)], args := [d1, d2, d3, d4] }
  | _ => none }
def CanaryStricterToleratesLessWrongFalsely : Prop := canaryStricterToleratesLessRow.holds Try.pinned (OpenSpec.ofChange canaryStricterToleratesLessWrong)

/- THE SECOND FORM. 'bulk': how many values and letters a reading holds, each counted each time it is reached (what is shared counts as often as it is met; a slice's spare places count too). A statement '..UptoSaid' is the law's where the arguments, and the package variables that the reading takes, are together of bulk at most 1048576: NARROWER than '..Said'. Prove '..Said' where nothing that the law and all that it calls make is longer than what came in: it says more and counts as full. Else prove '..UptoSaid'. A law counts once. -/
mutual
def uptoBulk {H : Type} : DataW H → Nat
  | .lit (.string bytes) => bytes.length + 1
  | .lit _ => 1
  | .nil => 1
  | .ptr d => uptoBulk d + 1
  | .slice elems spare => uptoBulkAll elems + uptoBulkAll spare + 1
  | .agg parts => uptoBulkAll parts + 1
  | .iface _ d => uptoBulk d + 1
  | .map entries => uptoBulkEntries entries + 1
  | .held _ => 1
def uptoBulkAll {H : Type} : List (DataW H) → Nat
  | [] => 0
  | d :: r => uptoBulk d + uptoBulkAll r
def uptoBulkEntries {H : Type} : List (Lit × DataW H) → Nat
  | [] => 0
  | x :: r => uptoBulkEntry x + uptoBulkEntries r
def uptoBulkEntry {H : Type} : Lit × DataW H → Nat
  | (.string bytes, d) => bytes.length + uptoBulk d + 1
  | (_, d) => uptoBulk d + 1
 end
def uptoSmall : (H : Type) → List (DataW H) → Bool := fun _ ds => decide (uptoBulkAll ds ≤ 1048576)
def OpenSpec.upto (s : _root_.Go.ChangeSpec) : _root_.Go.OpenSpec := { _root_.Go.OpenSpec.ofChange s with cond := some uptoSmall }

/-- 'changeforgelaw8.CanaryFunctionsMatchSpec', WHERE WHAT IT READS IS OF BULK AT MOST 1048576: true; the input reads as it did. -/
def canaryFunctionsMatchSpecUptoRow : OpenClaim := { program := "ytiffkkebibddbaa", sum := "6b4cf204431b736ac81378478a5fed6aa1eccb0933389b3ae0a9c37e3009514e", func := "changeforge/changeforgelaw8.CanaryFunctionsMatchSpec", spec := "canaryFunctionsMatchSpec", apart := false, narrowed := true }
def CanaryFunctionsMatchSpecUptoSaid : Prop := canaryFunctionsMatchSpecUptoRow.holds Try.pinned (OpenSpec.upto canaryFunctionsMatchSpecSpec)

/-- 'changeforgelaw8.CanaryWorseIsLessProbable', WHERE WHAT IT READS IS OF BULK AT MOST 1048576: true; the input reads as it did. -/
def canaryWorseIsLessProbableUptoRow : OpenClaim := { program := "ytiffkkebibddbaa", sum := "6b4cf204431b736ac81378478a5fed6aa1eccb0933389b3ae0a9c37e3009514e", func := "changeforge/changeforgelaw8.CanaryWorseIsLessProbable", spec := "canaryWorseIsLessProbable", apart := false, narrowed := true }
def CanaryWorseIsLessProbableUptoSaid : Prop := canaryWorseIsLessProbableUptoRow.holds Try.pinned (OpenSpec.upto canaryWorseIsLessProbableSpec)

/-- 'changeforgelaw8.CanarySidesAreSymmetric', WHERE WHAT IT READS IS OF BULK AT MOST 1048576: true; the input reads as it did. -/
def canarySidesAreSymmetricUptoRow : OpenClaim := { program := "ytiffkkebibddbaa", sum := "6b4cf204431b736ac81378478a5fed6aa1eccb0933389b3ae0a9c37e3009514e", func := "changeforge/changeforgelaw8.CanarySidesAreSymmetric", spec := "canarySidesAreSymmetric", apart := false, narrowed := true }
def CanarySidesAreSymmetricUptoSaid : Prop := canarySidesAreSymmetricUptoRow.holds Try.pinned (OpenSpec.upto canarySidesAreSymmetricSpec)

/-- 'changeforgelaw8.CanaryToleranceIsExact', WHERE WHAT IT READS IS OF BULK AT MOST 1048576: true; the input reads as it did. -/
def canaryToleranceIsExactUptoRow : OpenClaim := { program := "ytiffkkebibddbaa", sum := "6b4cf204431b736ac81378478a5fed6aa1eccb0933389b3ae0a9c37e3009514e", func := "changeforge/changeforgelaw8.CanaryToleranceIsExact", spec := "canaryToleranceIsExact", apart := false, narrowed := true }
def CanaryToleranceIsExactUptoSaid : Prop := canaryToleranceIsExactUptoRow.holds Try.pinned (OpenSpec.upto canaryToleranceIsExactSpec)

/-- 'changeforgelaw8.CanaryStricterToleratesLess', WHERE WHAT IT READS IS OF BULK AT MOST 1048576: true; the input reads as it did. -/
def canaryStricterToleratesLessUptoRow : OpenClaim := { program := "ytiffkkebibddbaa", sum := "6b4cf204431b736ac81378478a5fed6aa1eccb0933389b3ae0a9c37e3009514e", func := "changeforge/changeforgelaw8.CanaryStricterToleratesLess", spec := "canaryStricterToleratesLess", apart := false, narrowed := true }
def CanaryStricterToleratesLessUptoSaid : Prop := canaryStricterToleratesLessUptoRow.holds Try.pinned (OpenSpec.upto canaryStricterToleratesLessSpec)

end Rows
end Go.Proofs.Ytiffkkebibddbaa

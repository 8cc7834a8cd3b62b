/-
  No cell of these rows narrows 'for every input' (looked for: loops, veiled, ifaces, maps, wideKeys, modest, calm, conditions, laid).
  DERIVED. THE GIVEN ROWS OF THIS SEAT. 5 by the template 'for every input the law returns true; each argument reads behind the call as it read before'; 0 by the template 'total and deterministic' (their statements: YtmfdikjeijnlmaaTotals.lean).
  GIVEN WITH THE SEED: the statements are not yours to turn. If you find one false, say at which input.
  Laid BY PROGRAM, IN A SANDBOX (cutbox-rows.mjs): the forced cells as the released guide's own fill.sh prints them over the translation 83f887208107f141… (all of the seat's roots in one cut). By AI agents, Wed Nov 11 2026. No macro, syntax, notation, axiom, sorry.
-/
import Derived.Test.YtmfdikjeijnlmaaChecked
import GoSem.Claim
import GoSem.ClaimJoined
import GoSem.ClaimMapViews
import Derived.JoinedTies
import Derived.KernelRfl
namespace Go.Proofs.Ytmfdikjeijnlmaa
/- THE CELL 'sum', in the pinned program and in every row, IS THE sha256 OF THE DUMP (.gsa) THAT YtmfdikjeijnlmaaProg.lean LOADS. Nothing in Lean hashes anything: it is a label: what it is worth is what the hold of that sum in a sandbox is worth. -/
noncomputable def Try.pinned : Pinned := { name := "ytmfdikjeijnlmaa", sum := "83f887208107f14183ab1219690317680b037c6535a308ccd21d9c7a7b449519", checked := Try.checked }
namespace Rows
def none {H : Type} : Left H := { results := [], args := [] }

/-- 'changeforgelaw8.BatchbisectFunctionsMatchSpec': WHATEVER THE INPUT: true; the input reads as it did. -/
def batchbisectFunctionsMatchSpecSpec : ChangeSpec := { name := "batchbisectFunctionsMatchSpec", fn := fun _ => fun
  | [d1, d2, d3] => { results := [.lit (.bool true)], args := [d1, d2, d3] }
  | _ => none }
def batchbisectFunctionsMatchSpecRow : OpenClaim := { program := "ytmfdikjeijnlmaa", sum := "83f887208107f14183ab1219690317680b037c6535a308ccd21d9c7a7b449519", func := "changeforge/changeforgelaw8.BatchbisectFunctionsMatchSpec", spec := "batchbisectFunctionsMatchSpec", unfollowed := true, recurses := true, apart := false }
def BatchbisectFunctionsMatchSpecSaid : Prop := batchbisectFunctionsMatchSpecRow.holds Try.pinned (OpenSpec.ofChange batchbisectFunctionsMatchSpecSpec)

/-- ITS FALSE NEIGHBOUR: 'it returns false'. Refute it at one input. -/
def batchbisectFunctionsMatchSpecWrong : ChangeSpec := { name := "batchbisectFunctionsMatchSpec", fn := fun _ => fun
  | [d1, d2, d3] => { results := [.lit (.bool false)], args := [d1, d2, d3] }
  | _ => none }
def BatchbisectFunctionsMatchSpecWrongFalsely : Prop := batchbisectFunctionsMatchSpecRow.holds Try.pinned (OpenSpec.ofChange batchbisectFunctionsMatchSpecWrong)

/-- 'changeforgelaw8.BatchbisectMinimalIsMinimal': WHATEVER THE INPUT: true; the input reads as it did. -/
def batchbisectMinimalIsMinimalSpec : ChangeSpec := { name := "batchbisectMinimalIsMinimal", fn := fun _ => fun
  | [d1, d2] => { results := [.lit (.bool true)], args := [d1, d2] }
  | _ => none }
def batchbisectMinimalIsMinimalRow : OpenClaim := { program := "ytmfdikjeijnlmaa", sum := "83f887208107f14183ab1219690317680b037c6535a308ccd21d9c7a7b449519", func := "changeforge/changeforgelaw8.BatchbisectMinimalIsMinimal", spec := "batchbisectMinimalIsMinimal", unfollowed := true, recurses := true, apart := false }
def BatchbisectMinimalIsMinimalSaid : Prop := batchbisectMinimalIsMinimalRow.holds Try.pinned (OpenSpec.ofChange batchbisectMinimalIsMinimalSpec)

/-- ITS FALSE NEIGHBOUR: 'it returns false'. Refute it at one input. -/
def batchbisectMinimalIsMinimalWrong : ChangeSpec := { name := "batchbisectMinimalIsMinimal", fn := fun _ => fun
  | [d1, d2] => { results := [.lit (.bool false)], args := [d1, d2] }
  | _ => none }
def BatchbisectMinimalIsMinimalWrongFalsely : Prop := batchbisectMinimalIsMinimalRow.holds Try.pinned (OpenSpec.ofChange batchbisectMinimalIsMinimalWrong)

/-- 'changeforgelaw8.BatchbisectFirstIsFast': WHATEVER THE INPUT: true; the input reads as it did. -/
def batchbisectFirstIsFastSpec : ChangeSpec := { name := "batchbisectFirstIsFast", fn := fun _ => fun
  | [d1, d2] => { results := [.lit (.bool true)], args := [d1, d2] }
  | _ => none }
def batchbisectFirstIsFastRow : OpenClaim := { program := "ytmfdikjeijnlmaa", sum := "83f887208107f14183ab1219690317680b037c6535a308ccd21d9c7a7b449519", func := "changeforge/changeforgelaw8.BatchbisectFirstIsFast", spec := "batchbisectFirstIsFast", unfollowed := true, recurses := true, apart := false }
def BatchbisectFirstIsFastSaid : Prop := batchbisectFirstIsFastRow.holds Try.pinned (OpenSpec.ofChange batchbisectFirstIsFastSpec)

/-- ITS FALSE NEIGHBOUR: 'it returns false'. Refute it at one input. -/
def batchbisectFirstIsFastWrong : ChangeSpec := { name := "batchbisectFirstIsFast", fn := fun _ => fun
  | [d1, d2] => { results := [.lit (.bool false)], args := [d1, d2] }
  | _ => none }
def BatchbisectFirstIsFastWrongFalsely : Prop := batchbisectFirstIsFastRow.holds Try.pinned (OpenSpec.ofChange batchbisectFirstIsFastWrong)

/-- 'changeforgelaw8.BatchbisectGreedyIsMaximal': WHATEVER THE INPUT: true; the input reads as it did. -/
def batchbisectGreedyIsMaximalSpec : ChangeSpec := { name := "batchbisectGreedyIsMaximal", fn := fun _ => fun
  | [d1, d2] => { results := [.lit (.bool true)], args := [d1, d2] }
  | _ => none }
def batchbisectGreedyIsMaximalRow : OpenClaim := { program := "ytmfdikjeijnlmaa", sum := "83f887208107f14183ab1219690317680b037c6535a308ccd21d9c7a7b449519", func := "changeforge/changeforgelaw8.BatchbisectGreedyIsMaximal", spec := "batchbisectGreedyIsMaximal", unfollowed := true, recurses := true, apart := false }
def BatchbisectGreedyIsMaximalSaid : Prop := batchbisectGreedyIsMaximalRow.holds Try.pinned (OpenSpec.ofChange batchbisectGreedyIsMaximalSpec)

/-- ITS FALSE NEIGHBOUR: 'it returns false'. Refute it at one input. -/
def batchbisectGreedyIsMaximalWrong : ChangeSpec := { name := "batchbisectGreedyIsMaximal", fn := fun _ => fun
  | [d1, d2] => { results := [.lit (.bool false)], args := [d1, d2] }
  | _ => none }
def BatchbisectGreedyIsMaximalWrongFalsely : Prop := batchbisectGreedyIsMaximalRow.holds Try.pinned (OpenSpec.ofChange batchbisectGreedyIsMaximalWrong)

/-- 'changeforgelaw8.BatchbisectFailuresAreMonotone': WHATEVER THE INPUT: true; the input reads as it did. -/
def batchbisectFailuresAreMonotoneSpec : ChangeSpec := { name := "batchbisectFailuresAreMonotone", fn := fun _ => fun
  | [d1, d2, d3, d4, d5] => { results := [.lit (.bool true)], args := [d1, d2, d3, d4, d5] }
  | _ => none }
def batchbisectFailuresAreMonotoneRow : OpenClaim := { program := "ytmfdikjeijnlmaa", sum := "83f887208107f14183ab1219690317680b037c6535a308ccd21d9c7a7b449519", func := "changeforge/changeforgelaw8.BatchbisectFailuresAreMonotone", spec := "batchbisectFailuresAreMonotone", unfollowed := true, recurses := true, apart := false }
def BatchbisectFailuresAreMonotoneSaid : Prop := batchbisectFailuresAreMonotoneRow.holds Try.pinned (OpenSpec.ofChange batchbisectFailuresAreMonotoneSpec)

/-- ITS FALSE NEIGHBOUR: 'it returns false'. Refute it at one input. -/
def batchbisectFailuresAreMonotoneWrong : ChangeSpec := { name := "batchbisectFailuresAreMonotone", fn := fun _ => fun
  | [d1, d2, d3, d4, d5] => { results := [.lit (.bool false)], args := [d1, d2, d3, d4, d5] }
  | _ => none }
def BatchbisectFailuresAreMonotoneWrongFalsely : Prop := batchbisectFailuresAreMonotoneRow.holds Try.pinned (OpenSpec.ofChange batchbisectFailuresAreMonotoneWrong)

/- THE SECOND FORM. 'bulk': how many values and letters a reading holds, each counted each time it is reached (what is shared counts as often as it is met; a slice's spare places count too). A statement '..UptoSaid' is the law's where the arguments, and the package variables that the reading takes, are together of bulk at most 1048576: NARROWER than '..Said'. Prove '..Said' where nothing that the law and all that it calls make is longer than what came in: it says more and counts as full. Else prove '..UptoSaid'. A law counts once. -/
mutual
def uptoBulk {H : Type} : DataW H → Nat
  | .lit (.string bytes) => bytes.length + 1
  | .lit _ => 1
  | .nil => 1
  | .ptr d => uptoBulk d + 1
  | .slice elems spare => uptoBulkAll elems + uptoBulkAll spare + 1
  | .agg parts => uptoBulkAll parts + 1
  | .iface _ d => uptoBulk d + 1
  | .map entries => uptoBulkEntries entries + 1
  | .held _ => 1
def uptoBulkAll {H : Type} : List (DataW H) → Nat
  | [] => 0
  | d :: r => uptoBulk d + uptoBulkAll r
def uptoBulkEntries {H : Type} : List (Lit × DataW H) → Nat
  | [] => 0
  | x :: r => uptoBulkEntry x + uptoBulkEntries r
def uptoBulkEntry {H : Type} : Lit × DataW H → Nat
  | (.string bytes, d) => bytes.length + uptoBulk d + 1
  | (_, d) => uptoBulk d + 1
 end
def uptoSmall : (H : Type) → List (DataW H) → Bool := fun _ ds => decide (uptoBulkAll ds ≤ 1048576)
def OpenSpec.upto (s : _root_.Go.ChangeSpec) : _root_.Go.OpenSpec := { _root_.Go.OpenSpec.ofChange s with cond := some uptoSmall }

/-- 'changeforgelaw8.BatchbisectFunctionsMatchSpec', WHERE WHAT IT READS IS OF BULK AT MOST 1048576: true; the input reads as it did. -/
def batchbisectFunctionsMatchSpecUptoRow : OpenClaim := { program := "ytmfdikjeijnlmaa", sum := "83f887208107f14183ab1219690317680b037c6535a308ccd21d9c7a7b449519", func := "changeforge/changeforgelaw8.BatchbisectFunctionsMatchSpec", spec := "batchbisectFunctionsMatchSpec", unfollowed := true, recurses := true, apart := false, narrowed := true }
def BatchbisectFunctionsMatchSpecUptoSaid : Prop := batchbisectFunctionsMatchSpecUptoRow.holds Try.pinned (OpenSpec.upto batchbisectFunctionsMatchSpecSpec)

/-- 'changeforgelaw8.BatchbisectMinimalIsMinimal', WHERE WHAT IT READS IS OF BULK AT MOST 1048576: true; the input reads as it did. -/
def batchbisectMinimalIsMinimalUptoRow : OpenClaim := { program := "ytmfdikjeijnlmaa", sum := "83f887208107f14183ab1219690317680b037c6535a308ccd21d9c7a7b449519", func := "changeforge/changeforgelaw8.BatchbisectMinimalIsMinimal", spec := "batchbisectMinimalIsMinimal", unfollowed := true, recurses := true, apart := false, narrowed := true }
def BatchbisectMinimalIsMinimalUptoSaid : Prop := batchbisectMinimalIsMinimalUptoRow.holds Try.pinned (OpenSpec.upto batchbisectMinimalIsMinimalSpec)

/-- 'changeforgelaw8.BatchbisectFirstIsFast', WHERE WHAT IT READS IS OF BULK AT MOST 1048576: true; the input reads as it did. -/
def batchbisectFirstIsFastUptoRow : OpenClaim := { program := "ytmfdikjeijnlmaa", sum := "83f887208107f14183ab1219690317680b037c6535a308ccd21d9c7a7b449519", func := "changeforge/changeforgelaw8.BatchbisectFirstIsFast", spec := "batchbisectFirstIsFast", unfollowed := true, recurses := true, apart := false, narrowed := true }
def BatchbisectFirstIsFastUptoSaid : Prop := batchbisectFirstIsFastUptoRow.holds Try.pinned (OpenSpec.upto batchbisectFirstIsFastSpec)

/-- 'changeforgelaw8.BatchbisectGreedyIsMaximal', WHERE WHAT IT READS IS OF BULK AT MOST 1048576: true; the input reads as it did. -/
def batchbisectGreedyIsMaximalUptoRow : OpenClaim := { program := "ytmfdikjeijnlmaa", sum := "83f887208107f14183ab1219690317680b037c6535a308ccd21d9c7a7b449519", func := "changeforge/changeforgelaw8.BatchbisectGreedyIsMaximal", spec := "batchbisectGreedyIsMaximal", unfollowed := true, recurses := true, apart := false, narrowed := true }
def BatchbisectGreedyIsMaximalUptoSaid : Prop := batchbisectGreedyIsMaximalUptoRow.holds Try.pinned (OpenSpec.upto batchbisectGreedyIsMaximalSpec)

/-- 'changeforgelaw8.BatchbisectFailuresAreMonotone', WHERE WHAT IT READS IS OF BULK AT MOST 1048576: true; the input reads as it did. -/
def batchbisectFailuresAreMonotoneUptoRow : OpenClaim := { program := "ytmfdikjeijnlmaa", sum := "83f887208107f14183ab1219690317680b037c6535a308ccd21d9c7a7b449519", func := "changeforge/changeforgelaw8.BatchbisectFailuresAreMonotone", spec := "batchbisectFailuresAreMonotone", unfollowed := true, recurses := true, apart := false, narrowed := true }
def BatchbisectFailuresAreMonotoneUptoSaid : Prop := batchbisectFailuresAreMonotoneUptoRow.holds Try.pinned (OpenSpec.upto batchbisectFailuresAreMonotoneSpec)

end Rows
end Go.Proofs.Ytmfdikjeijnlmaa

/-
  MergequeueMainLineOnlyGrows: the given statement, out of the plain law about the lifted function. Conditions: none.
-/
import Derived.Test.YtpfcgenmgddgpaaMqG
import Derived.Test.YtpfcgenmgddgpaaEngV
set_option maxRecDepth 100000
namespace Go.Proofs.Ytpfcgenmgddgpaa
open Eng Go.ChangeShapes Go.WideShapes Go.ChangeAt Go.RowKit
def MergequeueMainLineOnlyGrows_ps : List (Bool × Ty) := [(false, (.int .i64)), (false, (.slice (.pair (.int .i64) (.pair (.int .i64) (.int .i64))))), (false, (.int .i64))]
theorem MergequeueMainLineOnlyGrows_sem (xs : ArgDen MergequeueMainLineOnlyGrows_ps) (hw : WfAll MergequeueMainLineOnlyGrows_ps xs) (_ : false = true → bulkAll MergequeueMainLineOnlyGrows_ps xs ≤ 1048576) : L.law8_MergequeueMainLineOnlyGrows_S (lawArgs MergequeueMainLineOnlyGrows_ps xs) isTrue := by
  have e : L.law8_MergequeueMainLineOnlyGrows_S (lawArgs MergequeueMainLineOnlyGrows_ps xs) isTrue = L.law8_MergequeueMainLineOnlyGrows xs.1 xs.2.1 xs.2.2.1 (fun r => isTrue (.x (.bool r)) []) := by kernel_rfl
  rw [e]
  exact MergequeueMainLineOnlyGrows_true xs hw _ rfl
theorem MergequeueMainLineOnlyGrows_own : ownKnob Try.prog.godebug = none := by kernel_rfl
theorem MergequeueMainLineOnlyGrows_laid : laidOutB Try.prog = true := by kernel_rfl
theorem MergequeueMainLineOnlyGrows_spec : LawSpec Rows.mergequeueMainLineOnlyGrowsSpec Try.f6.params.toList.length where
  vars := rfl
  res := fun H ds h => by
    match ds, h with
    | [d1, d2, d3], _ => rfl
  args := fun H ds h => by
    match ds, h with
    | [d1, d2, d3], _ => rfl
  left := fun H ds h => by
    match ds, h with
    | [d1, d2, d3], _ => rfl
theorem MergequeueMainLineOnlyGrows_lifted (os : Os) (started : os.Started) (H : Type) (enc : TypeId × Value → H) :
    ReturnsInHanded {} Try.checked os 6 .any (Rows.mergequeueMainLineOnlyGrowsSpec.pre6 enc Try.prog Try.f6 Rows.mergequeueMainLineOnlyGrowsRow.domain false) (Rows.mergequeueMainLineOnlyGrowsSpec.post enc Try.prog Try.f6 false true false false) := by
  refine returnsInHanded_of_change (C := Try.checked) MergequeueMainLineOnlyGrows_own started (by kernel_rfl) Try.func6
    (ChangeSpec.witness6 (enc := enc) (C := Try.checked) false ⟨#[], #[.int .i64 0, .slice none 0 0, .int .i64 0], []⟩ 8 (by kernel_rfl) (by kernel_rfl) (by kernel_rfl) (by kernel_rfl)) ?_
  intro W base args ds gs before hval hW _ _
  exact law_contract (small := false) MergequeueMainLineOnlyGrows_laid (ps := MergequeueMainLineOnlyGrows_ps) (tb := 4) (by kernel_rfl) (by kernel_rfl) Try.underlying4 MergequeueMainLineOnlyGrows_spec L.law8_MergequeueMainLineOnlyGrows_ok MergequeueMainLineOnlyGrows_sem hval hW (fun h => by cases h)
theorem MergequeueMainLineOnlyGrows_holds : Rows.MergequeueMainLineOnlyGrowsSaid :=
  OpenClaim.holds_of_wide 6 Try.f6 rfl rfl rfl rfl rfl rfl rfl ⟨rfl, rfl, rfl, rfl, rfl⟩ rfl rfl rfl rfl rfl (by kernel_rfl) Try.func6 (by kernel_rfl)
    (of_decide_eq_true (by kernel_rfl)) (by unfold Func.isWrapper; first | (rw [if_pos (by decide +kernel)]; kernel_rfl) | (rw [if_neg (by decide +kernel)]; exact ⟨rfl, rfl⟩))
    (fun os started H enc _ => MergequeueMainLineOnlyGrows_lifted os started H enc)
#print axioms MergequeueMainLineOnlyGrows_holds
end Go.Proofs.Ytpfcgenmgddgpaa

/-
  MergequeueGoodChangesLandInOrder: the given statement, out of the plain law about the lifted function. Conditions: none.
-/
import Derived.Test.YtpfcgenmgddgpaaMqP
import Derived.Test.YtpfcgenmgddgpaaEngV
set_option maxRecDepth 100000
namespace Go.Proofs.Ytpfcgenmgddgpaa
open Eng Go.ChangeShapes Go.WideShapes Go.ChangeAt Go.RowKit
def MergequeueGoodChangesLandInOrder_ps : List (Bool × Ty) := [(false, (.int .i64)), (false, (.slice (.pair (.int .i64) (.pair (.int .i64) (.int .i64)))))]
theorem MergequeueGoodChangesLandInOrder_sem (xs : ArgDen MergequeueGoodChangesLandInOrder_ps) (hw : WfAll MergequeueGoodChangesLandInOrder_ps xs) (_ : false = true → bulkAll MergequeueGoodChangesLandInOrder_ps xs ≤ 1048576) : L.law8_MergequeueGoodChangesLandInOrder_S (lawArgs MergequeueGoodChangesLandInOrder_ps xs) isTrue := by
  have e : L.law8_MergequeueGoodChangesLandInOrder_S (lawArgs MergequeueGoodChangesLandInOrder_ps xs) isTrue = L.law8_MergequeueGoodChangesLandInOrder xs.1 xs.2.1 (fun r => isTrue (.x (.bool r)) []) := by kernel_rfl
  rw [e]
  exact MergequeueGoodChangesLandInOrder_true xs hw _ rfl
theorem MergequeueGoodChangesLandInOrder_own : ownKnob Try.prog.godebug = none := by kernel_rfl
theorem MergequeueGoodChangesLandInOrder_laid : laidOutB Try.prog = true := by kernel_rfl
theorem MergequeueGoodChangesLandInOrder_spec : LawSpec Rows.mergequeueGoodChangesLandInOrderSpec Try.f7.params.toList.length where
  vars := rfl
  res := fun H ds h => by
    match ds, h with
    | [d1, d2], _ => rfl
  args := fun H ds h => by
    match ds, h with
    | [d1, d2], _ => rfl
  left := fun H ds h => by
    match ds, h with
    | [d1, d2], _ => rfl
theorem MergequeueGoodChangesLandInOrder_lifted (os : Os) (started : os.Started) (H : Type) (enc : TypeId × Value → H) :
    ReturnsInHanded {} Try.checked os 7 .any (Rows.mergequeueGoodChangesLandInOrderSpec.pre6 enc Try.prog Try.f7 Rows.mergequeueGoodChangesLandInOrderRow.domain false) (Rows.mergequeueGoodChangesLandInOrderSpec.post enc Try.prog Try.f7 false true false false) := by
  refine returnsInHanded_of_change (C := Try.checked) MergequeueGoodChangesLandInOrder_own started (by kernel_rfl) Try.func7
    (ChangeSpec.witness6 (enc := enc) (C := Try.checked) false ⟨#[], #[.int .i64 0, .slice none 0 0], []⟩ 8 (by kernel_rfl) (by kernel_rfl) (by kernel_rfl) (by kernel_rfl)) ?_
  intro W base args ds gs before hval hW _ _
  exact law_contract (small := false) MergequeueGoodChangesLandInOrder_laid (ps := MergequeueGoodChangesLandInOrder_ps) (tb := 4) (by kernel_rfl) (by kernel_rfl) Try.underlying4 MergequeueGoodChangesLandInOrder_spec L.law8_MergequeueGoodChangesLandInOrder_ok MergequeueGoodChangesLandInOrder_sem hval hW (fun h => by cases h)
theorem MergequeueGoodChangesLandInOrder_holds : Rows.MergequeueGoodChangesLandInOrderSaid :=
  OpenClaim.holds_of_wide 7 Try.f7 rfl rfl rfl rfl rfl rfl rfl ⟨rfl, rfl, rfl, rfl, rfl⟩ rfl rfl rfl rfl rfl (by kernel_rfl) Try.func7 (by kernel_rfl)
    (of_decide_eq_true (by kernel_rfl)) (by unfold Func.isWrapper; first | (rw [if_pos (by decide +kernel)]; kernel_rfl) | (rw [if_neg (by decide +kernel)]; exact ⟨rfl, rfl⟩))
    (fun os started H enc _ => MergequeueGoodChangesLandInOrder_lifted os started H enc)
#print axioms MergequeueGoodChangesLandInOrder_holds
end Go.Proofs.Ytpfcgenmgddgpaa

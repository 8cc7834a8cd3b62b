/-
  MergequeueNothingIsLost: the given statement, out of the plain law about the lifted function. Conditions: none.
-/
import Derived.Test.YtpfcgenmgddgpaaMqL
import Derived.Test.YtpfcgenmgddgpaaEngV
set_option maxRecDepth 100000
namespace Go.Proofs.Ytpfcgenmgddgpaa
open Eng Go.ChangeShapes Go.WideShapes Go.ChangeAt Go.RowKit
def MergequeueNothingIsLost_ps : List (Bool × Ty) := [(false, (.int .i64)), (false, (.slice (.pair (.int .i64) (.pair (.int .i64) (.int .i64)))))]
theorem MergequeueNothingIsLost_sem (xs : ArgDen MergequeueNothingIsLost_ps) (hw : WfAll MergequeueNothingIsLost_ps xs) (_ : false = true → bulkAll MergequeueNothingIsLost_ps xs ≤ 1048576) : L.law8_MergequeueNothingIsLost_S (lawArgs MergequeueNothingIsLost_ps xs) isTrue := by
  have e : L.law8_MergequeueNothingIsLost_S (lawArgs MergequeueNothingIsLost_ps xs) isTrue = L.law8_MergequeueNothingIsLost xs.1 xs.2.1 (fun r => isTrue (.x (.bool r)) []) := by kernel_rfl
  rw [e]
  exact MergequeueNothingIsLost_true xs hw _ rfl
theorem MergequeueNothingIsLost_own : ownKnob Try.prog.godebug = none := by kernel_rfl
theorem MergequeueNothingIsLost_laid : laidOutB Try.prog = true := by kernel_rfl
theorem MergequeueNothingIsLost_spec : LawSpec Rows.mergequeueNothingIsLostSpec Try.f4.params.toList.length where
  vars := rfl
  res := fun H ds h => by
    match ds, h with
    | [d1, d2], _ => rfl
  args := fun H ds h => by
    match ds, h with
    | [d1, d2], _ => rfl
  left := fun H ds h => by
    match ds, h with
    | [d1, d2], _ => rfl
theorem MergequeueNothingIsLost_lifted (os : Os) (started : os.Started) (H : Type) (enc : TypeId × Value → H) :
    ReturnsInHanded {} Try.checked os 4 .any (Rows.mergequeueNothingIsLostSpec.pre6 enc Try.prog Try.f4 Rows.mergequeueNothingIsLostRow.domain false) (Rows.mergequeueNothingIsLostSpec.post enc Try.prog Try.f4 false true false false) := by
  refine returnsInHanded_of_change (C := Try.checked) MergequeueNothingIsLost_own started (by kernel_rfl) Try.func4
    (ChangeSpec.witness6 (enc := enc) (C := Try.checked) false ⟨#[], #[.int .i64 0, .slice none 0 0], []⟩ 8 (by kernel_rfl) (by kernel_rfl) (by kernel_rfl) (by kernel_rfl)) ?_
  intro W base args ds gs before hval hW _ _
  exact law_contract (small := false) MergequeueNothingIsLost_laid (ps := MergequeueNothingIsLost_ps) (tb := 4) (by kernel_rfl) (by kernel_rfl) Try.underlying4 MergequeueNothingIsLost_spec L.law8_MergequeueNothingIsLost_ok MergequeueNothingIsLost_sem hval hW (fun h => by cases h)
theorem MergequeueNothingIsLost_holds : Rows.MergequeueNothingIsLostSaid :=
  OpenClaim.holds_of_wide 4 Try.f4 rfl rfl rfl rfl rfl rfl rfl ⟨rfl, rfl, rfl, rfl, rfl⟩ rfl rfl rfl rfl rfl (by kernel_rfl) Try.func4 (by kernel_rfl)
    (of_decide_eq_true (by kernel_rfl)) (by unfold Func.isWrapper; first | (rw [if_pos (by decide +kernel)]; kernel_rfl) | (rw [if_neg (by decide +kernel)]; exact ⟨rfl, rfl⟩))
    (fun os started H enc _ => MergequeueNothingIsLost_lifted os started H enc)
#print axioms MergequeueNothingIsLost_holds
end Go.Proofs.Ytpfcgenmgddgpaa

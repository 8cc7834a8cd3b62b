/-
  MergequeueTestsWhatLands: the given statement, out of the plain law about the lifted function. Conditions: none.
-/
import Derived.Test.YtpfcgenmgddgpaaMqO
import Derived.Test.YtpfcgenmgddgpaaEngV
set_option maxRecDepth 100000
namespace Go.Proofs.Ytpfcgenmgddgpaa
open Eng Go.ChangeShapes Go.WideShapes Go.ChangeAt Go.RowKit
def MergequeueTestsWhatLands_ps : List (Bool × Ty) := [(false, (.int .i64)), (false, (.slice (.pair (.int .i64) (.pair (.int .i64) (.int .i64)))))]
theorem MergequeueTestsWhatLands_sem (xs : ArgDen MergequeueTestsWhatLands_ps) (hw : WfAll MergequeueTestsWhatLands_ps xs) (_ : false = true → bulkAll MergequeueTestsWhatLands_ps xs ≤ 1048576) : L.law8_MergequeueTestsWhatLands_S (lawArgs MergequeueTestsWhatLands_ps xs) isTrue := by
  have e : L.law8_MergequeueTestsWhatLands_S (lawArgs MergequeueTestsWhatLands_ps xs) isTrue = L.law8_MergequeueTestsWhatLands xs.1 xs.2.1 (fun r => isTrue (.x (.bool r)) []) := by kernel_rfl
  rw [e]
  exact MergequeueTestsWhatLands_true xs hw _ rfl
theorem MergequeueTestsWhatLands_own : ownKnob Try.prog.godebug = none := by kernel_rfl
theorem MergequeueTestsWhatLands_laid : laidOutB Try.prog = true := by kernel_rfl
theorem MergequeueTestsWhatLands_spec : LawSpec Rows.mergequeueTestsWhatLandsSpec Try.f5.params.toList.length where
  vars := rfl
  res := fun H ds h => by
    match ds, h with
    | [d1, d2], _ => rfl
  args := fun H ds h => by
    match ds, h with
    | [d1, d2], _ => rfl
  left := fun H ds h => by
    match ds, h with
    | [d1, d2], _ => rfl
theorem MergequeueTestsWhatLands_lifted (os : Os) (started : os.Started) (H : Type) (enc : TypeId × Value → H) :
    ReturnsInHanded {} Try.checked os 5 .any (Rows.mergequeueTestsWhatLandsSpec.pre6 enc Try.prog Try.f5 Rows.mergequeueTestsWhatLandsRow.domain false) (Rows.mergequeueTestsWhatLandsSpec.post enc Try.prog Try.f5 false true false false) := by
  refine returnsInHanded_of_change (C := Try.checked) MergequeueTestsWhatLands_own started (by kernel_rfl) Try.func5
    (ChangeSpec.witness6 (enc := enc) (C := Try.checked) false ⟨#[], #[.int .i64 0, .slice none 0 0], []⟩ 8 (by kernel_rfl) (by kernel_rfl) (by kernel_rfl) (by kernel_rfl)) ?_
  intro W base args ds gs before hval hW _ _
  exact law_contract (small := false) MergequeueTestsWhatLands_laid (ps := MergequeueTestsWhatLands_ps) (tb := 4) (by kernel_rfl) (by kernel_rfl) Try.underlying4 MergequeueTestsWhatLands_spec L.law8_MergequeueTestsWhatLands_ok MergequeueTestsWhatLands_sem hval hW (fun h => by cases h)
theorem MergequeueTestsWhatLands_holds : Rows.MergequeueTestsWhatLandsSaid :=
  OpenClaim.holds_of_wide 5 Try.f5 rfl rfl rfl rfl rfl rfl rfl ⟨rfl, rfl, rfl, rfl, rfl⟩ rfl rfl rfl rfl rfl (by kernel_rfl) Try.func5 (by kernel_rfl)
    (of_decide_eq_true (by kernel_rfl)) (by unfold Func.isWrapper; first | (rw [if_pos (by decide +kernel)]; kernel_rfl) | (rw [if_neg (by decide +kernel)]; exact ⟨rfl, rfl⟩))
    (fun os started H enc _ => MergequeueTestsWhatLands_lifted os started H enc)
#print axioms MergequeueTestsWhatLands_holds
end Go.Proofs.Ytpfcgenmgddgpaa

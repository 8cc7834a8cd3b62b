/-
  DeadlineOperationsAddUp: the given statement, out of the plain law about the lifted function. Conditions: none.
-/
import Derived.Test.YtfkhdfmnhkndeaaDlI
import Derived.Test.YtfkhdfmnhkndeaaEngV
set_option maxRecDepth 100000
namespace Go.Proofs.Ytfkhdfmnhkndeaa
open Eng Go.ChangeShapes Go.WideShapes Go.ChangeAt Go.RowKit
def DeadlineOperationsAddUp_ps : List (Bool × Ty) := [(false, (.slice (.int .i64))), (false, (.slice (.slice (.pair (.int .i64) (.pair (.int .i64) (.pair (.int .i64) (.pair (.int .i64) (.slice (.int .i64))))))))), (false, (.int .i64))]
theorem DeadlineOperationsAddUp_sem (xs : ArgDen DeadlineOperationsAddUp_ps) (hw : WfAll DeadlineOperationsAddUp_ps xs) (_ : false = true → bulkAll DeadlineOperationsAddUp_ps xs ≤ 1048576) : L.law8_DeadlineOperationsAddUp_S (lawArgs DeadlineOperationsAddUp_ps xs) isTrue := by
  have e : L.law8_DeadlineOperationsAddUp_S (lawArgs DeadlineOperationsAddUp_ps xs) isTrue = L.law8_DeadlineOperationsAddUp xs.1 xs.2.1 xs.2.2.1 (fun r => isTrue (.x (.bool r)) []) := by kernel_rfl
  rw [e]
  exact DeadlineOperationsAddUp_true xs hw _ rfl
theorem DeadlineOperationsAddUp_own : ownKnob Try.prog.godebug = none := by kernel_rfl
theorem DeadlineOperationsAddUp_laid : laidOutB Try.prog = true := by kernel_rfl
theorem DeadlineOperationsAddUp_spec : LawSpec Rows.deadlineOperationsAddUpSpec Try.f6.params.toList.length where
  vars := rfl
  res := fun H ds h => by
    match ds, h with
    | [d1, d2, d3], _ => rfl
  args := fun H ds h => by
    match ds, h with
    | [d1, d2, d3], _ => rfl
  left := fun H ds h => by
    match ds, h with
    | [d1, d2, d3], _ => rfl
theorem DeadlineOperationsAddUp_lifted (os : Os) (started : os.Started) (H : Type) (enc : TypeId × Value → H) :
    ReturnsInHanded {} Try.checked os 6 .any (Rows.deadlineOperationsAddUpSpec.pre6 enc Try.prog Try.f6 Rows.deadlineOperationsAddUpRow.domain false) (Rows.deadlineOperationsAddUpSpec.post enc Try.prog Try.f6 false true false false) := by
  refine returnsInHanded_of_change (C := Try.checked) DeadlineOperationsAddUp_own started (by kernel_rfl) Try.func6
    (ChangeSpec.witness6 (enc := enc) (C := Try.checked) false ⟨#[], #[.slice none 0 0, .slice none 0 0, .int .i64 0], []⟩ 8 (by kernel_rfl) (by kernel_rfl) (by kernel_rfl) (by kernel_rfl)) ?_
  intro W base args ds gs before hval hW _ _
  exact law_contract (small := false) DeadlineOperationsAddUp_laid (ps := DeadlineOperationsAddUp_ps) (tb := 4) (by kernel_rfl) (by kernel_rfl) Try.underlying4 DeadlineOperationsAddUp_spec L.law8_DeadlineOperationsAddUp_ok DeadlineOperationsAddUp_sem hval hW (fun h => by cases h)
theorem DeadlineOperationsAddUp_holds : Rows.DeadlineOperationsAddUpSaid :=
  OpenClaim.holds_of_wide 6 Try.f6 rfl rfl rfl rfl rfl rfl rfl ⟨rfl, rfl, rfl, rfl, rfl⟩ rfl rfl rfl rfl rfl (by kernel_rfl) Try.func6 (by kernel_rfl)
    (of_decide_eq_true (by kernel_rfl)) (by unfold Func.isWrapper; first | (rw [if_pos (by decide +kernel)]; kernel_rfl) | (rw [if_neg (by decide +kernel)]; exact ⟨rfl, rfl⟩))
    (fun os started H enc _ => DeadlineOperationsAddUp_lifted os started H enc)
#print axioms DeadlineOperationsAddUp_holds
end Go.Proofs.Ytfkhdfmnhkndeaa

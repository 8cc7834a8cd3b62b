/-
  DeadlineTimeGoesOn: the given statement, out of the plain law about the lifted function. Conditions: none.
-/
import Derived.Test.YtfkhdfmnhkndeaaDlI
import Derived.Test.YtfkhdfmnhkndeaaEngV
set_option maxRecDepth 100000
namespace Go.Proofs.Ytfkhdfmnhkndeaa
open Eng Go.ChangeShapes Go.WideShapes Go.ChangeAt Go.RowKit
def DeadlineTimeGoesOn_ps : List (Bool × Ty) := [(false, (.slice (.int .i64))), (false, (.slice (.slice (.pair (.int .i64) (.pair (.int .i64) (.pair (.int .i64) (.pair (.int .i64) (.slice (.int .i64))))))))), (false, (.int .i64)), (false, (.int .i64))]
theorem DeadlineTimeGoesOn_sem (xs : ArgDen DeadlineTimeGoesOn_ps) (hw : WfAll DeadlineTimeGoesOn_ps xs) (_ : false = true → bulkAll DeadlineTimeGoesOn_ps xs ≤ 1048576) : L.law8_DeadlineTimeGoesOn_S (lawArgs DeadlineTimeGoesOn_ps xs) isTrue := by
  have e : L.law8_DeadlineTimeGoesOn_S (lawArgs DeadlineTimeGoesOn_ps xs) isTrue = L.law8_DeadlineTimeGoesOn xs.1 xs.2.1 xs.2.2.1 xs.2.2.2.1 (fun r => isTrue (.x (.bool r)) []) := by kernel_rfl
  rw [e]
  exact DeadlineTimeGoesOn_true xs hw _ rfl
theorem DeadlineTimeGoesOn_own : ownKnob Try.prog.godebug = none := by kernel_rfl
theorem DeadlineTimeGoesOn_laid : laidOutB Try.prog = true := by kernel_rfl
theorem DeadlineTimeGoesOn_spec : LawSpec Rows.deadlineTimeGoesOnSpec Try.f5.params.toList.length where
  vars := rfl
  res := fun H ds h => by
    match ds, h with
    | [d1, d2, d3, d4], _ => rfl
  args := fun H ds h => by
    match ds, h with
    | [d1, d2, d3, d4], _ => rfl
  left := fun H ds h => by
    match ds, h with
    | [d1, d2, d3, d4], _ => rfl
theorem DeadlineTimeGoesOn_lifted (os : Os) (started : os.Started) (H : Type) (enc : TypeId × Value → H) :
    ReturnsInHanded {} Try.checked os 5 .any (Rows.deadlineTimeGoesOnSpec.pre6 enc Try.prog Try.f5 Rows.deadlineTimeGoesOnRow.domain false) (Rows.deadlineTimeGoesOnSpec.post enc Try.prog Try.f5 false true false false) := by
  refine returnsInHanded_of_change (C := Try.checked) DeadlineTimeGoesOn_own started (by kernel_rfl) Try.func5
    (ChangeSpec.witness6 (enc := enc) (C := Try.checked) false ⟨#[], #[.slice none 0 0, .slice none 0 0, .int .i64 0, .int .i64 0], []⟩ 8 (by kernel_rfl) (by kernel_rfl) (by kernel_rfl) (by kernel_rfl)) ?_
  intro W base args ds gs before hval hW _ _
  exact law_contract (small := false) DeadlineTimeGoesOn_laid (ps := DeadlineTimeGoesOn_ps) (tb := 4) (by kernel_rfl) (by kernel_rfl) Try.underlying4 DeadlineTimeGoesOn_spec L.law8_DeadlineTimeGoesOn_ok DeadlineTimeGoesOn_sem hval hW (fun h => by cases h)
theorem DeadlineTimeGoesOn_holds : Rows.DeadlineTimeGoesOnSaid :=
  OpenClaim.holds_of_wide 5 Try.f5 rfl rfl rfl rfl rfl rfl rfl ⟨rfl, rfl, rfl, rfl, rfl⟩ rfl rfl rfl rfl rfl (by kernel_rfl) Try.func5 (by kernel_rfl)
    (of_decide_eq_true (by kernel_rfl)) (by unfold Func.isWrapper; first | (rw [if_pos (by decide +kernel)]; kernel_rfl) | (rw [if_neg (by decide +kernel)]; exact ⟨rfl, rfl⟩))
    (fun os started H enc _ => DeadlineTimeGoesOn_lifted os started H enc)
#print axioms DeadlineTimeGoesOn_holds
end Go.Proofs.Ytfkhdfmnhkndeaa

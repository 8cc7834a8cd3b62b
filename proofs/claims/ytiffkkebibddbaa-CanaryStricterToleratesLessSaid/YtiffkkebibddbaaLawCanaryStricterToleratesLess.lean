/-
  CanaryStricterToleratesLess: the given statement, out of the plain law about the lifted function. Conditions: none.
-/
import Derived.Test.YtiffkkebibddbaaCanW
import Derived.Test.YtiffkkebibddbaaEngV
set_option maxRecDepth 100000
namespace Go.Proofs.Ytiffkkebibddbaa
open Eng Go.ChangeShapes Go.WideShapes Go.ChangeAt Go.RowKit
def CanaryStricterToleratesLess_ps : List (Bool × Ty) := [(true, (.pair (.int .i64) (.int .i64))), (false, (.int .i64)), (false, (.int .i64)), (false, (.int .i64))]
theorem CanaryStricterToleratesLess_sem (xs : ArgDen CanaryStricterToleratesLess_ps) (hw : WfAll CanaryStricterToleratesLess_ps xs) (hb : false = true → bulkAll CanaryStricterToleratesLess_ps xs ≤ 1048576) : L.law8_CanaryStricterToleratesLess_S (lawArgs CanaryStricterToleratesLess_ps xs) isTrue := by
  have e : L.law8_CanaryStricterToleratesLess_S (lawArgs CanaryStricterToleratesLess_ps xs) isTrue = L.law8_CanaryStricterToleratesLess xs.1.1 xs.1.2 xs.2.1 xs.2.2.1 xs.2.2.2.1 (fun r => isTrue (.x (.bool r)) []) := by kernel_rfl
  rw [e]
  exact CanaryStricterToleratesLess_true xs hw _ rfl
theorem CanaryStricterToleratesLess_own : ownKnob Try.prog.godebug = none := by kernel_rfl
theorem CanaryStricterToleratesLess_laid : laidOutB Try.prog = true := by kernel_rfl
theorem CanaryStricterToleratesLess_spec : LawSpec Rows.canaryStricterToleratesLessSpec Try.f7.params.toList.length where
  vars := rfl
  res := fun H ds h => by
    match ds, h with
    | [d1, d2, d3, d4], _ => rfl
  args := fun H ds h => by
    match ds, h with
    | [d1, d2, d3, d4], _ => rfl
  left := fun H ds h => by
    match ds, h with
    | [d1, d2, d3, d4], _ => rfl
theorem CanaryStricterToleratesLess_lifted (os : Os) (started : os.Started) (H : Type) (enc : TypeId × Value → H) :
    ReturnsInHanded {} Try.checked os 7 .any (Rows.canaryStricterToleratesLessSpec.pre6 enc Try.prog Try.f7 Rows.canaryStricterToleratesLessRow.domain false) (Rows.canaryStricterToleratesLessSpec.post enc Try.prog Try.f7 false true false false) := by
  refine returnsInHanded_of_change (C := Try.checked) CanaryStricterToleratesLess_own started (by kernel_rfl) Try.func7
    (ChangeSpec.witness6 (enc := enc) (C := Try.checked) false ⟨#[], #[.agg #[.int .i64 0, .int .i64 0], .int .i64 0, .int .i64 0, .int .i64 0], []⟩ 8 (by kernel_rfl) (by kernel_rfl) (by kernel_rfl) (by kernel_rfl)) ?_
  intro W base args ds gs before hval hW _ _
  exact law_contract (small := false) CanaryStricterToleratesLess_laid (ps := CanaryStricterToleratesLess_ps) (tb := 4) (by kernel_rfl) (by kernel_rfl) Try.underlying4 CanaryStricterToleratesLess_spec L.law8_CanaryStricterToleratesLess_ok CanaryStricterToleratesLess_sem hval hW (fun h => by cases h)
theorem CanaryStricterToleratesLess_holds : Rows.CanaryStricterToleratesLessSaid :=
  OpenClaim.holds_of_wide 7 Try.f7 rfl rfl rfl rfl rfl rfl rfl ⟨rfl, rfl, rfl, rfl, rfl⟩ rfl rfl rfl rfl rfl (by kernel_rfl) Try.func7 (by kernel_rfl)
    (of_decide_eq_true (by kernel_rfl)) (by unfold Func.isWrapper; first | (rw [if_pos (by decide +kernel)]; kernel_rfl) | (rw [if_neg (by decide +kernel)]; exact ⟨rfl, rfl⟩))
    (fun os started H enc _ => CanaryStricterToleratesLess_lifted os started H enc)
#print axioms CanaryStricterToleratesLess_holds
end Go.Proofs.Ytiffkkebibddbaa

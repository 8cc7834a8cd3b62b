/-
  CanaryToleranceIsExact: the given statement, out of the plain law about the lifted function. Conditions: none.
-/
import Derived.Test.YtiffkkebibddbaaCanW
import Derived.Test.YtiffkkebibddbaaEngV
set_option maxRecDepth 100000
namespace Go.Proofs.Ytiffkkebibddbaa
open Eng Go.ChangeShapes Go.WideShapes Go.ChangeAt Go.RowKit
def CanaryToleranceIsExact_ps : List (Bool × Ty) := [(true, (.pair (.int .i64) (.int .i64))), (false, (.int .i64)), (false, (.int .i64)), (false, (.int .i64))]
theorem CanaryToleranceIsExact_sem (xs : ArgDen CanaryToleranceIsExact_ps) (hw : WfAll CanaryToleranceIsExact_ps xs) (hb : false = true → bulkAll CanaryToleranceIsExact_ps xs ≤ 1048576) : L.law8_CanaryToleranceIsExact_S (lawArgs CanaryToleranceIsExact_ps xs) isTrue := by
  have e : L.law8_CanaryToleranceIsExact_S (lawArgs CanaryToleranceIsExact_ps xs) isTrue = L.law8_CanaryToleranceIsExact xs.1.1 xs.1.2 xs.2.1 xs.2.2.1 xs.2.2.2.1 (fun r => isTrue (.x (.bool r)) []) := by kernel_rfl
  rw [e]
  exact CanaryToleranceIsExact_true xs hw _ rfl
theorem CanaryToleranceIsExact_own : ownKnob Try.prog.godebug = none := by kernel_rfl
theorem CanaryToleranceIsExact_laid : laidOutB Try.prog = true := by kernel_rfl
theorem CanaryToleranceIsExact_spec : LawSpec Rows.canaryToleranceIsExactSpec Try.f6.params.toList.length where
  vars := rfl
  res := fun H ds h => by
    match ds, h with
    | [d1, d2, d3, d4], _ => rfl
  args := fun H ds h => by
    match ds, h with
    | [d1, d2, d3, d4], _ => rfl
  left := fun H ds h => by
    match ds, h with
    | [d1, d2, d3, d4], _ => rfl
theorem CanaryToleranceIsExact_lifted (os : Os) (started : os.Started) (H : Type) (enc : TypeId × Value → H) :
    ReturnsInHanded {} Try.checked os 6 .any (Rows.canaryToleranceIsExactSpec.pre6 enc Try.prog Try.f6 Rows.canaryToleranceIsExactRow.domain false) (Rows.canaryToleranceIsExactSpec.post enc Try.prog Try.f6 false true false false) := by
  refine returnsInHanded_of_change (C := Try.checked) CanaryToleranceIsExact_own started (by kernel_rfl) Try.func6
    (ChangeSpec.witness6 (enc := enc) (C := Try.checked) false ⟨#[], #[.agg #[.int .i64 0, .int .i64 0], .int .i64 0, .int .i64 0, .int .i64 0], []⟩ 8 (by kernel_rfl) (by kernel_rfl) (by kernel_rfl) (by kernel_rfl)) ?_
  intro W base args ds gs before hval hW _ _
  exact law_contract (small := false) CanaryToleranceIsExact_laid (ps := CanaryToleranceIsExact_ps) (tb := 4) (by kernel_rfl) (by kernel_rfl) Try.underlying4 CanaryToleranceIsExact_spec L.law8_CanaryToleranceIsExact_ok CanaryToleranceIsExact_sem hval hW (fun h => by cases h)
theorem CanaryToleranceIsExact_holds : Rows.CanaryToleranceIsExactSaid :=
  OpenClaim.holds_of_wide 6 Try.f6 rfl rfl rfl rfl rfl rfl rfl ⟨rfl, rfl, rfl, rfl, rfl⟩ rfl rfl rfl rfl rfl (by kernel_rfl) Try.func6 (by kernel_rfl)
    (of_decide_eq_true (by kernel_rfl)) (by unfold Func.isWrapper; first | (rw [if_pos (by decide +kernel)]; kernel_rfl) | (rw [if_neg (by decide +kernel)]; exact ⟨rfl, rfl⟩))
    (fun os started H enc _ => CanaryToleranceIsExact_lifted os started H enc)
#print axioms CanaryToleranceIsExact_holds
end Go.Proofs.Ytiffkkebibddbaa

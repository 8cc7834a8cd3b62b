/-
  CanaryFunctionsMatchSpec: the given statement, out of the plain law about the lifted function. Conditions: none.
-/
import Derived.Test.YtiffkkebibddbaaCanF
import Derived.Test.YtiffkkebibddbaaEngV
set_option maxRecDepth 100000
namespace Go.Proofs.Ytiffkkebibddbaa
open Eng Go.ChangeShapes Go.WideShapes Go.ChangeAt Go.RowKit
def CanaryFunctionsMatchSpec_ps : List (Bool × Ty) := [(true, (.pair (.int .i64) (.int .i64))), (true, (.pair (.int .i64) (.int .i64))), (false, (.int .i64)), (false, (.int .i64))]
theorem CanaryFunctionsMatchSpec_sem (xs : ArgDen CanaryFunctionsMatchSpec_ps) (hw : WfAll CanaryFunctionsMatchSpec_ps xs) (hb : false = true → bulkAll CanaryFunctionsMatchSpec_ps xs ≤ 1048576) : L.law8_CanaryFunctionsMatchSpec_S (lawArgs CanaryFunctionsMatchSpec_ps xs) isTrue := by
  have e : L.law8_CanaryFunctionsMatchSpec_S (lawArgs CanaryFunctionsMatchSpec_ps xs) isTrue = L.law8_CanaryFunctionsMatchSpec xs.1.1 xs.1.2 xs.2.1.1 xs.2.1.2 xs.2.2.1 xs.2.2.2.1 (fun r => isTrue (.x (.bool r)) []) := by kernel_rfl
  rw [e]
  exact CanaryFunctionsMatchSpec_true xs hw _ rfl
theorem CanaryFunctionsMatchSpec_own : ownKnob Try.prog.godebug = none := by kernel_rfl
theorem CanaryFunctionsMatchSpec_laid : laidOutB Try.prog = true := by kernel_rfl
theorem CanaryFunctionsMatchSpec_spec : LawSpec Rows.canaryFunctionsMatchSpecSpec Try.f3.params.toList.length where
  vars := rfl
  res := fun H ds h => by
    match ds, h with
    | [d1, d2, d3, d4], _ => rfl
  args := fun H ds h => by
    match ds, h with
    | [d1, d2, d3, d4], _ => rfl
  left := fun H ds h => by
    match ds, h with
    | [d1, d2, d3, d4], _ => rfl
theorem CanaryFunctionsMatchSpec_lifted (os : Os) (started : os.Started) (H : Type) (enc : TypeId × Value → H) :
    ReturnsInHanded {} Try.checked os 3 .any (Rows.canaryFunctionsMatchSpecSpec.pre6 enc Try.prog Try.f3 Rows.canaryFunctionsMatchSpecRow.domain false) (Rows.canaryFunctionsMatchSpecSpec.post enc Try.prog Try.f3 false true false false) := by
  refine returnsInHanded_of_change (C := Try.checked) CanaryFunctionsMatchSpec_own started (by kernel_rfl) Try.func3
    (ChangeSpec.witness6 (enc := enc) (C := Try.checked) false ⟨#[], #[.agg #[.int .i64 0, .int .i64 0], .agg #[.int .i64 0, .int .i64 0], .int .i64 0, .int .i64 0], []⟩ 8 (by kernel_rfl) (by kernel_rfl) (by kernel_rfl) (by kernel_rfl)) ?_
  intro W base args ds gs before hval hW _ _
  exact law_contract (small := false) CanaryFunctionsMatchSpec_laid (ps := CanaryFunctionsMatchSpec_ps) (tb := 4) (by kernel_rfl) (by kernel_rfl) Try.underlying4 CanaryFunctionsMatchSpec_spec L.law8_CanaryFunctionsMatchSpec_ok CanaryFunctionsMatchSpec_sem hval hW (fun h => by cases h)
theorem CanaryFunctionsMatchSpec_holds : Rows.CanaryFunctionsMatchSpecSaid :=
  OpenClaim.holds_of_wide 3 Try.f3 rfl rfl rfl rfl rfl rfl rfl ⟨rfl, rfl, rfl, rfl, rfl⟩ rfl rfl rfl rfl rfl (by kernel_rfl) Try.func3 (by kernel_rfl)
    (of_decide_eq_true (by kernel_rfl)) (by unfold Func.isWrapper; first | (rw [if_pos (by decide +kernel)]; kernel_rfl) | (rw [if_neg (by decide +kernel)]; exact ⟨rfl, rfl⟩))
    (fun os started H enc _ => CanaryFunctionsMatchSpec_lifted os started H enc)
#print axioms CanaryFunctionsMatchSpec_holds
end Go.Proofs.Ytiffkkebibddbaa

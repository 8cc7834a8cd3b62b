/-
  CanaryWorseIsLessProbable: the given statement, out of the plain law about the lifted function. Conditions: none.
-/
import Derived.Test.YtiffkkebibddbaaCanW
import Derived.Test.YtiffkkebibddbaaEngV
set_option maxRecDepth 100000
namespace Go.Proofs.Ytiffkkebibddbaa
open Eng Go.ChangeShapes Go.WideShapes Go.ChangeAt Go.RowKit
def CanaryWorseIsLessProbable_ps : List (Bool × Ty) := [(true, (.pair (.int .i64) (.int .i64))), (true, (.pair (.int .i64) (.int .i64)))]
theorem CanaryWorseIsLessProbable_sem (xs : ArgDen CanaryWorseIsLessProbable_ps) (hw : WfAll CanaryWorseIsLessProbable_ps xs) (hb : false = true → bulkAll CanaryWorseIsLessProbable_ps xs ≤ 1048576) : L.law8_CanaryWorseIsLessProbable_S (lawArgs CanaryWorseIsLessProbable_ps xs) isTrue := by
  have e : L.law8_CanaryWorseIsLessProbable_S (lawArgs CanaryWorseIsLessProbable_ps xs) isTrue = L.law8_CanaryWorseIsLessProbable xs.1.1 xs.1.2 xs.2.1.1 xs.2.1.2 (fun r => isTrue (.x (.bool r)) []) := by kernel_rfl
  rw [e]
  exact CanaryWorseIsLessProbable_true xs hw _ rfl
theorem CanaryWorseIsLessProbable_own : ownKnob Try.prog.godebug = none := by kernel_rfl
theorem CanaryWorseIsLessProbable_laid : laidOutB Try.prog = true := by kernel_rfl
theorem CanaryWorseIsLessProbable_spec : LawSpec Rows.canaryWorseIsLessProbableSpec Try.f4.params.toList.length where
  vars := rfl
  res := fun H ds h => by
    match ds, h with
    | [d1, d2], _ => rfl
  args := fun H ds h => by
    match ds, h with
    | [d1, d2], _ => rfl
  left := fun H ds h => by
    match ds, h with
    | [d1, d2], _ => rfl
theorem CanaryWorseIsLessProbable_lifted (os : Os) (started : os.Started) (H : Type) (enc : TypeId × Value → H) :
    ReturnsInHanded {} Try.checked os 4 .any (Rows.canaryWorseIsLessProbableSpec.pre6 enc Try.prog Try.f4 Rows.canaryWorseIsLessProbableRow.domain false) (Rows.canaryWorseIsLessProbableSpec.post enc Try.prog Try.f4 false true false false) := by
  refine returnsInHanded_of_change (C := Try.checked) CanaryWorseIsLessProbable_own started (by kernel_rfl) Try.func4
    (ChangeSpec.witness6 (enc := enc) (C := Try.checked) false ⟨#[], #[.agg #[.int .i64 0, .int .i64 0], .agg #[.int .i64 0, .int .i64 0]], []⟩ 8 (by kernel_rfl) (by kernel_rfl) (by kernel_rfl) (by kernel_rfl)) ?_
  intro W base args ds gs before hval hW _ _
  exact law_contract (small := false) CanaryWorseIsLessProbable_laid (ps := CanaryWorseIsLessProbable_ps) (tb := 4) (by kernel_rfl) (by kernel_rfl) Try.underlying4 CanaryWorseIsLessProbable_spec L.law8_CanaryWorseIsLessProbable_ok CanaryWorseIsLessProbable_sem hval hW (fun h => by cases h)
theorem CanaryWorseIsLessProbable_holds : Rows.CanaryWorseIsLessProbableSaid :=
  OpenClaim.holds_of_wide 4 Try.f4 rfl rfl rfl rfl rfl rfl rfl ⟨rfl, rfl, rfl, rfl, rfl⟩ rfl rfl rfl rfl rfl (by kernel_rfl) Try.func4 (by kernel_rfl)
    (of_decide_eq_true (by kernel_rfl)) (by unfold Func.isWrapper; first | (rw [if_pos (by decide +kernel)]; kernel_rfl) | (rw [if_neg (by decide +kernel)]; exact ⟨rfl, rfl⟩))
    (fun os started H enc _ => CanaryWorseIsLessProbable_lifted os started H enc)
#print axioms CanaryWorseIsLessProbable_holds
end Go.Proofs.Ytiffkkebibddbaa

/-
  CanarySidesAreSymmetric: the given statement, out of the plain law about the lifted function. Conditions: none.
-/
import Derived.Test.YtiffkkebibddbaaCanW
import Derived.Test.YtiffkkebibddbaaEngV
set_option maxRecDepth 100000
namespace Go.Proofs.Ytiffkkebibddbaa
open Eng Go.ChangeShapes Go.WideShapes Go.ChangeAt Go.RowKit
def CanarySidesAreSymmetric_ps : List (Bool × Ty) := [(true, (.pair (.int .i64) (.int .i64))), (true, (.pair (.int .i64) (.int .i64)))]
theorem CanarySidesAreSymmetric_sem (xs : ArgDen CanarySidesAreSymmetric_ps) (hw : WfAll CanarySidesAreSymmetric_ps xs) (hb : false = true → bulkAll CanarySidesAreSymmetric_ps xs ≤ 1048576) : L.law8_CanarySidesAreSymmetric_S (lawArgs CanarySidesAreSymmetric_ps xs) isTrue := by
  have e : L.law8_CanarySidesAreSymmetric_S (lawArgs CanarySidesAreSymmetric_ps xs) isTrue = L.law8_CanarySidesAreSymmetric xs.1.1 xs.1.2 xs.2.1.1 xs.2.1.2 (fun r => isTrue (.x (.bool r)) []) := by kernel_rfl
  rw [e]
  exact CanarySidesAreSymmetric_true xs hw _ rfl
theorem CanarySidesAreSymmetric_own : ownKnob Try.prog.godebug = none := by kernel_rfl
theorem CanarySidesAreSymmetric_laid : laidOutB Try.prog = true := by kernel_rfl
theorem CanarySidesAreSymmetric_spec : LawSpec Rows.canarySidesAreSymmetricSpec Try.f5.params.toList.length where
  vars := rfl
  res := fun H ds h => by
    match ds, h with
    | [d1, d2], _ => rfl
  args := fun H ds h => by
    match ds, h with
    | [d1, d2], _ => rfl
  left := fun H ds h => by
    match ds, h with
    | [d1, d2], _ => rfl
theorem CanarySidesAreSymmetric_lifted (os : Os) (started : os.Started) (H : Type) (enc : TypeId × Value → H) :
    ReturnsInHanded {} Try.checked os 5 .any (Rows.canarySidesAreSymmetricSpec.pre6 enc Try.prog Try.f5 Rows.canarySidesAreSymmetricRow.domain false) (Rows.canarySidesAreSymmetricSpec.post enc Try.prog Try.f5 false true false false) := by
  refine returnsInHanded_of_change (C := Try.checked) CanarySidesAreSymmetric_own started (by kernel_rfl) Try.func5
    (ChangeSpec.witness6 (enc := enc) (C := Try.checked) false ⟨#[], #[.agg #[.int .i64 0, .int .i64 0], .agg #[.int .i64 0, .int .i64 0]], []⟩ 8 (by kernel_rfl) (by kernel_rfl) (by kernel_rfl) (by kernel_rfl)) ?_
  intro W base args ds gs before hval hW _ _
  exact law_contract (small := false) CanarySidesAreSymmetric_laid (ps := CanarySidesAreSymmetric_ps) (tb := 4) (by kernel_rfl) (by kernel_rfl) Try.underlying4 CanarySidesAreSymmetric_spec L.law8_CanarySidesAreSymmetric_ok CanarySidesAreSymmetric_sem hval hW (fun h => by cases h)
theorem CanarySidesAreSymmetric_holds : Rows.CanarySidesAreSymmetricSaid :=
  OpenClaim.holds_of_wide 5 Try.f5 rfl rfl rfl rfl rfl rfl rfl ⟨rfl, rfl, rfl, rfl, rfl⟩ rfl rfl rfl rfl rfl (by kernel_rfl) Try.func5 (by kernel_rfl)
    (of_decide_eq_true (by kernel_rfl)) (by unfold Func.isWrapper; first | (rw [if_pos (by decide +kernel)]; kernel_rfl) | (rw [if_neg (by decide +kernel)]; exact ⟨rfl, rfl⟩))
    (fun os started H enc _ => CanarySidesAreSymmetric_lifted os started H enc)
#print axioms CanarySidesAreSymmetric_holds
end Go.Proofs.Ytiffkkebibddbaa

/-
  RolloutConfirmsBeforeNext: the given statement, out of the plain law about the lifted function. Conditions: none.
-/
import Derived.Test.YtgedmbndmdphdaaRoK
import Derived.Test.YtgedmbndmdphdaaEngV
set_option maxRecDepth 100000
namespace Go.Proofs.Ytgedmbndmdphdaa
open Eng Go.ChangeShapes Go.WideShapes Go.ChangeAt Go.RowKit
def RolloutConfirmsBeforeNext_ps : List (Bool × Ty) := [(false, (.int .i64)), (true, (.pair (.int .i64) (.int .i64))), (false, (.int .i64)), (false, (.int .i64)), (false, (.slice (.pair (.int .i64) (.pair (.int .i64) (.pair (.int .i64) (.pair (.int .i64) (.int .i64)))))))]
theorem RolloutConfirmsBeforeNext_sem (xs : ArgDen RolloutConfirmsBeforeNext_ps) (hw : WfAll RolloutConfirmsBeforeNext_ps xs) (_ : false = true → bulkAll RolloutConfirmsBeforeNext_ps xs ≤ 1048576) : L.law8_RolloutConfirmsBeforeNext_S (lawArgs RolloutConfirmsBeforeNext_ps xs) isTrue := by
  have e : L.law8_RolloutConfirmsBeforeNext_S (lawArgs RolloutConfirmsBeforeNext_ps xs) isTrue = L.law8_RolloutConfirmsBeforeNext xs.1 xs.2.1.1 xs.2.1.2 xs.2.2.1 xs.2.2.2.1 xs.2.2.2.2.1 (fun r => isTrue (.x (.bool r)) []) := by kernel_rfl
  rw [e]
  exact RolloutConfirmsBeforeNext_true xs hw _ rfl
theorem RolloutConfirmsBeforeNext_own : ownKnob Try.prog.godebug = none := by kernel_rfl
theorem RolloutConfirmsBeforeNext_laid : laidOutB Try.prog = true := by kernel_rfl
theorem RolloutConfirmsBeforeNext_spec : LawSpec Rows.rolloutConfirmsBeforeNextSpec Try.f5.params.toList.length where
  vars := rfl
  res := fun H ds h => by
    match ds, h with
    | [d1, d2, d3, d4, d5], _ => rfl
  args := fun H ds h => by
    match ds, h with
    | [d1, d2, d3, d4, d5], _ => rfl
  left := fun H ds h => by
    match ds, h with
    | [d1, d2, d3, d4, d5], _ => rfl
theorem RolloutConfirmsBeforeNext_lifted (os : Os) (started : os.Started) (H : Type) (enc : TypeId × Value → H) :
    ReturnsInHanded {} Try.checked os 5 .any (Rows.rolloutConfirmsBeforeNextSpec.pre6 enc Try.prog Try.f5 Rows.rolloutConfirmsBeforeNextRow.domain false) (Rows.rolloutConfirmsBeforeNextSpec.post enc Try.prog Try.f5 false true false false) := by
  refine returnsInHanded_of_change (C := Try.checked) RolloutConfirmsBeforeNext_own started (by kernel_rfl) Try.func5
    (ChangeSpec.witness6 (enc := enc) (C := Try.checked) false ⟨#[], #[.int .i64 0, .agg #[.int .i64 0, .int .i64 0], .int .i64 0, .int .i64 0, .slice none 0 0], []⟩ 8 (by kernel_rfl) (by kernel_rfl) (by kernel_rfl) (by kernel_rfl)) ?_
  intro W base args ds gs before hval hW _ _
  exact law_contract (small := false) RolloutConfirmsBeforeNext_laid (ps := RolloutConfirmsBeforeNext_ps) (tb := 4) (by kernel_rfl) (by kernel_rfl) Try.underlying4 RolloutConfirmsBeforeNext_spec L.law8_RolloutConfirmsBeforeNext_ok RolloutConfirmsBeforeNext_sem hval hW (fun h => by cases h)
theorem RolloutConfirmsBeforeNext_holds : Rows.RolloutConfirmsBeforeNextSaid :=
  OpenClaim.holds_of_wide 5 Try.f5 rfl rfl rfl rfl rfl rfl rfl ⟨rfl, rfl, rfl, rfl, rfl⟩ rfl rfl rfl rfl rfl (by kernel_rfl) Try.func5 (by kernel_rfl)
    (of_decide_eq_true (by kernel_rfl)) (by unfold Func.isWrapper; first | (rw [if_pos (by decide +kernel)]; kernel_rfl) | (rw [if_neg (by decide +kernel)]; exact ⟨rfl, rfl⟩))
    (fun os started H enc _ => RolloutConfirmsBeforeNext_lifted os started H enc)
#print axioms RolloutConfirmsBeforeNext_holds
end Go.Proofs.Ytgedmbndmdphdaa

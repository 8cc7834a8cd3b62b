/-
  RolloutFunctionsMatchSpec: the given statement, out of the plain law about the lifted function. Conditions: none.
-/
import Derived.Test.YtgedmbndmdphdaaRoW
import Derived.Test.YtgedmbndmdphdaaEngV
set_option maxRecDepth 100000
namespace Go.Proofs.Ytgedmbndmdphdaa
open Eng Go.ChangeShapes Go.WideShapes Go.ChangeAt Go.RowKit
def RolloutFunctionsMatchSpec_ps : List (Bool × Ty) := [(false, (.int .i64)), (true, (.pair (.int .i64) (.int .i64))), (false, (.int .i64)), (false, (.int .i64)), (false, (.slice (.pair (.int .i64) (.pair (.int .i64) (.pair (.int .i64) (.pair (.int .i64) (.int .i64)))))))]
theorem RolloutFunctionsMatchSpec_sem (xs : ArgDen RolloutFunctionsMatchSpec_ps) (hw : WfAll RolloutFunctionsMatchSpec_ps xs) (_ : false = true → bulkAll RolloutFunctionsMatchSpec_ps xs ≤ 1048576) : L.law8_RolloutFunctionsMatchSpec_S (lawArgs RolloutFunctionsMatchSpec_ps xs) isTrue := by
  have e : L.law8_RolloutFunctionsMatchSpec_S (lawArgs RolloutFunctionsMatchSpec_ps xs) isTrue = L.law8_RolloutFunctionsMatchSpec xs.1 xs.2.1.1 xs.2.1.2 xs.2.2.1 xs.2.2.2.1 xs.2.2.2.2.1 (fun r => isTrue (.x (.bool r)) []) := by kernel_rfl
  rw [e]
  exact RolloutFunctionsMatchSpec_true xs hw _ rfl
theorem RolloutFunctionsMatchSpec_own : ownKnob Try.prog.godebug = none := by kernel_rfl
theorem RolloutFunctionsMatchSpec_laid : laidOutB Try.prog = true := by kernel_rfl
theorem RolloutFunctionsMatchSpec_spec : LawSpec Rows.rolloutFunctionsMatchSpecSpec Try.f3.params.toList.length where
  vars := rfl
  res := fun H ds h => by
    match ds, h with
    | [d1, d2, d3, d4, d5], _ => rfl
  args := fun H ds h => by
    match ds, h with
    | [d1, d2, d3, d4, d5], _ => rfl
  left := fun H ds h => by
    match ds, h with
    | [d1, d2, d3, d4, d5], _ => rfl
theorem RolloutFunctionsMatchSpec_lifted (os : Os) (started : os.Started) (H : Type) (enc : TypeId × Value → H) :
    ReturnsInHanded {} Try.checked os 3 .any (Rows.rolloutFunctionsMatchSpecSpec.pre6 enc Try.prog Try.f3 Rows.rolloutFunctionsMatchSpecRow.domain false) (Rows.rolloutFunctionsMatchSpecSpec.post enc Try.prog Try.f3 false true false false) := by
  refine returnsInHanded_of_change (C := Try.checked) RolloutFunctionsMatchSpec_own started (by kernel_rfl) Try.func3
    (ChangeSpec.witness6 (enc := enc) (C := Try.checked) false ⟨#[], #[.int .i64 0, .agg #[.int .i64 0, .int .i64 0], .int .i64 0, .int .i64 0, .slice none 0 0], []⟩ 8 (by kernel_rfl) (by kernel_rfl) (by kernel_rfl) (by kernel_rfl)) ?_
  intro W base args ds gs before hval hW _ _
  exact law_contract (small := false) RolloutFunctionsMatchSpec_laid (ps := RolloutFunctionsMatchSpec_ps) (tb := 4) (by kernel_rfl) (by kernel_rfl) Try.underlying4 RolloutFunctionsMatchSpec_spec L.law8_RolloutFunctionsMatchSpec_ok RolloutFunctionsMatchSpec_sem hval hW (fun h => by cases h)
theorem RolloutFunctionsMatchSpec_holds : Rows.RolloutFunctionsMatchSpecSaid :=
  OpenClaim.holds_of_wide 3 Try.f3 rfl rfl rfl rfl rfl rfl rfl ⟨rfl, rfl, rfl, rfl, rfl⟩ rfl rfl rfl rfl rfl (by kernel_rfl) Try.func3 (by kernel_rfl)
    (of_decide_eq_true (by kernel_rfl)) (by unfold Func.isWrapper; first | (rw [if_pos (by decide +kernel)]; kernel_rfl) | (rw [if_neg (by decide +kernel)]; exact ⟨rfl, rfl⟩))
    (fun os started H enc _ => RolloutFunctionsMatchSpec_lifted os started H enc)
#print axioms RolloutFunctionsMatchSpec_holds
end Go.Proofs.Ytgedmbndmdphdaa

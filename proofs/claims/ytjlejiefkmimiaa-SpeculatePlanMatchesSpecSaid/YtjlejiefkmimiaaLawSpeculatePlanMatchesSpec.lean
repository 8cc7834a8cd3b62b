/-
  SpeculatePlanMatchesSpec: the given statement, out of the plain law about the lifted function. Conditions: none.
-/
import Derived.Test.YtjlejiefkmimiaaSrF
import Derived.Test.YtjlejiefkmimiaaEngV
set_option maxRecDepth 100000
namespace Go.Proofs.Ytjlejiefkmimiaa
open Eng Go.ChangeShapes Go.WideShapes Go.ChangeAt Go.RowKit
def SpeculatePlanMatchesSpec_ps : List (Bool × Ty) := [(false, (.slice (.int .i64))), (true, (.pair (.int .i64) (.slice (.int .i64)))), (false, (.int .i64))]
theorem SpeculatePlanMatchesSpec_sem (xs : ArgDen SpeculatePlanMatchesSpec_ps) (hw : WfAll SpeculatePlanMatchesSpec_ps xs) (_ : false = true → bulkAll SpeculatePlanMatchesSpec_ps xs ≤ 1048576) : L.law8_SpeculatePlanMatchesSpec_S (lawArgs SpeculatePlanMatchesSpec_ps xs) isTrue := by
  have e : L.law8_SpeculatePlanMatchesSpec_S (lawArgs SpeculatePlanMatchesSpec_ps xs) isTrue = L.law8_SpeculatePlanMatchesSpec xs.1 xs.2.1.1 xs.2.1.2 xs.2.2.1 (fun r => isTrue (.x (.bool r)) []) := by kernel_rfl
  rw [e]
  exact SpeculatePlanMatchesSpec_true xs hw _ rfl
theorem SpeculatePlanMatchesSpec_own : ownKnob Try.prog.godebug = none := by kernel_rfl
theorem SpeculatePlanMatchesSpec_laid : laidOutB Try.prog = true := by kernel_rfl
theorem SpeculatePlanMatchesSpec_spec : LawSpec Rows.speculatePlanMatchesSpecSpec Try.f3.params.toList.length where
  vars := rfl
  res := fun H ds h => by
    match ds, h with
    | [d1, d2, d3], _ => rfl
  args := fun H ds h => by
    match ds, h with
    | [d1, d2, d3], _ => rfl
  left := fun H ds h => by
    match ds, h with
    | [d1, d2, d3], _ => rfl
theorem SpeculatePlanMatchesSpec_lifted (os : Os) (started : os.Started) (H : Type) (enc : TypeId × Value → H) :
    ReturnsInHanded {} Try.checked os 3 .any (Rows.speculatePlanMatchesSpecSpec.pre6 enc Try.prog Try.f3 Rows.speculatePlanMatchesSpecRow.domain false) (Rows.speculatePlanMatchesSpecSpec.post enc Try.prog Try.f3 false true false false) := by
  refine returnsInHanded_of_change (C := Try.checked) SpeculatePlanMatchesSpec_own started (by kernel_rfl) Try.func3
    (ChangeSpec.witness6 (enc := enc) (C := Try.checked) false ⟨#[], #[.slice none 0 0, .agg #[.int .i64 0, .slice none 0 0], .int .i64 0], []⟩ 8 (by kernel_rfl) (by kernel_rfl) (by kernel_rfl) (by kernel_rfl)) ?_
  intro W base args ds gs before hval hW _ _
  exact law_contract (small := false) SpeculatePlanMatchesSpec_laid (ps := SpeculatePlanMatchesSpec_ps) (tb := 4) (by kernel_rfl) (by kernel_rfl) Try.underlying4 SpeculatePlanMatchesSpec_spec L.law8_SpeculatePlanMatchesSpec_ok SpeculatePlanMatchesSpec_sem hval hW (fun h => by cases h)
theorem SpeculatePlanMatchesSpec_holds : Rows.SpeculatePlanMatchesSpecSaid :=
  OpenClaim.holds_of_wide 3 Try.f3 rfl rfl rfl rfl rfl rfl rfl ⟨rfl, rfl, rfl, rfl, rfl⟩ rfl rfl rfl rfl rfl (by kernel_rfl) Try.func3 (by kernel_rfl)
    (of_decide_eq_true (by kernel_rfl)) (by unfold Func.isWrapper; first | (rw [if_pos (by decide +kernel)]; kernel_rfl) | (rw [if_neg (by decide +kernel)]; exact ⟨rfl, rfl⟩))
    (fun os started H enc _ => SpeculatePlanMatchesSpec_lifted os started H enc)
#print axioms SpeculatePlanMatchesSpec_holds
end Go.Proofs.Ytjlejiefkmimiaa

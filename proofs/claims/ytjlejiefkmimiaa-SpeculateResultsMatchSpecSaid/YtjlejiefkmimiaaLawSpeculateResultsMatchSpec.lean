/-
  SpeculateResultsMatchSpec: the given statement, out of the plain law about the lifted function. Conditions: none.
-/
import Derived.Test.YtjlejiefkmimiaaSpY
import Derived.Test.YtjlejiefkmimiaaEngV
set_option maxRecDepth 100000
namespace Go.Proofs.Ytjlejiefkmimiaa
open Eng Go.ChangeShapes Go.WideShapes Go.ChangeAt Go.RowKit
def SpeculateResultsMatchSpec_ps : List (Bool × Ty) := [(false, (.int .i64)), (false, (.slice (.pair (.pair (.int .i64) (.slice (.int .i64))) .bool))), (true, (.pair (.int .i64) (.slice (.int .i64))))]
theorem SpeculateResultsMatchSpec_sem (xs : ArgDen SpeculateResultsMatchSpec_ps) (hw : WfAll SpeculateResultsMatchSpec_ps xs) (_ : false = true → bulkAll SpeculateResultsMatchSpec_ps xs ≤ 1048576) : L.law8_SpeculateResultsMatchSpec_S (lawArgs SpeculateResultsMatchSpec_ps xs) isTrue := by
  have e : L.law8_SpeculateResultsMatchSpec_S (lawArgs SpeculateResultsMatchSpec_ps xs) isTrue = L.law8_SpeculateResultsMatchSpec xs.1 xs.2.1 xs.2.2.1.1 xs.2.2.1.2 (fun r => isTrue (.x (.bool r)) []) := by kernel_rfl
  rw [e]
  exact SpeculateResultsMatchSpec_true xs hw _ rfl
theorem SpeculateResultsMatchSpec_own : ownKnob Try.prog.godebug = none := by kernel_rfl
theorem SpeculateResultsMatchSpec_laid : laidOutB Try.prog = true := by kernel_rfl
theorem SpeculateResultsMatchSpec_spec : LawSpec Rows.speculateResultsMatchSpecSpec Try.f4.params.toList.length where
  vars := rfl
  res := fun H ds h => by
    match ds, h with
    | [d1, d2, d3], _ => rfl
  args := fun H ds h => by
    match ds, h with
    | [d1, d2, d3], _ => rfl
  left := fun H ds h => by
    match ds, h with
    | [d1, d2, d3], _ => rfl
theorem SpeculateResultsMatchSpec_lifted (os : Os) (started : os.Started) (H : Type) (enc : TypeId × Value → H) :
    ReturnsInHanded {} Try.checked os 4 .any (Rows.speculateResultsMatchSpecSpec.pre6 enc Try.prog Try.f4 Rows.speculateResultsMatchSpecRow.domain false) (Rows.speculateResultsMatchSpecSpec.post enc Try.prog Try.f4 false true false false) := by
  refine returnsInHanded_of_change (C := Try.checked) SpeculateResultsMatchSpec_own started (by kernel_rfl) Try.func4
    (ChangeSpec.witness6 (enc := enc) (C := Try.checked) false ⟨#[], #[.int .i64 0, .slice none 0 0, .agg #[.int .i64 0, .slice none 0 0]], []⟩ 8 (by kernel_rfl) (by kernel_rfl) (by kernel_rfl) (by kernel_rfl)) ?_
  intro W base args ds gs before hval hW _ _
  exact law_contract (small := false) SpeculateResultsMatchSpec_laid (ps := SpeculateResultsMatchSpec_ps) (tb := 4) (by kernel_rfl) (by kernel_rfl) Try.underlying4 SpeculateResultsMatchSpec_spec L.law8_SpeculateResultsMatchSpec_ok SpeculateResultsMatchSpec_sem hval hW (fun h => by cases h)
theorem SpeculateResultsMatchSpec_holds : Rows.SpeculateResultsMatchSpecSaid :=
  OpenClaim.holds_of_wide 4 Try.f4 rfl rfl rfl rfl rfl rfl rfl ⟨rfl, rfl, rfl, rfl, rfl⟩ rfl rfl rfl rfl rfl (by kernel_rfl) Try.func4 (by kernel_rfl)
    (of_decide_eq_true (by kernel_rfl)) (by unfold Func.isWrapper; first | (rw [if_pos (by decide +kernel)]; kernel_rfl) | (rw [if_neg (by decide +kernel)]; exact ⟨rfl, rfl⟩))
    (fun os started H enc _ => SpeculateResultsMatchSpec_lifted os started H enc)
#print axioms SpeculateResultsMatchSpec_holds
end Go.Proofs.Ytjlejiefkmimiaa

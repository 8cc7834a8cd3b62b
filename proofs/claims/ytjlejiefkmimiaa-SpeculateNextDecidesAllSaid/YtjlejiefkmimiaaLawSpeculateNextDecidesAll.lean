/-
  SpeculateNextDecidesAll: the given statement, out of the plain law about the lifted function. Conditions: none.
-/
import Derived.Test.YtjlejiefkmimiaaSnL
import Derived.Test.YtjlejiefkmimiaaEngV
set_option maxRecDepth 100000
namespace Go.Proofs.Ytjlejiefkmimiaa
open Eng Go.ChangeShapes Go.WideShapes Go.ChangeAt Go.RowKit
def SpeculateNextDecidesAll_ps : List (Bool × Ty) := [(false, (.int .i64)), (false, (.slice (.slice (.int .i64))))]
theorem SpeculateNextDecidesAll_sem (xs : ArgDen SpeculateNextDecidesAll_ps) (hw : WfAll SpeculateNextDecidesAll_ps xs) (_ : false = true → bulkAll SpeculateNextDecidesAll_ps xs ≤ 1048576) : L.law8_SpeculateNextDecidesAll_S (lawArgs SpeculateNextDecidesAll_ps xs) isTrue := by
  have e : L.law8_SpeculateNextDecidesAll_S (lawArgs SpeculateNextDecidesAll_ps xs) isTrue = L.law8_SpeculateNextDecidesAll xs.1 xs.2.1 (fun r => isTrue (.x (.bool r)) []) := by kernel_rfl
  rw [e]
  exact SpeculateNextDecidesAll_true xs hw _ rfl
theorem SpeculateNextDecidesAll_own : ownKnob Try.prog.godebug = none := by kernel_rfl
theorem SpeculateNextDecidesAll_laid : laidOutB Try.prog = true := by kernel_rfl
theorem SpeculateNextDecidesAll_spec : LawSpec Rows.speculateNextDecidesAllSpec Try.f7.params.toList.length where
  vars := rfl
  res := fun H ds h => by
    match ds, h with
    | [d1, d2], _ => rfl
  args := fun H ds h => by
    match ds, h with
    | [d1, d2], _ => rfl
  left := fun H ds h => by
    match ds, h with
    | [d1, d2], _ => rfl
theorem SpeculateNextDecidesAll_lifted (os : Os) (started : os.Started) (H : Type) (enc : TypeId × Value → H) :
    ReturnsInHanded {} Try.checked os 7 .any (Rows.speculateNextDecidesAllSpec.pre6 enc Try.prog Try.f7 Rows.speculateNextDecidesAllRow.domain false) (Rows.speculateNextDecidesAllSpec.post enc Try.prog Try.f7 false true false false) := by
  refine returnsInHanded_of_change (C := Try.checked) SpeculateNextDecidesAll_own started (by kernel_rfl) Try.func7
    (ChangeSpec.witness6 (enc := enc) (C := Try.checked) false ⟨#[], #[.int .i64 0, .slice none 0 0], []⟩ 8 (by kernel_rfl) (by kernel_rfl) (by kernel_rfl) (by kernel_rfl)) ?_
  intro W base args ds gs before hval hW _ _
  exact law_contract (small := false) SpeculateNextDecidesAll_laid (ps := SpeculateNextDecidesAll_ps) (tb := 4) (by kernel_rfl) (by kernel_rfl) Try.underlying4 SpeculateNextDecidesAll_spec L.law8_SpeculateNextDecidesAll_ok SpeculateNextDecidesAll_sem hval hW (fun h => by cases h)
theorem SpeculateNextDecidesAll_holds : Rows.SpeculateNextDecidesAllSaid :=
  OpenClaim.holds_of_wide 7 Try.f7 rfl rfl rfl rfl rfl rfl rfl ⟨rfl, rfl, rfl, rfl, rfl⟩ rfl rfl rfl rfl rfl (by kernel_rfl) Try.func7 (by kernel_rfl)
    (of_decide_eq_true (by kernel_rfl)) (by unfold Func.isWrapper; first | (rw [if_pos (by decide +kernel)]; kernel_rfl) | (rw [if_neg (by decide +kernel)]; exact ⟨rfl, rfl⟩))
    (fun os started H enc _ => SpeculateNextDecidesAll_lifted os started H enc)
#print axioms SpeculateNextDecidesAll_holds
end Go.Proofs.Ytjlejiefkmimiaa

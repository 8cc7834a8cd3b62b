/-
  SpeculateChancesAddUp: the given statement, out of the plain law about the lifted function. Conditions: none.
-/
import Derived.Test.YtjlejiefkmimiaaSpF
import Derived.Test.YtjlejiefkmimiaaEngV
set_option maxRecDepth 100000
namespace Go.Proofs.Ytjlejiefkmimiaa
open Eng Go.ChangeShapes Go.WideShapes Go.ChangeAt Go.RowKit
def SpeculateChancesAddUp_ps : List (Bool × Ty) := [(false, (.slice (.int .i64))), (false, (.int .i64))]
theorem SpeculateChancesAddUp_sem (xs : ArgDen SpeculateChancesAddUp_ps) (hw : WfAll SpeculateChancesAddUp_ps xs) (_ : false = true → bulkAll SpeculateChancesAddUp_ps xs ≤ 1048576) : L.law8_SpeculateChancesAddUp_S (lawArgs SpeculateChancesAddUp_ps xs) isTrue := by
  have e : L.law8_SpeculateChancesAddUp_S (lawArgs SpeculateChancesAddUp_ps xs) isTrue = L.law8_SpeculateChancesAddUp xs.1 xs.2.1 (fun r => isTrue (.x (.bool r)) []) := by kernel_rfl
  rw [e]
  exact SpeculateChancesAddUp_true xs hw _ rfl
theorem SpeculateChancesAddUp_own : ownKnob Try.prog.godebug = none := by kernel_rfl
theorem SpeculateChancesAddUp_laid : laidOutB Try.prog = true := by kernel_rfl
theorem SpeculateChancesAddUp_spec : LawSpec Rows.speculateChancesAddUpSpec Try.f5.params.toList.length where
  vars := rfl
  res := fun H ds h => by
    match ds, h with
    | [d1, d2], _ => rfl
  args := fun H ds h => by
    match ds, h with
    | [d1, d2], _ => rfl
  left := fun H ds h => by
    match ds, h with
    | [d1, d2], _ => rfl
theorem SpeculateChancesAddUp_lifted (os : Os) (started : os.Started) (H : Type) (enc : TypeId × Value → H) :
    ReturnsInHanded {} Try.checked os 5 .any (Rows.speculateChancesAddUpSpec.pre6 enc Try.prog Try.f5 Rows.speculateChancesAddUpRow.domain false) (Rows.speculateChancesAddUpSpec.post enc Try.prog Try.f5 false true false false) := by
  refine returnsInHanded_of_change (C := Try.checked) SpeculateChancesAddUp_own started (by kernel_rfl) Try.func5
    (ChangeSpec.witness6 (enc := enc) (C := Try.checked) false ⟨#[], #[.slice none 0 0, .int .i64 0], []⟩ 8 (by kernel_rfl) (by kernel_rfl) (by kernel_rfl) (by kernel_rfl)) ?_
  intro W base args ds gs before hval hW _ _
  exact law_contract (small := false) SpeculateChancesAddUp_laid (ps := SpeculateChancesAddUp_ps) (tb := 4) (by kernel_rfl) (by kernel_rfl) Try.underlying4 SpeculateChancesAddUp_spec L.law8_SpeculateChancesAddUp_ok SpeculateChancesAddUp_sem hval hW (fun h => by cases h)
theorem SpeculateChancesAddUp_holds : Rows.SpeculateChancesAddUpSaid :=
  OpenClaim.holds_of_wide 5 Try.f5 rfl rfl rfl rfl rfl rfl rfl ⟨rfl, rfl, rfl, rfl, rfl⟩ rfl rfl rfl rfl rfl (by kernel_rfl) Try.func5 (by kernel_rfl)
    (of_decide_eq_true (by kernel_rfl)) (by unfold Func.isWrapper; first | (rw [if_pos (by decide +kernel)]; kernel_rfl) | (rw [if_neg (by decide +kernel)]; exact ⟨rfl, rfl⟩))
    (fun os started H enc _ => SpeculateChancesAddUp_lifted os started H enc)
#print axioms SpeculateChancesAddUp_holds
end Go.Proofs.Ytjlejiefkmimiaa

/-
  MergequeueFunctionsMatchSpec: the given statement, out of the plain law about the lifted function. Conditions: none.
-/
import Derived.Test.YtpfcgenmgddgpaaMqU
import Derived.Test.YtpfcgenmgddgpaaEngV
set_option maxRecDepth 100000
namespace Go.Proofs.Ytpfcgenmgddgpaa
open Eng Go.ChangeShapes Go.WideShapes Go.ChangeAt Go.RowKit
def MergequeueFunctionsMatchSpec_ps : List (Bool × Ty) := [(false, (.int .i64)), (false, (.slice (.pair (.int .i64) (.pair (.int .i64) (.int .i64))))), (false, (.int .i64))]
theorem MergequeueFunctionsMatchSpec_sem (xs : ArgDen MergequeueFunctionsMatchSpec_ps) (hw : WfAll MergequeueFunctionsMatchSpec_ps xs) (_ : false = true → bulkAll MergequeueFunctionsMatchSpec_ps xs ≤ 1048576) : L.law8_MergequeueFunctionsMatchSpec_S (lawArgs MergequeueFunctionsMatchSpec_ps xs) isTrue := by
  have e : L.law8_MergequeueFunctionsMatchSpec_S (lawArgs MergequeueFunctionsMatchSpec_ps xs) isTrue = L.law8_MergequeueFunctionsMatchSpec xs.1 xs.2.1 xs.2.2.1 (fun r => isTrue (.x (.bool r)) []) := by kernel_rfl
  rw [e]
  exact MergequeueFunctionsMatchSpec_true xs hw _ rfl
theorem MergequeueFunctionsMatchSpec_own : ownKnob Try.prog.godebug = none := by kernel_rfl
theorem MergequeueFunctionsMatchSpec_laid : laidOutB Try.prog = true := by kernel_rfl
theorem MergequeueFunctionsMatchSpec_spec : LawSpec Rows.mergequeueFunctionsMatchSpecSpec Try.f3.params.toList.length where
  vars := rfl
  res := fun H ds h => by
    match ds, h with
    | [d1, d2, d3], _ => rfl
  args := fun H ds h => by
    match ds, h with
    | [d1, d2, d3], _ => rfl
  left := fun H ds h => by
    match ds, h with
    | [d1, d2, d3], _ => rfl
theorem MergequeueFunctionsMatchSpec_lifted (os : Os) (started : os.Started) (H : Type) (enc : TypeId × Value → H) :
    ReturnsInHanded {} Try.checked os 3 .any (Rows.mergequeueFunctionsMatchSpecSpec.pre6 enc Try.prog Try.f3 Rows.mergequeueFunctionsMatchSpecRow.domain false) (Rows.mergequeueFunctionsMatchSpecSpec.post enc Try.prog Try.f3 false true false false) := by
  refine returnsInHanded_of_change (C := Try.checked) MergequeueFunctionsMatchSpec_own started (by kernel_rfl) Try.func3
    (ChangeSpec.witness6 (enc := enc) (C := Try.checked) false ⟨#[], #[.int .i64 0, .slice none 0 0, .int .i64 0], []⟩ 8 (by kernel_rfl) (by kernel_rfl) (by kernel_rfl) (by kernel_rfl)) ?_
  intro W base args ds gs before hval hW _ _
  exact law_contract (small := false) MergequeueFunctionsMatchSpec_laid (ps := MergequeueFunctionsMatchSpec_ps) (tb := 4) (by kernel_rfl) (by kernel_rfl) Try.underlying4 MergequeueFunctionsMatchSpec_spec L.law8_MergequeueFunctionsMatchSpec_ok MergequeueFunctionsMatchSpec_sem hval hW (fun h => by cases h)
theorem MergequeueFunctionsMatchSpec_holds : Rows.MergequeueFunctionsMatchSpecSaid :=
  OpenClaim.holds_of_wide 3 Try.f3 rfl rfl rfl rfl rfl rfl rfl ⟨rfl, rfl, rfl, rfl, rfl⟩ rfl rfl rfl rfl rfl (by kernel_rfl) Try.func3 (by kernel_rfl)
    (of_decide_eq_true (by kernel_rfl)) (by unfold Func.isWrapper; first | (rw [if_pos (by decide +kernel)]; kernel_rfl) | (rw [if_neg (by decide +kernel)]; exact ⟨rfl, rfl⟩))
    (fun os started H enc _ => MergequeueFunctionsMatchSpec_lifted os started H enc)
#print axioms MergequeueFunctionsMatchSpec_holds
end Go.Proofs.Ytpfcgenmgddgpaa

/-
  BatchbisectFunctionsMatchSpec: the given statement, out of the plain law about the lifted function. Conditions: none.
-/
import Derived.Test.YtmfdikjeijnlmaaBbP
import Derived.Test.YtmfdikjeijnlmaaEngV
set_option maxRecDepth 100000
namespace Go.Proofs.Ytmfdikjeijnlmaa
open Eng Go.ChangeShapes Go.WideShapes Go.ChangeAt Go.RowKit
def BatchbisectFunctionsMatchSpec_ps : List (Bool × Ty) := [(false, (.int .i64)), (false, (.slice (.slice (.int .i64)))), (false, (.slice (.int .i64)))]
theorem BatchbisectFunctionsMatchSpec_sem (xs : ArgDen BatchbisectFunctionsMatchSpec_ps) (hw : WfAll BatchbisectFunctionsMatchSpec_ps xs) (_ : false = true → bulkAll BatchbisectFunctionsMatchSpec_ps xs ≤ 1048576) : L.law8_BatchbisectFunctionsMatchSpec_S (lawArgs BatchbisectFunctionsMatchSpec_ps xs) isTrue := by
  have e : L.law8_BatchbisectFunctionsMatchSpec_S (lawArgs BatchbisectFunctionsMatchSpec_ps xs) isTrue = L.law8_BatchbisectFunctionsMatchSpec xs.1 xs.2.1 xs.2.2.1 (fun r => isTrue (.x (.bool r)) []) := by kernel_rfl
  rw [e]
  exact BatchbisectFunctionsMatchSpec_true xs hw _ rfl
theorem BatchbisectFunctionsMatchSpec_own : ownKnob Try.prog.godebug = none := by kernel_rfl
theorem BatchbisectFunctionsMatchSpec_laid : laidOutB Try.prog = true := by kernel_rfl
theorem BatchbisectFunctionsMatchSpec_spec : LawSpec Rows.batchbisectFunctionsMatchSpecSpec Try.f3.params.toList.length where
  vars := rfl
  res := fun H ds h => by
    match ds, h with
    | [d1, d2, d3], _ => rfl
  args := fun H ds h => by
    match ds, h with
    | [d1, d2, d3], _ => rfl
  left := fun H ds h => by
    match ds, h with
    | [d1, d2, d3], _ => rfl
theorem BatchbisectFunctionsMatchSpec_lifted (os : Os) (started : os.Started) (H : Type) (enc : TypeId × Value → H) :
    ReturnsInHanded {} Try.checked os 3 .any (Rows.batchbisectFunctionsMatchSpecSpec.pre6 enc Try.prog Try.f3 Rows.batchbisectFunctionsMatchSpecRow.domain false) (Rows.batchbisectFunctionsMatchSpecSpec.post enc Try.prog Try.f3 false true false false) := by
  refine returnsInHanded_of_change (C := Try.checked) BatchbisectFunctionsMatchSpec_own started (by kernel_rfl) Try.func3
    (ChangeSpec.witness6 (enc := enc) (C := Try.checked) false ⟨#[], #[.int .i64 0, .slice none 0 0, .slice none 0 0], []⟩ 8 (by kernel_rfl) (by kernel_rfl) (by kernel_rfl) (by kernel_rfl)) ?_
  intro W base args ds gs before hval hW _ _
  exact law_contract (small := false) BatchbisectFunctionsMatchSpec_laid (ps := BatchbisectFunctionsMatchSpec_ps) (tb := 4) (by kernel_rfl) (by kernel_rfl) Try.underlying4 BatchbisectFunctionsMatchSpec_spec L.law8_BatchbisectFunctionsMatchSpec_ok BatchbisectFunctionsMatchSpec_sem hval hW (fun h => by cases h)
theorem BatchbisectFunctionsMatchSpec_holds : Rows.BatchbisectFunctionsMatchSpecSaid :=
  OpenClaim.holds_of_wide 3 Try.f3 rfl rfl rfl rfl rfl rfl rfl ⟨rfl, rfl, rfl, rfl, rfl⟩ rfl rfl rfl rfl rfl (by kernel_rfl) Try.func3 (by kernel_rfl)
    (of_decide_eq_true (by kernel_rfl)) (by unfold Func.isWrapper; first | (rw [if_pos (by decide +kernel)]; kernel_rfl) | (rw [if_neg (by decide +kernel)]; exact ⟨rfl, rfl⟩))
    (fun os started H enc _ => BatchbisectFunctionsMatchSpec_lifted os started H enc)
#print axioms BatchbisectFunctionsMatchSpec_holds
end Go.Proofs.Ytmfdikjeijnlmaa

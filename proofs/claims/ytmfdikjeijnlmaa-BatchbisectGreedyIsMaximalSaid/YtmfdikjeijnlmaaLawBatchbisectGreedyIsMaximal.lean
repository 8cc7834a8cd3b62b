/-
  BatchbisectGreedyIsMaximal: the given statement, out of the plain law about the lifted function. Conditions: none.
-/
import Derived.Test.YtmfdikjeijnlmaaBbG
import Derived.Test.YtmfdikjeijnlmaaEngV
set_option maxRecDepth 100000
namespace Go.Proofs.Ytmfdikjeijnlmaa
open Eng Go.ChangeShapes Go.WideShapes Go.ChangeAt Go.RowKit
def BatchbisectGreedyIsMaximal_ps : List (Bool × Ty) := [(false, (.int .i64)), (false, (.slice (.slice (.int .i64))))]
theorem BatchbisectGreedyIsMaximal_sem (xs : ArgDen BatchbisectGreedyIsMaximal_ps) (hw : WfAll BatchbisectGreedyIsMaximal_ps xs) (_ : false = true → bulkAll BatchbisectGreedyIsMaximal_ps xs ≤ 1048576) : L.law8_BatchbisectGreedyIsMaximal_S (lawArgs BatchbisectGreedyIsMaximal_ps xs) isTrue := by
  have e : L.law8_BatchbisectGreedyIsMaximal_S (lawArgs BatchbisectGreedyIsMaximal_ps xs) isTrue = L.law8_BatchbisectGreedyIsMaximal xs.1 xs.2.1 (fun r => isTrue (.x (.bool r)) []) := by kernel_rfl
  rw [e]
  exact BatchbisectGreedyIsMaximal_true xs hw _ rfl
theorem BatchbisectGreedyIsMaximal_own : ownKnob Try.prog.godebug = none := by kernel_rfl
theorem BatchbisectGreedyIsMaximal_laid : laidOutB Try.prog = true := by kernel_rfl
theorem BatchbisectGreedyIsMaximal_spec : LawSpec Rows.batchbisectGreedyIsMaximalSpec Try.f6.params.toList.length where
  vars := rfl
  res := fun H ds h => by
    match ds, h with
    | [d1, d2], _ => rfl
  args := fun H ds h => by
    match ds, h with
    | [d1, d2], _ => rfl
  left := fun H ds h => by
    match ds, h with
    | [d1, d2], _ => rfl
theorem BatchbisectGreedyIsMaximal_lifted (os : Os) (started : os.Started) (H : Type) (enc : TypeId × Value → H) :
    ReturnsInHanded {} Try.checked os 6 .any (Rows.batchbisectGreedyIsMaximalSpec.pre6 enc Try.prog Try.f6 Rows.batchbisectGreedyIsMaximalRow.domain false) (Rows.batchbisectGreedyIsMaximalSpec.post enc Try.prog Try.f6 false true false false) := by
  refine returnsInHanded_of_change (C := Try.checked) BatchbisectGreedyIsMaximal_own started (by kernel_rfl) Try.func6
    (ChangeSpec.witness6 (enc := enc) (C := Try.checked) false ⟨#[], #[.int .i64 0, .slice none 0 0], []⟩ 8 (by kernel_rfl) (by kernel_rfl) (by kernel_rfl) (by kernel_rfl)) ?_
  intro W base args ds gs before hval hW _ _
  exact law_contract (small := false) BatchbisectGreedyIsMaximal_laid (ps := BatchbisectGreedyIsMaximal_ps) (tb := 4) (by kernel_rfl) (by kernel_rfl) Try.underlying4 BatchbisectGreedyIsMaximal_spec L.law8_BatchbisectGreedyIsMaximal_ok BatchbisectGreedyIsMaximal_sem hval hW (fun h => by cases h)
theorem BatchbisectGreedyIsMaximal_holds : Rows.BatchbisectGreedyIsMaximalSaid :=
  OpenClaim.holds_of_wide 6 Try.f6 rfl rfl rfl rfl rfl rfl rfl ⟨rfl, rfl, rfl, rfl, rfl⟩ rfl rfl rfl rfl rfl (by kernel_rfl) Try.func6 (by kernel_rfl)
    (of_decide_eq_true (by kernel_rfl)) (by unfold Func.isWrapper; first | (rw [if_pos (by decide +kernel)]; kernel_rfl) | (rw [if_neg (by decide +kernel)]; exact ⟨rfl, rfl⟩))
    (fun os started H enc _ => BatchbisectGreedyIsMaximal_lifted os started H enc)
#print axioms BatchbisectGreedyIsMaximal_holds
end Go.Proofs.Ytmfdikjeijnlmaa

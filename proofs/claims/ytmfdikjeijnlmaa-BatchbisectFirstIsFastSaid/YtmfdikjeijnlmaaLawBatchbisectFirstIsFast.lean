/-
  BatchbisectFirstIsFast: the given statement, out of the plain law about the lifted function. Conditions: none.
-/
import Derived.Test.YtmfdikjeijnlmaaBbA
import Derived.Test.YtmfdikjeijnlmaaEngV
set_option maxRecDepth 100000
namespace Go.Proofs.Ytmfdikjeijnlmaa
open Eng Go.ChangeShapes Go.WideShapes Go.ChangeAt Go.RowKit
def BatchbisectFirstIsFast_ps : List (Bool × Ty) := [(false, (.int .i64)), (false, (.slice (.slice (.int .i64))))]
theorem BatchbisectFirstIsFast_sem (xs : ArgDen BatchbisectFirstIsFast_ps) (hw : WfAll BatchbisectFirstIsFast_ps xs) (hb : false = true → bulkAll BatchbisectFirstIsFast_ps xs ≤ 1048576) : L.law8_BatchbisectFirstIsFast_S (lawArgs BatchbisectFirstIsFast_ps xs) isTrue := by
  have e : L.law8_BatchbisectFirstIsFast_S (lawArgs BatchbisectFirstIsFast_ps xs) isTrue = L.law8_BatchbisectFirstIsFast xs.1 xs.2.1 (fun r => isTrue (.x (.bool r)) []) := by kernel_rfl
  rw [e]
  exact BatchbisectFirstIsFast_true xs hw _ rfl
theorem BatchbisectFirstIsFast_own : ownKnob Try.prog.godebug = none := by kernel_rfl
theorem BatchbisectFirstIsFast_laid : laidOutB Try.prog = true := by kernel_rfl
theorem BatchbisectFirstIsFast_spec : LawSpec Rows.batchbisectFirstIsFastSpec Try.f5.params.toList.length where
  vars := rfl
  res := fun H ds h => by
    match ds, h with
    | [d1, d2], _ => rfl
  args := fun H ds h => by
    match ds, h with
    | [d1, d2], _ => rfl
  left := fun H ds h => by
    match ds, h with
    | [d1, d2], _ => rfl
theorem BatchbisectFirstIsFast_lifted (os : Os) (started : os.Started) (H : Type) (enc : TypeId × Value → H) :
    ReturnsInHanded {} Try.checked os 5 .any (Rows.batchbisectFirstIsFastSpec.pre6 enc Try.prog Try.f5 Rows.batchbisectFirstIsFastRow.domain false) (Rows.batchbisectFirstIsFastSpec.post enc Try.prog Try.f5 false true false false) := by
  refine returnsInHanded_of_change (C := Try.checked) BatchbisectFirstIsFast_own started (by kernel_rfl) Try.func5
    (ChangeSpec.witness6 (enc := enc) (C := Try.checked) false ⟨#[], #[.int .i64 0, .slice none 0 0], []⟩ 8 (by kernel_rfl) (by kernel_rfl) (by kernel_rfl) (by kernel_rfl)) ?_
  intro W base args ds gs before hval hW _ _
  exact law_contract (small := false) BatchbisectFirstIsFast_laid (ps := BatchbisectFirstIsFast_ps) (tb := 4) (by kernel_rfl) (by kernel_rfl) Try.underlying4 BatchbisectFirstIsFast_spec L.law8_BatchbisectFirstIsFast_ok BatchbisectFirstIsFast_sem hval hW (fun h => by cases h)
theorem BatchbisectFirstIsFast_holds : Rows.BatchbisectFirstIsFastSaid :=
  OpenClaim.holds_of_wide 5 Try.f5 rfl rfl rfl rfl rfl rfl rfl ⟨rfl, rfl, rfl, rfl, rfl⟩ rfl rfl rfl rfl rfl (by kernel_rfl) Try.func5 (by kernel_rfl)
    (of_decide_eq_true (by kernel_rfl)) (by unfold Func.isWrapper; first | (rw [if_pos (by decide +kernel)]; kernel_rfl) | (rw [if_neg (by decide +kernel)]; exact ⟨rfl, rfl⟩))
    (fun os started H enc _ => BatchbisectFirstIsFast_lifted os started H enc)
#print axioms BatchbisectFirstIsFast_holds
end Go.Proofs.Ytmfdikjeijnlmaa

/-
  AuditProofsConvince: the given statement, out of the plain law about the lifted function. Conditions: none.
-/
import Derived.Test.YtopibmbmlifkmaaAuP
import Derived.Test.YtopibmbmlifkmaaEngV
set_option maxRecDepth 100000
namespace Go.Proofs.Ytopibmbmlifkmaa
open Eng Go.ChangeShapes Go.WideShapes Go.ChangeAt Go.RowKit
def AuditProofsConvince_ps : List (Bool × Ty) := [(false, (.slice (.pair (.int .i64) (.pair (.int .i64) (.pair (.int .i64) (.int .i64)))))), (false, (.int .i64))]
theorem AuditProofsConvince_sem (xs : ArgDen AuditProofsConvince_ps) (hw : WfAll AuditProofsConvince_ps xs) (_ : false = true → bulkAll AuditProofsConvince_ps xs ≤ 1048576) : L.law8_AuditProofsConvince_S (lawArgs AuditProofsConvince_ps xs) isTrue := by
  have e : L.law8_AuditProofsConvince_S (lawArgs AuditProofsConvince_ps xs) isTrue = L.law8_AuditProofsConvince xs.1 xs.2.1 (fun r => isTrue (.x (.bool r)) []) := by kernel_rfl
  rw [e]
  exact AuditProofsConvince_true xs hw _ rfl
theorem AuditProofsConvince_own : ownKnob Try.prog.godebug = none := by kernel_rfl
theorem AuditProofsConvince_laid : laidOutB Try.prog = true := by kernel_rfl
theorem AuditProofsConvince_spec : LawSpec Rows.auditProofsConvinceSpec Try.f8.params.toList.length where
  vars := rfl
  res := fun H ds h => by
    match ds, h with
    | [d1, d2], _ => rfl
  args := fun H ds h => by
    match ds, h with
    | [d1, d2], _ => rfl
  left := fun H ds h => by
    match ds, h with
    | [d1, d2], _ => rfl
theorem AuditProofsConvince_lifted (os : Os) (started : os.Started) (H : Type) (enc : TypeId × Value → H) :
    ReturnsInHanded {} Try.checked os 8 .any (Rows.auditProofsConvinceSpec.pre6 enc Try.prog Try.f8 Rows.auditProofsConvinceRow.domain false) (Rows.auditProofsConvinceSpec.post enc Try.prog Try.f8 false true false false) := by
  refine returnsInHanded_of_change (C := Try.checked) AuditProofsConvince_own started (by kernel_rfl) Try.func8
    (ChangeSpec.witness6 (enc := enc) (C := Try.checked) false ⟨#[], #[.slice none 0 0, .int .i64 0], []⟩ 8 (by kernel_rfl) (by kernel_rfl) (by kernel_rfl) (by kernel_rfl)) ?_
  intro W base args ds gs before hval hW _ _
  exact law_contract (small := false) AuditProofsConvince_laid (ps := AuditProofsConvince_ps) (tb := 4) (by kernel_rfl) (by kernel_rfl) Try.underlying4 AuditProofsConvince_spec L.law8_AuditProofsConvince_ok AuditProofsConvince_sem hval hW (fun h => by cases h)
theorem AuditProofsConvince_holds : Rows.AuditProofsConvinceSaid :=
  OpenClaim.holds_of_wide 8 Try.f8 rfl rfl rfl rfl rfl rfl rfl ⟨rfl, rfl, rfl, rfl, rfl⟩ rfl rfl rfl rfl rfl (by kernel_rfl) Try.func8 (by kernel_rfl)
    (of_decide_eq_true (by kernel_rfl)) (by unfold Func.isWrapper; first | (rw [if_pos (by decide +kernel)]; kernel_rfl) | (rw [if_neg (by decide +kernel)]; exact ⟨rfl, rfl⟩))
    (fun os started H enc _ => AuditProofsConvince_lifted os started H enc)
#print axioms AuditProofsConvince_holds
end Go.Proofs.Ytopibmbmlifkmaa

/-
  AuditTamperingIsDetected: the given statement, out of the plain law about the lifted function. Conditions: none.
-/
import Derived.Test.YtopibmbmlifkmaaAuA
import Derived.Test.YtopibmbmlifkmaaEngV
set_option maxRecDepth 100000
namespace Go.Proofs.Ytopibmbmlifkmaa
open Eng Go.ChangeShapes Go.WideShapes Go.ChangeAt Go.RowKit
def AuditTamperingIsDetected_ps : List (Bool × Ty) := [(false, (.slice (.pair (.int .i64) (.pair (.int .i64) (.pair (.int .i64) (.int .i64)))))), (false, (.int .i64)), (true, (.pair (.int .i64) (.pair (.int .i64) (.pair (.int .i64) (.int .i64)))))]
theorem AuditTamperingIsDetected_sem (xs : ArgDen AuditTamperingIsDetected_ps) (hw : WfAll AuditTamperingIsDetected_ps xs) (_ : false = true → bulkAll AuditTamperingIsDetected_ps xs ≤ 1048576) : L.law8_AuditTamperingIsDetected_S (lawArgs AuditTamperingIsDetected_ps xs) isTrue := by
  have e : L.law8_AuditTamperingIsDetected_S (lawArgs AuditTamperingIsDetected_ps xs) isTrue = L.law8_AuditTamperingIsDetected xs.1 xs.2.1 xs.2.2.1.1 xs.2.2.1.2.1 xs.2.2.1.2.2.1 xs.2.2.1.2.2.2 (fun r => isTrue (.x (.bool r)) []) := by kernel_rfl
  rw [e]
  exact AuditTamperingIsDetected_true xs hw _ rfl
theorem AuditTamperingIsDetected_own : ownKnob Try.prog.godebug = none := by kernel_rfl
theorem AuditTamperingIsDetected_laid : laidOutB Try.prog = true := by kernel_rfl
theorem AuditTamperingIsDetected_spec : LawSpec Rows.auditTamperingIsDetectedSpec Try.f5.params.toList.length where
  vars := rfl
  res := fun H ds h => by
    match ds, h with
    | [d1, d2, d3], _ => rfl
  args := fun H ds h => by
    match ds, h with
    | [d1, d2, d3], _ => rfl
  left := fun H ds h => by
    match ds, h with
    | [d1, d2, d3], _ => rfl
theorem AuditTamperingIsDetected_lifted (os : Os) (started : os.Started) (H : Type) (enc : TypeId × Value → H) :
    ReturnsInHanded {} Try.checked os 5 .any (Rows.auditTamperingIsDetectedSpec.pre6 enc Try.prog Try.f5 Rows.auditTamperingIsDetectedRow.domain false) (Rows.auditTamperingIsDetectedSpec.post enc Try.prog Try.f5 false true false false) := by
  refine returnsInHanded_of_change (C := Try.checked) AuditTamperingIsDetected_own started (by kernel_rfl) Try.func5
    (ChangeSpec.witness6 (enc := enc) (C := Try.checked) false ⟨#[], #[.slice none 0 0, .int .i64 0, .agg #[.int .i64 0, .int .i64 0, .int .i64 0, .int .i64 0]], []⟩ 8 (by kernel_rfl) (by kernel_rfl) (by kernel_rfl) (by kernel_rfl)) ?_
  intro W base args ds gs before hval hW _ _
  exact law_contract (small := false) AuditTamperingIsDetected_laid (ps := AuditTamperingIsDetected_ps) (tb := 4) (by kernel_rfl) (by kernel_rfl) Try.underlying4 AuditTamperingIsDetected_spec L.law8_AuditTamperingIsDetected_ok AuditTamperingIsDetected_sem hval hW (fun h => by cases h)
theorem AuditTamperingIsDetected_holds : Rows.AuditTamperingIsDetectedSaid :=
  OpenClaim.holds_of_wide 5 Try.f5 rfl rfl rfl rfl rfl rfl rfl ⟨rfl, rfl, rfl, rfl, rfl⟩ rfl rfl rfl rfl rfl (by kernel_rfl) Try.func5 (by kernel_rfl)
    (of_decide_eq_true (by kernel_rfl)) (by unfold Func.isWrapper; first | (rw [if_pos (by decide +kernel)]; kernel_rfl) | (rw [if_neg (by decide +kernel)]; exact ⟨rfl, rfl⟩))
    (fun os started H enc _ => AuditTamperingIsDetected_lifted os started H enc)
#print axioms AuditTamperingIsDetected_holds
end Go.Proofs.Ytopibmbmlifkmaa

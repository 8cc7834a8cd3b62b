/-
  AuditFunctionsMatchSpec: the given statement, out of the plain law about the lifted function. Conditions: none.
-/
import Derived.Test.YtopibmbmlifkmaaAuF
import Derived.Test.YtopibmbmlifkmaaEngV
set_option maxRecDepth 100000
namespace Go.Proofs.Ytopibmbmlifkmaa
open Eng Go.ChangeShapes Go.WideShapes Go.ChangeAt Go.RowKit
def AuditFunctionsMatchSpec_ps : List (Bool × Ty) := [(false, (.slice (.pair (.int .i64) (.pair (.int .i64) (.pair (.int .i64) (.int .i64)))))), (false, (.slice (.pair (.int .i64) (.pair (.int .i64) (.pair (.int .i64) (.int .i64)))))), (true, (.pair (.int .i64) (.pair (.int .i64) (.pair (.int .i64) (.int .i64))))), (false, (.int .i64)), (false, (.int .i64))]
theorem AuditFunctionsMatchSpec_sem (xs : ArgDen AuditFunctionsMatchSpec_ps) (hw : WfAll AuditFunctionsMatchSpec_ps xs) (_ : false = true → bulkAll AuditFunctionsMatchSpec_ps xs ≤ 1048576) : L.law8_AuditFunctionsMatchSpec_S (lawArgs AuditFunctionsMatchSpec_ps xs) isTrue := by
  have e : L.law8_AuditFunctionsMatchSpec_S (lawArgs AuditFunctionsMatchSpec_ps xs) isTrue = L.law8_AuditFunctionsMatchSpec xs.1 xs.2.1 xs.2.2.1.1 xs.2.2.1.2.1 xs.2.2.1.2.2.1 xs.2.2.1.2.2.2 xs.2.2.2.1 xs.2.2.2.2.1 (fun r => isTrue (.x (.bool r)) []) := by kernel_rfl
  rw [e]
  exact AuditFunctionsMatchSpec_true xs hw _ rfl
theorem AuditFunctionsMatchSpec_own : ownKnob Try.prog.godebug = none := by kernel_rfl
theorem AuditFunctionsMatchSpec_laid : laidOutB Try.prog = true := by kernel_rfl
theorem AuditFunctionsMatchSpec_spec : LawSpec Rows.auditFunctionsMatchSpecSpec Try.f3.params.toList.length where
  vars := rfl
  res := fun H ds h => by
    match ds, h with
    | [d1, d2, d3, d4, d5], _ => rfl
  args := fun H ds h => by
    match ds, h with
    | [d1, d2, d3, d4, d5], _ => rfl
  left := fun H ds h => by
    match ds, h with
    | [d1, d2, d3, d4, d5], _ => rfl
theorem AuditFunctionsMatchSpec_lifted (os : Os) (started : os.Started) (H : Type) (enc : TypeId × Value → H) :
    ReturnsInHanded {} Try.checked os 3 .any (Rows.auditFunctionsMatchSpecSpec.pre6 enc Try.prog Try.f3 Rows.auditFunctionsMatchSpecRow.domain false) (Rows.auditFunctionsMatchSpecSpec.post enc Try.prog Try.f3 false true false false) := by
  refine returnsInHanded_of_change (C := Try.checked) AuditFunctionsMatchSpec_own started (by kernel_rfl) Try.func3
    (ChangeSpec.witness6 (enc := enc) (C := Try.checked) false ⟨#[], #[.slice none 0 0, .slice none 0 0, .agg #[.int .i64 0, .int .i64 0, .int .i64 0, .int .i64 0], .int .i64 0, .int .i64 0], []⟩ 8 (by kernel_rfl) (by kernel_rfl) (by kernel_rfl) (by kernel_rfl)) ?_
  intro W base args ds gs before hval hW _ _
  exact law_contract (small := false) AuditFunctionsMatchSpec_laid (ps := AuditFunctionsMatchSpec_ps) (tb := 4) (by kernel_rfl) (by kernel_rfl) Try.underlying4 AuditFunctionsMatchSpec_spec L.law8_AuditFunctionsMatchSpec_ok AuditFunctionsMatchSpec_sem hval hW (fun h => by cases h)
theorem AuditFunctionsMatchSpec_holds : Rows.AuditFunctionsMatchSpecSaid :=
  OpenClaim.holds_of_wide 3 Try.f3 rfl rfl rfl rfl rfl rfl rfl ⟨rfl, rfl, rfl, rfl, rfl⟩ rfl rfl rfl rfl rfl (by kernel_rfl) Try.func3 (by kernel_rfl)
    (of_decide_eq_true (by kernel_rfl)) (by unfold Func.isWrapper; first | (rw [if_pos (by decide +kernel)]; kernel_rfl) | (rw [if_neg (by decide +kernel)]; exact ⟨rfl, rfl⟩))
    (fun os started H enc _ => AuditFunctionsMatchSpec_lifted os started H enc)
#print axioms AuditFunctionsMatchSpec_holds
end Go.Proofs.Ytopibmbmlifkmaa

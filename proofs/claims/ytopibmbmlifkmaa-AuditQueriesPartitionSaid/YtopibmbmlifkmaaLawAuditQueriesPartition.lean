/-
  AuditQueriesPartition: the given statement, out of the plain law about the lifted function. Conditions: none.
-/
import Derived.Test.YtopibmbmlifkmaaAuA
import Derived.Test.YtopibmbmlifkmaaEngV
set_option maxRecDepth 100000
namespace Go.Proofs.Ytopibmbmlifkmaa
open Eng Go.ChangeShapes Go.WideShapes Go.ChangeAt Go.RowKit
def AuditQueriesPartition_ps : List (Bool × Ty) := [(false, (.slice (.pair (.int .i64) (.pair (.int .i64) (.pair (.int .i64) (.int .i64)))))), (false, (.int .i64)), (false, (.int .i64)), (false, (.int .i64))]
theorem AuditQueriesPartition_sem (xs : ArgDen AuditQueriesPartition_ps) (hw : WfAll AuditQueriesPartition_ps xs) (_ : false = true → bulkAll AuditQueriesPartition_ps xs ≤ 1048576) : L.law8_AuditQueriesPartition_S (lawArgs AuditQueriesPartition_ps xs) isTrue := by
  have e : L.law8_AuditQueriesPartition_S (lawArgs AuditQueriesPartition_ps xs) isTrue = L.law8_AuditQueriesPartition xs.1 xs.2.1 xs.2.2.1 xs.2.2.2.1 (fun r => isTrue (.x (.bool r)) []) := by kernel_rfl
  rw [e]
  exact AuditQueriesPartition_true xs hw _ rfl
theorem AuditQueriesPartition_own : ownKnob Try.prog.godebug = none := by kernel_rfl
theorem AuditQueriesPartition_laid : laidOutB Try.prog = true := by kernel_rfl
theorem AuditQueriesPartition_spec : LawSpec Rows.auditQueriesPartitionSpec Try.f6.params.toList.length where
  vars := rfl
  res := fun H ds h => by
    match ds, h with
    | [d1, d2, d3, d4], _ => rfl
  args := fun H ds h => by
    match ds, h with
    | [d1, d2, d3, d4], _ => rfl
  left := fun H ds h => by
    match ds, h with
    | [d1, d2, d3, d4], _ => rfl
theorem AuditQueriesPartition_lifted (os : Os) (started : os.Started) (H : Type) (enc : TypeId × Value → H) :
    ReturnsInHanded {} Try.checked os 6 .any (Rows.auditQueriesPartitionSpec.pre6 enc Try.prog Try.f6 Rows.auditQueriesPartitionRow.domain false) (Rows.auditQueriesPartitionSpec.post enc Try.prog Try.f6 false true false false) := by
  refine returnsInHanded_of_change (C := Try.checked) AuditQueriesPartition_own started (by kernel_rfl) Try.func6
    (ChangeSpec.witness6 (enc := enc) (C := Try.checked) false ⟨#[], #[.slice none 0 0, .int .i64 0, .int .i64 0, .int .i64 0], []⟩ 8 (by kernel_rfl) (by kernel_rfl) (by kernel_rfl) (by kernel_rfl)) ?_
  intro W base args ds gs before hval hW _ _
  exact law_contract (small := false) AuditQueriesPartition_laid (ps := AuditQueriesPartition_ps) (tb := 4) (by kernel_rfl) (by kernel_rfl) Try.underlying4 AuditQueriesPartition_spec L.law8_AuditQueriesPartition_ok AuditQueriesPartition_sem hval hW (fun h => by cases h)
theorem AuditQueriesPartition_holds : Rows.AuditQueriesPartitionSaid :=
  OpenClaim.holds_of_wide 6 Try.f6 rfl rfl rfl rfl rfl rfl rfl ⟨rfl, rfl, rfl, rfl, rfl⟩ rfl rfl rfl rfl rfl (by kernel_rfl) Try.func6 (by kernel_rfl)
    (of_decide_eq_true (by kernel_rfl)) (by unfold Func.isWrapper; first | (rw [if_pos (by decide +kernel)]; kernel_rfl) | (rw [if_neg (by decide +kernel)]; exact ⟨rfl, rfl⟩))
    (fun os started H enc _ => AuditQueriesPartition_lifted os started H enc)
#print axioms AuditQueriesPartition_holds
end Go.Proofs.Ytopibmbmlifkmaa

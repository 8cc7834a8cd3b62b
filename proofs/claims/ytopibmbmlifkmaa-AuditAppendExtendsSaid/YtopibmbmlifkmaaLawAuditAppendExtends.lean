/-
  AuditAppendExtends: the given statement, out of the plain law about the lifted function. Conditions: none.
-/
import Derived.Test.YtopibmbmlifkmaaAuA
import Derived.Test.YtopibmbmlifkmaaEngV
set_option maxRecDepth 100000
namespace Go.Proofs.Ytopibmbmlifkmaa
open Eng Go.ChangeShapes Go.WideShapes Go.ChangeAt Go.RowKit
def AuditAppendExtends_ps : List (Bool × Ty) := [(false, (.slice (.pair (.int .i64) (.pair (.int .i64) (.pair (.int .i64) (.int .i64)))))), (false, (.int .i64)), (false, (.int .i64)), (false, (.int .i64))]
theorem AuditAppendExtends_sem (xs : ArgDen AuditAppendExtends_ps) (hw : WfAll AuditAppendExtends_ps xs) (_ : false = true → bulkAll AuditAppendExtends_ps xs ≤ 1048576) : L.law8_AuditAppendExtends_S (lawArgs AuditAppendExtends_ps xs) isTrue := by
  have e : L.law8_AuditAppendExtends_S (lawArgs AuditAppendExtends_ps xs) isTrue = L.law8_AuditAppendExtends xs.1 xs.2.1 xs.2.2.1 xs.2.2.2.1 (fun r => isTrue (.x (.bool r)) []) := by kernel_rfl
  rw [e]
  exact AuditAppendExtends_true xs hw _ rfl
theorem AuditAppendExtends_own : ownKnob Try.prog.godebug = none := by kernel_rfl
theorem AuditAppendExtends_laid : laidOutB Try.prog = true := by kernel_rfl
theorem AuditAppendExtends_spec : LawSpec Rows.auditAppendExtendsSpec Try.f4.params.toList.length where
  vars := rfl
  res := fun H ds h => by
    match ds, h with
    | [d1, d2, d3, d4], _ => rfl
  args := fun H ds h => by
    match ds, h with
    | [d1, d2, d3, d4], _ => rfl
  left := fun H ds h => by
    match ds, h with
    | [d1, d2, d3, d4], _ => rfl
theorem AuditAppendExtends_lifted (os : Os) (started : os.Started) (H : Type) (enc : TypeId × Value → H) :
    ReturnsInHanded {} Try.checked os 4 .any (Rows.auditAppendExtendsSpec.pre6 enc Try.prog Try.f4 Rows.auditAppendExtendsRow.domain false) (Rows.auditAppendExtendsSpec.post enc Try.prog Try.f4 false true false false) := by
  refine returnsInHanded_of_change (C := Try.checked) AuditAppendExtends_own started (by kernel_rfl) Try.func4
    (ChangeSpec.witness6 (enc := enc) (C := Try.checked) false ⟨#[], #[.slice none 0 0, .int .i64 0, .int .i64 0, .int .i64 0], []⟩ 8 (by kernel_rfl) (by kernel_rfl) (by kernel_rfl) (by kernel_rfl)) ?_
  intro W base args ds gs before hval hW _ _
  exact law_contract (small := false) AuditAppendExtends_laid (ps := AuditAppendExtends_ps) (tb := 4) (by kernel_rfl) (by kernel_rfl) Try.underlying4 AuditAppendExtends_spec L.law8_AuditAppendExtends_ok AuditAppendExtends_sem hval hW (fun h => by cases h)
theorem AuditAppendExtends_holds : Rows.AuditAppendExtendsSaid :=
  OpenClaim.holds_of_wide 4 Try.f4 rfl rfl rfl rfl rfl rfl rfl ⟨rfl, rfl, rfl, rfl, rfl⟩ rfl rfl rfl rfl rfl (by kernel_rfl) Try.func4 (by kernel_rfl)
    (of_decide_eq_true (by kernel_rfl)) (by unfold Func.isWrapper; first | (rw [if_pos (by decide +kernel)]; kernel_rfl) | (rw [if_neg (by decide +kernel)]; exact ⟨rfl, rfl⟩))
    (fun os started H enc _ => AuditAppendExtends_lifted os started H enc)
#print axioms AuditAppendExtends_holds
end Go.Proofs.Ytopibmbmlifkmaa

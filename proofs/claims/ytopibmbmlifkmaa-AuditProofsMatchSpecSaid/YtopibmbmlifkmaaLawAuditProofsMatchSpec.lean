/-
  AuditProofsMatchSpec: the given statement, out of the plain law about the lifted function. Conditions: none.
-/
import Derived.Test.YtopibmbmlifkmaaAuP
import Derived.Test.YtopibmbmlifkmaaEngV
set_option maxRecDepth 100000
namespace Go.Proofs.Ytopibmbmlifkmaa
open Eng Go.ChangeShapes Go.WideShapes Go.ChangeAt Go.RowKit
def AuditProofsMatchSpec_ps : List (Bool × Ty) := [(false, (.slice (.pair (.int .i64) (.pair (.int .i64) (.pair (.int .i64) (.int .i64)))))), (false, (.int .i64)), (false, (.int .i64)), (false, (.int .i64)), (false, (.int .i64)), (true, (.pair (.int .i64) (.pair (.int .i64) (.pair (.int .i64) (.int .i64))))), (false, (.slice (.int .i64)))]
theorem AuditProofsMatchSpec_sem (xs : ArgDen AuditProofsMatchSpec_ps) (hw : WfAll AuditProofsMatchSpec_ps xs) (_ : false = true → bulkAll AuditProofsMatchSpec_ps xs ≤ 1048576) : L.law8_AuditProofsMatchSpec_S (lawArgs AuditProofsMatchSpec_ps xs) isTrue := by
  have e : L.law8_AuditProofsMatchSpec_S (lawArgs AuditProofsMatchSpec_ps xs) isTrue = L.law8_AuditProofsMatchSpec xs.1 xs.2.1 xs.2.2.1 xs.2.2.2.1 xs.2.2.2.2.1 xs.2.2.2.2.2.1.1 xs.2.2.2.2.2.1.2.1 xs.2.2.2.2.2.1.2.2.1 xs.2.2.2.2.2.1.2.2.2 xs.2.2.2.2.2.2.1 (fun r => isTrue (.x (.bool r)) []) := by kernel_rfl
  rw [e]
  exact AuditProofsMatchSpec_true xs hw _ rfl
theorem AuditProofsMatchSpec_own : ownKnob Try.prog.godebug = none := by kernel_rfl
theorem AuditProofsMatchSpec_laid : laidOutB Try.prog = true := by kernel_rfl
theorem AuditProofsMatchSpec_spec : LawSpec Rows.auditProofsMatchSpecSpec Try.f7.params.toList.length where
  vars := rfl
  res := fun H ds h => by
    match ds, h with
    | [d1, d2, d3, d4, d5, d6, d7], _ => rfl
  args := fun H ds h => by
    match ds, h with
    | [d1, d2, d3, d4, d5, d6, d7], _ => rfl
  left := fun H ds h => by
    match ds, h with
    | [d1, d2, d3, d4, d5, d6, d7], _ => rfl
theorem AuditProofsMatchSpec_lifted (os : Os) (started : os.Started) (H : Type) (enc : TypeId × Value → H) :
    ReturnsInHanded {} Try.checked os 7 .any (Rows.auditProofsMatchSpecSpec.pre6 enc Try.prog Try.f7 Rows.auditProofsMatchSpecRow.domain false) (Rows.auditProofsMatchSpecSpec.post enc Try.prog Try.f7 false true false false) := by
  refine returnsInHanded_of_change (C := Try.checked) AuditProofsMatchSpec_own started (by kernel_rfl) Try.func7
    (ChangeSpec.witness6 (enc := enc) (C := Try.checked) false ⟨#[], #[.slice none 0 0, .int .i64 0, .int .i64 0, .int .i64 0, .int .i64 0, .agg #[.int .i64 0, .int .i64 0, .int .i64 0, .int .i64 0], .slice none 0 0], []⟩ 8 (by kernel_rfl) (by kernel_rfl) (by kernel_rfl) (by kernel_rfl)) ?_
  intro W base args ds gs before hval hW _ _
  exact law_contract (small := false) AuditProofsMatchSpec_laid (ps := AuditProofsMatchSpec_ps) (tb := 4) (by kernel_rfl) (by kernel_rfl) Try.underlying4 AuditProofsMatchSpec_spec L.law8_AuditProofsMatchSpec_ok AuditProofsMatchSpec_sem hval hW (fun h => by cases h)
theorem AuditProofsMatchSpec_holds : Rows.AuditProofsMatchSpecSaid :=
  OpenClaim.holds_of_wide 7 Try.f7 rfl rfl rfl rfl rfl rfl rfl ⟨rfl, rfl, rfl, rfl, rfl⟩ rfl rfl rfl rfl rfl (by kernel_rfl) Try.func7 (by kernel_rfl)
    (of_decide_eq_true (by kernel_rfl)) (by unfold Func.isWrapper; first | (rw [if_pos (by decide +kernel)]; kernel_rfl) | (rw [if_neg (by decide +kernel)]; exact ⟨rfl, rfl⟩))
    (fun os started H enc _ => AuditProofsMatchSpec_lifted os started H enc)
#print axioms AuditProofsMatchSpec_holds
end Go.Proofs.Ytopibmbmlifkmaa

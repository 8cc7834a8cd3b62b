/-
  CalendarFunctionsMatchSpec: the given statement, out of the plain law about the lifted function. Conditions: none.
-/
import Derived.Test.YtmnalcfclcgmkaaCaT
import Derived.Test.YtmnalcfclcgmkaaEngV
set_option maxRecDepth 100000
namespace Go.Proofs.Ytmnalcfclcgmkaa
open Eng Go.ChangeShapes Go.WideShapes Go.ChangeAt Go.RowKit
def CalendarFunctionsMatchSpec_ps : List (Bool × Ty) := [(true, (.pair (.slice (.pair (.int .i64) (.pair (.int .i64) (.int .i64)))) (.slice (.int .i64)))), (false, (.int .i64)), (false, (.int .i64)), (false, (.int .i64))]
theorem CalendarFunctionsMatchSpec_sem (xs : ArgDen CalendarFunctionsMatchSpec_ps) (hw : WfAll CalendarFunctionsMatchSpec_ps xs) (_ : false = true → bulkAll CalendarFunctionsMatchSpec_ps xs ≤ 1048576) : L.law8_CalendarFunctionsMatchSpec_S (lawArgs CalendarFunctionsMatchSpec_ps xs) isTrue := by
  have e : L.law8_CalendarFunctionsMatchSpec_S (lawArgs CalendarFunctionsMatchSpec_ps xs) isTrue = L.law8_CalendarFunctionsMatchSpec xs.1.1 xs.1.2 xs.2.1 xs.2.2.1 xs.2.2.2.1 (fun r => isTrue (.x (.bool r)) []) := by kernel_rfl
  rw [e]
  exact CalendarFunctionsMatchSpec_true xs hw _ rfl
theorem CalendarFunctionsMatchSpec_own : ownKnob Try.prog.godebug = none := by kernel_rfl
theorem CalendarFunctionsMatchSpec_laid : laidOutB Try.prog = true := by kernel_rfl
theorem CalendarFunctionsMatchSpec_spec : LawSpec Rows.calendarFunctionsMatchSpecSpec Try.f3.params.toList.length where
  vars := rfl
  res := fun H ds h => by
    match ds, h with
    | [d1, d2, d3, d4], _ => rfl
  args := fun H ds h => by
    match ds, h with
    | [d1, d2, d3, d4], _ => rfl
  left := fun H ds h => by
    match ds, h with
    | [d1, d2, d3, d4], _ => rfl
theorem CalendarFunctionsMatchSpec_lifted (os : Os) (started : os.Started) (H : Type) (enc : TypeId × Value → H) :
    ReturnsInHanded {} Try.checked os 3 .any (Rows.calendarFunctionsMatchSpecSpec.pre6 enc Try.prog Try.f3 Rows.calendarFunctionsMatchSpecRow.domain false) (Rows.calendarFunctionsMatchSpecSpec.post enc Try.prog Try.f3 false true false false) := by
  refine returnsInHanded_of_change (C := Try.checked) CalendarFunctionsMatchSpec_own started (by kernel_rfl) Try.func3
    (ChangeSpec.witness6 (enc := enc) (C := Try.checked) false ⟨#[], #[.agg #[.slice none 0 0, .slice none 0 0], .int .i64 0, .int .i64 0, .int .i64 0], []⟩ 8 (by kernel_rfl) (by kernel_rfl) (by kernel_rfl) (by kernel_rfl)) ?_
  intro W base args ds gs before hval hW _ _
  exact law_contract (small := false) CalendarFunctionsMatchSpec_laid (ps := CalendarFunctionsMatchSpec_ps) (tb := 4) (by kernel_rfl) (by kernel_rfl) Try.underlying4 CalendarFunctionsMatchSpec_spec L.law8_CalendarFunctionsMatchSpec_ok CalendarFunctionsMatchSpec_sem hval hW (fun h => by cases h)
theorem CalendarFunctionsMatchSpec_holds : Rows.CalendarFunctionsMatchSpecSaid :=
  OpenClaim.holds_of_wide 3 Try.f3 rfl rfl rfl rfl rfl rfl rfl ⟨rfl, rfl, rfl, rfl, rfl⟩ rfl rfl rfl rfl rfl (by kernel_rfl) Try.func3 (by kernel_rfl)
    (of_decide_eq_true (by kernel_rfl)) (by unfold Func.isWrapper; first | (rw [if_pos (by decide +kernel)]; kernel_rfl) | (rw [if_neg (by decide +kernel)]; exact ⟨rfl, rfl⟩))
    (fun os started H enc _ => CalendarFunctionsMatchSpec_lifted os started H enc)
#print axioms CalendarFunctionsMatchSpec_holds
end Go.Proofs.Ytmnalcfclcgmkaa

/-
  CalendarRepeatsWeekly: the given statement, out of the plain law about the lifted function. Conditions: none.
-/
import Derived.Test.YtmnalcfclcgmkaaCaR
import Derived.Test.YtmnalcfclcgmkaaEngV
set_option maxRecDepth 100000
namespace Go.Proofs.Ytmnalcfclcgmkaa
open Eng Go.ChangeShapes Go.WideShapes Go.ChangeAt Go.RowKit
def CalendarRepeatsWeekly_ps : List (Bool × Ty) := [(true, (.pair (.slice (.pair (.int .i64) (.pair (.int .i64) (.int .i64)))) (.slice (.int .i64)))), (false, (.int .i64)), (false, (.int .i64))]
theorem CalendarRepeatsWeekly_sem (xs : ArgDen CalendarRepeatsWeekly_ps) (hw : WfAll CalendarRepeatsWeekly_ps xs) (_ : false = true → bulkAll CalendarRepeatsWeekly_ps xs ≤ 1048576) : L.law8_CalendarRepeatsWeekly_S (lawArgs CalendarRepeatsWeekly_ps xs) isTrue := by
  have e : L.law8_CalendarRepeatsWeekly_S (lawArgs CalendarRepeatsWeekly_ps xs) isTrue = L.law8_CalendarRepeatsWeekly xs.1.1 xs.1.2 xs.2.1 xs.2.2.1 (fun r => isTrue (.x (.bool r)) []) := by kernel_rfl
  rw [e]
  exact CalendarRepeatsWeekly_true xs hw _ rfl
theorem CalendarRepeatsWeekly_own : ownKnob Try.prog.godebug = none := by kernel_rfl
theorem CalendarRepeatsWeekly_laid : laidOutB Try.prog = true := by kernel_rfl
theorem CalendarRepeatsWeekly_spec : LawSpec Rows.calendarRepeatsWeeklySpec Try.f7.params.toList.length where
  vars := rfl
  res := fun H ds h => by
    match ds, h with
    | [d1, d2, d3], _ => rfl
  args := fun H ds h => by
    match ds, h with
    | [d1, d2, d3], _ => rfl
  left := fun H ds h => by
    match ds, h with
    | [d1, d2, d3], _ => rfl
theorem CalendarRepeatsWeekly_lifted (os : Os) (started : os.Started) (H : Type) (enc : TypeId × Value → H) :
    ReturnsInHanded {} Try.checked os 7 .any (Rows.calendarRepeatsWeeklySpec.pre6 enc Try.prog Try.f7 Rows.calendarRepeatsWeeklyRow.domain false) (Rows.calendarRepeatsWeeklySpec.post enc Try.prog Try.f7 false true false false) := by
  refine returnsInHanded_of_change (C := Try.checked) CalendarRepeatsWeekly_own started (by kernel_rfl) Try.func7
    (ChangeSpec.witness6 (enc := enc) (C := Try.checked) false ⟨#[], #[.agg #[.slice none 0 0, .slice none 0 0], .int .i64 0, .int .i64 0], []⟩ 8 (by kernel_rfl) (by kernel_rfl) (by kernel_rfl) (by kernel_rfl)) ?_
  intro W base args ds gs before hval hW _ _
  exact law_contract (small := false) CalendarRepeatsWeekly_laid (ps := CalendarRepeatsWeekly_ps) (tb := 4) (by kernel_rfl) (by kernel_rfl) Try.underlying4 CalendarRepeatsWeekly_spec L.law8_CalendarRepeatsWeekly_ok CalendarRepeatsWeekly_sem hval hW (fun h => by cases h)
theorem CalendarRepeatsWeekly_holds : Rows.CalendarRepeatsWeeklySaid :=
  OpenClaim.holds_of_wide 7 Try.f7 rfl rfl rfl rfl rfl rfl rfl ⟨rfl, rfl, rfl, rfl, rfl⟩ rfl rfl rfl rfl rfl (by kernel_rfl) Try.func7 (by kernel_rfl)
    (of_decide_eq_true (by kernel_rfl)) (by unfold Func.isWrapper; first | (rw [if_pos (by decide +kernel)]; kernel_rfl) | (rw [if_neg (by decide +kernel)]; exact ⟨rfl, rfl⟩))
    (fun os started H enc _ => CalendarRepeatsWeekly_lifted os started H enc)
#print axioms CalendarRepeatsWeekly_holds
end Go.Proofs.Ytmnalcfclcgmkaa

/-
  CalendarAddTakesMinutes: the given statement, out of the plain law about the lifted function. Conditions: none.
-/
import Derived.Test.YtmnalcfclcgmkaaCaR
import Derived.Test.YtmnalcfclcgmkaaEngV
set_option maxRecDepth 100000
namespace Go.Proofs.Ytmnalcfclcgmkaa
open Eng Go.ChangeShapes Go.WideShapes Go.ChangeAt Go.RowKit
def CalendarAddTakesMinutes_ps : List (Bool × Ty) := [(true, (.pair (.slice (.pair (.int .i64) (.pair (.int .i64) (.int .i64)))) (.slice (.int .i64)))), (false, (.int .i64)), (false, (.int .i64))]
theorem CalendarAddTakesMinutes_sem (xs : ArgDen CalendarAddTakesMinutes_ps) (hw : WfAll CalendarAddTakesMinutes_ps xs) (_ : false = true → bulkAll CalendarAddTakesMinutes_ps xs ≤ 1048576) : L.law8_CalendarAddTakesMinutes_S (lawArgs CalendarAddTakesMinutes_ps xs) isTrue := by
  have e : L.law8_CalendarAddTakesMinutes_S (lawArgs CalendarAddTakesMinutes_ps xs) isTrue = L.law8_CalendarAddTakesMinutes xs.1.1 xs.1.2 xs.2.1 xs.2.2.1 (fun r => isTrue (.x (.bool r)) []) := by kernel_rfl
  rw [e]
  exact CalendarAddTakesMinutes_true xs hw _ rfl
theorem CalendarAddTakesMinutes_own : ownKnob Try.prog.godebug = none := by kernel_rfl
theorem CalendarAddTakesMinutes_laid : laidOutB Try.prog = true := by kernel_rfl
theorem CalendarAddTakesMinutes_spec : LawSpec Rows.calendarAddTakesMinutesSpec Try.f5.params.toList.length where
  vars := rfl
  res := fun H ds h => by
    match ds, h with
    | [d1, d2, d3], _ => rfl
  args := fun H ds h => by
    match ds, h with
    | [d1, d2, d3], _ => rfl
  left := fun H ds h => by
    match ds, h with
    | [d1, d2, d3], _ => rfl
theorem CalendarAddTakesMinutes_lifted (os : Os) (started : os.Started) (H : Type) (enc : TypeId × Value → H) :
    ReturnsInHanded {} Try.checked os 5 .any (Rows.calendarAddTakesMinutesSpec.pre6 enc Try.prog Try.f5 Rows.calendarAddTakesMinutesRow.domain false) (Rows.calendarAddTakesMinutesSpec.post enc Try.prog Try.f5 false true false false) := by
  refine returnsInHanded_of_change (C := Try.checked) CalendarAddTakesMinutes_own started (by kernel_rfl) Try.func5
    (ChangeSpec.witness6 (enc := enc) (C := Try.checked) false ⟨#[], #[.agg #[.slice none 0 0, .slice none 0 0], .int .i64 0, .int .i64 0], []⟩ 8 (by kernel_rfl) (by kernel_rfl) (by kernel_rfl) (by kernel_rfl)) ?_
  intro W base args ds gs before hval hW _ _
  exact law_contract (small := false) CalendarAddTakesMinutes_laid (ps := CalendarAddTakesMinutes_ps) (tb := 4) (by kernel_rfl) (by kernel_rfl) Try.underlying4 CalendarAddTakesMinutes_spec L.law8_CalendarAddTakesMinutes_ok CalendarAddTakesMinutes_sem hval hW (fun h => by cases h)
theorem CalendarAddTakesMinutes_holds : Rows.CalendarAddTakesMinutesSaid :=
  OpenClaim.holds_of_wide 5 Try.f5 rfl rfl rfl rfl rfl rfl rfl ⟨rfl, rfl, rfl, rfl, rfl⟩ rfl rfl rfl rfl rfl (by kernel_rfl) Try.func5 (by kernel_rfl)
    (of_decide_eq_true (by kernel_rfl)) (by unfold Func.isWrapper; first | (rw [if_pos (by decide +kernel)]; kernel_rfl) | (rw [if_neg (by decide +kernel)]; exact ⟨rfl, rfl⟩))
    (fun os started H enc _ => CalendarAddTakesMinutes_lifted os started H enc)
#print axioms CalendarAddTakesMinutes_holds
end Go.Proofs.Ytmnalcfclcgmkaa

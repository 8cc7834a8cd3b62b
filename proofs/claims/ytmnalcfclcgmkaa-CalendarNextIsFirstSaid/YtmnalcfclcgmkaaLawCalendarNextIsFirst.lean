/-
  CalendarNextIsFirst: the given statement, out of the plain law about the lifted function. Conditions: none.
-/
import Derived.Test.YtmnalcfclcgmkaaCaR
import Derived.Test.YtmnalcfclcgmkaaEngV
set_option maxRecDepth 100000
namespace Go.Proofs.Ytmnalcfclcgmkaa
open Eng Go.ChangeShapes Go.WideShapes Go.ChangeAt Go.RowKit
def CalendarNextIsFirst_ps : List (Bool × Ty) := [(true, (.pair (.slice (.pair (.int .i64) (.pair (.int .i64) (.int .i64)))) (.slice (.int .i64)))), (false, (.int .i64))]
theorem CalendarNextIsFirst_sem (xs : ArgDen CalendarNextIsFirst_ps) (hw : WfAll CalendarNextIsFirst_ps xs) (_ : false = true → bulkAll CalendarNextIsFirst_ps xs ≤ 1048576) : L.law8_CalendarNextIsFirst_S (lawArgs CalendarNextIsFirst_ps xs) isTrue := by
  have e : L.law8_CalendarNextIsFirst_S (lawArgs CalendarNextIsFirst_ps xs) isTrue = L.law8_CalendarNextIsFirst xs.1.1 xs.1.2 xs.2.1 (fun r => isTrue (.x (.bool r)) []) := by kernel_rfl
  rw [e]
  exact CalendarNextIsFirst_true xs hw _ rfl
theorem CalendarNextIsFirst_own : ownKnob Try.prog.godebug = none := by kernel_rfl
theorem CalendarNextIsFirst_laid : laidOutB Try.prog = true := by kernel_rfl
theorem CalendarNextIsFirst_spec : LawSpec Rows.calendarNextIsFirstSpec Try.f6.params.toList.length where
  vars := rfl
  res := fun H ds h => by
    match ds, h with
    | [d1, d2], _ => rfl
  args := fun H ds h => by
    match ds, h with
    | [d1, d2], _ => rfl
  left := fun H ds h => by
    match ds, h with
    | [d1, d2], _ => rfl
theorem CalendarNextIsFirst_lifted (os : Os) (started : os.Started) (H : Type) (enc : TypeId × Value → H) :
    ReturnsInHanded {} Try.checked os 6 .any (Rows.calendarNextIsFirstSpec.pre6 enc Try.prog Try.f6 Rows.calendarNextIsFirstRow.domain false) (Rows.calendarNextIsFirstSpec.post enc Try.prog Try.f6 false true false false) := by
  refine returnsInHanded_of_change (C := Try.checked) CalendarNextIsFirst_own started (by kernel_rfl) Try.func6
    (ChangeSpec.witness6 (enc := enc) (C := Try.checked) false ⟨#[], #[.agg #[.slice none 0 0, .slice none 0 0], .int .i64 0], []⟩ 8 (by kernel_rfl) (by kernel_rfl) (by kernel_rfl) (by kernel_rfl)) ?_
  intro W base args ds gs before hval hW _ _
  exact law_contract (small := false) CalendarNextIsFirst_laid (ps := CalendarNextIsFirst_ps) (tb := 4) (by kernel_rfl) (by kernel_rfl) Try.underlying4 CalendarNextIsFirst_spec L.law8_CalendarNextIsFirst_ok CalendarNextIsFirst_sem hval hW (fun h => by cases h)
theorem CalendarNextIsFirst_holds : Rows.CalendarNextIsFirstSaid :=
  OpenClaim.holds_of_wide 6 Try.f6 rfl rfl rfl rfl rfl rfl rfl ⟨rfl, rfl, rfl, rfl, rfl⟩ rfl rfl rfl rfl rfl (by kernel_rfl) Try.func6 (by kernel_rfl)
    (of_decide_eq_true (by kernel_rfl)) (by unfold Func.isWrapper; first | (rw [if_pos (by decide +kernel)]; kernel_rfl) | (rw [if_neg (by decide +kernel)]; exact ⟨rfl, rfl⟩))
    (fun os started H enc _ => CalendarNextIsFirst_lifted os started H enc)
#print axioms CalendarNextIsFirst_holds
end Go.Proofs.Ytmnalcfclcgmkaa

/-
  BatchbisectFailuresAreMonotone: the given statement (second form), out of the plain law about the lifted function. Conditions: those of the second form.
-/
import Derived.Test.YtmfdikjeijnlmaaBbM
import Derived.Test.YtmfdikjeijnlmaaEngV
set_option maxRecDepth 100000
namespace Go.Proofs.Ytmfdikjeijnlmaa
open Eng Go.ChangeShapes Go.WideShapes Go.ChangeAt Go.RowKit
def BatchbisectFailuresAreMonotone_ps : List (Bool × Ty) := [(false, (.int .i64)), (false, (.slice (.slice (.int .i64)))), (false, (.slice (.slice (.int .i64)))), (false, (.slice (.int .i64))), (false, (.slice (.int .i64)))]
theorem BatchbisectFailuresAreMonotone_sem (xs : ArgDen BatchbisectFailuresAreMonotone_ps) (hw : WfAll BatchbisectFailuresAreMonotone_ps xs) (hb : true = true → bulkAll BatchbisectFailuresAreMonotone_ps xs ≤ 1048576) : L.law8_BatchbisectFailuresAreMonotone_S (lawArgs BatchbisectFailuresAreMonotone_ps xs) isTrue := by
  have e : L.law8_BatchbisectFailuresAreMonotone_S (lawArgs BatchbisectFailuresAreMonotone_ps xs) isTrue = L.law8_BatchbisectFailuresAreMonotone xs.1 xs.2.1 xs.2.2.1 xs.2.2.2.1 xs.2.2.2.2.1 (fun r => isTrue (.x (.bool r)) []) := by kernel_rfl
  rw [e]
  exact BatchbisectFailuresAreMonotone_true xs hw (hb rfl) _ rfl
theorem BatchbisectFailuresAreMonotone_own : ownKnob Try.prog.godebug = none := by kernel_rfl
theorem BatchbisectFailuresAreMonotone_laid : laidOutB Try.prog = true := by kernel_rfl
theorem BatchbisectFailuresAreMonotone_spec : LawSpec Rows.batchbisectFailuresAreMonotoneSpec Try.f7.params.toList.length where
  vars := rfl
  res := fun H ds h => by
    match ds, h with
    | [d1, d2, d3, d4, d5], _ => rfl
  args := fun H ds h => by
    match ds, h with
    | [d1, d2, d3, d4, d5], _ => rfl
  left := fun H ds h => by
    match ds, h with
    | [d1, d2, d3, d4, d5], _ => rfl
theorem BatchbisectFailuresAreMonotone_lifted (os : Os) (started : os.Started) (H : Type) (enc : TypeId × Value → H) (F : Stop.Interp) :
    ReturnsInHanded {} Try.checked os 7 .any ((Rows.OpenSpec.upto Rows.batchbisectFailuresAreMonotoneSpec).pre6 enc Try.prog Try.f7 Rows.batchbisectFailuresAreMonotoneUptoRow.domain false) (((Rows.OpenSpec.upto Rows.batchbisectFailuresAreMonotoneSpec).at F).post enc Try.prog Try.f7 false true false false) := by
  refine returnsInHanded_of_cond (C := Try.checked) (s := (Rows.OpenSpec.upto Rows.batchbisectFailuresAreMonotoneSpec)) (k := Rows.uptoSmall) rfl BatchbisectFailuresAreMonotone_own started (by kernel_rfl) Try.func7
    (OpenSpec.witness (enc := enc) (C := Try.checked) (s := (Rows.OpenSpec.upto Rows.batchbisectFailuresAreMonotoneSpec)) (k := Rows.uptoSmall) rfl false ⟨#[], #[.int .i64 0, .slice none 0 0, .slice none 0 0, .slice none 0 0, .slice none 0 0], []⟩ 8 (by kernel_rfl) (by kernel_rfl) (by kernel_rfl)
      (x := ([.lit (.int .i64 0), .nil, .nil, .nil, .nil], [], [])) (by kernel_rfl) rfl (by kernel_rfl)) ?_
  intro W base args ds gs before hval hW _ hk _
  exact law_contract (small := true) BatchbisectFailuresAreMonotone_laid (ps := BatchbisectFailuresAreMonotone_ps) (tb := 4) (by kernel_rfl) (by kernel_rfl) Try.underlying4 BatchbisectFailuresAreMonotone_spec L.law8_BatchbisectFailuresAreMonotone_ok BatchbisectFailuresAreMonotone_sem hval hW (fun _ => hk)
theorem BatchbisectFailuresAreMonotone_holds : Rows.BatchbisectFailuresAreMonotoneUptoSaid :=
  OpenClaim.holds_of_cond 7 Try.f7 rfl rfl rfl rfl rfl rfl rfl ⟨rfl, rfl, rfl, rfl, rfl⟩ rfl rfl rfl rfl rfl (by kernel_rfl) Try.func7 (by kernel_rfl)
    (of_decide_eq_true (by kernel_rfl)) (by unfold Func.isWrapper; first | (rw [if_pos (by decide +kernel)]; kernel_rfl) | (rw [if_neg (by decide +kernel)]; exact ⟨rfl, rfl⟩))
    (fun os started H enc _ F => BatchbisectFailuresAreMonotone_lifted os started H enc F)
#print axioms BatchbisectFailuresAreMonotone_holds
end Go.Proofs.Ytmfdikjeijnlmaa

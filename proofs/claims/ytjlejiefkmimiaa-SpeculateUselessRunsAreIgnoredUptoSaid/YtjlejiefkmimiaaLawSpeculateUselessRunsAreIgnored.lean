/-
  SpeculateUselessRunsAreIgnored: the given statement (second form), out of the plain law about the lifted function. Conditions: those of the second form.
-/
import Derived.Test.YtjlejiefkmimiaaSpZ
import Derived.Test.YtjlejiefkmimiaaEngV
set_option maxRecDepth 100000
namespace Go.Proofs.Ytjlejiefkmimiaa
open Eng Go.ChangeShapes Go.WideShapes Go.ChangeAt Go.RowKit
def SpeculateUselessRunsAreIgnored_ps : List (Bool × Ty) := [(false, (.int .i64)), (false, (.slice (.pair (.pair (.int .i64) (.slice (.int .i64))) .bool))), (true, (.pair (.int .i64) (.slice (.int .i64)))), (false, .bool)]
theorem SpeculateUselessRunsAreIgnored_sem (xs : ArgDen SpeculateUselessRunsAreIgnored_ps) (hw : WfAll SpeculateUselessRunsAreIgnored_ps xs) (hb : true = true → bulkAll SpeculateUselessRunsAreIgnored_ps xs ≤ 1048576) : L.law8_SpeculateUselessRunsAreIgnored_S (lawArgs SpeculateUselessRunsAreIgnored_ps xs) isTrue := by
  have e : L.law8_SpeculateUselessRunsAreIgnored_S (lawArgs SpeculateUselessRunsAreIgnored_ps xs) isTrue = L.law8_SpeculateUselessRunsAreIgnored xs.1 xs.2.1 xs.2.2.1.1 xs.2.2.1.2 xs.2.2.2.1 (fun r => isTrue (.x (.bool r)) []) := by kernel_rfl
  rw [e]
  exact SpeculateUselessRunsAreIgnored_true xs hw (hb rfl) _ rfl
theorem SpeculateUselessRunsAreIgnored_own : ownKnob Try.prog.godebug = none := by kernel_rfl
theorem SpeculateUselessRunsAreIgnored_laid : laidOutB Try.prog = true := by kernel_rfl
theorem SpeculateUselessRunsAreIgnored_spec : LawSpec Rows.speculateUselessRunsAreIgnoredSpec Try.f6.params.toList.length where
  vars := rfl
  res := fun H ds h => by
    match ds, h with
    | [d1, d2, d3, d4], _ => rfl
  args := fun H ds h => by
    match ds, h with
    | [d1, d2, d3, d4], _ => rfl
  left := fun H ds h => by
    match ds, h with
    | [d1, d2, d3, d4], _ => rfl
theorem SpeculateUselessRunsAreIgnored_lifted (os : Os) (started : os.Started) (H : Type) (enc : TypeId × Value → H) (F : Stop.Interp) :
    ReturnsInHanded {} Try.checked os 6 .any ((Rows.OpenSpec.upto Rows.speculateUselessRunsAreIgnoredSpec).pre6 enc Try.prog Try.f6 Rows.speculateUselessRunsAreIgnoredUptoRow.domain false) (((Rows.OpenSpec.upto Rows.speculateUselessRunsAreIgnoredSpec).at F).post enc Try.prog Try.f6 false true false false) := by
  refine returnsInHanded_of_cond (C := Try.checked) (s := (Rows.OpenSpec.upto Rows.speculateUselessRunsAreIgnoredSpec)) (k := Rows.uptoSmall) rfl SpeculateUselessRunsAreIgnored_own started (by kernel_rfl) Try.func6
    (OpenSpec.witness (enc := enc) (C := Try.checked) (s := (Rows.OpenSpec.upto Rows.speculateUselessRunsAreIgnoredSpec)) (k := Rows.uptoSmall) rfl false ⟨#[], #[.int .i64 0, .slice none 0 0, .agg #[.int .i64 0, .slice none 0 0], .bool false], []⟩ 8 (by kernel_rfl) (by kernel_rfl) (by kernel_rfl)
      (x := ([.lit (.int .i64 0), .nil, .agg [.lit (.int .i64 0), .nil], .lit (.bool false)], [], [])) (by kernel_rfl) rfl (by kernel_rfl)) ?_
  intro W base args ds gs before hval hW _ hk _
  exact law_contract (small := true) SpeculateUselessRunsAreIgnored_laid (ps := SpeculateUselessRunsAreIgnored_ps) (tb := 4) (by kernel_rfl) (by kernel_rfl) Try.underlying4 SpeculateUselessRunsAreIgnored_spec L.law8_SpeculateUselessRunsAreIgnored_ok SpeculateUselessRunsAreIgnored_sem hval hW (fun _ => hk)
theorem SpeculateUselessRunsAreIgnored_holds : Rows.SpeculateUselessRunsAreIgnoredUptoSaid :=
  OpenClaim.holds_of_cond 6 Try.f6 rfl rfl rfl rfl rfl rfl rfl ⟨rfl, rfl, rfl, rfl, rfl⟩ rfl rfl rfl rfl rfl (by kernel_rfl) Try.func6 (by kernel_rfl)
    (of_decide_eq_true (by kernel_rfl)) (by unfold Func.isWrapper; first | (rw [if_pos (by decide +kernel)]; kernel_rfl) | (rw [if_neg (by decide +kernel)]; exact ⟨rfl, rfl⟩))
    (fun os started H enc _ F => SpeculateUselessRunsAreIgnored_lifted os started H enc F)
#print axioms SpeculateUselessRunsAreIgnored_holds
end Go.Proofs.Ytjlejiefkmimiaa

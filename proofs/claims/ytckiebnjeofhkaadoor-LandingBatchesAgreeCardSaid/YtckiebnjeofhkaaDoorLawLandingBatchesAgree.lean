/-
  LandingBatchesAgree: the given statement, out of the plain law about the lifted function. Conditions: none.
-/
import Derived.Test.YtckiebnjeofhkaaDoorLaZc
import Derived.Test.YtckiebnjeofhkaaDoorEngV
import Derived.Test.YtckiebnjeofhkaaDoorCards
import Derived.Test.YtckiebnjeofhkaaDoorTie
import Derived.ProofKit
import Derived.LaidMore
import Derived.Lay
import Derived.SevenTiedAt
import Derived.Stop.Joined
set_option maxRecDepth 100000
namespace Go.Proofs.YtckiebnjeofhkaaDoor
open Eng Go.ChangeShapes Go.WideShapes Go.ChangeAt Go.RowKit
def LandingBatchesAgree_ps : List (Bool × Ty) := [(true, (.slice (.pair .str (.slice .str)))), (false, (.slice (.slice (.pair (.int .i64) (.pair .str (.pair .str (.pair (.slice .str) (.slice (.pair (.int .i64) (.pair (.slice .str) (.slice .str))))))))))), (false, (.slice (.slice (.int .i64)))), (false, (.int .i64))]
theorem LandingBatchesAgree_sem (xs : ArgDen LandingBatchesAgree_ps) (hw : WfAll LandingBatchesAgree_ps xs) (_ : false = true → bulkAll LandingBatchesAgree_ps xs ≤ 1048576) : L.law8_LandingBatchesAgree_S (lawArgs LandingBatchesAgree_ps xs) isTrue := by
  have e : L.law8_LandingBatchesAgree_S (lawArgs LandingBatchesAgree_ps xs) isTrue = L.law8_LandingBatchesAgree xs.1 xs.2.1 xs.2.2.1 xs.2.2.2.1 (fun r => isTrue (.x (.bool r)) []) := by kernel_rfl
  rw [e]
  exact LandingBatchesAgree_true xs hw _ rfl
theorem LandingBatchesAgree_own : ownKnob Tryd.prog.godebug = none := by kernel_rfl
theorem LandingBatchesAgree_laid : laidOutB Tryd.prog = true := by kernel_rfl
theorem LandingBatchesAgree_spec : LawSpec Rows.landingBatchesAgreeSpec Tryd.f4.params.toList.length where
  vars := rfl
  res := fun H ds h => by
    match ds, h with
    | [d1, d2, d3, d4], _ => rfl
  args := fun H ds h => by
    match ds, h with
    | [d1, d2, d3, d4], _ => rfl
  left := fun H ds h => by
    match ds, h with
    | [d1, d2, d3, d4], _ => rfl
theorem LandingBatchesAgree_lifted (os : Os) (started : os.Started) (H : Type) (enc : TypeId × Value → H) :
    ReturnsInHanded {} Tryd.checked os 4 .any (fun w args => (Rows.landingBatchesAgreeSpec.pre enc Tryd.prog Tryd.f4 Rows.landingBatchesAgreeRow.domain false w args ∧ laidMetH Tryd.prog Rows.landingBatchesAgreeRow.laid w) ∧ sizedMet enc Tryd.prog Tryd.f4 (OpenSpec.ofChange Rows.landingBatchesAgreeSpec) false w args)
      (Rows.landingBatchesAgreeSpec.post enc Tryd.prog Tryd.f4 false true false false) := by
  refine returnsInHanded_of_change_and (C := Tryd.checked) (X := fun w _ => laidMetH Tryd.prog Rows.landingBatchesAgreeRow.laid w) (fun _ _ _ hh h => h.of_heap hh) LandingBatchesAgree_own started (by kernel_rfl) Tryd.func4
    (ChangeSpec.witness_shaped (enc := enc) (C := Tryd.checked) (os := os) (X := fun w _ => laidMetH Tryd.prog Rows.landingBatchesAgreeRow.laid w) false (World.laidAll Tryd.prog os Rows.landingBatchesAgreeRow.laid) #[.agg #[.slice none 0 0], .slice none 0 0, .slice none 0 0, .int .i64 0] 8 (World.laidAll_os _ _ _)
      (World.shaped_of_ZipB (by kernel_rfl) (by kernel_rfl)) (by kernel_rfl) (by kernel_rfl) (by kernel_rfl)
      (by rw [MakeChecks.laidMetH_plain _ _ _ (by kernel_rfl)]; exact laidMet_laidAll _ (by kernel_rfl) (by kernel_rfl))) ?_
  intro W base args ds gs before hval hW _ _ _ _
  exact law_contract (small := false) LandingBatchesAgree_laid (ps := LandingBatchesAgree_ps) (tb := 4) (by kernel_rfl) (by kernel_rfl) Tryd.underlying4 LandingBatchesAgree_spec L.law8_LandingBatchesAgree_ok LandingBatchesAgree_sem hval hW (fun h => by cases h)
theorem LandingBatchesAgree_row : Rows.LandingBatchesAgreeSaid :=
  OpenClaim.holds_of_wide 4 Tryd.f4 rfl rfl rfl rfl rfl rfl rfl ⟨rfl, rfl, rfl, rfl, rfl⟩ rfl rfl rfl rfl rfl (by kernel_rfl) Tryd.func4 (by kernel_rfl)
    (of_decide_eq_true (by kernel_rfl)) (by unfold Func.isWrapper; first | (rw [if_pos (by decide +kernel)]; kernel_rfl) | (rw [if_neg (by decide +kernel)]; exact ⟨rfl, rfl⟩))
    (fun os started H enc _ => LandingBatchesAgree_lifted os started H enc)
theorem LandingBatchesAgree_holds : Rows.LandingBatchesAgreeCardSaid :=
  Claim7.holds_tied_plain_at .later [] [.data, .pinned] true (true, "b4161449f5ad9276d0a426fe88d0f3b724b26b43fc87622f1063aab7404e04f4") false LandingBatchesAgree_row (fun _ h => by cases h) (by kernel_rfl) (fun _ h => by cases h) landingBatchesAgree_row_tie rfl ⟨rfl, rfl⟩ (by kernel_rfl) rfl
    (fun f fn hf hfn => by
      obtain rfl : f = 4 := Option.some.inj ((show Tryd.prog.funcNamed "changeforge/changeforgelaw8.LandingBatchesAgree" = some 4 by kernel_rfl).symm.trans hf) |>.symm
      obtain rfl : fn = Tryd.f4 := (Option.some.inj (Tryd.func4.symm.trans hfn)).symm
      exact ⟨by kernel_rfl, fun j t ht => by
        rw [Tryd.params4] at ht
        have hm : t ∈ [24, 25, 26, 3] := by simpa using Array.mem_of_getElem? ht
        have hall : ([24, 25, 26, 3].all fun u => !Tryd.prog.wantsStandIn u) = true := by kernel_rfl
        exact (show Tryd.prog.wantsStandIn t = false by simpa using List.all_eq_true.1 hall t hm)⟩)
    (by kernel_rfl)
#print axioms LandingBatchesAgree_holds
end Go.Proofs.YtckiebnjeofhkaaDoor

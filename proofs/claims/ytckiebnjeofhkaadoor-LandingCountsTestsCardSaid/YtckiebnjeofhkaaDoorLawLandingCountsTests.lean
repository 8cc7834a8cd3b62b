/-
  LandingCountsTests: the given statement, out of the plain law about the lifted function. Conditions: none.
-/
import Derived.Test.YtckiebnjeofhkaaDoorLaZc
import Derived.Test.YtckiebnjeofhkaaDoorEngV
import Derived.Test.YtckiebnjeofhkaaDoorCards
import Derived.Test.YtckiebnjeofhkaaDoorTie
import Derived.ProofKit
import Derived.LaidMore
import Derived.Lay
import Derived.SevenTiedAt
import Derived.Stop.Joined
set_option maxRecDepth 100000
namespace Go.Proofs.YtckiebnjeofhkaaDoor
open Eng Go.ChangeShapes Go.WideShapes Go.ChangeAt Go.RowKit
def LandingCountsTests_ps : List (Bool × Ty) := [(true, (.slice (.pair .str (.slice .str)))), (false, (.slice (.slice (.pair (.int .i64) (.pair .str (.pair .str (.pair (.slice .str) (.slice (.pair (.int .i64) (.pair (.slice .str) (.slice .str))))))))))), (false, (.slice (.slice (.int .i64)))), (false, (.int .i64))]
theorem LandingCountsTests_sem (xs : ArgDen LandingCountsTests_ps) (hw : WfAll LandingCountsTests_ps xs) (_ : false = true → bulkAll LandingCountsTests_ps xs ≤ 1048576) : L.law8_LandingCountsTests_S (lawArgs LandingCountsTests_ps xs) isTrue := by
  have e : L.law8_LandingCountsTests_S (lawArgs LandingCountsTests_ps xs) isTrue = L.law8_LandingCountsTests xs.1 xs.2.1 xs.2.2.1 xs.2.2.2.1 (fun r => isTrue (.x (.bool r)) []) := by kernel_rfl
  rw [e]
  exact LandingCountsTests_true xs hw _ rfl
theorem LandingCountsTests_own : ownKnob Tryd.prog.godebug = none := by kernel_rfl
theorem LandingCountsTests_laid : laidOutB Tryd.prog = true := by kernel_rfl
theorem LandingCountsTests_spec : LawSpec Rows.landingCountsTestsSpec Tryd.f6.params.toList.length where
  vars := rfl
  res := fun H ds h => by
    match ds, h with
    | [d1, d2, d3, d4], _ => rfl
  args := fun H ds h => by
    match ds, h with
    | [d1, d2, d3, d4], _ => rfl
  left := fun H ds h => by
    match ds, h with
    | [d1, d2, d3, d4], _ => rfl
theorem LandingCountsTests_lifted (os : Os) (started : os.Started) (H : Type) (enc : TypeId × Value → H) :
    ReturnsInHanded {} Tryd.checked os 6 .any (fun w args => (Rows.landingCountsTestsSpec.pre enc Tryd.prog Tryd.f6 Rows.landingCountsTestsRow.domain false w args ∧ laidMetH Tryd.prog Rows.landingCountsTestsRow.laid w) ∧ sizedMet enc Tryd.prog Tryd.f6 (OpenSpec.ofChange Rows.landingCountsTestsSpec) false w args)
      (Rows.landingCountsTestsSpec.post enc Tryd.prog Tryd.f6 false true false false) := by
  refine returnsInHanded_of_change_and (C := Tryd.checked) (X := fun w _ => laidMetH Tryd.prog Rows.landingCountsTestsRow.laid w) (fun _ _ _ hh h => h.of_heap hh) LandingCountsTests_own started (by kernel_rfl) Tryd.func6
    (ChangeSpec.witness_shaped (enc := enc) (C := Tryd.checked) (os := os) (X := fun w _ => laidMetH Tryd.prog Rows.landingCountsTestsRow.laid w) false (World.laidAll Tryd.prog os Rows.landingCountsTestsRow.laid) #[.agg #[.slice none 0 0], .slice none 0 0, .slice none 0 0, .int .i64 0] 8 (World.laidAll_os _ _ _)
      (World.shaped_of_ZipB (by kernel_rfl) (by kernel_rfl)) (by kernel_rfl) (by kernel_rfl) (by kernel_rfl)
      (by rw [MakeChecks.laidMetH_plain _ _ _ (by kernel_rfl)]; exact laidMet_laidAll _ (by kernel_rfl) (by kernel_rfl))) ?_
  intro W base args ds gs before hval hW _ _ _ _
  exact law_contract (small := false) LandingCountsTests_laid (ps := LandingCountsTests_ps) (tb := 4) (by kernel_rfl) (by kernel_rfl) Tryd.underlying4 LandingCountsTests_spec L.law8_LandingCountsTests_ok LandingCountsTests_sem hval hW (fun h => by cases h)
theorem LandingCountsTests_row : Rows.LandingCountsTestsSaid :=
  OpenClaim.holds_of_wide 6 Tryd.f6 rfl rfl rfl rfl rfl rfl rfl ⟨rfl, rfl, rfl, rfl, rfl⟩ rfl rfl rfl rfl rfl (by kernel_rfl) Tryd.func6 (by kernel_rfl)
    (of_decide_eq_true (by kernel_rfl)) (by unfold Func.isWrapper; first | (rw [if_pos (by decide +kernel)]; kernel_rfl) | (rw [if_neg (by decide +kernel)]; exact ⟨rfl, rfl⟩))
    (fun os started H enc _ => LandingCountsTests_lifted os started H enc)
theorem LandingCountsTests_holds : Rows.LandingCountsTestsCardSaid :=
  Claim7.holds_tied_plain_at .later [] [.data, .pinned] true (true, "b4161449f5ad9276d0a426fe88d0f3b724b26b43fc87622f1063aab7404e04f4") false LandingCountsTests_row (fun _ h => by cases h) (by kernel_rfl) (fun _ h => by cases h) landingCountsTests_row_tie rfl ⟨rfl, rfl⟩ (by kernel_rfl) rfl
    (fun f fn hf hfn => by
      obtain rfl : f = 6 := Option.some.inj ((show Tryd.prog.funcNamed "changeforge/changeforgelaw8.LandingCountsTests" = some 6 by kernel_rfl).symm.trans hf) |>.symm
      obtain rfl : fn = Tryd.f6 := (Option.some.inj (Tryd.func6.symm.trans hfn)).symm
      exact ⟨by kernel_rfl, fun j t ht => by
        rw [Tryd.params6] at ht
        have hm : t ∈ [24, 25, 26, 3] := by simpa using Array.mem_of_getElem? ht
        have hall : ([24, 25, 26, 3].all fun u => !Tryd.prog.wantsStandIn u) = true := by kernel_rfl
        exact (show Tryd.prog.wantsStandIn t = false by simpa using List.all_eq_true.1 hall t hm)⟩)
    (by kernel_rfl)
#print axioms LandingCountsTests_holds
end Go.Proofs.YtckiebnjeofhkaaDoor

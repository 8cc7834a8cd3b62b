/-
  LandingReplays: the given statement, out of the plain law about the lifted function. Conditions: none.
-/
import Derived.Test.YtckiebnjeofhkaaDoorLaZc
import Derived.Test.YtckiebnjeofhkaaDoorEngV
import Derived.Test.YtckiebnjeofhkaaDoorCards
import Derived.Test.YtckiebnjeofhkaaDoorTie
import Derived.ProofKit
import Derived.LaidMore
import Derived.Lay
import Derived.SevenTiedAt
import Derived.Stop.Joined
set_option maxRecDepth 100000
namespace Go.Proofs.YtckiebnjeofhkaaDoor
open Eng Go.ChangeShapes Go.WideShapes Go.ChangeAt Go.RowKit
def LandingReplays_ps : List (Bool × Ty) := [(true, (.slice (.pair .str (.slice .str)))), (false, (.slice (.slice (.pair (.int .i64) (.pair .str (.pair .str (.pair (.slice .str) (.slice (.pair (.int .i64) (.pair (.slice .str) (.slice .str))))))))))), (false, (.slice (.slice (.int .i64))))]
theorem LandingReplays_sem (xs : ArgDen LandingReplays_ps) (hw : WfAll LandingReplays_ps xs) (_ : false = true → bulkAll LandingReplays_ps xs ≤ 1048576) : L.law8_LandingReplays_S (lawArgs LandingReplays_ps xs) isTrue := by
  have e : L.law8_LandingReplays_S (lawArgs LandingReplays_ps xs) isTrue = L.law8_LandingReplays xs.1 xs.2.1 xs.2.2.1 (fun r => isTrue (.x (.bool r)) []) := by kernel_rfl
  rw [e]
  exact LandingReplays_true xs hw _ rfl
theorem LandingReplays_own : ownKnob Tryd.prog.godebug = none := by kernel_rfl
theorem LandingReplays_laid : laidOutB Tryd.prog = true := by kernel_rfl
theorem LandingReplays_spec : LawSpec Rows.landingReplaysSpec Tryd.f5.params.toList.length where
  vars := rfl
  res := fun H ds h => by
    match ds, h with
    | [d1, d2, d3], _ => rfl
  args := fun H ds h => by
    match ds, h with
    | [d1, d2, d3], _ => rfl
  left := fun H ds h => by
    match ds, h with
    | [d1, d2, d3], _ => rfl
theorem LandingReplays_lifted (os : Os) (started : os.Started) (H : Type) (enc : TypeId × Value → H) :
    ReturnsInHanded {} Tryd.checked os 5 .any (fun w args => (Rows.landingReplaysSpec.pre enc Tryd.prog Tryd.f5 Rows.landingReplaysRow.domain false w args ∧ laidMetH Tryd.prog Rows.landingReplaysRow.laid w) ∧ sizedMet enc Tryd.prog Tryd.f5 (OpenSpec.ofChange Rows.landingReplaysSpec) false w args)
      (Rows.landingReplaysSpec.post enc Tryd.prog Tryd.f5 false true false false) := by
  refine returnsInHanded_of_change_and (C := Tryd.checked) (X := fun w _ => laidMetH Tryd.prog Rows.landingReplaysRow.laid w) (fun _ _ _ hh h => h.of_heap hh) LandingReplays_own started (by kernel_rfl) Tryd.func5
    (ChangeSpec.witness_shaped (enc := enc) (C := Tryd.checked) (os := os) (X := fun w _ => laidMetH Tryd.prog Rows.landingReplaysRow.laid w) false (World.laidAll Tryd.prog os Rows.landingReplaysRow.laid) #[.agg #[.slice none 0 0], .slice none 0 0, .slice none 0 0] 8 (World.laidAll_os _ _ _)
      (World.shaped_of_ZipB (by kernel_rfl) (by kernel_rfl)) (by kernel_rfl) (by kernel_rfl) (by kernel_rfl)
      (by rw [MakeChecks.laidMetH_plain _ _ _ (by kernel_rfl)]; exact laidMet_laidAll _ (by kernel_rfl) (by kernel_rfl))) ?_
  intro W base args ds gs before hval hW _ _ _ _
  exact law_contract (small := false) LandingReplays_laid (ps := LandingReplays_ps) (tb := 4) (by kernel_rfl) (by kernel_rfl) Tryd.underlying4 LandingReplays_spec L.law8_LandingReplays_ok LandingReplays_sem hval hW (fun h => by cases h)
theorem LandingReplays_row : Rows.LandingReplaysSaid :=
  OpenClaim.holds_of_wide 5 Tryd.f5 rfl rfl rfl rfl rfl rfl rfl ⟨rfl, rfl, rfl, rfl, rfl⟩ rfl rfl rfl rfl rfl (by kernel_rfl) Tryd.func5 (by kernel_rfl)
    (of_decide_eq_true (by kernel_rfl)) (by unfold Func.isWrapper; first | (rw [if_pos (by decide +kernel)]; kernel_rfl) | (rw [if_neg (by decide +kernel)]; exact ⟨rfl, rfl⟩))
    (fun os started H enc _ => LandingReplays_lifted os started H enc)
theorem LandingReplays_holds : Rows.LandingReplaysCardSaid :=
  Claim7.holds_tied_plain_at .later [] [.data, .pinned] true (true, "b4161449f5ad9276d0a426fe88d0f3b724b26b43fc87622f1063aab7404e04f4") false LandingReplays_row (fun _ h => by cases h) (by kernel_rfl) (fun _ h => by cases h) landingReplays_row_tie rfl ⟨rfl, rfl⟩ (by kernel_rfl) rfl
    (fun f fn hf hfn => by
      obtain rfl : f = 5 := Option.some.inj ((show Tryd.prog.funcNamed "changeforge/changeforgelaw8.LandingReplays" = some 5 by kernel_rfl).symm.trans hf) |>.symm
      obtain rfl : fn = Tryd.f5 := (Option.some.inj (Tryd.func5.symm.trans hfn)).symm
      exact ⟨by kernel_rfl, fun j t ht => by
        rw [Tryd.params5] at ht
        have hm : t ∈ [24, 25, 26] := by simpa using Array.mem_of_getElem? ht
        have hall : ([24, 25, 26].all fun u => !Tryd.prog.wantsStandIn u) = true := by kernel_rfl
        exact (show Tryd.prog.wantsStandIn t = false by simpa using List.all_eq_true.1 hall t hm)⟩)
    (by kernel_rfl)
#print axioms LandingReplays_holds
end Go.Proofs.YtckiebnjeofhkaaDoor

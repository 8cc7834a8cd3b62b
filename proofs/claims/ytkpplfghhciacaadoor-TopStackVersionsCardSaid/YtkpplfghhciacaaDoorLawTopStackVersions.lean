/-
  TopStackVersions: the given statement, out of the plain law about the lifted function. Conditions: none.
-/
import Derived.Test.YtkpplfghhciacaaDoorTsC
import Derived.Test.YtkpplfghhciacaaDoorEngV
import Derived.Test.YtkpplfghhciacaaDoorCards
import Derived.Test.YtkpplfghhciacaaDoorTie
import Derived.ProofKit
import Derived.LaidMore
import Derived.Lay
import Derived.SevenTiedAt
import Derived.Stop.Joined
set_option maxRecDepth 100000
namespace Go.Proofs.YtkpplfghhciacaaDoor
open Eng Go.ChangeShapes Go.WideShapes Go.ChangeAt Go.RowKit
def TopStackVersions_ps : List (Bool × Ty) := [(false, (.slice .str)), (false, (.slice (.slice (.pair (.int .i64) (.pair (.slice .str) (.slice .str)))))), (false, (.int .i64))]
theorem TopStackVersions_sem (xs : ArgDen TopStackVersions_ps) (hw : WfAll TopStackVersions_ps xs) (_ : false = true → bulkAll TopStackVersions_ps xs ≤ 1048576) : L.top_TopStackVersions_S (lawArgs TopStackVersions_ps xs) isTrue := by
  have e : L.top_TopStackVersions_S (lawArgs TopStackVersions_ps xs) isTrue = L.top_TopStackVersions xs.1 xs.2.1 xs.2.2.1 (fun r => isTrue (.x (.bool r)) []) := by kernel_rfl
  rw [e]
  exact TopStackVersions_true xs hw _ rfl
theorem TopStackVersions_own : ownKnob Tryd.prog.godebug = none := by kernel_rfl
theorem TopStackVersions_laid : laidOutB Tryd.prog = true := by kernel_rfl
theorem TopStackVersions_spec : LawSpec Rows.topStackVersionsSpec Tryd.f3.params.toList.length where
  vars := rfl
  res := fun H ds h => by
    match ds, h with
    | [d1, d2, d3], _ => rfl
  args := fun H ds h => by
    match ds, h with
    | [d1, d2, d3], _ => rfl
  left := fun H ds h => by
    match ds, h with
    | [d1, d2, d3], _ => rfl
theorem TopStackVersions_lifted (os : Os) (started : os.Started) (H : Type) (enc : TypeId × Value → H) :
    ReturnsInHanded {} Tryd.checked os 3 .any (fun w args => (Rows.topStackVersionsSpec.pre enc Tryd.prog Tryd.f3 Rows.topStackVersionsRow.domain false w args ∧ laidMetH Tryd.prog Rows.topStackVersionsRow.laid w) ∧ sizedMet enc Tryd.prog Tryd.f3 (OpenSpec.ofChange Rows.topStackVersionsSpec) false w args)
      (Rows.topStackVersionsSpec.post enc Tryd.prog Tryd.f3 false true false false) := by
  refine returnsInHanded_of_change_and (C := Tryd.checked) (X := fun w _ => laidMetH Tryd.prog Rows.topStackVersionsRow.laid w) (fun _ _ _ hh h => h.of_heap hh) TopStackVersions_own started (by kernel_rfl) Tryd.func3
    (ChangeSpec.witness_shaped (enc := enc) (C := Tryd.checked) (os := os) (X := fun w _ => laidMetH Tryd.prog Rows.topStackVersionsRow.laid w) false (World.laidAll Tryd.prog os Rows.topStackVersionsRow.laid) #[.slice none 0 0, .slice none 0 0, .int .i64 0] 8 (World.laidAll_os _ _ _)
      (World.shaped_of_ZipB (by kernel_rfl) (by kernel_rfl)) (by kernel_rfl) (by kernel_rfl) (by kernel_rfl)
      (by rw [MakeChecks.laidMetH_plain _ _ _ (by kernel_rfl)]; exact laidMet_laidAll _ (by kernel_rfl) (by kernel_rfl))) ?_
  intro W base args ds gs before hval hW _ _ _ _
  exact law_contract (small := false) TopStackVersions_laid (ps := TopStackVersions_ps) (tb := 4) (by kernel_rfl) (by kernel_rfl) Tryd.underlying4 TopStackVersions_spec L.top_TopStackVersions_ok TopStackVersions_sem hval hW (fun h => by cases h)
theorem TopStackVersions_row : Rows.TopStackVersionsSaid :=
  OpenClaim.holds_of_wide 3 Tryd.f3 rfl rfl rfl rfl rfl rfl rfl ⟨rfl, rfl, rfl, rfl, rfl⟩ rfl rfl rfl rfl rfl (by kernel_rfl) Tryd.func3 (by kernel_rfl)
    (of_decide_eq_true (by kernel_rfl)) (by unfold Func.isWrapper; first | (rw [if_pos (by decide +kernel)]; kernel_rfl) | (rw [if_neg (by decide +kernel)]; exact ⟨rfl, rfl⟩))
    (fun os started H enc _ => TopStackVersions_lifted os started H enc)
theorem TopStackVersions_holds : Rows.TopStackVersionsCardSaid :=
  Claim7.holds_tied_plain_at .later [] [.data, .pinned] true (true, "c730edaa6fcadab92a3268725b98728bdd51ff68515c82eafde6bb6e46d1e04e") false TopStackVersions_row (fun _ h => by cases h) (by kernel_rfl) (fun _ h => by cases h) topStackVersions_row_tie rfl ⟨rfl, rfl⟩ (by kernel_rfl) rfl
    (fun f fn hf hfn => by
      obtain rfl : f = 3 := Option.some.inj ((show Tryd.prog.funcNamed "changeforge/changeforgetop.TopStackVersions" = some 3 by kernel_rfl).symm.trans hf) |>.symm
      obtain rfl : fn = Tryd.f3 := (Option.some.inj (Tryd.func3.symm.trans hfn)).symm
      exact ⟨by kernel_rfl, fun j t ht => by
        rw [Tryd.params3] at ht
        have hm : t ∈ [22, 23, 3] := by simpa using Array.mem_of_getElem? ht
        have hall : ([22, 23, 3].all fun u => !Tryd.prog.wantsStandIn u) = true := by kernel_rfl
        exact (show Tryd.prog.wantsStandIn t = false by simpa using List.all_eq_true.1 hall t hm)⟩)
    (by kernel_rfl)
#print axioms TopStackVersions_holds
end Go.Proofs.YtkpplfghhciacaaDoor

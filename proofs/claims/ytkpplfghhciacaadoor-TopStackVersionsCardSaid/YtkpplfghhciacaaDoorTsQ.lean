/-
  What the functions of the search for culprits compute: Fails, First, Greedy, and the reference's. Conditions: none.
-/
import Derived.Test.YtkpplfghhciacaaDoorTsP
set_option linter.unusedVariables false
namespace Go.Proofs.YtkpplfghhciacaaDoor
open Eng
namespace Bb

theorem fits_of {n : Nat} (h : n ≤ 1000) : fits n := by unfold fits; omega

theorem fault0 {a b : Int} (h : (a, b) = ((0, 0) : Int × Int)) : (!((a == 0) && ((b == 0) && true))) = false := by
  cases h; rfl
theorem fault1 {a b : Int} (h : (a, b) ≠ ((0, 0) : Int × Int)) : (!((a == 0) && ((b == 0) && true))) = true := by
  by_cases ha : a = 0
  · by_cases hb : b = 0
    · subst ha; subst hb; exact absurd rfl h
    · simp [ha, hb]
  · simp [ha]

end Bb
end Go.Proofs.YtkpplfghhciacaaDoor

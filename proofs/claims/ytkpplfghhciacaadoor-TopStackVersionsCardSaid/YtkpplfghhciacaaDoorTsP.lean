/-
  What the functions of the search for culprits compute: codes, runs, the first failing beginning. Conditions: none.
-/
import Derived.Test.YtkpplfghhciacaaDoorLift2
import Derived.Test.YtkpplfghhciacaaDoorEngX
import Derived.Test.YtkpplfghhciacaaDoorEngV
set_option linter.unusedVariables false
namespace Go.Proofs.YtkpplfghhciacaaDoor
open Eng
namespace Bb

theorem drop_cons {α : Type} {l : List α} {i : Nat} (d : α) (h : i < l.length) : l.drop i = l.getD i d :: l.drop (i + 1) := by
  rw [List.drop_eq_getElem_cons h, List.getD_eq_getElem?_getD, List.getElem?_eq_getElem h]; rfl
theorem getD_mem {α : Type} {l : List α} {i : Nat} (d : α) (h : i < l.length) : l.getD i d ∈ l := by
  rw [List.getD_eq_getElem?_getD, List.getElem?_eq_getElem h]; exact List.getElem_mem h

/-- A length that an index counts up to. -/
def big (n : Nat) : Prop := n ≤ 9223372036854775807

theorem big_of {n : Nat} (h : n ≤ maxLen) : big n := by unfold maxLen at h; unfold big; omega

end Bb
end Go.Proofs.YtkpplfghhciacaaDoor

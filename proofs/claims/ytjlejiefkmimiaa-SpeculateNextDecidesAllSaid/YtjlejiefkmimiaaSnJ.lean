/-
  The search for culprits: Greedy is maximal. Conditions: none.
-/
import Derived.Test.YtjlejiefkmimiaaSnI
set_option linter.unusedVariables false
set_option maxRecDepth 100000
namespace Go.Proofs.Ytjlejiefkmimiaa
open Eng
namespace Bb

/-- What holds of the accepted changes below a number. -/
structure Acc (cs : List (List Int)) (c : Int) (out : List Int) : Prop where
  sorted : out.Pairwise (· < ·)
  range : ∀ k, k ∈ out → 0 ≤ k ∧ k < c
  pass : fails cs out = false
  full : ∀ k, 0 ≤ k → k < c → k ∉ out → ∀ m : List Int, (∀ x, x ∈ out → x ∈ m) → k ∈ m → fails cs m = true

theorem vf_code {n : Int} {cs : List (List Int)} (hv : vf n cs ≠ (0, 0)) : ((vf n cs).1 != 0) = true := by
  have : (vf n cs).1 ≠ 0 := fun h => hv (vf_zero h)
  simpa using this

end Bb

end Go.Proofs.Ytjlejiefkmimiaa

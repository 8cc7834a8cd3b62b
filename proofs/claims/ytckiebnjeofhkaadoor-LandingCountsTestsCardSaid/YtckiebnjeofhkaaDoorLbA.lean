/-
  The search for culprits: First is fast, Greedy is maximal. Conditions: none.
-/
import Derived.Test.YtckiebnjeofhkaaDoorLbF
set_option linter.unusedVariables false
set_option maxRecDepth 100000
namespace Go.Proofs.YtckiebnjeofhkaaDoor
open Eng
namespace Bb

theorem lc_mem {n : Int} : ∀ {s : List Int} {p : Int}, lc n p s = 0 → ∀ k, k ∈ s → 0 ≤ k ∧ k < n ∧ p < k
  | [], _, _, k, hk => by cases hk
  | a :: t, p, h, k, hk => by
    rw [lc] at h
    split at h
    · omega
    · split at h
      · omega
      · rcases List.mem_cons.mp hk with e | e
        · omega
        · have := lc_mem h k e; omega

theorem cf_ok {n : Int} : ∀ {cs : List (List Int)} {i : Int}, (cf n i cs).1 = 0 → ∀ s, s ∈ cs → s ≠ [] ∧ lc n (-1) s = 0
  | [], _, _, s, hs => by cases hs
  | a :: t, i, h, s, hs => by
    rw [cf] at h
    split at h
    · cases h
    · split at h
      · rename_i h1 h2; exact absurd h h2
      · rename_i h1 h2
        rcases List.mem_cons.mp hs with e | e
        · subst e; exact ⟨h1, Decidable.of_not_not h2⟩
        · exact cf_ok h s e
theorem cf_zero {n : Int} : ∀ {cs : List (List Int)} {i : Int}, (cf n i cs).1 = 0 → cf n i cs = (0, 0)
  | [], _, _ => rfl
  | a :: t, i, h => by
    rw [cf] at h ⊢
    split at h
    · cases h
    · split at h
      · rename_i h1 h2; exact absurd h h2
      · rename_i h1 h2
        rw [if_neg h1, if_neg h2]; exact cf_zero h

theorem vf_zero {n : Int} {cs : List (List Int)} (h : (vf n cs).1 = 0) : vf n cs = (0, 0) := by
  unfold vf at h ⊢
  split at h
  · cases h
  · rename_i h1
    split at h
    · cases h
    · rename_i h2
      rw [if_neg h1, if_neg h2]; exact cf_zero h

/-- Sets as the package wants them. -/
def good (n : Int) (cs : List (List Int)) : Prop := ∀ s, s ∈ cs → s ≠ [] ∧ ∀ k, k ∈ s → 0 ≤ k ∧ k < n

theorem good_of {n : Int} {cs : List (List Int)} (h : vf n cs = (0, 0)) : good n cs := by
  unfold vf at h
  split at h
  · cases h
  · split at h
    · cases h
    · intro s hs
      have := cf_ok (by rw [h]) s hs
      exact ⟨this.1, fun k hk => by have := lc_mem this.2 k hk; omega⟩

theorem fails_iff {cs : List (List Int)} {m : List Int} : fails cs m = true ↔ ∃ s, s ∈ cs ∧ ∀ k, k ∈ s → k ∈ m := by
  unfold fails has
  simp
theorem bool_iff {a b : Bool} (h : a = true ↔ b = true) : a = b := by
  cases a <;> cases b <;> simp_all

theorem fails_nil {n : Int} {cs : List (List Int)} (hg : good n cs) : fails cs [] = false := by
  cases e : fails cs [] with
  | false => rfl
  | true =>
    obtain ⟨s, hs, h⟩ := fails_iff.mp e
    cases s with
    | nil => exact absurd rfl (hg _ hs).1
    | cons a t => exact absurd (h a (by simp)) (by simp)

end Bb

end Go.Proofs.YtckiebnjeofhkaaDoor

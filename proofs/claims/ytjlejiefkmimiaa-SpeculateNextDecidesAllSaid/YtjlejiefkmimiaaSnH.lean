/-
  What the functions of the search for culprits compute: Fails, First, Greedy, and the reference's. Conditions: none.
-/
import Derived.Test.YtjlejiefkmimiaaSnG
set_option linter.unusedVariables false
namespace Go.Proofs.Ytjlejiefkmimiaa
open Eng
namespace Bb

theorem fits_of {n : Nat} (h : n ≤ 1000) : fits n := by unfold fits; omega

theorem fault0 {a b : Int} (h : (a, b) = ((0, 0) : Int × Int)) : (!((a == 0) && ((b == 0) && true))) = false := by
  cases h; rfl
theorem fault1 {a b : Int} (h : (a, b) ≠ ((0, 0) : Int × Int)) : (!((a == 0) && ((b == 0) && true))) = true := by
  by_cases ha : a = 0
  · by_cases hb : b = 0
    · subst ha; subst hb; exact absurd rfl h
    · simp [ha, hb]
  · simp [ha]

theorem Fails_ok {n : Int} {cs : List (List Int)} {set : List Int} (hs : ∀ s, s ∈ cs → big s.length) (hc : big set.length) (hv : vf n cs = (0, 0)) (hl : lc n (-1) set = 0) {K : Bool → Int → Int → Prop} (hK : K (fails cs set) 0 0) : L.batchbisect_Fails n cs set K := by
  refine ⟨Validate_ok hs (cond_f (fault0 hv) (list_ok hc (cond_f (by rw [hl]; rfl) (Run_ok ?_ hs hc hK))))⟩
  unfold vf at hv
  split at hv
  · cases hv
  · split at hv
    · cases hv
    · unfold big; omega
theorem Fails_code {n : Int} {cs : List (List Int)} {set : List Int} (hs : ∀ s, s ∈ cs → big s.length) (hc : big set.length) (hv : vf n cs = (0, 0)) (hl : lc n (-1) set ≠ 0) {K : Bool → Int → Int → Prop} (hK : K false (lc n (-1) set) (-2)) : L.batchbisect_Fails n cs set K :=
  ⟨Validate_ok hs (cond_f (fault0 hv) (list_ok hc (cond_t (by simpa using hl) hK)))⟩
theorem Fails_bad {n : Int} {cs : List (List Int)} {set : List Int} (hs : ∀ s, s ∈ cs → big s.length) (hv : vf n cs ≠ (0, 0)) {K : Bool → Int → Int → Prop} (hK : K false (vf n cs).1 (vf n cs).2) : L.batchbisect_Fails n cs set K :=
  ⟨Validate_ok hs (cond_t (fault1 hv) hK)⟩

theorem vf_len {n : Int} {cs : List (List Int)} (hv : vf n cs = (0, 0)) : 0 ≤ n ∧ n ≤ 16 ∧ cs.length ≤ 8 := by
  unfold vf at hv
  split at hv
  · cases hv
  · split at hv
    · cases hv
    · omega
theorem big_vf {n : Int} {cs : List (List Int)} (hv : vf n cs = (0, 0)) : big cs.length := by
  have := vf_len hv; unfold big; omega
theorem big_nil : big ([] : List Int).length := by unfold big; simp
theorem Clone_ok {s : List Int} (h : s.length ≤ 1000) {K : List Int → Prop} (hK : K s) : L.slices_Clone s K := by
  constructor
  intro b hb
  cases b with
  | true =>
    have : s = [] := by
      cases s with
      | nil => rfl
      | cons a t => exact absurd (hb (by simp)) (by simp)
    subst this; exact hK
  | false => exact ⟨fits_of (by simpa using h), hK⟩

/-- The accepted changes. -/
def gr (cs : List (List Int)) (n : Int) : Nat → Int → List Int → List Int
  | 0, _, out => out
  | fu + 1, c, out => if c < n then (bif failsB cs 0 (out ++ [c]) then gr cs n fu (c + 1) out else gr cs n fu (c + 1) (out ++ [c])) else out

theorem Greedy_loop {cs : List (List Int)} {n : Int} (hl : big cs.length) (hs : ∀ s, s ∈ cs → big s.length) {K : List Int → Prop} : ∀ (fu : Nat) (c : Int) (out : List Int), 0 ≤ c → n ≤ 16 → n - c ≤ fu → out.length + fu ≤ 100 →
    K (gr cs n fu c out) → L.batchbisect_Greedy_L1_R cs n (fu + 1) c out K
  | 0, c, out, h0, h1, h2, h3, hK => by
    show L.batchbisect_Greedy_L1_b cs n c out _ _
    unfold L.batchbisect_Greedy_L1_b
    exact cond_f (decide_eq_false (by omega)) hK
  | fu + 1, c, out, h0, h1, h2, h3, hK => by
    show L.batchbisect_Greedy_L1_b cs n c out _ _
    unfold L.batchbisect_Greedy_L1_b
    rw [gr] at hK
    by_cases g : c < n
    · rw [if_pos g] at hK
      rw [i64_id (n := c + 1) (by omega) (by omega)]
      refine cond_t (decide_eq_true g) (Clone_ok (by omega) ⟨fits_of (by simp; omega), below_ok hl hs (by unfold big; simp; omega) ?_⟩)
      cases e : failsB cs 0 (out ++ [c]) with
      | true => rw [e] at hK; exact cond_f rfl (Greedy_loop hl hs fu _ _ (by omega) h1 (by omega) (by omega) hK)
      | false => rw [e] at hK; exact cond_t rfl (Greedy_loop hl hs fu _ _ (by omega) h1 (by omega) (by simp; omega) hK)
    · rw [if_neg g] at hK
      exact cond_f (decide_eq_false g) hK

theorem Greedy_ok {n : Int} {cs : List (List Int)} (hs : ∀ s, s ∈ cs → big s.length) (hv : vf n cs = (0, 0)) {K : List Int → Int → Int → Prop} (hK : K (gr cs n 16 0 []) 0 0) : L.batchbisect_Greedy n cs K := by
  have hn := vf_len hv
  exact ⟨Validate_ok hs (cond_f (fault0 hv) ⟨⟨17, Greedy_loop (K := fun out => K out 0 0) (big_vf hv) hs 16 0 [] (by omega) (by omega) (by omega) (by simp) hK⟩⟩)⟩
theorem Greedy_bad {n : Int} {cs : List (List Int)} (hs : ∀ s, s ∈ cs → big s.length) (hv : vf n cs ≠ (0, 0)) {K : List Int → Int → Int → Prop} (hK : K [] (vf n cs).1 (vf n cs).2) : L.batchbisect_Greedy n cs K :=
  ⟨Validate_ok hs (cond_t (fault1 hv) hK)⟩

end Bb
end Go.Proofs.Ytjlejiefkmimiaa
